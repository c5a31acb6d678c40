/-
  The document's answer for layer 3: a number is read.
-/
import Derived.Test.YtifofdciablljaaDoorDocG
set_option linter.unusedSimpArgs false
set_option linter.unusedVariables false
set_option maxRecDepth 100000
namespace Go.Proofs.YtifofdciablljaaDoor
open Go.RowKit

/-- What reading a number comes to. -/
def ReadP (w : World) (sp0 : Option Addr) (n0 : Nat) (l0 : List Nat) (R : Option (Nat × List Nat)) (e : Ending) (w' : World) : Prop := Below w.heap.size w w' ∧ match R with
  | some (v, r) => ∃ sp cap, e = .returned (.tuple #[.int .u64 (v : Int), .slice sp r.length cap, .bool true]) ∧ (∀ W, Sl W sp0 n0 (u8s l0) → Sl W sp r.length (u8s r)) ∧ r.length ≤ cap
  | none => ∃ v sp n cap, e = .returned (.tuple #[.int .u64 v, .slice sp n cap, .bool false])
theorem drop_slk8 {w : World} {b o k r c : Nat} {l : List Nat} (h : Sl w (some ⟨b, o, none⟩) (k + r) (u8s l)) : Sl w (if k + r + c = k then some ⟨b, o, none⟩ else some ⟨b, o + k, none⟩) r (u8s (l.drop k)) := by
  have h1 := (SlK.of_sl h).drop k (by omega)
  rw [Nat.add_sub_cancel_left] at h1
  have e : (u8s l).drop k = u8s (l.drop k) := by unfold u8s; rw [List.map_drop]
  rw [e] at h1
  split
  · rename_i he
    obtain rfl : r = 0 := by omega
    exact (SlK.sl ⟨h1.1, h1.2.1, .inl rfl⟩)
  · exact h1.sl
theorem pow128_lt {i : Nat} (h : i ≤ 9) : 128 ^ i < 2 ^ 64 := Nat.lt_of_le_of_lt (Nat.pow_le_pow_right (by decide) h) (by decide)
set_option maxHeartbeats 4000000 in
theorem dread_any (sp : Option Addr) (n cap : Nat) (l : List Nat) (w : World) (h : Sl w sp n (u8s l)) (hb : ∀ b ∈ l, b < 256) (hle : n ≤ cap) :
    Calls Tryd.prog 48 #[.slice sp n cap] w fun e w' => ReadP w sp n l (readN l) e w' := by
  have hlen : n = l.length := by have := h.1; rw [u8s_length] at this; exact this
  have hmax := h.2.1
  unfold maxLen at hmax
  obtain ⟨R, hR⟩ : ∃ R, R = readN l := ⟨_, rfl⟩
  rw [← hR]
  have hR0 : R = rdN 0 0 (l.drop 0) := hR
  clear hR
  have h'h := Lib.hid h
  have hb'h := Lib.hid hb
  have hle'h := Lib.hid hle
  have hlen'h := Lib.hid hlen
  have hmax'h := Lib.hid hmax
  have hR0'h := Lib.hid hR0
  clear h hb hle hlen hmax hR0
  go_enter Tryd.func48, Tryd.ntmps48
  go_wp2
  go_loopg [11, 5, 6] n (fun q ix nv bv wr => ∃ (i acc : Nat), i + q = n ∧ ix = .int .i64 (i : Int) ∧ nv = .int .u64 (acc : Int) ∧ bv = .int .u64 ((128 ^ i : Nat) : Int) ∧ i ≤ 9 ∧ acc < 128 ^ i ∧ R = rdN i acc (l.drop i) ∧ wr = w)
  case atStart => exact ⟨0, 0, by omega, rfl, rfl, rfl, by omega, by decide, hR0'h.out, rfl⟩
  case round =>
    obtain ⟨i, acc, hq, rfl, rfl, rfl, hi9, hacc, hR, rfl⟩ := hrel
    by_cases hlt : i < n
    · have i1 : (i : Int) < (n : Int) := by omega
      have i2 : (0 : Int) ≤ (i : Int) := by omega
      have i3 : (i : Int) + 1 ≤ 9223372036854775807 := by have := hmax'h.out; omega
      have hil : i < l.length := by have := hlen'h.out; omega
      obtain ⟨b, o, rfl, hc⟩ := h'h.out.some' (by omega)
      obtain ⟨x, hx⟩ : ∃ x, l[i]? = some x := ⟨_, List.getElem?_eq_getElem hil⟩
      have c1 : wr.cell? ⟨b, o + i, none⟩ = some (.int .u8 (x : Int)) := hc i _ (by unfold u8s; rw [List.getElem?_map, hx]; rfl)
      have hx256 : x < 256 := hb'h.out x (List.mem_of_getElem? hx)
      rw [drop_at hx, rdN_cons] at hR
      clear hc hx
      obtain ⟨P, hP⟩ : ∃ P, P = 128 ^ i := ⟨_, rfl⟩
      have hP64 : P < 2 ^ 64 := by rw [hP]; exact pow128_lt hi9
      rw [← hP] at hacc hR ⊢
      by_cases hbad : i = 9 ∧ 1 < x
      · rw [if_pos (.inr ⟨by omega, hbad.2⟩)] at hR
        have i4 : ((i : Int) == 9) = true := by simp; omega
        have i5 : (x : Int) > 1 := by omega
        have hfin : ReadP wr (some ⟨b, o, none⟩) n l R (.returned (.tuple #[.int .u64 0, .slice none 0 0, .bool false])) wr := by rw [hR]; exact ⟨Below.refl _ _, 0, none, 0, 0, rfl⟩
        clear hR hacc hP hP64 hq hi9 hbad hx256
        have hfin'h := Lib.hid hfin
        clear hfin
        go_wp2
        refine bodyPost_ret (v := .tuple #[.int .u64 0, .slice none 0 0, .bool false]) (by simp [results, Tryd.results48, go_sem]) rfl hfin'h.out
      · rw [if_neg (by omega)] at hR
        obtain ⟨c, hc⟩ : ∃ c, c = x % 128 := ⟨_, rfl⟩
        have hc1 : (x : Int) % 128 = (c : Int) := by omega
        have hpc : acc + c * P < 2 ^ 64 := by
          rw [hP] at hacc ⊢
          by_cases h9 : i = 9
          · subst h9
            have : c ≤ 1 := by omega
            have h1 : c * 128 ^ 9 ≤ 1 * 128 ^ 9 := Nat.mul_le_mul_right _ this
            omega
          · have h1 : c * 128 ^ i ≤ 127 * 128 ^ i := Nat.mul_le_mul_right _ (by omega)
            have h2 : 128 ^ (i + 1) < 2 ^ 64 := pow128_lt (by omega)
            rw [Nat.pow_succ] at h2
            omega
        obtain ⟨pc, hpc'⟩ : ∃ pc, pc = c * P := ⟨_, rfl⟩
        rw [← hc, ← hpc'] at hR
        rw [← hpc'] at hpc
        have e1 : IntKind.u64.wrap ((P : Int) * (c : Int)) = (pc : Int) := by
          have : (P : Int) * (c : Int) = ((pc : Nat) : Int) := by rw [hpc', Nat.mul_comm]; simp
          rw [this, IntKind.wrap_u64]; omega
        have e2 : IntKind.u64.wrap ((acc : Int) + (pc : Int)) = ((acc + pc : Nat) : Int) := by rw [IntKind.wrap_u64]; omega
        obtain ⟨P2, hP2⟩ : ∃ P2 : Nat, IntKind.u64.wrap (128 * (P : Int)) = (P2 : Int) := by
          refine ⟨(IntKind.u64.wrap (128 * (P : Int))).toNat, ?_⟩
          rw [IntKind.wrap_u64]; omega
        by_cases hx8 : x < 128
        · rw [if_pos hx8] at hR
          have i6 : (x : Int) < 128 := by omega
          by_cases h9 : i = 9
          · have i4 : ((i : Int) == 9) = true := by simp; omega
            have i5 : ¬ (x : Int) > 1 := by omega
            obtain ⟨ok, hok⟩ : ∃ ok : Bool, ok = decide (0 < x ∨ i = 0) := ⟨_, rfl⟩
            have hRR : (ok = true ∧ R = some (acc + pc, l.drop (i + 1))) ∨ (ok = false ∧ R = none) := by
              rw [hok]
              by_cases hz : 0 < x ∨ i = 0
              · rw [if_pos hz] at hR
                exact .inl ⟨decide_eq_true hz, hR⟩
              · rw [if_neg hz] at hR
                exact .inr ⟨decide_eq_false hz, hR⟩
            have hokc : (0 < x ∧ ok = true) ∨ (x = 0 ∧ i = 0 ∧ ok = true) ∨ (x = 0 ∧ i ≠ 0 ∧ ok = false) := by
              rw [hok]
              by_cases h0 : 0 < x
              · exact .inl ⟨h0, decide_eq_true (.inl h0)⟩
              · by_cases h1 : i = 0
                · exact .inr (.inl ⟨by omega, h1, decide_eq_true (.inr h1)⟩)
                · exact .inr (.inr ⟨by omega, h1, decide_eq_false (by omega)⟩)
            clear hR hc hpc' hacc hP hP64 hpc hx256 hbad hok h9 hx8 hi9
            have hRR'h := Lib.hid hRR
            have hokc'h := Lib.hid hokc
            have hq'h := Lib.hid hq
            clear hRR hokc hq
            go_upto_region 10 with fail
            clear e1 hP2 i4 i5 i6 c1 hc1
            have hSl := h'h.out
            have hrl0 := hlen'h.out
            obtain ⟨r, hr⟩ : ∃ r, n = i + 1 + r := ⟨n - (i + 1), by omega⟩
            obtain ⟨cr, hcr⟩ : ∃ cr, cap = n + cr := ⟨cap - n, by have := hle'h.out; omega⟩
            subst hcr
            subst hr
            have hrl : (l.drop (i + 1)).length = r := by rw [List.length_drop]; omega
            have hS : ∀ W, Sl W (some ⟨b, o, none⟩) (i + 1 + r) (u8s l) → Sl W (if i + 1 + r + cr = i + 1 then some ⟨b, o, none⟩ else some ⟨b, o + (i + 1), none⟩) r (u8s (l.drop (i + 1))) := fun W hW => drop_slk8 (c := cr) hW
            have hfin : ∀ W : World, Below wr.heap.size wr W → ReadP wr (some ⟨b, o, none⟩) (i + 1 + r) l R (.returned (.tuple #[.int .u64 ((acc : Int) + (pc : Int)), .slice (if i + 1 + r + cr = i + 1 then some ⟨b, o, none⟩ else some ⟨b, o + (i + 1), none⟩) r (i + 1 + r + cr - (i + 1)), .bool ok])) W := fun W hW => by
              rcases hRR'h.out with ⟨e1, e2⟩ | ⟨e1, e2⟩
              · rw [e1, e2]
                refine ⟨hW, _, _, by rw [hrl, Int.natCast_add], ?_, by omega⟩
                rw [hrl]
                exact hS
              · rw [e1, e2]
                exact ⟨hW, _, _, _, _, rfl⟩
            have j1 : (i : Int) + 1 ≤ (i : Int) + 1 + (r : Int) := by omega
            have j2 : (0 : Int) ≤ (i : Int) + 1 := by omega
            have j4 : IntKind.i64.wrap ((i : Int) + 1) = (i : Int) + 1 := Go.IntWalk.i64_in _ (by omega)
            have j3 : ¬ ((i : Int) + 1 + (r : Int) + (cr : Int) < (i : Int) + 1) := by omega
            clear hSl hS hrl hrl0 hRR'h i1 i2
            have hfin'h := Lib.hid hfin
            clear hfin
            have R0 : Below wr.heap.size wr wr.drew := (Below.refl _ _).drew
            refine wp_region_heldF (fun w' => Below wr.heap.size wr w') 99 (by kernel_rfl) ?_
            generalize wr.drew = V0 at R0 ⊢
            refine wpAnyF_take (i := 0) (v := .int .u64 ((acc : Int) + (pc : Int))) rfl (by kernel_rfl) (by kernel_rfl) (by kernel_rfl) (by kernel_rfl) (fun _ _ _ h => h) (Or.inl ⟨by kernel_rfl, fun w hSw => by (try dsimp only at hSw); go_simp⟩) R0 ?_; try simp only [Act.put, List.getElem_toArray, List.getElem_cons_succ, List.getElem_cons_zero, List.setIfInBounds_toArray, List.set_cons_zero, List.set_cons_succ]
            refine wpAnyF_take (i := 1) (v := .slice (some ⟨b, o, none⟩) (i + 1 + r) (i + 1 + r + cr)) rfl (by kernel_rfl) (by kernel_rfl) (by kernel_rfl) (by kernel_rfl) (fun _ _ _ h => h) (Or.inl ⟨by kernel_rfl, fun w hSw => by (try dsimp only at hSw); go_simp⟩) R0 ?_; try simp only [Act.put, List.getElem_toArray, List.getElem_cons_succ, List.getElem_cons_zero, List.setIfInBounds_toArray, List.set_cons_zero, List.set_cons_succ]
            refine wpAnyF_take (i := 2) (v := .int .i64 (i : Int)) rfl (by kernel_rfl) (by kernel_rfl) (by kernel_rfl) (by kernel_rfl) (fun _ _ _ h => h) (Or.inl ⟨by kernel_rfl, fun w hSw => by (try dsimp only at hSw); go_simp⟩) R0 ?_; try simp only [Act.put, List.getElem_toArray, List.getElem_cons_succ, List.getElem_cons_zero, List.setIfInBounds_toArray, List.set_cons_zero, List.set_cons_succ]
            refine wpAnyF_take (i := 3) (v := .int .i64 ((i : Int) + 1)) rfl (by kernel_rfl) (by kernel_rfl) (by kernel_rfl) (by kernel_rfl) (fun _ _ _ h => h) (Or.inl ⟨by kernel_rfl, fun w hSw => by (try dsimp only at hSw); go_simp⟩) R0 ?_; try simp only [Act.put, List.getElem_toArray, List.getElem_cons_succ, List.getElem_cons_zero, List.setIfInBounds_toArray, List.set_cons_zero, List.set_cons_succ]
            refine wpAnyF_take (i := 4) (v := .slice (if i + 1 + r + cr = i + 1 then some ⟨b, o, none⟩ else some ⟨b, o + (i + 1), none⟩) r (i + 1 + r + cr - (i + 1))) rfl (by kernel_rfl) (by kernel_rfl) (by kernel_rfl) (by kernel_rfl) (fun _ _ _ h => h) (Or.inl ⟨by kernel_rfl, fun w hSw => by (try dsimp only at hSw); go_simp⟩) R0 ?_; try simp only [Act.put, List.getElem_toArray, List.getElem_cons_succ, List.getElem_cons_zero, List.setIfInBounds_toArray, List.set_cons_zero, List.set_cons_succ]
            refine wpAnyF_take (i := 5) (v := .int .u8 (x : Int)) rfl (by kernel_rfl) (by kernel_rfl) (by kernel_rfl) (by kernel_rfl) (fun _ _ _ h => h) (Or.inl ⟨by kernel_rfl, fun w hSw => by (try dsimp only at hSw); go_simp⟩) R0 ?_; try simp only [Act.put, List.getElem_toArray, List.getElem_cons_succ, List.getElem_cons_zero, List.setIfInBounds_toArray, List.set_cons_zero, List.set_cons_succ]
            rcases hokc'h.out with ⟨h0, hk⟩ | ⟨h0, h1, hk⟩ | ⟨h0, h1, hk⟩
            ·
              have g0 : (x : Int) > 0 := by omega
              refine wpAnyF_take (i := 6) (v := .bool true) rfl (by kernel_rfl) (by kernel_rfl) (by kernel_rfl) (by kernel_rfl) (fun _ _ _ h => h) (Or.inl ⟨by kernel_rfl, fun w hSw => by (try dsimp only at hSw); go_simp⟩) R0 ?_; try simp only [Act.put, List.getElem_toArray, List.getElem_cons_succ, List.getElem_cons_zero, List.setIfInBounds_toArray, List.set_cons_zero, List.set_cons_succ]
              refine wpAnyF_take (i := 7) (v := .bool true) rfl (by kernel_rfl) (by kernel_rfl) (by kernel_rfl) (by kernel_rfl) (fun _ _ _ h => h) (Or.inl ⟨by kernel_rfl, fun w hSw => by (try dsimp only at hSw); go_simp⟩) R0 ?_; try simp only [Act.put, List.getElem_toArray, List.getElem_cons_succ, List.getElem_cons_zero, List.setIfInBounds_toArray, List.set_cons_zero, List.set_cons_succ]
              refine wpAnyF_take (i := 8) (v := undef) rfl (by kernel_rfl) (by kernel_rfl) (by kernel_rfl) (by kernel_rfl) (fun _ _ _ h => h) (Or.inr ⟨by kernel_rfl, rfl⟩) R0 ?_; try simp only [Act.put, List.getElem_toArray, List.getElem_cons_succ, List.getElem_cons_zero, List.setIfInBounds_toArray, List.set_cons_zero, List.set_cons_succ]
              refine wpAnyF_take (i := 9) (v := undef) rfl (by kernel_rfl) (by kernel_rfl) (by kernel_rfl) (by kernel_rfl) (fun _ _ _ h => h) (Or.inr ⟨by kernel_rfl, rfl⟩) R0 ?_; try simp only [Act.put, List.getElem_toArray, List.getElem_cons_succ, List.getElem_cons_zero, List.setIfInBounds_toArray, List.set_cons_zero, List.set_cons_succ]
              refine wpAnyF_take (i := 10) (v := .bool true) rfl (by kernel_rfl) (by kernel_rfl) (by kernel_rfl) (by kernel_rfl) (fun _ _ _ h => h) (Or.inl ⟨by kernel_rfl, fun w hSw => by (try dsimp only at hSw); go_simp⟩) R0 ?_; try simp only [Act.put, List.getElem_toArray, List.getElem_cons_succ, List.getElem_cons_zero, List.setIfInBounds_toArray, List.set_cons_zero, List.set_cons_succ]
              refine wpAnyF_take (i := 11) (v := .int .u64 ((acc : Int) + (pc : Int))) rfl (by kernel_rfl) (by kernel_rfl) (by kernel_rfl) (by kernel_rfl) (fun _ _ _ h => h) (Or.inl ⟨by kernel_rfl, fun w hSw => by (try dsimp only at hSw); go_simp⟩) R0 ?_; try simp only [Act.put, List.getElem_toArray, List.getElem_cons_succ, List.getElem_cons_zero, List.setIfInBounds_toArray, List.set_cons_zero, List.set_cons_succ]
              refine wpAnyF_take (i := 12) (v := .slice (if i + 1 + r + cr = i + 1 then some ⟨b, o, none⟩ else some ⟨b, o + (i + 1), none⟩) r (i + 1 + r + cr - (i + 1))) rfl (by kernel_rfl) (by kernel_rfl) (by kernel_rfl) (by kernel_rfl) (fun _ _ _ h => h) (Or.inl ⟨by kernel_rfl, fun w hSw => by (try dsimp only at hSw); go_simp⟩) R0 ?_; try simp only [Act.put, List.getElem_toArray, List.getElem_cons_succ, List.getElem_cons_zero, List.setIfInBounds_toArray, List.set_cons_zero, List.set_cons_succ]
              refine wpAnyF_take (i := 13) (v := .bool true) rfl (by kernel_rfl) (by kernel_rfl) (by kernel_rfl) (by kernel_rfl) (fun _ _ _ h => h) (Or.inl ⟨by kernel_rfl, fun w hSw => by (try dsimp only at hSw); go_simp⟩) R0 ?_; try simp only [Act.put, List.getElem_toArray, List.getElem_cons_succ, List.getElem_cons_zero, List.setIfInBounds_toArray, List.set_cons_zero, List.set_cons_succ]
              refine wpAnyF_done (by kernel_rfl) ?_ _
              have hfin := hfin'h.out V0 R0
              rw [hk] at hfin
              generalize (if i + 1 + r + cr = i + 1 then some (⟨b, o, none⟩ : Addr) else some ⟨b, o + (i + 1), none⟩) = sp9 at hfin ⊢
              generalize i + 1 + r + cr - (i + 1) = cp9 at hfin ⊢
              clear R0 j1 j2 j3 j4 g0 hfin'h hokc'h
              have hfin'h := Lib.hid hfin
              clear hfin
              go_wp2
              refine bodyPost_ret (v := .tuple #[.int .u64 ((acc : Int) + (pc : Int)), .slice sp9 r cp9, .bool true]) (by simp [results, Tryd.results48, go_sem]) rfl hfin'h.out
            ·
              have g0 : ¬ (x : Int) > 0 := by omega
              have g1 : ((i : Int) == 0) = true := by simp; omega
              refine wpAnyF_take (i := 6) (v := .bool false) rfl (by kernel_rfl) (by kernel_rfl) (by kernel_rfl) (by kernel_rfl) (fun _ _ _ h => h) (Or.inl ⟨by kernel_rfl, fun w hSw => by (try dsimp only at hSw); go_simp⟩) R0 ?_; try simp only [Act.put, List.getElem_toArray, List.getElem_cons_succ, List.getElem_cons_zero, List.setIfInBounds_toArray, List.set_cons_zero, List.set_cons_succ]
              refine wpAnyF_take (i := 7) (v := .bool false) rfl (by kernel_rfl) (by kernel_rfl) (by kernel_rfl) (by kernel_rfl) (fun _ _ _ h => h) (Or.inl ⟨by kernel_rfl, fun w hSw => by (try dsimp only at hSw); go_simp⟩) R0 ?_; try simp only [Act.put, List.getElem_toArray, List.getElem_cons_succ, List.getElem_cons_zero, List.setIfInBounds_toArray, List.set_cons_zero, List.set_cons_succ]
              refine wpAnyF_take (i := 8) (v := .int .i64 (i : Int)) rfl (by kernel_rfl) (by kernel_rfl) (by kernel_rfl) (by kernel_rfl) (fun _ _ _ h => h) (Or.inl ⟨by kernel_rfl, fun w hSw => by (try dsimp only at hSw); go_simp⟩) R0 ?_; try simp only [Act.put, List.getElem_toArray, List.getElem_cons_succ, List.getElem_cons_zero, List.setIfInBounds_toArray, List.set_cons_zero, List.set_cons_succ]
              refine wpAnyF_take (i := 9) (v := .bool true) rfl (by kernel_rfl) (by kernel_rfl) (by kernel_rfl) (by kernel_rfl) (fun _ _ _ h => h) (Or.inl ⟨by kernel_rfl, fun w hSw => by (try dsimp only at hSw); go_simp⟩) R0 ?_; try simp only [Act.put, List.getElem_toArray, List.getElem_cons_succ, List.getElem_cons_zero, List.setIfInBounds_toArray, List.set_cons_zero, List.set_cons_succ]
              refine wpAnyF_take (i := 10) (v := .bool true) rfl (by kernel_rfl) (by kernel_rfl) (by kernel_rfl) (by kernel_rfl) (fun _ _ _ h => h) (Or.inl ⟨by kernel_rfl, fun w hSw => by (try dsimp only at hSw); go_simp⟩) R0 ?_; try simp only [Act.put, List.getElem_toArray, List.getElem_cons_succ, List.getElem_cons_zero, List.setIfInBounds_toArray, List.set_cons_zero, List.set_cons_succ]
              refine wpAnyF_take (i := 11) (v := .int .u64 ((acc : Int) + (pc : Int))) rfl (by kernel_rfl) (by kernel_rfl) (by kernel_rfl) (by kernel_rfl) (fun _ _ _ h => h) (Or.inl ⟨by kernel_rfl, fun w hSw => by (try dsimp only at hSw); go_simp⟩) R0 ?_; try simp only [Act.put, List.getElem_toArray, List.getElem_cons_succ, List.getElem_cons_zero, List.setIfInBounds_toArray, List.set_cons_zero, List.set_cons_succ]
              refine wpAnyF_take (i := 12) (v := .slice (if i + 1 + r + cr = i + 1 then some ⟨b, o, none⟩ else some ⟨b, o + (i + 1), none⟩) r (i + 1 + r + cr - (i + 1))) rfl (by kernel_rfl) (by kernel_rfl) (by kernel_rfl) (by kernel_rfl) (fun _ _ _ h => h) (Or.inl ⟨by kernel_rfl, fun w hSw => by (try dsimp only at hSw); go_simp⟩) R0 ?_; try simp only [Act.put, List.getElem_toArray, List.getElem_cons_succ, List.getElem_cons_zero, List.setIfInBounds_toArray, List.set_cons_zero, List.set_cons_succ]
              refine wpAnyF_take (i := 13) (v := .bool true) rfl (by kernel_rfl) (by kernel_rfl) (by kernel_rfl) (by kernel_rfl) (fun _ _ _ h => h) (Or.inl ⟨by kernel_rfl, fun w hSw => by (try dsimp only at hSw); go_simp⟩) R0 ?_; try simp only [Act.put, List.getElem_toArray, List.getElem_cons_succ, List.getElem_cons_zero, List.setIfInBounds_toArray, List.set_cons_zero, List.set_cons_succ]
              refine wpAnyF_done (by kernel_rfl) ?_ _
              have hfin := hfin'h.out V0 R0
              rw [hk] at hfin
              generalize (if i + 1 + r + cr = i + 1 then some (⟨b, o, none⟩ : Addr) else some ⟨b, o + (i + 1), none⟩) = sp9 at hfin ⊢
              generalize i + 1 + r + cr - (i + 1) = cp9 at hfin ⊢
              clear R0 j1 j2 j3 j4 g0 hfin'h hokc'h
              have hfin'h := Lib.hid hfin
              clear hfin
              go_wp2
              refine bodyPost_ret (v := .tuple #[.int .u64 ((acc : Int) + (pc : Int)), .slice sp9 r cp9, .bool true]) (by simp [results, Tryd.results48, go_sem]) rfl hfin'h.out
            ·
              have g0 : ¬ (x : Int) > 0 := by omega
              have g1 : ((i : Int) == 0) = false := by simp; omega
              refine wpAnyF_take (i := 6) (v := .bool false) rfl (by kernel_rfl) (by kernel_rfl) (by kernel_rfl) (by kernel_rfl) (fun _ _ _ h => h) (Or.inl ⟨by kernel_rfl, fun w hSw => by (try dsimp only at hSw); go_simp⟩) R0 ?_; try simp only [Act.put, List.getElem_toArray, List.getElem_cons_succ, List.getElem_cons_zero, List.setIfInBounds_toArray, List.set_cons_zero, List.set_cons_succ]
              refine wpAnyF_take (i := 7) (v := .bool false) rfl (by kernel_rfl) (by kernel_rfl) (by kernel_rfl) (by kernel_rfl) (fun _ _ _ h => h) (Or.inl ⟨by kernel_rfl, fun w hSw => by (try dsimp only at hSw); go_simp⟩) R0 ?_; try simp only [Act.put, List.getElem_toArray, List.getElem_cons_succ, List.getElem_cons_zero, List.setIfInBounds_toArray, List.set_cons_zero, List.set_cons_succ]
              refine wpAnyF_take (i := 8) (v := .int .i64 (i : Int)) rfl (by kernel_rfl) (by kernel_rfl) (by kernel_rfl) (by kernel_rfl) (fun _ _ _ h => h) (Or.inl ⟨by kernel_rfl, fun w hSw => by (try dsimp only at hSw); go_simp⟩) R0 ?_; try simp only [Act.put, List.getElem_toArray, List.getElem_cons_succ, List.getElem_cons_zero, List.setIfInBounds_toArray, List.set_cons_zero, List.set_cons_succ]
              refine wpAnyF_take (i := 9) (v := .bool false) rfl (by kernel_rfl) (by kernel_rfl) (by kernel_rfl) (by kernel_rfl) (fun _ _ _ h => h) (Or.inl ⟨by kernel_rfl, fun w hSw => by (try dsimp only at hSw); go_simp⟩) R0 ?_; try simp only [Act.put, List.getElem_toArray, List.getElem_cons_succ, List.getElem_cons_zero, List.setIfInBounds_toArray, List.set_cons_zero, List.set_cons_succ]
              refine wpAnyF_take (i := 10) (v := .bool false) rfl (by kernel_rfl) (by kernel_rfl) (by kernel_rfl) (by kernel_rfl) (fun _ _ _ h => h) (Or.inl ⟨by kernel_rfl, fun w hSw => by (try dsimp only at hSw); go_simp⟩) R0 ?_; try simp only [Act.put, List.getElem_toArray, List.getElem_cons_succ, List.getElem_cons_zero, List.setIfInBounds_toArray, List.set_cons_zero, List.set_cons_succ]
              refine wpAnyF_take (i := 11) (v := .int .u64 ((acc : Int) + (pc : Int))) rfl (by kernel_rfl) (by kernel_rfl) (by kernel_rfl) (by kernel_rfl) (fun _ _ _ h => h) (Or.inl ⟨by kernel_rfl, fun w hSw => by (try dsimp only at hSw); go_simp⟩) R0 ?_; try simp only [Act.put, List.getElem_toArray, List.getElem_cons_succ, List.getElem_cons_zero, List.setIfInBounds_toArray, List.set_cons_zero, List.set_cons_succ]
              refine wpAnyF_take (i := 12) (v := .slice (if i + 1 + r + cr = i + 1 then some ⟨b, o, none⟩ else some ⟨b, o + (i + 1), none⟩) r (i + 1 + r + cr - (i + 1))) rfl (by kernel_rfl) (by kernel_rfl) (by kernel_rfl) (by kernel_rfl) (fun _ _ _ h => h) (Or.inl ⟨by kernel_rfl, fun w hSw => by (try dsimp only at hSw); go_simp⟩) R0 ?_; try simp only [Act.put, List.getElem_toArray, List.getElem_cons_succ, List.getElem_cons_zero, List.setIfInBounds_toArray, List.set_cons_zero, List.set_cons_succ]
              refine wpAnyF_take (i := 13) (v := .bool false) rfl (by kernel_rfl) (by kernel_rfl) (by kernel_rfl) (by kernel_rfl) (fun _ _ _ h => h) (Or.inl ⟨by kernel_rfl, fun w hSw => by (try dsimp only at hSw); go_simp⟩) R0 ?_; try simp only [Act.put, List.getElem_toArray, List.getElem_cons_succ, List.getElem_cons_zero, List.setIfInBounds_toArray, List.set_cons_zero, List.set_cons_succ]
              refine wpAnyF_done (by kernel_rfl) ?_ _
              have hfin := hfin'h.out V0 R0
              rw [hk] at hfin
              generalize (if i + 1 + r + cr = i + 1 then some (⟨b, o, none⟩ : Addr) else some ⟨b, o + (i + 1), none⟩) = sp9 at hfin ⊢
              generalize i + 1 + r + cr - (i + 1) = cp9 at hfin ⊢
              clear R0 j1 j2 j3 j4 g0 hfin'h hokc'h
              have hfin'h := Lib.hid hfin
              clear hfin
              go_wp2
              refine bodyPost_ret (v := .tuple #[.int .u64 ((acc : Int) + (pc : Int)), .slice sp9 r cp9, .bool false]) (by simp [results, Tryd.results48, go_sem]) rfl hfin'h.out
          · have i4 : ((i : Int) == 9) = false := by simp; omega
            have i5 : True := trivial
            obtain ⟨ok, hok⟩ : ∃ ok : Bool, ok = decide (0 < x ∨ i = 0) := ⟨_, rfl⟩
            have hRR : (ok = true ∧ R = some (acc + pc, l.drop (i + 1))) ∨ (ok = false ∧ R = none) := by
              rw [hok]
              by_cases hz : 0 < x ∨ i = 0
              · rw [if_pos hz] at hR
                exact .inl ⟨decide_eq_true hz, hR⟩
              · rw [if_neg hz] at hR
                exact .inr ⟨decide_eq_false hz, hR⟩
            have hokc : (0 < x ∧ ok = true) ∨ (x = 0 ∧ i = 0 ∧ ok = true) ∨ (x = 0 ∧ i ≠ 0 ∧ ok = false) := by
              rw [hok]
              by_cases h0 : 0 < x
              · exact .inl ⟨h0, decide_eq_true (.inl h0)⟩
              · by_cases h1 : i = 0
                · exact .inr (.inl ⟨by omega, h1, decide_eq_true (.inr h1)⟩)
                · exact .inr (.inr ⟨by omega, h1, decide_eq_false (by omega)⟩)
            clear hR hc hpc' hacc hP hP64 hpc hx256 hbad hok h9 hx8 hi9
            have hRR'h := Lib.hid hRR
            have hokc'h := Lib.hid hokc
            have hq'h := Lib.hid hq
            clear hRR hokc hq
            go_upto_region 10 with fail
            clear e1 hP2 i4 i5 i6 c1 hc1
            have hSl := h'h.out
            have hrl0 := hlen'h.out
            obtain ⟨r, hr⟩ : ∃ r, n = i + 1 + r := ⟨n - (i + 1), by omega⟩
            obtain ⟨cr, hcr⟩ : ∃ cr, cap = n + cr := ⟨cap - n, by have := hle'h.out; omega⟩
            subst hcr
            subst hr
            have hrl : (l.drop (i + 1)).length = r := by rw [List.length_drop]; omega
            have hS : ∀ W, Sl W (some ⟨b, o, none⟩) (i + 1 + r) (u8s l) → Sl W (if i + 1 + r + cr = i + 1 then some ⟨b, o, none⟩ else some ⟨b, o + (i + 1), none⟩) r (u8s (l.drop (i + 1))) := fun W hW => drop_slk8 (c := cr) hW
            have hfin : ∀ W : World, Below wr.heap.size wr W → ReadP wr (some ⟨b, o, none⟩) (i + 1 + r) l R (.returned (.tuple #[.int .u64 ((acc : Int) + (pc : Int)), .slice (if i + 1 + r + cr = i + 1 then some ⟨b, o, none⟩ else some ⟨b, o + (i + 1), none⟩) r (i + 1 + r + cr - (i + 1)), .bool ok])) W := fun W hW => by
              rcases hRR'h.out with ⟨e1, e2⟩ | ⟨e1, e2⟩
              · rw [e1, e2]
                refine ⟨hW, _, _, by rw [hrl, Int.natCast_add], ?_, by omega⟩
                rw [hrl]
                exact hS
              · rw [e1, e2]
                exact ⟨hW, _, _, _, _, rfl⟩
            have j1 : (i : Int) + 1 ≤ (i : Int) + 1 + (r : Int) := by omega
            have j2 : (0 : Int) ≤ (i : Int) + 1 := by omega
            have j4 : IntKind.i64.wrap ((i : Int) + 1) = (i : Int) + 1 := Go.IntWalk.i64_in _ (by omega)
            have j3 : ¬ ((i : Int) + 1 + (r : Int) + (cr : Int) < (i : Int) + 1) := by omega
            clear hSl hS hrl hrl0 hRR'h i1 i2
            have hfin'h := Lib.hid hfin
            clear hfin
            have R0 : Below wr.heap.size wr wr.drew := (Below.refl _ _).drew
            refine wp_region_heldF (fun w' => Below wr.heap.size wr w') 99 (by kernel_rfl) ?_
            generalize wr.drew = V0 at R0 ⊢
            refine wpAnyF_take (i := 0) (v := .int .u64 ((acc : Int) + (pc : Int))) rfl (by kernel_rfl) (by kernel_rfl) (by kernel_rfl) (by kernel_rfl) (fun _ _ _ h => h) (Or.inl ⟨by kernel_rfl, fun w hSw => by (try dsimp only at hSw); go_simp⟩) R0 ?_; try simp only [Act.put, List.getElem_toArray, List.getElem_cons_succ, List.getElem_cons_zero, List.setIfInBounds_toArray, List.set_cons_zero, List.set_cons_succ]
            refine wpAnyF_take (i := 1) (v := .slice (some ⟨b, o, none⟩) (i + 1 + r) (i + 1 + r + cr)) rfl (by kernel_rfl) (by kernel_rfl) (by kernel_rfl) (by kernel_rfl) (fun _ _ _ h => h) (Or.inl ⟨by kernel_rfl, fun w hSw => by (try dsimp only at hSw); go_simp⟩) R0 ?_; try simp only [Act.put, List.getElem_toArray, List.getElem_cons_succ, List.getElem_cons_zero, List.setIfInBounds_toArray, List.set_cons_zero, List.set_cons_succ]
            refine wpAnyF_take (i := 2) (v := .int .i64 (i : Int)) rfl (by kernel_rfl) (by kernel_rfl) (by kernel_rfl) (by kernel_rfl) (fun _ _ _ h => h) (Or.inl ⟨by kernel_rfl, fun w hSw => by (try dsimp only at hSw); go_simp⟩) R0 ?_; try simp only [Act.put, List.getElem_toArray, List.getElem_cons_succ, List.getElem_cons_zero, List.setIfInBounds_toArray, List.set_cons_zero, List.set_cons_succ]
            refine wpAnyF_take (i := 3) (v := .int .i64 ((i : Int) + 1)) rfl (by kernel_rfl) (by kernel_rfl) (by kernel_rfl) (by kernel_rfl) (fun _ _ _ h => h) (Or.inl ⟨by kernel_rfl, fun w hSw => by (try dsimp only at hSw); go_simp⟩) R0 ?_; try simp only [Act.put, List.getElem_toArray, List.getElem_cons_succ, List.getElem_cons_zero, List.setIfInBounds_toArray, List.set_cons_zero, List.set_cons_succ]
            refine wpAnyF_take (i := 4) (v := .slice (if i + 1 + r + cr = i + 1 then some ⟨b, o, none⟩ else some ⟨b, o + (i + 1), none⟩) r (i + 1 + r + cr - (i + 1))) rfl (by kernel_rfl) (by kernel_rfl) (by kernel_rfl) (by kernel_rfl) (fun _ _ _ h => h) (Or.inl ⟨by kernel_rfl, fun w hSw => by (try dsimp only at hSw); go_simp⟩) R0 ?_; try simp only [Act.put, List.getElem_toArray, List.getElem_cons_succ, List.getElem_cons_zero, List.setIfInBounds_toArray, List.set_cons_zero, List.set_cons_succ]
            refine wpAnyF_take (i := 5) (v := .int .u8 (x : Int)) rfl (by kernel_rfl) (by kernel_rfl) (by kernel_rfl) (by kernel_rfl) (fun _ _ _ h => h) (Or.inl ⟨by kernel_rfl, fun w hSw => by (try dsimp only at hSw); go_simp⟩) R0 ?_; try simp only [Act.put, List.getElem_toArray, List.getElem_cons_succ, List.getElem_cons_zero, List.setIfInBounds_toArray, List.set_cons_zero, List.set_cons_succ]
            rcases hokc'h.out with ⟨h0, hk⟩ | ⟨h0, h1, hk⟩ | ⟨h0, h1, hk⟩
            ·
              have g0 : (x : Int) > 0 := by omega
              refine wpAnyF_take (i := 6) (v := .bool true) rfl (by kernel_rfl) (by kernel_rfl) (by kernel_rfl) (by kernel_rfl) (fun _ _ _ h => h) (Or.inl ⟨by kernel_rfl, fun w hSw => by (try dsimp only at hSw); go_simp⟩) R0 ?_; try simp only [Act.put, List.getElem_toArray, List.getElem_cons_succ, List.getElem_cons_zero, List.setIfInBounds_toArray, List.set_cons_zero, List.set_cons_succ]
              refine wpAnyF_take (i := 7) (v := .bool true) rfl (by kernel_rfl) (by kernel_rfl) (by kernel_rfl) (by kernel_rfl) (fun _ _ _ h => h) (Or.inl ⟨by kernel_rfl, fun w hSw => by (try dsimp only at hSw); go_simp⟩) R0 ?_; try simp only [Act.put, List.getElem_toArray, List.getElem_cons_succ, List.getElem_cons_zero, List.setIfInBounds_toArray, List.set_cons_zero, List.set_cons_succ]
              refine wpAnyF_take (i := 8) (v := undef) rfl (by kernel_rfl) (by kernel_rfl) (by kernel_rfl) (by kernel_rfl) (fun _ _ _ h => h) (Or.inr ⟨by kernel_rfl, rfl⟩) R0 ?_; try simp only [Act.put, List.getElem_toArray, List.getElem_cons_succ, List.getElem_cons_zero, List.setIfInBounds_toArray, List.set_cons_zero, List.set_cons_succ]
              refine wpAnyF_take (i := 9) (v := undef) rfl (by kernel_rfl) (by kernel_rfl) (by kernel_rfl) (by kernel_rfl) (fun _ _ _ h => h) (Or.inr ⟨by kernel_rfl, rfl⟩) R0 ?_; try simp only [Act.put, List.getElem_toArray, List.getElem_cons_succ, List.getElem_cons_zero, List.setIfInBounds_toArray, List.set_cons_zero, List.set_cons_succ]
              refine wpAnyF_take (i := 10) (v := .bool true) rfl (by kernel_rfl) (by kernel_rfl) (by kernel_rfl) (by kernel_rfl) (fun _ _ _ h => h) (Or.inl ⟨by kernel_rfl, fun w hSw => by (try dsimp only at hSw); go_simp⟩) R0 ?_; try simp only [Act.put, List.getElem_toArray, List.getElem_cons_succ, List.getElem_cons_zero, List.setIfInBounds_toArray, List.set_cons_zero, List.set_cons_succ]
              refine wpAnyF_take (i := 11) (v := .int .u64 ((acc : Int) + (pc : Int))) rfl (by kernel_rfl) (by kernel_rfl) (by kernel_rfl) (by kernel_rfl) (fun _ _ _ h => h) (Or.inl ⟨by kernel_rfl, fun w hSw => by (try dsimp only at hSw); go_simp⟩) R0 ?_; try simp only [Act.put, List.getElem_toArray, List.getElem_cons_succ, List.getElem_cons_zero, List.setIfInBounds_toArray, List.set_cons_zero, List.set_cons_succ]
              refine wpAnyF_take (i := 12) (v := .slice (if i + 1 + r + cr = i + 1 then some ⟨b, o, none⟩ else some ⟨b, o + (i + 1), none⟩) r (i + 1 + r + cr - (i + 1))) rfl (by kernel_rfl) (by kernel_rfl) (by kernel_rfl) (by kernel_rfl) (fun _ _ _ h => h) (Or.inl ⟨by kernel_rfl, fun w hSw => by (try dsimp only at hSw); go_simp⟩) R0 ?_; try simp only [Act.put, List.getElem_toArray, List.getElem_cons_succ, List.getElem_cons_zero, List.setIfInBounds_toArray, List.set_cons_zero, List.set_cons_succ]
              refine wpAnyF_take (i := 13) (v := .bool true) rfl (by kernel_rfl) (by kernel_rfl) (by kernel_rfl) (by kernel_rfl) (fun _ _ _ h => h) (Or.inl ⟨by kernel_rfl, fun w hSw => by (try dsimp only at hSw); go_simp⟩) R0 ?_; try simp only [Act.put, List.getElem_toArray, List.getElem_cons_succ, List.getElem_cons_zero, List.setIfInBounds_toArray, List.set_cons_zero, List.set_cons_succ]
              refine wpAnyF_done (by kernel_rfl) ?_ _
              have hfin := hfin'h.out V0 R0
              rw [hk] at hfin
              generalize (if i + 1 + r + cr = i + 1 then some (⟨b, o, none⟩ : Addr) else some ⟨b, o + (i + 1), none⟩) = sp9 at hfin ⊢
              generalize i + 1 + r + cr - (i + 1) = cp9 at hfin ⊢
              clear R0 j1 j2 j3 j4 g0 hfin'h hokc'h
              have hfin'h := Lib.hid hfin
              clear hfin
              go_wp2
              refine bodyPost_ret (v := .tuple #[.int .u64 ((acc : Int) + (pc : Int)), .slice sp9 r cp9, .bool true]) (by simp [results, Tryd.results48, go_sem]) rfl hfin'h.out
            ·
              have g0 : ¬ (x : Int) > 0 := by omega
              have g1 : ((i : Int) == 0) = true := by simp; omega
              refine wpAnyF_take (i := 6) (v := .bool false) rfl (by kernel_rfl) (by kernel_rfl) (by kernel_rfl) (by kernel_rfl) (fun _ _ _ h => h) (Or.inl ⟨by kernel_rfl, fun w hSw => by (try dsimp only at hSw); go_simp⟩) R0 ?_; try simp only [Act.put, List.getElem_toArray, List.getElem_cons_succ, List.getElem_cons_zero, List.setIfInBounds_toArray, List.set_cons_zero, List.set_cons_succ]
              refine wpAnyF_take (i := 7) (v := .bool false) rfl (by kernel_rfl) (by kernel_rfl) (by kernel_rfl) (by kernel_rfl) (fun _ _ _ h => h) (Or.inl ⟨by kernel_rfl, fun w hSw => by (try dsimp only at hSw); go_simp⟩) R0 ?_; try simp only [Act.put, List.getElem_toArray, List.getElem_cons_succ, List.getElem_cons_zero, List.setIfInBounds_toArray, List.set_cons_zero, List.set_cons_succ]
              refine wpAnyF_take (i := 8) (v := .int .i64 (i : Int)) rfl (by kernel_rfl) (by kernel_rfl) (by kernel_rfl) (by kernel_rfl) (fun _ _ _ h => h) (Or.inl ⟨by kernel_rfl, fun w hSw => by (try dsimp only at hSw); go_simp⟩) R0 ?_; try simp only [Act.put, List.getElem_toArray, List.getElem_cons_succ, List.getElem_cons_zero, List.setIfInBounds_toArray, List.set_cons_zero, List.set_cons_succ]
              refine wpAnyF_take (i := 9) (v := .bool true) rfl (by kernel_rfl) (by kernel_rfl) (by kernel_rfl) (by kernel_rfl) (fun _ _ _ h => h) (Or.inl ⟨by kernel_rfl, fun w hSw => by (try dsimp only at hSw); go_simp⟩) R0 ?_; try simp only [Act.put, List.getElem_toArray, List.getElem_cons_succ, List.getElem_cons_zero, List.setIfInBounds_toArray, List.set_cons_zero, List.set_cons_succ]
              refine wpAnyF_take (i := 10) (v := .bool true) rfl (by kernel_rfl) (by kernel_rfl) (by kernel_rfl) (by kernel_rfl) (fun _ _ _ h => h) (Or.inl ⟨by kernel_rfl, fun w hSw => by (try dsimp only at hSw); go_simp⟩) R0 ?_; try simp only [Act.put, List.getElem_toArray, List.getElem_cons_succ, List.getElem_cons_zero, List.setIfInBounds_toArray, List.set_cons_zero, List.set_cons_succ]
              refine wpAnyF_take (i := 11) (v := .int .u64 ((acc : Int) + (pc : Int))) rfl (by kernel_rfl) (by kernel_rfl) (by kernel_rfl) (by kernel_rfl) (fun _ _ _ h => h) (Or.inl ⟨by kernel_rfl, fun w hSw => by (try dsimp only at hSw); go_simp⟩) R0 ?_; try simp only [Act.put, List.getElem_toArray, List.getElem_cons_succ, List.getElem_cons_zero, List.setIfInBounds_toArray, List.set_cons_zero, List.set_cons_succ]
              refine wpAnyF_take (i := 12) (v := .slice (if i + 1 + r + cr = i + 1 then some ⟨b, o, none⟩ else some ⟨b, o + (i + 1), none⟩) r (i + 1 + r + cr - (i + 1))) rfl (by kernel_rfl) (by kernel_rfl) (by kernel_rfl) (by kernel_rfl) (fun _ _ _ h => h) (Or.inl ⟨by kernel_rfl, fun w hSw => by (try dsimp only at hSw); go_simp⟩) R0 ?_; try simp only [Act.put, List.getElem_toArray, List.getElem_cons_succ, List.getElem_cons_zero, List.setIfInBounds_toArray, List.set_cons_zero, List.set_cons_succ]
              refine wpAnyF_take (i := 13) (v := .bool true) rfl (by kernel_rfl) (by kernel_rfl) (by kernel_rfl) (by kernel_rfl) (fun _ _ _ h => h) (Or.inl ⟨by kernel_rfl, fun w hSw => by (try dsimp only at hSw); go_simp⟩) R0 ?_; try simp only [Act.put, List.getElem_toArray, List.getElem_cons_succ, List.getElem_cons_zero, List.setIfInBounds_toArray, List.set_cons_zero, List.set_cons_succ]
              refine wpAnyF_done (by kernel_rfl) ?_ _
              have hfin := hfin'h.out V0 R0
              rw [hk] at hfin
              generalize (if i + 1 + r + cr = i + 1 then some (⟨b, o, none⟩ : Addr) else some ⟨b, o + (i + 1), none⟩) = sp9 at hfin ⊢
              generalize i + 1 + r + cr - (i + 1) = cp9 at hfin ⊢
              clear R0 j1 j2 j3 j4 g0 hfin'h hokc'h
              have hfin'h := Lib.hid hfin
              clear hfin
              go_wp2
              refine bodyPost_ret (v := .tuple #[.int .u64 ((acc : Int) + (pc : Int)), .slice sp9 r cp9, .bool true]) (by simp [results, Tryd.results48, go_sem]) rfl hfin'h.out
            ·
              have g0 : ¬ (x : Int) > 0 := by omega
              have g1 : ((i : Int) == 0) = false := by simp; omega
              refine wpAnyF_take (i := 6) (v := .bool false) rfl (by kernel_rfl) (by kernel_rfl) (by kernel_rfl) (by kernel_rfl) (fun _ _ _ h => h) (Or.inl ⟨by kernel_rfl, fun w hSw => by (try dsimp only at hSw); go_simp⟩) R0 ?_; try simp only [Act.put, List.getElem_toArray, List.getElem_cons_succ, List.getElem_cons_zero, List.setIfInBounds_toArray, List.set_cons_zero, List.set_cons_succ]
              refine wpAnyF_take (i := 7) (v := .bool false) rfl (by kernel_rfl) (by kernel_rfl) (by kernel_rfl) (by kernel_rfl) (fun _ _ _ h => h) (Or.inl ⟨by kernel_rfl, fun w hSw => by (try dsimp only at hSw); go_simp⟩) R0 ?_; try simp only [Act.put, List.getElem_toArray, List.getElem_cons_succ, List.getElem_cons_zero, List.setIfInBounds_toArray, List.set_cons_zero, List.set_cons_succ]
              refine wpAnyF_take (i := 8) (v := .int .i64 (i : Int)) rfl (by kernel_rfl) (by kernel_rfl) (by kernel_rfl) (by kernel_rfl) (fun _ _ _ h => h) (Or.inl ⟨by kernel_rfl, fun w hSw => by (try dsimp only at hSw); go_simp⟩) R0 ?_; try simp only [Act.put, List.getElem_toArray, List.getElem_cons_succ, List.getElem_cons_zero, List.setIfInBounds_toArray, List.set_cons_zero, List.set_cons_succ]
              refine wpAnyF_take (i := 9) (v := .bool false) rfl (by kernel_rfl) (by kernel_rfl) (by kernel_rfl) (by kernel_rfl) (fun _ _ _ h => h) (Or.inl ⟨by kernel_rfl, fun w hSw => by (try dsimp only at hSw); go_simp⟩) R0 ?_; try simp only [Act.put, List.getElem_toArray, List.getElem_cons_succ, List.getElem_cons_zero, List.setIfInBounds_toArray, List.set_cons_zero, List.set_cons_succ]
              refine wpAnyF_take (i := 10) (v := .bool false) rfl (by kernel_rfl) (by kernel_rfl) (by kernel_rfl) (by kernel_rfl) (fun _ _ _ h => h) (Or.inl ⟨by kernel_rfl, fun w hSw => by (try dsimp only at hSw); go_simp⟩) R0 ?_; try simp only [Act.put, List.getElem_toArray, List.getElem_cons_succ, List.getElem_cons_zero, List.setIfInBounds_toArray, List.set_cons_zero, List.set_cons_succ]
              refine wpAnyF_take (i := 11) (v := .int .u64 ((acc : Int) + (pc : Int))) rfl (by kernel_rfl) (by kernel_rfl) (by kernel_rfl) (by kernel_rfl) (fun _ _ _ h => h) (Or.inl ⟨by kernel_rfl, fun w hSw => by (try dsimp only at hSw); go_simp⟩) R0 ?_; try simp only [Act.put, List.getElem_toArray, List.getElem_cons_succ, List.getElem_cons_zero, List.setIfInBounds_toArray, List.set_cons_zero, List.set_cons_succ]
              refine wpAnyF_take (i := 12) (v := .slice (if i + 1 + r + cr = i + 1 then some ⟨b, o, none⟩ else some ⟨b, o + (i + 1), none⟩) r (i + 1 + r + cr - (i + 1))) rfl (by kernel_rfl) (by kernel_rfl) (by kernel_rfl) (by kernel_rfl) (fun _ _ _ h => h) (Or.inl ⟨by kernel_rfl, fun w hSw => by (try dsimp only at hSw); go_simp⟩) R0 ?_; try simp only [Act.put, List.getElem_toArray, List.getElem_cons_succ, List.getElem_cons_zero, List.setIfInBounds_toArray, List.set_cons_zero, List.set_cons_succ]
              refine wpAnyF_take (i := 13) (v := .bool false) rfl (by kernel_rfl) (by kernel_rfl) (by kernel_rfl) (by kernel_rfl) (fun _ _ _ h => h) (Or.inl ⟨by kernel_rfl, fun w hSw => by (try dsimp only at hSw); go_simp⟩) R0 ?_; try simp only [Act.put, List.getElem_toArray, List.getElem_cons_succ, List.getElem_cons_zero, List.setIfInBounds_toArray, List.set_cons_zero, List.set_cons_succ]
              refine wpAnyF_done (by kernel_rfl) ?_ _
              have hfin := hfin'h.out V0 R0
              rw [hk] at hfin
              generalize (if i + 1 + r + cr = i + 1 then some (⟨b, o, none⟩ : Addr) else some ⟨b, o + (i + 1), none⟩) = sp9 at hfin ⊢
              generalize i + 1 + r + cr - (i + 1) = cp9 at hfin ⊢
              clear R0 j1 j2 j3 j4 g0 hfin'h hokc'h
              have hfin'h := Lib.hid hfin
              clear hfin
              go_wp2
              refine bodyPost_ret (v := .tuple #[.int .u64 ((acc : Int) + (pc : Int)), .slice sp9 r cp9, .bool false]) (by simp [results, Tryd.results48, go_sem]) rfl hfin'h.out
        · rw [if_neg hx8] at hR
          have i6 : ¬ (x : Int) < 128 := by omega
          have i4 : ((i : Int) == 9) = false := by simp; omega
          have hP3 : (P2 : Int) = ((128 ^ (i + 1) : Nat) : Int) := by
            rw [← hP2, IntKind.wrap_u64, hP]
            have h2 : 128 ^ (i + 1) < 2 ^ 64 := pow128_lt (by omega)
            rw [Nat.pow_succ] at h2 ⊢
            omega
          have hacc2 : acc + pc < 128 ^ (i + 1) := by
            rw [hpc', Nat.pow_succ, ← hP]
            have h1 : c * P ≤ 127 * P := Nat.mul_le_mul_right _ (by omega)
            omega
          have hi8 : i + 1 ≤ 9 := by omega
          have hRn : R = rdN (i + 1) (acc + pc) (l.drop (i + 1)) := by rw [hR, hpc', hP]
          clear hR hc hpc' hacc hP hP64 hpc hx256 hbad hx8
          have hq'h := Lib.hid hq
          have hP3'h := Lib.hid hP3
          have hacc2'h := Lib.hid hacc2
          have hi8'h := Lib.hid hi8
          have hRn'h := Lib.hid hRn
          have hi9'h := Lib.hid hi9
          clear hq hP3 hacc2 hi8 hRn hi9
          go_wp2
          go_roundg (gk - 1)
          case measure => have := hq'h.out; omega
          case rel => exact ⟨i + 1, acc + pc, by have := hq'h.out; omega, by go_num, rfl, by rw [hP3'h.out], hi8'h.out, hacc2'h.out, hRn'h.out, rfl⟩
    · have i1 : ¬ (i : Int) < (n : Int) := by omega
      have hR2 : R = none := by rw [hR, List.drop_eq_nil_of_le (by have := hlen'h.out; omega)]; rfl
      have hfin : ReadP wr sp n l R (.returned (.tuple #[.int .u64 0, .slice none 0 0, .bool false])) wr := by rw [hR2]; exact ⟨Below.refl _ _, 0, none, 0, 0, rfl⟩
      clear hR hR2 hacc hq hi9
      have hfin'h := Lib.hid hfin
      clear hfin
      go_wp2
      refine bodyPost_ret (v := .tuple #[.int .u64 0, .slice none 0 0, .bool false]) (by simp [results, Tryd.results48, go_sem]) rfl hfin'h.out
end Go.Proofs.YtifofdciablljaaDoor
