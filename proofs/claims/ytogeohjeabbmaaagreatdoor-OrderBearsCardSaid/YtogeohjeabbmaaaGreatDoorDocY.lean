/-
 The document's answer for layer 27: ByAt, the calls by when they took effect.
-/
import Derived.Test.YtogeohjeabbmaaaGreatDoorDocX
import Derived.BigQuiet
import Derived.Deep.QuietTactic
set_option linter.unusedSimpArgs false
set_option linter.unusedVariables false
set_option maxRecDepth 100000
namespace Go.Proofs.YtogeohjeabbmaaaGreatDoor
open Go.RowKit

theorem dPos_at {l : List Mm} {a : Int} : ∀ {M : List Nat} {k : Nat}, k ≤ M.length → (∀ i, i < k → atK l (nthQ M i) ≤ a) → (k < M.length → a < atK l (nthQ M k)) → dPos l M a = k
 | [], k, hk, _, _ => by
  obtain rfl : k = 0 := by simpa using hk
  rfl
 | x :: r, 0, _, _, h => by
  have h0 : a < atK l x := h (by simp)
  unfold dPos
  rw [List.takeWhile_cons, decide_eq_false (by omega)]
  rfl
 | x :: r, k + 1, hk, h1, h2 => by
  have h0 : atK l x ≤ a := h1 0 (by omega)
  have ih := dPos_at (l := l) (a := a) (M := r) (k := k) (by simpa using hk) (fun i hi => h1 (i + 1) (by omega)) (fun hlt => h2 (by simpa using hlt))
  unfold dPos at ih ⊢
  rw [List.takeWhile_cons, decide_eq_true h0, if_pos rfl, List.length_cons, ih]
theorem dIns_at {l : List Mm} {M : List Nat} {j k : Nat} (hk : k ≤ M.length) (h1 : ∀ i, i < k → atK l (nthQ M i) ≤ atK l j) (h2 : k < M.length → atK l j < atK l (nthQ M k)) : dIns l M j = M.take k ++ j :: M.drop k := by
 unfold dIns
 rw [dPos_at hk h1 h2]
theorem dByAt_yes {l : List Mm} {j : Nat} (h : candB (nthM l j).md = true) : dByAt l (j + 1) = dIns l (dByAt l j) j := by
 show (if candB (nthM l j).md then _ else _) = _
 rw [if_pos h]
theorem dByAt_no {l : List Mm} {j : Nat} (h : candB (nthM l j).md = false) : dByAt l (j + 1) = dByAt l j := by
 show (if candB (nthM l j).md then _ else _) = _
 rw [if_neg (by rw [h]; decide)]
theorem dByAt_len (l : List Mm) (j : Nat) : (dByAt l j).length ≤ j := by rw [(dByAt_perm l j).length_eq]; exact candK_len l j
set_option maxHeartbeats 16000000 in
theorem dbyat_any (sp : Option Addr) (n cap : Nat) (l : List Mm) (w : World) (h : MsIn w sp n l) (h80 : n ≤ 82) :
  Calls Tryz.prog 13 #[.slice sp n cap] w fun e w' => ∃ s c, e = .returned (.slice s (dByAt l n).length c) ∧ Below w.heap.size w w' ∧ w'.ownsRow w.heap.size 3 1 (.slice s (dByAt l n).length c) (dByAt l n).length (ints (dByAt l n)) := by
 have hlen := h.len
 obtain ⟨i0, hi, hz, hs, hby⟩ := info_parts infoI
 have h'h := Lib.hid h
 have h80'h := Lib.hid h80
 have hlen'h := Lib.hid hlen
 clear h h80 hlen
 go_enter Tryz.func13, Tryz.ntmps13
 go_wp2
 go_loopg [3, 9] n (fun q ov v9 wr => ∃ j : Nat, j + q = n ∧ v9 = .int .i64 (j : Int) ∧ wr.ownsRow w.heap.size 3 1 ov (dByAt l j).length (ints (dByAt l j)) ∧ Below w.heap.size w wr)
 case atStart => exact ⟨0, by omega, rfl, ⟨rfl, .inl ⟨rfl, rfl⟩⟩, Below.refl _ _⟩
 case round =>
  obtain ⟨j, hj, rfl, hrow, hB⟩ := hrel
  obtain ⟨sp2, cap2, rfl⟩ := row_slice' hrow
  obtain ⟨go, rfl⟩ : ∃ go : Nat, go = gk := ⟨_, rfl⟩
  by_cases hlt : j < n
  ·
   have i3 : (j : Int) < (n : Int) := by omega
   have i4 : (0 : Int) ≤ (j : Int) := by omega
   have q1 : (j : Int) + 1 ≤ 5000 := by have := h80'h.out; omega
   have hjl : j < l.length := by have := hlen'h.out; omega
   have hS := h'h.out.below hB
   obtain ⟨b, off, rfl⟩ := slk_some hS.sl (by omega)
   obtain ⟨x, hx0⟩ : ∃ x, x = nthM l j := ⟨_, rfl⟩
   have hcl := fun (i : Nat) (v : Value) (hi : i < 13) (hv : (mmL x)[i]? = some v) => hS.cells hjl (i := i) (v := v) hi (by rw [← hx0]; exact hv)
   have hcd : candB (nthM l j).md = (decide (x.md.at' ≠ 0) && !decide (x.md.call.op = 6)) := by rw [hx0]; rfl
   have hat : atK l j = x.md.at' := by rw [hx0]; rfl
   have hB3 := (Below.refl wr.heap.size wr).alloc (Nat.le_refl _) (.cells (mmA x) 55)
   have hb3 := World.alloc_heap_new wr (.cells (mmA x) 55)
   have hrow3 := ownsRow_next hrow hB3
   have hS3 := hS.below hB3
   clear hx0 hS hrow
   obtain ⟨⟨goerx, ⟨opx, kyx, cax, cbx⟩, ⟨errx, valx, donex⟩, prsx, beganx, atx, overx, toldx⟩, ppx, pnx, pcx, tpx, tnx, tcx⟩ := x
   have e0 := hcl 0 _ (by omega) rfl
   have e1 := hcl 1 _ (by omega) rfl
   have e2 := hcl 2 _ (by omega) rfl
   have e3 := hcl 3 _ (by omega) rfl
   have e4 := hcl 4 _ (by omega) rfl
   have e5 := hcl 5 _ (by omega) rfl
   have e6 := hcl 6 _ (by omega) rfl
   have e7 := hcl 7 _ (by omega) rfl
   have e8 := hcl 8 _ (by omega) rfl
   have e9 := hcl 9 _ (by omega) rfl
   have ea := hcl 10 _ (by omega) rfl
   have eb := hcl 11 _ (by omega) rfl
   have ec := hcl 12 _ (by omega) rfl
   simp only [Nat.add_zero] at e0
   simp only [mmA] at *
   clear hcl
   obtain ⟨V, hV⟩ : ∃ V, V = wr.alloc (.cells #[.int .i64 goerx, .int .i64 opx, .int .u64 (kyx : Int), .int .u64 (cax : Int), .int .u64 (cbx : Int), .int .i64 errx, .int .u64 (valx : Int), .bool donex, .slice ppx pnx pcx, .int .i64 beganx, .int .i64 atx, .int .i64 overx, .slice tpx tnx tcx] 55) := ⟨_, rfl⟩
   rw [← hV] at hB3 hb3 hrow3 hS3
   have hj'h := Lib.hid hj
   have hB'h := Lib.hid hB
   have hjl'h := Lib.hid hjl
   have hlt'h := Lib.hid hlt
   have hcd'h := Lib.hid hcd
   have hat'h := Lib.hid hat
   have hB3'h := Lib.hid hB3
   have hb3'h := Lib.hid hb3
   have hrow3'h := Lib.hid hrow3
   have hS3'h := Lib.hid hS3
   clear hj hB hjl hlt hcd hat hB3 hb3 hrow3 hS3
   go_upto_region 5 with fail
   rw [← hV]
   clear hV e0 e1 e2 e3 e4 e5 e6 e7 e8 e9 ea eb ec
   have hB4 := below_next hB'h.out hB3'h.out
   have hb3 := hb3'h.out
   clear hb3'h hB3'h hB'h
   generalize wr.heap.size = ab at hb3 ⊢
   obtain ⟨b0, b1, b2, b3, b4, b5, b6, b7, b8, b9, ba, bb, bc⟩ := cells13 hb3
   have hB4'h := Lib.hid hB4
   clear hB4
   rcases int_zero_or atx with ⟨h0, h1, h2⟩ | ⟨h0, h1, h2⟩
   ·
    have hn2 : dByAt l (j + 1) = dByAt l j := dByAt_no (by rw [hcd'h.out]; simp [h0])
    clear h0 hcd'h hb3
    have hn2'h := Lib.hid hn2
    clear hn2
    go_wp2
    go_roundg (go - 1)
    case measure => have := hj'h.out; have := hlt'h.out; omega
    case rel => exact ⟨j + 1, by have := hj'h.out; have := hlt'h.out; omega, by go_num, by rw [hn2'h.out]; exact hrow3'h.out, hB4'h.out⟩
   ·
    by_cases h6 : opx = 6
    ·
     have c1 : (opx == 6) = true := by simp [h6]
     have hn2 : dByAt l (j + 1) = dByAt l j := dByAt_no (by rw [hcd'h.out]; simp [h6])
     clear h0 h6 hcd'h hb3
     have hn2'h := Lib.hid hn2
     clear hn2
     go_wp2
     go_roundg (go - 1)
     case measure => have := hj'h.out; have := hlt'h.out; omega
     case rel => exact ⟨j + 1, by have := hj'h.out; have := hlt'h.out; omega, by go_num, by rw [hn2'h.out]; exact hrow3'h.out, hB4'h.out⟩
    ·
     have c1 : (opx == 6) = false := by simp [h6]
     have hn2 : dByAt l (j + 1) = dIns l (dByAt l j) j := dByAt_yes (by rw [hcd'h.out]; simp [h0, h6])
     have a1 : ∀ q, (V.drewN q).cell? ⟨ab, 10, none⟩ = some (.int .i64 atx) := fun q => blk_cell (i := 10) hb3 rfl
     obtain ⟨M, hM⟩ : ∃ M, M = dByAt l j := ⟨_, rfl⟩
     have hMl : M.length ≤ j := by rw [hM]; exact dByAt_len l j
     have hMj : ∀ i, i < M.length → nthQ M i < j := fun i hi => by
      have := nthQ_mem hi
      rw [hM] at this ⊢
      exact dByAt_lt this
     have hrow4 := hrow3'h.out
     rw [← hM] at hrow4 hn2 ⊢
     obtain ⟨m, hm⟩ : ∃ m, m = M.length := ⟨_, rfl⟩
     have hmb : m ≤ 82 := by have := h80'h.out; have := hlt'h.out; omega
     rw [← hm] at hrow4 ⊢
     clear h0 h6 hcd'h hb3 hrow3'h
     have hn2'h := Lib.hid hn2
     have hM'h := Lib.hid hM
     have hMl'h := Lib.hid hMl
     have hMj'h := Lib.hid hMj
     have hrow4'h := Lib.hid hrow4
     have hm'h := Lib.hid hm
     have hmb'h := Lib.hid hmb
     clear hn2 hM hMl hMj hrow4 hm hmb
     go_wp2
     clear b0 b1 b2 b3 b4 b5 b6 b7 b8 b9 ba bb bc
     go_loopg [6] m (fun q kv w2 => ∃ k : Nat, k + q = m ∧ kv = .int .i64 (k : Int) ∧ (∀ i, i < k → atK l (nthQ M i) ≤ atx) ∧ ∃ d, w2 = V.drewN d)
     case atStart => exact ⟨0, by omega, rfl, fun i hi => by omega, 0, rfl⟩
     case round =>
      obtain ⟨k, hk, rfl, hbel, d, rfl⟩ := hrel
      by_cases hlt3 : k < m
      ·
       have i5 : (k : Int) < (m : Int) := by omega
       have i6 : (0 : Int) ≤ (k : Int) := by omega
       have hkM : k < M.length := by have := hm'h.out; omega
       have hSl := Sl.of_row hrow4'h.out (by have := hmb'h.out; unfold maxLen; omega)
       obtain ⟨b3, o3, rfl, -⟩ := hSl.some' (by omega)
       have e1 := cellQ hSl hkM
       have e1' : ∀ q, (V.drewN q).cell? ⟨b3, o3 + k, none⟩ = some (.int .i64 (nthQ M k : Int)) := fun q => e1
       have hyj := hMj'h.out k hkM
       obtain ⟨y, hy⟩ : ∃ y, y = nthQ M k := ⟨_, rfl⟩
       rw [← hy] at e1' hyj
       clear e1
       have k1 : (y : Int) < (n : Int) := by have := hlt'h.out; omega
       have k2 : (0 : Int) ≤ (y : Int) := by omega
       have f1 := hS3'h.out.cells (k := y) (by have := hjl'h.out; omega) (i := 10) (v := .int .i64 (nthM l y).md.at') (by omega) rfl
       have f1' : ∀ q, (V.drewN q).cell? ⟨b, off + y * 13 + 10, none⟩ = some (.int .i64 (nthM l y).md.at') := fun q => f1
       have hay : atK l y = (nthM l y).md.at' := rfl
       obtain ⟨aty, haty⟩ : ∃ aty, aty = (nthM l y).md.at' := ⟨_, rfl⟩
       rw [← haty] at f1' hay
       clear f1 haty
       by_cases hyk : aty ≤ atx
       ·
        have hbel2 : ∀ i, i < k + 1 → atK l (nthQ M i) ≤ atx := fun i hi => by
         by_cases e : i = k
         ·
          rw [e, ← hy, hay]; exact hyk
         ·
          exact hbel i (by omega)
        have q1 : (k : Int) + 1 ≤ 2000 := by have := hmb'h.out; omega
        clear hSl hbel hy hyj hay
        have hk'h := Lib.hid hk
        have hbel2'h := Lib.hid hbel2
        clear hk hbel2
        go_wp2_with fail
        go_quiet (fail)
        go_wp2
        go_roundg (gk - 1)
        case measure => have := hk'h.out; omega
        case rel => exact ⟨k + 1, by have := hk'h.out; omega, by go_num, hbel2'h.out, d + nq, rfl⟩
       ·
        have hins := dIns_at (l := l) (j := j) (M := M) (k := k) (by omega) (fun i hi => by rw [hat'h.out]; exact hbel i hi) (fun _ => by rw [hat'h.out, ← hy, hay]; omega)
        rw [← hn2'h.out] at hins
        clear hbel hy hyj hay
        have hins'h := Lib.hid hins
        have hSl'h := Lib.hid hSl
        clear hins hSl
        go_wp2_with fail
        go_quiet (fail)
        go_upto_region 9 with fail
        generalize hWW : World.drewN _ _ = W
        have hB5 : Below V.heap.size V W := by rw [← hWW]; exact (below_drewN' _ _).trans (below_drewN' _ _)
        clear hWW e1' f1' a1 i5 i6 k1 k2 hyk c1 h1 h2
        have hBw := below_next hB4'h.out hB5
        have hrow5 := ownsRow_next hrow4'h.out hB5
        have hSl5 := Sl.of_row hrow5 (by have := hmb'h.out; unfold maxLen; omega)
        have hcp : m ≤ cap2 := by obtain ⟨_, _, e, h1, -, -⟩ := row_form hrow5; injection e with _ _ e; omega
        clear hB5
        obtain ⟨mr, hmr⟩ : ∃ mr, m = k + mr := ⟨m - k, by omega⟩
        obtain ⟨cr, hcr⟩ : ∃ cr, cap2 = m + cr := ⟨cap2 - m, by omega⟩
        subst hcr
        subst hmr
        have j1 : ¬ ((k : Int) + (mr : Int) + (cr : Int) < (k : Int)) := by omega
        have j2 : (k : Int) ≤ (k : Int) + (mr : Int) := by omega
        have j3 : (0 : Int) ≤ (k : Int) := by omega
        have hBw'h := Lib.hid hBw
        have hrow5'h := Lib.hid hrow5
        have hSl5'h := Lib.hid hSl5
        clear hBw hrow5 hSl5
        refine wp_region_heldF (fun w' => Below W.heap.size W w') 99 (by kernel_rfl) ?_
        have R := (Below.refl W.heap.size W).drew
        generalize W.drew = V0 at R ⊢
        refine wpAnyF_take (i := 1) (v := .slice (some ⟨b3, o3, none⟩) (k + mr) (k + mr + cr)) rfl (by kernel_rfl) (by kernel_rfl) (by kernel_rfl) (by kernel_rfl) (fun _ _ _ h => h) (Or.inl ⟨by kernel_rfl, fun w hSw => by (try dsimp only at hSw); go_simp⟩) R ?_; try simp only [Act.put, List.getElem_toArray, List.getElem_cons_succ, List.getElem_cons_zero, List.setIfInBounds_toArray, List.set_cons_zero, List.set_cons_succ]
        refine wpAnyF_take (i := 2) (v := .int .i64 (k : Int)) rfl (by kernel_rfl) (by kernel_rfl) (by kernel_rfl) (by kernel_rfl) (fun _ _ _ h => h) (Or.inl ⟨by kernel_rfl, fun w hSw => by (try dsimp only at hSw); go_simp⟩) R ?_; try simp only [Act.put, List.getElem_toArray, List.getElem_cons_succ, List.getElem_cons_zero, List.setIfInBounds_toArray, List.set_cons_zero, List.set_cons_succ]
        refine wpAnyF_take (i := 3) (v := .slice (some ⟨b3, o3, none⟩) k (k + mr + cr)) rfl (by kernel_rfl) (by kernel_rfl) (by kernel_rfl) (by kernel_rfl) (fun _ _ _ h => h) (Or.inl ⟨by kernel_rfl, fun w hSw => by (try dsimp only at hSw); go_simp⟩) R ?_; try simp only [Act.put, List.getElem_toArray, List.getElem_cons_succ, List.getElem_cons_zero, List.setIfInBounds_toArray, List.set_cons_zero, List.set_cons_succ]
        refine wpAnyF_take (i := 5) (v := .int .i64 (j : Int)) rfl (by kernel_rfl) (by kernel_rfl) (by kernel_rfl) (by kernel_rfl) (fun _ _ _ h => h) (Or.inl ⟨by kernel_rfl, fun w hSw => by (try dsimp only at hSw); go_simp⟩) R ?_; try simp only [Act.put, List.getElem_toArray, List.getElem_cons_succ, List.getElem_cons_zero, List.setIfInBounds_toArray, List.set_cons_zero, List.set_cons_succ]
        refine wpAnyF_take (i := 8) (v := .slice (some ⟨b3, o3, none⟩) (k + mr) (k + mr + cr)) rfl (by kernel_rfl) (by kernel_rfl) (by kernel_rfl) (by kernel_rfl) (fun _ _ _ h => h) (Or.inl ⟨by kernel_rfl, fun w hSw => by (try dsimp only at hSw); go_simp⟩) R ?_; try simp only [Act.put, List.getElem_toArray, List.getElem_cons_succ, List.getElem_cons_zero, List.setIfInBounds_toArray, List.set_cons_zero, List.set_cons_succ]
        refine wpAnyF_take (i := 9) (v := .int .i64 (k : Int)) rfl (by kernel_rfl) (by kernel_rfl) (by kernel_rfl) (by kernel_rfl) (fun _ _ _ h => h) (Or.inl ⟨by kernel_rfl, fun w hSw => by (try dsimp only at hSw); go_simp⟩) R ?_; try simp only [Act.put, List.getElem_toArray, List.getElem_cons_succ, List.getElem_cons_zero, List.setIfInBounds_toArray, List.set_cons_zero, List.set_cons_succ]
        refine wpAnyF_take (i := 10) (v := .slice (if k + mr + cr = k then some ⟨b3, o3, none⟩ else some ⟨b3, o3 + k, none⟩) mr (k + mr + cr - k)) rfl (by kernel_rfl) (by kernel_rfl) (by kernel_rfl) (by kernel_rfl) (fun _ _ _ h => h) (Or.inl ⟨by kernel_rfl, fun w hSw => by (try dsimp only at hSw); go_simp⟩) R ?_; try simp only [Act.put, List.getElem_toArray, List.getElem_cons_succ, List.getElem_cons_zero, List.setIfInBounds_toArray, List.set_cons_zero, List.set_cons_succ]
        have hT0 : Sl W (some ⟨b3, o3, none⟩) k (ints (M.take k)) := by rw [← ints_take]; exact hSl5'h.out.take k (by omega)
        have hD0 : SlK W 1 (if k + mr + cr = k then some ⟨b3, o3, none⟩ else some ⟨b3, o3 + k, none⟩) mr (ints (M.drop k)) := drop_ints hSl5'h.out
        generalize (if k + mr + cr = k then some (⟨b3, o3, none⟩ : Addr) else some ⟨b3, o3 + k, none⟩) = dp at hD0 ⊢
        have hT0'h := Lib.hid hT0
        have hD0'h := Lib.hid hD0
        clear hT0 hD0
        refine wpAnyF_two (i := 0) (j := 6) (by kernel_rfl) rfl rfl (fun K hK => ?_) (fun K hK => ?_)
        ·
         go_simp
         have hA1 := (Below.refl V0.heap.size V0).alloc (Nat.le_refl _) (.cells #[] 3)
         have hrA : (V0.alloc (.cells #[] 3)).ownsRow W.heap.size 3 1 (.slice (some ⟨V0.heap.size, 0, none⟩) 0 0) 0 [] := ownsRow_mono (own_lit' V0 3 0 #[] rfl (by decide)) R.size
         have R1 := below_next R hA1
         have hlo : V0.heap.size < (V0.alloc (.cells #[] 3)).heap.size := by simp
         clear R hA1
         refine hK.out _ _ (fun _ => R1) ?_; clear hK K; try simp only [Act.put, List.getElem_toArray, List.getElem_cons_succ, List.getElem_cons_zero, List.setIfInBounds_toArray, List.set_cons_zero, List.set_cons_succ]
         generalize V0.heap.size = e0 at hrA hlo ⊢
         generalize V0.alloc _ = V1 at hrA R1 hlo ⊢
         refine wpAnyF_two (i := 4) (j := 6) (by kernel_rfl) rfl rfl (fun K hK => ?_) (fun K hK => ?_)
         ·
          refine step_append_slk _ rfl (.tmp 42) (.tmp 45) 23 rfl W.heap.size 3 i0 (.int .i64 0) 1 8 Tryz.underlying23 hi hz hs hby rfl (by decide) _ 0 [] rfl hrA (some ⟨b3, o3, none⟩) k (k + mr + cr) _ rfl (SlK.of_sl (hT0'h.out.below R1)) (ints_one' _) (by have := hmb'h.out; unfold maxLen; omega) (by have := hmb'h.out; omega) R1.size ?_
          intro v1 V2 hown2 hgrow2 hwh2
          rw [Nat.zero_add, List.nil_append] at hown2
          have R2 := R1.grown hgrow2 R1.size (fun q hq => (hrA.lt q hq).1)
          clear hrA R1 hgrow2 hwh2
          refine hK.out _ _ (fun _ => R2) ?_; clear hK K; try simp only [Act.put, List.getElem_toArray, List.getElem_cons_succ, List.getElem_cons_zero, List.setIfInBounds_toArray, List.set_cons_zero, List.set_cons_succ]
          refine wpAnyF_one (i := 6) (by kernel_rfl) rfl (fun K hK => ?_); go_simp
          have hA2 := (Below.refl V2.heap.size V2).alloc (Nat.le_refl _) (.cells #[.int .i64 (j : Int)] 3)
          have hkey : SlK (V2.alloc (.cells #[.int .i64 (j : Int)] 3)) 1 (some ⟨V2.heap.size, 0, none⟩) 1 (ints [j]) := SlK.of_blk (World.alloc_heap_new _ _) rfl (by decide)
          have R3 := below_next R2 hA2
          have hown3 := ownsRow_next hown2 hA2
          clear R2 hown2 hA2
          refine hK.out _ _ (fun _ => R3) ?_; clear hK K; try simp only [Act.put, List.getElem_toArray, List.getElem_cons_succ, List.getElem_cons_zero, List.setIfInBounds_toArray, List.set_cons_zero, List.set_cons_succ]
          generalize V2.heap.size = kb at hkey ⊢
          generalize V2.alloc _ = V3 at hkey hown3 R3 ⊢
          refine wpAnyF_one (i := 7) (by kernel_rfl) rfl (fun K hK => ?_)
          refine step_append_slk _ rfl (.tmp 46) (.tmp 48) 23 rfl W.heap.size 3 i0 (.int .i64 0) 1 8 Tryz.underlying23 hi hz hs hby rfl (by decide) _ k _ rfl hown3 (some ⟨kb, 0, none⟩) 1 1 _ rfl hkey (ints_one' _) (by have := hmb'h.out; unfold maxLen; omega) (by have := hmb'h.out; omega) R3.size ?_
          intro v2 V4 hown4 hgrow4 hwh4
          have R4 := R3.grown hgrow4 R3.size (fun q hq => (hown3.lt q hq).1)
          clear hown3 R3 hgrow4 hwh4 hkey
          refine hK.out _ _ (fun _ => R4) ?_; clear hK K; try simp only [Act.put, List.getElem_toArray, List.getElem_cons_succ, List.getElem_cons_zero, List.setIfInBounds_toArray, List.set_cons_zero, List.set_cons_succ]
          refine wpAnyF_one (i := 11) (by kernel_rfl) rfl (fun K hK => ?_)
          refine step_append_slk _ rfl (.tmp 49) (.tmp 52) 23 rfl W.heap.size 3 i0 (.int .i64 0) 1 8 Tryz.underlying23 hi hz hs hby rfl (by decide) _ (k + 1) _ rfl hown4 (dp) mr (k + mr + cr - k) _ rfl (hD0'h.out.below R4) (ints_one' _) (by have := hmb'h.out; unfold maxLen; omega) (by have := hmb'h.out; omega) R4.size ?_
          intro v3 V5 hown5 hgrow5 hwh5
          have R5 := R4.grown hgrow5 R4.size (fun q hq => (hown4.lt q hq).1)
          obtain ⟨sv3, cv3, rfl⟩ := row_slice' hown5
          clear hown4 R4 hgrow5 hwh5
          refine hK.out _ _ (fun _ => R5) ?_; clear hK K; try simp only [Act.put, List.getElem_toArray, List.getElem_cons_succ, List.getElem_cons_zero, List.setIfInBounds_toArray, List.set_cons_zero, List.set_cons_succ]
          refine wpAnyF_take (i := 12) (v := .slice sv3 (k + 1 + mr) cv3) rfl (by kernel_rfl) (by kernel_rfl) (by kernel_rfl) (by kernel_rfl) (fun _ _ _ h => h) (Or.inl ⟨by kernel_rfl, fun w hSw => by (try dsimp only at hSw); go_simp⟩) R5 ?_; try simp only [Act.put, List.getElem_toArray, List.getElem_cons_succ, List.getElem_cons_zero, List.setIfInBounds_toArray, List.set_cons_zero, List.set_cons_succ]
          refine wpAnyF_done (by kernel_rfl) ?_ _
          have hbl := below_next hBw'h.out R5
          have hil : (dByAt l (j + 1)).length = k + 1 + mr := by
           rw [hins'h.out]
           have := hm'h.out
           simp only [List.length_append, List.length_take, List.length_cons, List.length_drop]
           omega
          have hiu : ints (dByAt l (j + 1)) = ints (M.take k) ++ ints [j] ++ ints (M.drop k) := by
           rw [hins'h.out]
           unfold ints
           simp
          have hown6 := ownsRow_mono hown5 (base' := w.heap.size) (by have := hBw'h.out.size; omega)
          rw [← hiu] at hown6
          clear R5 hown5 hiu j1 j2 j3
          have hbl'h := Lib.hid hbl
          have hil'h := Lib.hid hil
          have hown6'h := Lib.hid hown6
          clear hbl hil hown6
          go_wp2
          go_roundg (go - 1)
          case measure => have := hj'h.out; have := hlt'h.out; omega
          case rel => exact ⟨j + 1, by have := hj'h.out; have := hlt'h.out; omega, by go_num, by rw [hil'h.out]; exact hown6'h.out, hbl'h.out⟩
         ·
          go_simp
          have hA2 := (Below.refl V1.heap.size V1).alloc (Nat.le_refl _) (.cells #[.int .i64 (j : Int)] 3)
          have hkb : (V1.alloc (.cells #[.int .i64 (j : Int)] 3)).heap[V1.heap.size]? = some (.cells #[.int .i64 (j : Int)] 3 (0, 0)) := World.alloc_heap_new _ _
          have R2 := below_next R1 hA2
          have hrB := ownsRow_next hrA hA2
          have hne : e0 ≠ V1.heap.size := by omega
          clear R1 hrA hA2 hlo
          refine hK.out _ _ (fun _ => R2) ?_; clear hK K; try simp only [Act.put, List.getElem_toArray, List.getElem_cons_succ, List.getElem_cons_zero, List.setIfInBounds_toArray, List.set_cons_zero, List.set_cons_succ]
          generalize V1.heap.size = kb at hkb hne ⊢
          generalize V1.alloc _ = V2 at hkb hrB R2 ⊢
          refine wpAnyF_one (i := 4) (by kernel_rfl) rfl (fun K hK => ?_)
          refine step_append_slk _ rfl (.tmp 42) (.tmp 45) 23 rfl W.heap.size 3 i0 (.int .i64 0) 1 8 Tryz.underlying23 hi hz hs hby rfl (by decide) _ 0 [] rfl hrB (some ⟨b3, o3, none⟩) k (k + mr + cr) _ rfl (SlK.of_sl (hT0'h.out.below R2)) (ints_one' _) (by have := hmb'h.out; unfold maxLen; omega) (by have := hmb'h.out; omega) R2.size ?_
          intro v1 V3 hown3 hgrow3 hwh3
          rw [Nat.zero_add, List.nil_append] at hown3
          have R3 := R2.grown hgrow3 R2.size (fun q hq => (hrB.lt q hq).1)
          have hkb3 := (hgrow3.block kb (lt_of_heap hkb) (fun e => hne (by injection e with e; exact e.symm))).trans hkb
          have hkey : SlK V3 1 (some ⟨kb, 0, none⟩) 1 (ints [j]) := SlK.of_blk hkb3 rfl (by decide)
          clear hrB R2 hgrow3 hwh3 hkb hkb3 hne
          refine hK.out _ _ (fun _ => R3) ?_; clear hK K; try simp only [Act.put, List.getElem_toArray, List.getElem_cons_succ, List.getElem_cons_zero, List.setIfInBounds_toArray, List.set_cons_zero, List.set_cons_succ]
          refine wpAnyF_one (i := 7) (by kernel_rfl) rfl (fun K hK => ?_)
          refine step_append_slk _ rfl (.tmp 46) (.tmp 48) 23 rfl W.heap.size 3 i0 (.int .i64 0) 1 8 Tryz.underlying23 hi hz hs hby rfl (by decide) _ k _ rfl hown3 (some ⟨kb, 0, none⟩) 1 1 _ rfl hkey (ints_one' _) (by have := hmb'h.out; unfold maxLen; omega) (by have := hmb'h.out; omega) R3.size ?_
          intro v2 V4 hown4 hgrow4 hwh4
          have R4 := R3.grown hgrow4 R3.size (fun q hq => (hown3.lt q hq).1)
          clear hown3 R3 hgrow4 hwh4 hkey
          refine hK.out _ _ (fun _ => R4) ?_; clear hK K; try simp only [Act.put, List.getElem_toArray, List.getElem_cons_succ, List.getElem_cons_zero, List.setIfInBounds_toArray, List.set_cons_zero, List.set_cons_succ]
          refine wpAnyF_one (i := 11) (by kernel_rfl) rfl (fun K hK => ?_)
          refine step_append_slk _ rfl (.tmp 49) (.tmp 52) 23 rfl W.heap.size 3 i0 (.int .i64 0) 1 8 Tryz.underlying23 hi hz hs hby rfl (by decide) _ (k + 1) _ rfl hown4 (dp) mr (k + mr + cr - k) _ rfl (hD0'h.out.below R4) (ints_one' _) (by have := hmb'h.out; unfold maxLen; omega) (by have := hmb'h.out; omega) R4.size ?_
          intro v3 V5 hown5 hgrow5 hwh5
          have R5 := R4.grown hgrow5 R4.size (fun q hq => (hown4.lt q hq).1)
          obtain ⟨sv3, cv3, rfl⟩ := row_slice' hown5
          clear hown4 R4 hgrow5 hwh5
          refine hK.out _ _ (fun _ => R5) ?_; clear hK K; try simp only [Act.put, List.getElem_toArray, List.getElem_cons_succ, List.getElem_cons_zero, List.setIfInBounds_toArray, List.set_cons_zero, List.set_cons_succ]
          refine wpAnyF_take (i := 12) (v := .slice sv3 (k + 1 + mr) cv3) rfl (by kernel_rfl) (by kernel_rfl) (by kernel_rfl) (by kernel_rfl) (fun _ _ _ h => h) (Or.inl ⟨by kernel_rfl, fun w hSw => by (try dsimp only at hSw); go_simp⟩) R5 ?_; try simp only [Act.put, List.getElem_toArray, List.getElem_cons_succ, List.getElem_cons_zero, List.setIfInBounds_toArray, List.set_cons_zero, List.set_cons_succ]
          refine wpAnyF_done (by kernel_rfl) ?_ _
          have hbl := below_next hBw'h.out R5
          have hil : (dByAt l (j + 1)).length = k + 1 + mr := by
           rw [hins'h.out]
           have := hm'h.out
           simp only [List.length_append, List.length_take, List.length_cons, List.length_drop]
           omega
          have hiu : ints (dByAt l (j + 1)) = ints (M.take k) ++ ints [j] ++ ints (M.drop k) := by
           rw [hins'h.out]
           unfold ints
           simp
          have hown6 := ownsRow_mono hown5 (base' := w.heap.size) (by have := hBw'h.out.size; omega)
          rw [← hiu] at hown6
          clear R5 hown5 hiu j1 j2 j3
          have hbl'h := Lib.hid hbl
          have hil'h := Lib.hid hil
          have hown6'h := Lib.hid hown6
          clear hbl hil hown6
          go_wp2
          go_roundg (go - 1)
          case measure => have := hj'h.out; have := hlt'h.out; omega
          case rel => exact ⟨j + 1, by have := hj'h.out; have := hlt'h.out; omega, by go_num, by rw [hil'h.out]; exact hown6'h.out, hbl'h.out⟩
        ·
         go_simp
         have hA1 := (Below.refl V0.heap.size V0).alloc (Nat.le_refl _) (.cells #[.int .i64 (j : Int)] 3)
         have hkb0 : (V0.alloc (.cells #[.int .i64 (j : Int)] 3)).heap[V0.heap.size]? = some (.cells #[.int .i64 (j : Int)] 3 (0, 0)) := World.alloc_heap_new _ _
         have R1 := below_next R hA1
         have hlo := lt_of_heap hkb0
         clear R hA1
         refine hK.out _ _ (fun _ => R1) ?_; clear hK K; try simp only [Act.put, List.getElem_toArray, List.getElem_cons_succ, List.getElem_cons_zero, List.setIfInBounds_toArray, List.set_cons_zero, List.set_cons_succ]
         generalize V0.heap.size = kb at hkb0 hlo ⊢
         generalize V0.alloc _ = V1 at hkb0 R1 hlo ⊢
         refine wpAnyF_one (i := 0) (by kernel_rfl) rfl (fun K hK => ?_); go_simp
         have hA2 := (Below.refl V1.heap.size V1).alloc (Nat.le_refl _) (.cells #[] 3)
         have hrB : (V1.alloc (.cells #[] 3)).ownsRow W.heap.size 3 1 (.slice (some ⟨V1.heap.size, 0, none⟩) 0 0) 0 [] := ownsRow_mono (own_lit' V1 3 0 #[] rfl (by decide)) R1.size
         have hkb := heap_below hA2 hkb0 hlo
         have R2 := below_next R1 hA2
         have hne : V1.heap.size ≠ kb := by omega
         clear R1 hA2 hkb0 hlo
         refine hK.out _ _ (fun _ => R2) ?_; clear hK K; try simp only [Act.put, List.getElem_toArray, List.getElem_cons_succ, List.getElem_cons_zero, List.setIfInBounds_toArray, List.set_cons_zero, List.set_cons_succ]
         generalize V1.heap.size = e0 at hrB hne ⊢
         generalize V1.alloc _ = V2 at hkb hrB R2 ⊢
         refine wpAnyF_one (i := 4) (by kernel_rfl) rfl (fun K hK => ?_)
         refine step_append_slk _ rfl (.tmp 42) (.tmp 45) 23 rfl W.heap.size 3 i0 (.int .i64 0) 1 8 Tryz.underlying23 hi hz hs hby rfl (by decide) _ 0 [] rfl hrB (some ⟨b3, o3, none⟩) k (k + mr + cr) _ rfl (SlK.of_sl (hT0'h.out.below R2)) (ints_one' _) (by have := hmb'h.out; unfold maxLen; omega) (by have := hmb'h.out; omega) R2.size ?_
         intro v1 V3 hown3 hgrow3 hwh3
         rw [Nat.zero_add, List.nil_append] at hown3
         have R3 := R2.grown hgrow3 R2.size (fun q hq => (hrB.lt q hq).1)
         have hkb3 := (hgrow3.block kb (lt_of_heap hkb) (fun e => hne (by injection e with e; exact e.symm))).trans hkb
         have hkey : SlK V3 1 (some ⟨kb, 0, none⟩) 1 (ints [j]) := SlK.of_blk hkb3 rfl (by decide)
         clear hrB R2 hgrow3 hwh3 hkb hkb3 hne
         refine hK.out _ _ (fun _ => R3) ?_; clear hK K; try simp only [Act.put, List.getElem_toArray, List.getElem_cons_succ, List.getElem_cons_zero, List.setIfInBounds_toArray, List.set_cons_zero, List.set_cons_succ]
         refine wpAnyF_one (i := 7) (by kernel_rfl) rfl (fun K hK => ?_)
         refine step_append_slk _ rfl (.tmp 46) (.tmp 48) 23 rfl W.heap.size 3 i0 (.int .i64 0) 1 8 Tryz.underlying23 hi hz hs hby rfl (by decide) _ k _ rfl hown3 (some ⟨kb, 0, none⟩) 1 1 _ rfl hkey (ints_one' _) (by have := hmb'h.out; unfold maxLen; omega) (by have := hmb'h.out; omega) R3.size ?_
         intro v2 V4 hown4 hgrow4 hwh4
         have R4 := R3.grown hgrow4 R3.size (fun q hq => (hown3.lt q hq).1)
         clear hown3 R3 hgrow4 hwh4 hkey
         refine hK.out _ _ (fun _ => R4) ?_; clear hK K; try simp only [Act.put, List.getElem_toArray, List.getElem_cons_succ, List.getElem_cons_zero, List.setIfInBounds_toArray, List.set_cons_zero, List.set_cons_succ]
         refine wpAnyF_one (i := 11) (by kernel_rfl) rfl (fun K hK => ?_)
         refine step_append_slk _ rfl (.tmp 49) (.tmp 52) 23 rfl W.heap.size 3 i0 (.int .i64 0) 1 8 Tryz.underlying23 hi hz hs hby rfl (by decide) _ (k + 1) _ rfl hown4 (dp) mr (k + mr + cr - k) _ rfl (hD0'h.out.below R4) (ints_one' _) (by have := hmb'h.out; unfold maxLen; omega) (by have := hmb'h.out; omega) R4.size ?_
         intro v3 V5 hown5 hgrow5 hwh5
         have R5 := R4.grown hgrow5 R4.size (fun q hq => (hown4.lt q hq).1)
         obtain ⟨sv3, cv3, rfl⟩ := row_slice' hown5
         clear hown4 R4 hgrow5 hwh5
         refine hK.out _ _ (fun _ => R5) ?_; clear hK K; try simp only [Act.put, List.getElem_toArray, List.getElem_cons_succ, List.getElem_cons_zero, List.setIfInBounds_toArray, List.set_cons_zero, List.set_cons_succ]
         refine wpAnyF_take (i := 12) (v := .slice sv3 (k + 1 + mr) cv3) rfl (by kernel_rfl) (by kernel_rfl) (by kernel_rfl) (by kernel_rfl) (fun _ _ _ h => h) (Or.inl ⟨by kernel_rfl, fun w hSw => by (try dsimp only at hSw); go_simp⟩) R5 ?_; try simp only [Act.put, List.getElem_toArray, List.getElem_cons_succ, List.getElem_cons_zero, List.setIfInBounds_toArray, List.set_cons_zero, List.set_cons_succ]
         refine wpAnyF_done (by kernel_rfl) ?_ _
         have hbl := below_next hBw'h.out R5
         have hil : (dByAt l (j + 1)).length = k + 1 + mr := by
          rw [hins'h.out]
          have := hm'h.out
          simp only [List.length_append, List.length_take, List.length_cons, List.length_drop]
          omega
         have hiu : ints (dByAt l (j + 1)) = ints (M.take k) ++ ints [j] ++ ints (M.drop k) := by
          rw [hins'h.out]
          unfold ints
          simp
         have hown6 := ownsRow_mono hown5 (base' := w.heap.size) (by have := hBw'h.out.size; omega)
         rw [← hiu] at hown6
         clear R5 hown5 hiu j1 j2 j3
         have hbl'h := Lib.hid hbl
         have hil'h := Lib.hid hil
         have hown6'h := Lib.hid hown6
         clear hbl hil hown6
         go_wp2
         go_roundg (go - 1)
         case measure => have := hj'h.out; have := hlt'h.out; omega
         case rel => exact ⟨j + 1, by have := hj'h.out; have := hlt'h.out; omega, by go_num, by rw [hil'h.out]; exact hown6'h.out, hbl'h.out⟩
      ·
       have i5 : ¬ (k : Int) < (m : Int) := by omega
       obtain rfl : k = m := by omega
       have hins := dIns_at (l := l) (j := j) (M := M) (k := k) (by have := hm'h.out; omega) (fun i hi => by rw [hat'h.out]; exact hbel i hi) (fun h => by have := hm'h.out; omega)
       rw [← hn2'h.out] at hins
       clear hbel
       cases sp2 with
       | none =>
        obtain ⟨rfl, rfl⟩ : k = 0 ∧ cap2 = 0 := by
         obtain ⟨_, _, e, h1, h2, -⟩ := row_form hrow4'h.out
         injection e with e1 e2 e3
         have := h2 e1.symm
         omega
        have hMn : M = [] := List.eq_nil_of_length_eq_zero (by have := hm'h.out; omega)
        clear i5
        have hins'h := Lib.hid hins
        have hMn'h := Lib.hid hMn
        clear hins hMn
        go_wp2_with fail
        go_quiet (fail)
        go_upto_region 9 with fail
        generalize hWW : World.drewN _ _ = W
        have hB5 : Below V.heap.size V W := by rw [← hWW]; exact (below_drewN' _ _).trans (below_drewN' _ _)
        clear hWW a1 c1 h1 h2
        have hBw := below_next hB4'h.out hB5
        clear hB5
        have hBw'h := Lib.hid hBw
        clear hBw
        refine wp_region_heldF (fun w' => Below W.heap.size W w') 99 (by kernel_rfl) ?_
        have R := (Below.refl W.heap.size W).drew
        generalize W.drew = V0 at R ⊢
        refine wpAnyF_take (i := 1) (v := .slice none 0 0) rfl (by kernel_rfl) (by kernel_rfl) (by kernel_rfl) (by kernel_rfl) (fun _ _ _ h => h) (Or.inl ⟨by kernel_rfl, fun w hSw => by (try dsimp only at hSw); go_simp⟩) R ?_; try simp only [Act.put, List.getElem_toArray, List.getElem_cons_succ, List.getElem_cons_zero, List.setIfInBounds_toArray, List.set_cons_zero, List.set_cons_succ]
        refine wpAnyF_take (i := 2) (v := .int .i64 0) rfl (by kernel_rfl) (by kernel_rfl) (by kernel_rfl) (by kernel_rfl) (fun _ _ _ h => h) (Or.inl ⟨by kernel_rfl, fun w hSw => by (try dsimp only at hSw); go_simp⟩) R ?_; try simp only [Act.put, List.getElem_toArray, List.getElem_cons_succ, List.getElem_cons_zero, List.setIfInBounds_toArray, List.set_cons_zero, List.set_cons_succ]
        refine wpAnyF_take (i := 3) (v := .slice none 0 0) rfl (by kernel_rfl) (by kernel_rfl) (by kernel_rfl) (by kernel_rfl) (fun _ _ _ h => h) (Or.inl ⟨by kernel_rfl, fun w hSw => by (try dsimp only at hSw); go_simp⟩) R ?_; try simp only [Act.put, List.getElem_toArray, List.getElem_cons_succ, List.getElem_cons_zero, List.setIfInBounds_toArray, List.set_cons_zero, List.set_cons_succ]
        refine wpAnyF_take (i := 5) (v := .int .i64 (j : Int)) rfl (by kernel_rfl) (by kernel_rfl) (by kernel_rfl) (by kernel_rfl) (fun _ _ _ h => h) (Or.inl ⟨by kernel_rfl, fun w hSw => by (try dsimp only at hSw); go_simp⟩) R ?_; try simp only [Act.put, List.getElem_toArray, List.getElem_cons_succ, List.getElem_cons_zero, List.setIfInBounds_toArray, List.set_cons_zero, List.set_cons_succ]
        refine wpAnyF_take (i := 8) (v := .slice none 0 0) rfl (by kernel_rfl) (by kernel_rfl) (by kernel_rfl) (by kernel_rfl) (fun _ _ _ h => h) (Or.inl ⟨by kernel_rfl, fun w hSw => by (try dsimp only at hSw); go_simp⟩) R ?_; try simp only [Act.put, List.getElem_toArray, List.getElem_cons_succ, List.getElem_cons_zero, List.setIfInBounds_toArray, List.set_cons_zero, List.set_cons_succ]
        refine wpAnyF_take (i := 9) (v := .int .i64 0) rfl (by kernel_rfl) (by kernel_rfl) (by kernel_rfl) (by kernel_rfl) (fun _ _ _ h => h) (Or.inl ⟨by kernel_rfl, fun w hSw => by (try dsimp only at hSw); go_simp⟩) R ?_; try simp only [Act.put, List.getElem_toArray, List.getElem_cons_succ, List.getElem_cons_zero, List.setIfInBounds_toArray, List.set_cons_zero, List.set_cons_succ]
        refine wpAnyF_take (i := 10) (v := .slice none 0 0) rfl (by kernel_rfl) (by kernel_rfl) (by kernel_rfl) (by kernel_rfl) (fun _ _ _ h => h) (Or.inl ⟨by kernel_rfl, fun w hSw => by (try dsimp only at hSw); go_simp⟩) R ?_; try simp only [Act.put, List.getElem_toArray, List.getElem_cons_succ, List.getElem_cons_zero, List.setIfInBounds_toArray, List.set_cons_zero, List.set_cons_succ]
        have hT0 : Sl W none 0 (ints (M.take 0)) := ⟨rfl, Nat.zero_le _, .inl rfl⟩
        have hD0 : SlK W 1 none 0 (ints (M.drop 0)) := by rw [hMn'h.out]; exact SlK.nil _ _ _
        have j1 : True := trivial
        have j2 : True := trivial
        have j3 : True := trivial
        have hT0'h := Lib.hid hT0
        have hD0'h := Lib.hid hD0
        clear hT0 hD0
        refine wpAnyF_two (i := 0) (j := 6) (by kernel_rfl) rfl rfl (fun K hK => ?_) (fun K hK => ?_)
        ·
         go_simp
         have hA1 := (Below.refl V0.heap.size V0).alloc (Nat.le_refl _) (.cells #[] 3)
         have hrA : (V0.alloc (.cells #[] 3)).ownsRow W.heap.size 3 1 (.slice (some ⟨V0.heap.size, 0, none⟩) 0 0) 0 [] := ownsRow_mono (own_lit' V0 3 0 #[] rfl (by decide)) R.size
         have R1 := below_next R hA1
         have hlo : V0.heap.size < (V0.alloc (.cells #[] 3)).heap.size := by simp
         clear R hA1
         refine hK.out _ _ (fun _ => R1) ?_; clear hK K; try simp only [Act.put, List.getElem_toArray, List.getElem_cons_succ, List.getElem_cons_zero, List.setIfInBounds_toArray, List.set_cons_zero, List.set_cons_succ]
         generalize V0.heap.size = e0 at hrA hlo ⊢
         generalize V0.alloc _ = V1 at hrA R1 hlo ⊢
         refine wpAnyF_two (i := 4) (j := 6) (by kernel_rfl) rfl rfl (fun K hK => ?_) (fun K hK => ?_)
         ·
          refine step_append_slk _ rfl (.tmp 42) (.tmp 45) 23 rfl W.heap.size 3 i0 (.int .i64 0) 1 8 Tryz.underlying23 hi hz hs hby rfl (by decide) _ 0 [] rfl hrA (none) 0 (0) _ rfl (SlK.of_sl (hT0'h.out.below R1)) (ints_one' _) (by have := hmb'h.out; unfold maxLen; omega) (by have := hmb'h.out; omega) R1.size ?_
          intro v1 V2 hown2 hgrow2 hwh2
          rw [Nat.zero_add, List.nil_append] at hown2
          have R2 := R1.grown hgrow2 R1.size (fun q hq => (hrA.lt q hq).1)
          clear hrA R1 hgrow2 hwh2
          refine hK.out _ _ (fun _ => R2) ?_; clear hK K; try simp only [Act.put, List.getElem_toArray, List.getElem_cons_succ, List.getElem_cons_zero, List.setIfInBounds_toArray, List.set_cons_zero, List.set_cons_succ]
          refine wpAnyF_one (i := 6) (by kernel_rfl) rfl (fun K hK => ?_); go_simp
          have hA2 := (Below.refl V2.heap.size V2).alloc (Nat.le_refl _) (.cells #[.int .i64 (j : Int)] 3)
          have hkey : SlK (V2.alloc (.cells #[.int .i64 (j : Int)] 3)) 1 (some ⟨V2.heap.size, 0, none⟩) 1 (ints [j]) := SlK.of_blk (World.alloc_heap_new _ _) rfl (by decide)
          have R3 := below_next R2 hA2
          have hown3 := ownsRow_next hown2 hA2
          clear R2 hown2 hA2
          refine hK.out _ _ (fun _ => R3) ?_; clear hK K; try simp only [Act.put, List.getElem_toArray, List.getElem_cons_succ, List.getElem_cons_zero, List.setIfInBounds_toArray, List.set_cons_zero, List.set_cons_succ]
          generalize V2.heap.size = kb at hkey ⊢
          generalize V2.alloc _ = V3 at hkey hown3 R3 ⊢
          refine wpAnyF_one (i := 7) (by kernel_rfl) rfl (fun K hK => ?_)
          refine step_append_slk _ rfl (.tmp 46) (.tmp 48) 23 rfl W.heap.size 3 i0 (.int .i64 0) 1 8 Tryz.underlying23 hi hz hs hby rfl (by decide) _ 0 _ rfl hown3 (some ⟨kb, 0, none⟩) 1 1 _ rfl hkey (ints_one' _) (by have := hmb'h.out; unfold maxLen; omega) (by have := hmb'h.out; omega) R3.size ?_
          intro v2 V4 hown4 hgrow4 hwh4
          have R4 := R3.grown hgrow4 R3.size (fun q hq => (hown3.lt q hq).1)
          clear hown3 R3 hgrow4 hwh4 hkey
          refine hK.out _ _ (fun _ => R4) ?_; clear hK K; try simp only [Act.put, List.getElem_toArray, List.getElem_cons_succ, List.getElem_cons_zero, List.setIfInBounds_toArray, List.set_cons_zero, List.set_cons_succ]
          refine wpAnyF_one (i := 11) (by kernel_rfl) rfl (fun K hK => ?_)
          refine step_append_slk _ rfl (.tmp 49) (.tmp 52) 23 rfl W.heap.size 3 i0 (.int .i64 0) 1 8 Tryz.underlying23 hi hz hs hby rfl (by decide) _ (0 + 1) _ rfl hown4 (none) 0 (0) _ rfl (hD0'h.out.below R4) (ints_one' _) (by have := hmb'h.out; unfold maxLen; omega) (by have := hmb'h.out; omega) R4.size ?_
          intro v3 V5 hown5 hgrow5 hwh5
          have R5 := R4.grown hgrow5 R4.size (fun q hq => (hown4.lt q hq).1)
          obtain ⟨sv3, cv3, rfl⟩ := row_slice' hown5
          clear hown4 R4 hgrow5 hwh5
          refine hK.out _ _ (fun _ => R5) ?_; clear hK K; try simp only [Act.put, List.getElem_toArray, List.getElem_cons_succ, List.getElem_cons_zero, List.setIfInBounds_toArray, List.set_cons_zero, List.set_cons_succ]
          refine wpAnyF_take (i := 12) (v := .slice sv3 (0 + 1 + 0) cv3) rfl (by kernel_rfl) (by kernel_rfl) (by kernel_rfl) (by kernel_rfl) (fun _ _ _ h => h) (Or.inl ⟨by kernel_rfl, fun w hSw => by (try dsimp only at hSw); go_simp⟩) R5 ?_; try simp only [Act.put, List.getElem_toArray, List.getElem_cons_succ, List.getElem_cons_zero, List.setIfInBounds_toArray, List.set_cons_zero, List.set_cons_succ]
          refine wpAnyF_done (by kernel_rfl) ?_ _
          have hbl := below_next hBw'h.out R5
          have hil : (dByAt l (j + 1)).length = 0 + 1 + 0 := by
           rw [hins'h.out]
           have := hm'h.out
           simp only [List.length_append, List.length_take, List.length_cons, List.length_drop]
           omega
          have hiu : ints (dByAt l (j + 1)) = ints (M.take 0) ++ ints [j] ++ ints (M.drop 0) := by
           rw [hins'h.out]
           unfold ints
           simp
          have hown6 := ownsRow_mono hown5 (base' := w.heap.size) (by have := hBw'h.out.size; omega)
          rw [← hiu] at hown6
          clear R5 hown5 hiu j1 j2 j3
          have hbl'h := Lib.hid hbl
          have hil'h := Lib.hid hil
          have hown6'h := Lib.hid hown6
          clear hbl hil hown6
          go_wp2
          go_roundg (go - 1)
          case measure => have := hj'h.out; have := hlt'h.out; omega
          case rel => exact ⟨j + 1, by have := hj'h.out; have := hlt'h.out; omega, by go_num, by rw [hil'h.out]; exact hown6'h.out, hbl'h.out⟩
         ·
          go_simp
          have hA2 := (Below.refl V1.heap.size V1).alloc (Nat.le_refl _) (.cells #[.int .i64 (j : Int)] 3)
          have hkb : (V1.alloc (.cells #[.int .i64 (j : Int)] 3)).heap[V1.heap.size]? = some (.cells #[.int .i64 (j : Int)] 3 (0, 0)) := World.alloc_heap_new _ _
          have R2 := below_next R1 hA2
          have hrB := ownsRow_next hrA hA2
          have hne : e0 ≠ V1.heap.size := by omega
          clear R1 hrA hA2 hlo
          refine hK.out _ _ (fun _ => R2) ?_; clear hK K; try simp only [Act.put, List.getElem_toArray, List.getElem_cons_succ, List.getElem_cons_zero, List.setIfInBounds_toArray, List.set_cons_zero, List.set_cons_succ]
          generalize V1.heap.size = kb at hkb hne ⊢
          generalize V1.alloc _ = V2 at hkb hrB R2 ⊢
          refine wpAnyF_one (i := 4) (by kernel_rfl) rfl (fun K hK => ?_)
          refine step_append_slk _ rfl (.tmp 42) (.tmp 45) 23 rfl W.heap.size 3 i0 (.int .i64 0) 1 8 Tryz.underlying23 hi hz hs hby rfl (by decide) _ 0 [] rfl hrB (none) 0 (0) _ rfl (SlK.of_sl (hT0'h.out.below R2)) (ints_one' _) (by have := hmb'h.out; unfold maxLen; omega) (by have := hmb'h.out; omega) R2.size ?_
          intro v1 V3 hown3 hgrow3 hwh3
          rw [Nat.zero_add, List.nil_append] at hown3
          have R3 := R2.grown hgrow3 R2.size (fun q hq => (hrB.lt q hq).1)
          have hkb3 := (hgrow3.block kb (lt_of_heap hkb) (fun e => hne (by injection e with e; exact e.symm))).trans hkb
          have hkey : SlK V3 1 (some ⟨kb, 0, none⟩) 1 (ints [j]) := SlK.of_blk hkb3 rfl (by decide)
          clear hrB R2 hgrow3 hwh3 hkb hkb3 hne
          refine hK.out _ _ (fun _ => R3) ?_; clear hK K; try simp only [Act.put, List.getElem_toArray, List.getElem_cons_succ, List.getElem_cons_zero, List.setIfInBounds_toArray, List.set_cons_zero, List.set_cons_succ]
          refine wpAnyF_one (i := 7) (by kernel_rfl) rfl (fun K hK => ?_)
          refine step_append_slk _ rfl (.tmp 46) (.tmp 48) 23 rfl W.heap.size 3 i0 (.int .i64 0) 1 8 Tryz.underlying23 hi hz hs hby rfl (by decide) _ 0 _ rfl hown3 (some ⟨kb, 0, none⟩) 1 1 _ rfl hkey (ints_one' _) (by have := hmb'h.out; unfold maxLen; omega) (by have := hmb'h.out; omega) R3.size ?_
          intro v2 V4 hown4 hgrow4 hwh4
          have R4 := R3.grown hgrow4 R3.size (fun q hq => (hown3.lt q hq).1)
          clear hown3 R3 hgrow4 hwh4 hkey
          refine hK.out _ _ (fun _ => R4) ?_; clear hK K; try simp only [Act.put, List.getElem_toArray, List.getElem_cons_succ, List.getElem_cons_zero, List.setIfInBounds_toArray, List.set_cons_zero, List.set_cons_succ]
          refine wpAnyF_one (i := 11) (by kernel_rfl) rfl (fun K hK => ?_)
          refine step_append_slk _ rfl (.tmp 49) (.tmp 52) 23 rfl W.heap.size 3 i0 (.int .i64 0) 1 8 Tryz.underlying23 hi hz hs hby rfl (by decide) _ (0 + 1) _ rfl hown4 (none) 0 (0) _ rfl (hD0'h.out.below R4) (ints_one' _) (by have := hmb'h.out; unfold maxLen; omega) (by have := hmb'h.out; omega) R4.size ?_
          intro v3 V5 hown5 hgrow5 hwh5
          have R5 := R4.grown hgrow5 R4.size (fun q hq => (hown4.lt q hq).1)
          obtain ⟨sv3, cv3, rfl⟩ := row_slice' hown5
          clear hown4 R4 hgrow5 hwh5
          refine hK.out _ _ (fun _ => R5) ?_; clear hK K; try simp only [Act.put, List.getElem_toArray, List.getElem_cons_succ, List.getElem_cons_zero, List.setIfInBounds_toArray, List.set_cons_zero, List.set_cons_succ]
          refine wpAnyF_take (i := 12) (v := .slice sv3 (0 + 1 + 0) cv3) rfl (by kernel_rfl) (by kernel_rfl) (by kernel_rfl) (by kernel_rfl) (fun _ _ _ h => h) (Or.inl ⟨by kernel_rfl, fun w hSw => by (try dsimp only at hSw); go_simp⟩) R5 ?_; try simp only [Act.put, List.getElem_toArray, List.getElem_cons_succ, List.getElem_cons_zero, List.setIfInBounds_toArray, List.set_cons_zero, List.set_cons_succ]
          refine wpAnyF_done (by kernel_rfl) ?_ _
          have hbl := below_next hBw'h.out R5
          have hil : (dByAt l (j + 1)).length = 0 + 1 + 0 := by
           rw [hins'h.out]
           have := hm'h.out
           simp only [List.length_append, List.length_take, List.length_cons, List.length_drop]
           omega
          have hiu : ints (dByAt l (j + 1)) = ints (M.take 0) ++ ints [j] ++ ints (M.drop 0) := by
           rw [hins'h.out]
           unfold ints
           simp
          have hown6 := ownsRow_mono hown5 (base' := w.heap.size) (by have := hBw'h.out.size; omega)
          rw [← hiu] at hown6
          clear R5 hown5 hiu j1 j2 j3
          have hbl'h := Lib.hid hbl
          have hil'h := Lib.hid hil
          have hown6'h := Lib.hid hown6
          clear hbl hil hown6
          go_wp2
          go_roundg (go - 1)
          case measure => have := hj'h.out; have := hlt'h.out; omega
          case rel => exact ⟨j + 1, by have := hj'h.out; have := hlt'h.out; omega, by go_num, by rw [hil'h.out]; exact hown6'h.out, hbl'h.out⟩
        ·
         go_simp
         have hA1 := (Below.refl V0.heap.size V0).alloc (Nat.le_refl _) (.cells #[.int .i64 (j : Int)] 3)
         have hkb0 : (V0.alloc (.cells #[.int .i64 (j : Int)] 3)).heap[V0.heap.size]? = some (.cells #[.int .i64 (j : Int)] 3 (0, 0)) := World.alloc_heap_new _ _
         have R1 := below_next R hA1
         have hlo := lt_of_heap hkb0
         clear R hA1
         refine hK.out _ _ (fun _ => R1) ?_; clear hK K; try simp only [Act.put, List.getElem_toArray, List.getElem_cons_succ, List.getElem_cons_zero, List.setIfInBounds_toArray, List.set_cons_zero, List.set_cons_succ]
         generalize V0.heap.size = kb at hkb0 hlo ⊢
         generalize V0.alloc _ = V1 at hkb0 R1 hlo ⊢
         refine wpAnyF_one (i := 0) (by kernel_rfl) rfl (fun K hK => ?_); go_simp
         have hA2 := (Below.refl V1.heap.size V1).alloc (Nat.le_refl _) (.cells #[] 3)
         have hrB : (V1.alloc (.cells #[] 3)).ownsRow W.heap.size 3 1 (.slice (some ⟨V1.heap.size, 0, none⟩) 0 0) 0 [] := ownsRow_mono (own_lit' V1 3 0 #[] rfl (by decide)) R1.size
         have hkb := heap_below hA2 hkb0 hlo
         have R2 := below_next R1 hA2
         have hne : V1.heap.size ≠ kb := by omega
         clear R1 hA2 hkb0 hlo
         refine hK.out _ _ (fun _ => R2) ?_; clear hK K; try simp only [Act.put, List.getElem_toArray, List.getElem_cons_succ, List.getElem_cons_zero, List.setIfInBounds_toArray, List.set_cons_zero, List.set_cons_succ]
         generalize V1.heap.size = e0 at hrB hne ⊢
         generalize V1.alloc _ = V2 at hkb hrB R2 ⊢
         refine wpAnyF_one (i := 4) (by kernel_rfl) rfl (fun K hK => ?_)
         refine step_append_slk _ rfl (.tmp 42) (.tmp 45) 23 rfl W.heap.size 3 i0 (.int .i64 0) 1 8 Tryz.underlying23 hi hz hs hby rfl (by decide) _ 0 [] rfl hrB (none) 0 (0) _ rfl (SlK.of_sl (hT0'h.out.below R2)) (ints_one' _) (by have := hmb'h.out; unfold maxLen; omega) (by have := hmb'h.out; omega) R2.size ?_
         intro v1 V3 hown3 hgrow3 hwh3
         rw [Nat.zero_add, List.nil_append] at hown3
         have R3 := R2.grown hgrow3 R2.size (fun q hq => (hrB.lt q hq).1)
         have hkb3 := (hgrow3.block kb (lt_of_heap hkb) (fun e => hne (by injection e with e; exact e.symm))).trans hkb
         have hkey : SlK V3 1 (some ⟨kb, 0, none⟩) 1 (ints [j]) := SlK.of_blk hkb3 rfl (by decide)
         clear hrB R2 hgrow3 hwh3 hkb hkb3 hne
         refine hK.out _ _ (fun _ => R3) ?_; clear hK K; try simp only [Act.put, List.getElem_toArray, List.getElem_cons_succ, List.getElem_cons_zero, List.setIfInBounds_toArray, List.set_cons_zero, List.set_cons_succ]
         refine wpAnyF_one (i := 7) (by kernel_rfl) rfl (fun K hK => ?_)
         refine step_append_slk _ rfl (.tmp 46) (.tmp 48) 23 rfl W.heap.size 3 i0 (.int .i64 0) 1 8 Tryz.underlying23 hi hz hs hby rfl (by decide) _ 0 _ rfl hown3 (some ⟨kb, 0, none⟩) 1 1 _ rfl hkey (ints_one' _) (by have := hmb'h.out; unfold maxLen; omega) (by have := hmb'h.out; omega) R3.size ?_
         intro v2 V4 hown4 hgrow4 hwh4
         have R4 := R3.grown hgrow4 R3.size (fun q hq => (hown3.lt q hq).1)
         clear hown3 R3 hgrow4 hwh4 hkey
         refine hK.out _ _ (fun _ => R4) ?_; clear hK K; try simp only [Act.put, List.getElem_toArray, List.getElem_cons_succ, List.getElem_cons_zero, List.setIfInBounds_toArray, List.set_cons_zero, List.set_cons_succ]
         refine wpAnyF_one (i := 11) (by kernel_rfl) rfl (fun K hK => ?_)
         refine step_append_slk _ rfl (.tmp 49) (.tmp 52) 23 rfl W.heap.size 3 i0 (.int .i64 0) 1 8 Tryz.underlying23 hi hz hs hby rfl (by decide) _ (0 + 1) _ rfl hown4 (none) 0 (0) _ rfl (hD0'h.out.below R4) (ints_one' _) (by have := hmb'h.out; unfold maxLen; omega) (by have := hmb'h.out; omega) R4.size ?_
         intro v3 V5 hown5 hgrow5 hwh5
         have R5 := R4.grown hgrow5 R4.size (fun q hq => (hown4.lt q hq).1)
         obtain ⟨sv3, cv3, rfl⟩ := row_slice' hown5
         clear hown4 R4 hgrow5 hwh5
         refine hK.out _ _ (fun _ => R5) ?_; clear hK K; try simp only [Act.put, List.getElem_toArray, List.getElem_cons_succ, List.getElem_cons_zero, List.setIfInBounds_toArray, List.set_cons_zero, List.set_cons_succ]
         refine wpAnyF_take (i := 12) (v := .slice sv3 (0 + 1 + 0) cv3) rfl (by kernel_rfl) (by kernel_rfl) (by kernel_rfl) (by kernel_rfl) (fun _ _ _ h => h) (Or.inl ⟨by kernel_rfl, fun w hSw => by (try dsimp only at hSw); go_simp⟩) R5 ?_; try simp only [Act.put, List.getElem_toArray, List.getElem_cons_succ, List.getElem_cons_zero, List.setIfInBounds_toArray, List.set_cons_zero, List.set_cons_succ]
         refine wpAnyF_done (by kernel_rfl) ?_ _
         have hbl := below_next hBw'h.out R5
         have hil : (dByAt l (j + 1)).length = 0 + 1 + 0 := by
          rw [hins'h.out]
          have := hm'h.out
          simp only [List.length_append, List.length_take, List.length_cons, List.length_drop]
          omega
         have hiu : ints (dByAt l (j + 1)) = ints (M.take 0) ++ ints [j] ++ ints (M.drop 0) := by
          rw [hins'h.out]
          unfold ints
          simp
         have hown6 := ownsRow_mono hown5 (base' := w.heap.size) (by have := hBw'h.out.size; omega)
         rw [← hiu] at hown6
         clear R5 hown5 hiu j1 j2 j3
         have hbl'h := Lib.hid hbl
         have hil'h := Lib.hid hil
         have hown6'h := Lib.hid hown6
         clear hbl hil hown6
         go_wp2
         go_roundg (go - 1)
         case measure => have := hj'h.out; have := hlt'h.out; omega
         case rel => exact ⟨j + 1, by have := hj'h.out; have := hlt'h.out; omega, by go_num, by rw [hil'h.out]; exact hown6'h.out, hbl'h.out⟩
       | some A =>
        obtain ⟨b3, o3, rfl⟩ : ∃ b3 o3, A = ⟨b3, o3, none⟩ := by
         obtain ⟨_, _, e, -, -, h3⟩ := row_form hrow4'h.out
         injection e with e1 e2 e3
         have := (h3 A e1.symm).2.2
         obtain ⟨b3, o3, s3⟩ := A
         simp only at this
         subst this
         exact ⟨b3, o3, rfl⟩
        have hins'h := Lib.hid hins
        clear hins
        go_wp2_with fail
        go_quiet (fail)
        go_upto_region 9 with fail
        generalize hWW : World.drewN _ _ = W
        have hB5 : Below V.heap.size V W := by rw [← hWW]; exact (below_drewN' _ _).trans (below_drewN' _ _)
        clear hWW a1 c1 h1 h2 i5
        have hBw := below_next hB4'h.out hB5
        have hrow5 := ownsRow_next hrow4'h.out hB5
        have hSl5 := Sl.of_row hrow5 (by have := hmb'h.out; unfold maxLen; omega)
        have hcp : k ≤ cap2 := by obtain ⟨_, _, e, h1, -, -⟩ := row_form hrow5; injection e with _ _ e; omega
        clear hB5
        obtain ⟨cr, hcr⟩ : ∃ cr, cap2 = k + cr := ⟨cap2 - k, by omega⟩
        subst hcr
        have j1 : ¬ ((k : Int) + (cr : Int) < (k : Int)) := by omega
        have j2 : (k : Int) ≤ (k : Int) := by omega
        have j3 : (0 : Int) ≤ (k : Int) := by omega
        have hBw'h := Lib.hid hBw
        have hrow5'h := Lib.hid hrow5
        have hSl5'h := Lib.hid hSl5
        clear hBw hrow5 hSl5
        refine wp_region_heldF (fun w' => Below W.heap.size W w') 99 (by kernel_rfl) ?_
        have R := (Below.refl W.heap.size W).drew
        generalize W.drew = V0 at R ⊢
        refine wpAnyF_take (i := 1) (v := .slice (some ⟨b3, o3, none⟩) (k) (k + cr)) rfl (by kernel_rfl) (by kernel_rfl) (by kernel_rfl) (by kernel_rfl) (fun _ _ _ h => h) (Or.inl ⟨by kernel_rfl, fun w hSw => by (try dsimp only at hSw); go_simp⟩) R ?_; try simp only [Act.put, List.getElem_toArray, List.getElem_cons_succ, List.getElem_cons_zero, List.setIfInBounds_toArray, List.set_cons_zero, List.set_cons_succ]
        refine wpAnyF_take (i := 2) (v := .int .i64 (k : Int)) rfl (by kernel_rfl) (by kernel_rfl) (by kernel_rfl) (by kernel_rfl) (fun _ _ _ h => h) (Or.inl ⟨by kernel_rfl, fun w hSw => by (try dsimp only at hSw); go_simp⟩) R ?_; try simp only [Act.put, List.getElem_toArray, List.getElem_cons_succ, List.getElem_cons_zero, List.setIfInBounds_toArray, List.set_cons_zero, List.set_cons_succ]
        refine wpAnyF_take (i := 3) (v := .slice (some ⟨b3, o3, none⟩) k (k + cr)) rfl (by kernel_rfl) (by kernel_rfl) (by kernel_rfl) (by kernel_rfl) (fun _ _ _ h => h) (Or.inl ⟨by kernel_rfl, fun w hSw => by (try dsimp only at hSw); go_simp⟩) R ?_; try simp only [Act.put, List.getElem_toArray, List.getElem_cons_succ, List.getElem_cons_zero, List.setIfInBounds_toArray, List.set_cons_zero, List.set_cons_succ]
        refine wpAnyF_take (i := 5) (v := .int .i64 (j : Int)) rfl (by kernel_rfl) (by kernel_rfl) (by kernel_rfl) (by kernel_rfl) (fun _ _ _ h => h) (Or.inl ⟨by kernel_rfl, fun w hSw => by (try dsimp only at hSw); go_simp⟩) R ?_; try simp only [Act.put, List.getElem_toArray, List.getElem_cons_succ, List.getElem_cons_zero, List.setIfInBounds_toArray, List.set_cons_zero, List.set_cons_succ]
        refine wpAnyF_take (i := 8) (v := .slice (some ⟨b3, o3, none⟩) (k) (k + cr)) rfl (by kernel_rfl) (by kernel_rfl) (by kernel_rfl) (by kernel_rfl) (fun _ _ _ h => h) (Or.inl ⟨by kernel_rfl, fun w hSw => by (try dsimp only at hSw); go_simp⟩) R ?_; try simp only [Act.put, List.getElem_toArray, List.getElem_cons_succ, List.getElem_cons_zero, List.setIfInBounds_toArray, List.set_cons_zero, List.set_cons_succ]
        refine wpAnyF_take (i := 9) (v := .int .i64 (k : Int)) rfl (by kernel_rfl) (by kernel_rfl) (by kernel_rfl) (by kernel_rfl) (fun _ _ _ h => h) (Or.inl ⟨by kernel_rfl, fun w hSw => by (try dsimp only at hSw); go_simp⟩) R ?_; try simp only [Act.put, List.getElem_toArray, List.getElem_cons_succ, List.getElem_cons_zero, List.setIfInBounds_toArray, List.set_cons_zero, List.set_cons_succ]
        refine wpAnyF_take (i := 10) (v := .slice (if k + cr = k then some ⟨b3, o3, none⟩ else some ⟨b3, o3 + k, none⟩) 0 (cr)) rfl (by kernel_rfl) (by kernel_rfl) (by kernel_rfl) (by kernel_rfl) (fun _ _ _ h => h) (Or.inl ⟨by kernel_rfl, fun w hSw => by (try dsimp only at hSw); go_simp⟩) R ?_; try simp only [Act.put, List.getElem_toArray, List.getElem_cons_succ, List.getElem_cons_zero, List.setIfInBounds_toArray, List.set_cons_zero, List.set_cons_succ]
        have hT0 : Sl W (some ⟨b3, o3, none⟩) k (ints (M.take k)) := by rw [← ints_take]; exact hSl5'h.out.take k (by omega)
        have hD0 : SlK W 1 (if k + cr = k then some ⟨b3, o3, none⟩ else some ⟨b3, o3 + k, none⟩) 0 (ints (M.drop k)) := drop_ints hSl5'h.out
        generalize (if k + cr = k then some (⟨b3, o3, none⟩ : Addr) else some ⟨b3, o3 + k, none⟩) = dp at hD0 ⊢
        have hT0'h := Lib.hid hT0
        have hD0'h := Lib.hid hD0
        clear hT0 hD0
        refine wpAnyF_two (i := 0) (j := 6) (by kernel_rfl) rfl rfl (fun K hK => ?_) (fun K hK => ?_)
        ·
         go_simp
         have hA1 := (Below.refl V0.heap.size V0).alloc (Nat.le_refl _) (.cells #[] 3)
         have hrA : (V0.alloc (.cells #[] 3)).ownsRow W.heap.size 3 1 (.slice (some ⟨V0.heap.size, 0, none⟩) 0 0) 0 [] := ownsRow_mono (own_lit' V0 3 0 #[] rfl (by decide)) R.size
         have R1 := below_next R hA1
         have hlo : V0.heap.size < (V0.alloc (.cells #[] 3)).heap.size := by simp
         clear R hA1
         refine hK.out _ _ (fun _ => R1) ?_; clear hK K; try simp only [Act.put, List.getElem_toArray, List.getElem_cons_succ, List.getElem_cons_zero, List.setIfInBounds_toArray, List.set_cons_zero, List.set_cons_succ]
         generalize V0.heap.size = e0 at hrA hlo ⊢
         generalize V0.alloc _ = V1 at hrA R1 hlo ⊢
         refine wpAnyF_two (i := 4) (j := 6) (by kernel_rfl) rfl rfl (fun K hK => ?_) (fun K hK => ?_)
         ·
          refine step_append_slk _ rfl (.tmp 42) (.tmp 45) 23 rfl W.heap.size 3 i0 (.int .i64 0) 1 8 Tryz.underlying23 hi hz hs hby rfl (by decide) _ 0 [] rfl hrA (some ⟨b3, o3, none⟩) k (k + cr) _ rfl (SlK.of_sl (hT0'h.out.below R1)) (ints_one' _) (by have := hmb'h.out; unfold maxLen; omega) (by have := hmb'h.out; omega) R1.size ?_
          intro v1 V2 hown2 hgrow2 hwh2
          rw [Nat.zero_add, List.nil_append] at hown2
          have R2 := R1.grown hgrow2 R1.size (fun q hq => (hrA.lt q hq).1)
          clear hrA R1 hgrow2 hwh2
          refine hK.out _ _ (fun _ => R2) ?_; clear hK K; try simp only [Act.put, List.getElem_toArray, List.getElem_cons_succ, List.getElem_cons_zero, List.setIfInBounds_toArray, List.set_cons_zero, List.set_cons_succ]
          refine wpAnyF_one (i := 6) (by kernel_rfl) rfl (fun K hK => ?_); go_simp
          have hA2 := (Below.refl V2.heap.size V2).alloc (Nat.le_refl _) (.cells #[.int .i64 (j : Int)] 3)
          have hkey : SlK (V2.alloc (.cells #[.int .i64 (j : Int)] 3)) 1 (some ⟨V2.heap.size, 0, none⟩) 1 (ints [j]) := SlK.of_blk (World.alloc_heap_new _ _) rfl (by decide)
          have R3 := below_next R2 hA2
          have hown3 := ownsRow_next hown2 hA2
          clear R2 hown2 hA2
          refine hK.out _ _ (fun _ => R3) ?_; clear hK K; try simp only [Act.put, List.getElem_toArray, List.getElem_cons_succ, List.getElem_cons_zero, List.setIfInBounds_toArray, List.set_cons_zero, List.set_cons_succ]
          generalize V2.heap.size = kb at hkey ⊢
          generalize V2.alloc _ = V3 at hkey hown3 R3 ⊢
          refine wpAnyF_one (i := 7) (by kernel_rfl) rfl (fun K hK => ?_)
          refine step_append_slk _ rfl (.tmp 46) (.tmp 48) 23 rfl W.heap.size 3 i0 (.int .i64 0) 1 8 Tryz.underlying23 hi hz hs hby rfl (by decide) _ k _ rfl hown3 (some ⟨kb, 0, none⟩) 1 1 _ rfl hkey (ints_one' _) (by have := hmb'h.out; unfold maxLen; omega) (by have := hmb'h.out; omega) R3.size ?_
          intro v2 V4 hown4 hgrow4 hwh4
          have R4 := R3.grown hgrow4 R3.size (fun q hq => (hown3.lt q hq).1)
          clear hown3 R3 hgrow4 hwh4 hkey
          refine hK.out _ _ (fun _ => R4) ?_; clear hK K; try simp only [Act.put, List.getElem_toArray, List.getElem_cons_succ, List.getElem_cons_zero, List.setIfInBounds_toArray, List.set_cons_zero, List.set_cons_succ]
          refine wpAnyF_one (i := 11) (by kernel_rfl) rfl (fun K hK => ?_)
          refine step_append_slk _ rfl (.tmp 49) (.tmp 52) 23 rfl W.heap.size 3 i0 (.int .i64 0) 1 8 Tryz.underlying23 hi hz hs hby rfl (by decide) _ (k + 1) _ rfl hown4 (dp) 0 (cr) _ rfl (hD0'h.out.below R4) (ints_one' _) (by have := hmb'h.out; unfold maxLen; omega) (by have := hmb'h.out; omega) R4.size ?_
          intro v3 V5 hown5 hgrow5 hwh5
          have R5 := R4.grown hgrow5 R4.size (fun q hq => (hown4.lt q hq).1)
          obtain ⟨sv3, cv3, rfl⟩ := row_slice' hown5
          clear hown4 R4 hgrow5 hwh5
          refine hK.out _ _ (fun _ => R5) ?_; clear hK K; try simp only [Act.put, List.getElem_toArray, List.getElem_cons_succ, List.getElem_cons_zero, List.setIfInBounds_toArray, List.set_cons_zero, List.set_cons_succ]
          refine wpAnyF_take (i := 12) (v := .slice sv3 (k + 1 + 0) cv3) rfl (by kernel_rfl) (by kernel_rfl) (by kernel_rfl) (by kernel_rfl) (fun _ _ _ h => h) (Or.inl ⟨by kernel_rfl, fun w hSw => by (try dsimp only at hSw); go_simp⟩) R5 ?_; try simp only [Act.put, List.getElem_toArray, List.getElem_cons_succ, List.getElem_cons_zero, List.setIfInBounds_toArray, List.set_cons_zero, List.set_cons_succ]
          refine wpAnyF_done (by kernel_rfl) ?_ _
          have hbl := below_next hBw'h.out R5
          have hil : (dByAt l (j + 1)).length = k + 1 + 0 := by
           rw [hins'h.out]
           have := hm'h.out
           simp only [List.length_append, List.length_take, List.length_cons, List.length_drop]
           omega
          have hiu : ints (dByAt l (j + 1)) = ints (M.take k) ++ ints [j] ++ ints (M.drop k) := by
           rw [hins'h.out]
           unfold ints
           simp
          have hown6 := ownsRow_mono hown5 (base' := w.heap.size) (by have := hBw'h.out.size; omega)
          rw [← hiu] at hown6
          clear R5 hown5 hiu j1 j2 j3
          have hbl'h := Lib.hid hbl
          have hil'h := Lib.hid hil
          have hown6'h := Lib.hid hown6
          clear hbl hil hown6
          go_wp2
          go_roundg (go - 1)
          case measure => have := hj'h.out; have := hlt'h.out; omega
          case rel => exact ⟨j + 1, by have := hj'h.out; have := hlt'h.out; omega, by go_num, by rw [hil'h.out]; exact hown6'h.out, hbl'h.out⟩
         ·
          go_simp
          have hA2 := (Below.refl V1.heap.size V1).alloc (Nat.le_refl _) (.cells #[.int .i64 (j : Int)] 3)
          have hkb : (V1.alloc (.cells #[.int .i64 (j : Int)] 3)).heap[V1.heap.size]? = some (.cells #[.int .i64 (j : Int)] 3 (0, 0)) := World.alloc_heap_new _ _
          have R2 := below_next R1 hA2
          have hrB := ownsRow_next hrA hA2
          have hne : e0 ≠ V1.heap.size := by omega
          clear R1 hrA hA2 hlo
          refine hK.out _ _ (fun _ => R2) ?_; clear hK K; try simp only [Act.put, List.getElem_toArray, List.getElem_cons_succ, List.getElem_cons_zero, List.setIfInBounds_toArray, List.set_cons_zero, List.set_cons_succ]
          generalize V1.heap.size = kb at hkb hne ⊢
          generalize V1.alloc _ = V2 at hkb hrB R2 ⊢
          refine wpAnyF_one (i := 4) (by kernel_rfl) rfl (fun K hK => ?_)
          refine step_append_slk _ rfl (.tmp 42) (.tmp 45) 23 rfl W.heap.size 3 i0 (.int .i64 0) 1 8 Tryz.underlying23 hi hz hs hby rfl (by decide) _ 0 [] rfl hrB (some ⟨b3, o3, none⟩) k (k + cr) _ rfl (SlK.of_sl (hT0'h.out.below R2)) (ints_one' _) (by have := hmb'h.out; unfold maxLen; omega) (by have := hmb'h.out; omega) R2.size ?_
          intro v1 V3 hown3 hgrow3 hwh3
          rw [Nat.zero_add, List.nil_append] at hown3
          have R3 := R2.grown hgrow3 R2.size (fun q hq => (hrB.lt q hq).1)
          have hkb3 := (hgrow3.block kb (lt_of_heap hkb) (fun e => hne (by injection e with e; exact e.symm))).trans hkb
          have hkey : SlK V3 1 (some ⟨kb, 0, none⟩) 1 (ints [j]) := SlK.of_blk hkb3 rfl (by decide)
          clear hrB R2 hgrow3 hwh3 hkb hkb3 hne
          refine hK.out _ _ (fun _ => R3) ?_; clear hK K; try simp only [Act.put, List.getElem_toArray, List.getElem_cons_succ, List.getElem_cons_zero, List.setIfInBounds_toArray, List.set_cons_zero, List.set_cons_succ]
          refine wpAnyF_one (i := 7) (by kernel_rfl) rfl (fun K hK => ?_)
          refine step_append_slk _ rfl (.tmp 46) (.tmp 48) 23 rfl W.heap.size 3 i0 (.int .i64 0) 1 8 Tryz.underlying23 hi hz hs hby rfl (by decide) _ k _ rfl hown3 (some ⟨kb, 0, none⟩) 1 1 _ rfl hkey (ints_one' _) (by have := hmb'h.out; unfold maxLen; omega) (by have := hmb'h.out; omega) R3.size ?_
          intro v2 V4 hown4 hgrow4 hwh4
          have R4 := R3.grown hgrow4 R3.size (fun q hq => (hown3.lt q hq).1)
          clear hown3 R3 hgrow4 hwh4 hkey
          refine hK.out _ _ (fun _ => R4) ?_; clear hK K; try simp only [Act.put, List.getElem_toArray, List.getElem_cons_succ, List.getElem_cons_zero, List.setIfInBounds_toArray, List.set_cons_zero, List.set_cons_succ]
          refine wpAnyF_one (i := 11) (by kernel_rfl) rfl (fun K hK => ?_)
          refine step_append_slk _ rfl (.tmp 49) (.tmp 52) 23 rfl W.heap.size 3 i0 (.int .i64 0) 1 8 Tryz.underlying23 hi hz hs hby rfl (by decide) _ (k + 1) _ rfl hown4 (dp) 0 (cr) _ rfl (hD0'h.out.below R4) (ints_one' _) (by have := hmb'h.out; unfold maxLen; omega) (by have := hmb'h.out; omega) R4.size ?_
          intro v3 V5 hown5 hgrow5 hwh5
          have R5 := R4.grown hgrow5 R4.size (fun q hq => (hown4.lt q hq).1)
          obtain ⟨sv3, cv3, rfl⟩ := row_slice' hown5
          clear hown4 R4 hgrow5 hwh5
          refine hK.out _ _ (fun _ => R5) ?_; clear hK K; try simp only [Act.put, List.getElem_toArray, List.getElem_cons_succ, List.getElem_cons_zero, List.setIfInBounds_toArray, List.set_cons_zero, List.set_cons_succ]
          refine wpAnyF_take (i := 12) (v := .slice sv3 (k + 1 + 0) cv3) rfl (by kernel_rfl) (by kernel_rfl) (by kernel_rfl) (by kernel_rfl) (fun _ _ _ h => h) (Or.inl ⟨by kernel_rfl, fun w hSw => by (try dsimp only at hSw); go_simp⟩) R5 ?_; try simp only [Act.put, List.getElem_toArray, List.getElem_cons_succ, List.getElem_cons_zero, List.setIfInBounds_toArray, List.set_cons_zero, List.set_cons_succ]
          refine wpAnyF_done (by kernel_rfl) ?_ _
          have hbl := below_next hBw'h.out R5
          have hil : (dByAt l (j + 1)).length = k + 1 + 0 := by
           rw [hins'h.out]
           have := hm'h.out
           simp only [List.length_append, List.length_take, List.length_cons, List.length_drop]
           omega
          have hiu : ints (dByAt l (j + 1)) = ints (M.take k) ++ ints [j] ++ ints (M.drop k) := by
           rw [hins'h.out]
           unfold ints
           simp
          have hown6 := ownsRow_mono hown5 (base' := w.heap.size) (by have := hBw'h.out.size; omega)
          rw [← hiu] at hown6
          clear R5 hown5 hiu j1 j2 j3
          have hbl'h := Lib.hid hbl
          have hil'h := Lib.hid hil
          have hown6'h := Lib.hid hown6
          clear hbl hil hown6
          go_wp2
          go_roundg (go - 1)
          case measure => have := hj'h.out; have := hlt'h.out; omega
          case rel => exact ⟨j + 1, by have := hj'h.out; have := hlt'h.out; omega, by go_num, by rw [hil'h.out]; exact hown6'h.out, hbl'h.out⟩
        ·
         go_simp
         have hA1 := (Below.refl V0.heap.size V0).alloc (Nat.le_refl _) (.cells #[.int .i64 (j : Int)] 3)
         have hkb0 : (V0.alloc (.cells #[.int .i64 (j : Int)] 3)).heap[V0.heap.size]? = some (.cells #[.int .i64 (j : Int)] 3 (0, 0)) := World.alloc_heap_new _ _
         have R1 := below_next R hA1
         have hlo := lt_of_heap hkb0
         clear R hA1
         refine hK.out _ _ (fun _ => R1) ?_; clear hK K; try simp only [Act.put, List.getElem_toArray, List.getElem_cons_succ, List.getElem_cons_zero, List.setIfInBounds_toArray, List.set_cons_zero, List.set_cons_succ]
         generalize V0.heap.size = kb at hkb0 hlo ⊢
         generalize V0.alloc _ = V1 at hkb0 R1 hlo ⊢
         refine wpAnyF_one (i := 0) (by kernel_rfl) rfl (fun K hK => ?_); go_simp
         have hA2 := (Below.refl V1.heap.size V1).alloc (Nat.le_refl _) (.cells #[] 3)
         have hrB : (V1.alloc (.cells #[] 3)).ownsRow W.heap.size 3 1 (.slice (some ⟨V1.heap.size, 0, none⟩) 0 0) 0 [] := ownsRow_mono (own_lit' V1 3 0 #[] rfl (by decide)) R1.size
         have hkb := heap_below hA2 hkb0 hlo
         have R2 := below_next R1 hA2
         have hne : V1.heap.size ≠ kb := by omega
         clear R1 hA2 hkb0 hlo
         refine hK.out _ _ (fun _ => R2) ?_; clear hK K; try simp only [Act.put, List.getElem_toArray, List.getElem_cons_succ, List.getElem_cons_zero, List.setIfInBounds_toArray, List.set_cons_zero, List.set_cons_succ]
         generalize V1.heap.size = e0 at hrB hne ⊢
         generalize V1.alloc _ = V2 at hkb hrB R2 ⊢
         refine wpAnyF_one (i := 4) (by kernel_rfl) rfl (fun K hK => ?_)
         refine step_append_slk _ rfl (.tmp 42) (.tmp 45) 23 rfl W.heap.size 3 i0 (.int .i64 0) 1 8 Tryz.underlying23 hi hz hs hby rfl (by decide) _ 0 [] rfl hrB (some ⟨b3, o3, none⟩) k (k + cr) _ rfl (SlK.of_sl (hT0'h.out.below R2)) (ints_one' _) (by have := hmb'h.out; unfold maxLen; omega) (by have := hmb'h.out; omega) R2.size ?_
         intro v1 V3 hown3 hgrow3 hwh3
         rw [Nat.zero_add, List.nil_append] at hown3
         have R3 := R2.grown hgrow3 R2.size (fun q hq => (hrB.lt q hq).1)
         have hkb3 := (hgrow3.block kb (lt_of_heap hkb) (fun e => hne (by injection e with e; exact e.symm))).trans hkb
         have hkey : SlK V3 1 (some ⟨kb, 0, none⟩) 1 (ints [j]) := SlK.of_blk hkb3 rfl (by decide)
         clear hrB R2 hgrow3 hwh3 hkb hkb3 hne
         refine hK.out _ _ (fun _ => R3) ?_; clear hK K; try simp only [Act.put, List.getElem_toArray, List.getElem_cons_succ, List.getElem_cons_zero, List.setIfInBounds_toArray, List.set_cons_zero, List.set_cons_succ]
         refine wpAnyF_one (i := 7) (by kernel_rfl) rfl (fun K hK => ?_)
         refine step_append_slk _ rfl (.tmp 46) (.tmp 48) 23 rfl W.heap.size 3 i0 (.int .i64 0) 1 8 Tryz.underlying23 hi hz hs hby rfl (by decide) _ k _ rfl hown3 (some ⟨kb, 0, none⟩) 1 1 _ rfl hkey (ints_one' _) (by have := hmb'h.out; unfold maxLen; omega) (by have := hmb'h.out; omega) R3.size ?_
         intro v2 V4 hown4 hgrow4 hwh4
         have R4 := R3.grown hgrow4 R3.size (fun q hq => (hown3.lt q hq).1)
         clear hown3 R3 hgrow4 hwh4 hkey
         refine hK.out _ _ (fun _ => R4) ?_; clear hK K; try simp only [Act.put, List.getElem_toArray, List.getElem_cons_succ, List.getElem_cons_zero, List.setIfInBounds_toArray, List.set_cons_zero, List.set_cons_succ]
         refine wpAnyF_one (i := 11) (by kernel_rfl) rfl (fun K hK => ?_)
         refine step_append_slk _ rfl (.tmp 49) (.tmp 52) 23 rfl W.heap.size 3 i0 (.int .i64 0) 1 8 Tryz.underlying23 hi hz hs hby rfl (by decide) _ (k + 1) _ rfl hown4 (dp) 0 (cr) _ rfl (hD0'h.out.below R4) (ints_one' _) (by have := hmb'h.out; unfold maxLen; omega) (by have := hmb'h.out; omega) R4.size ?_
         intro v3 V5 hown5 hgrow5 hwh5
         have R5 := R4.grown hgrow5 R4.size (fun q hq => (hown4.lt q hq).1)
         obtain ⟨sv3, cv3, rfl⟩ := row_slice' hown5
         clear hown4 R4 hgrow5 hwh5
         refine hK.out _ _ (fun _ => R5) ?_; clear hK K; try simp only [Act.put, List.getElem_toArray, List.getElem_cons_succ, List.getElem_cons_zero, List.setIfInBounds_toArray, List.set_cons_zero, List.set_cons_succ]
         refine wpAnyF_take (i := 12) (v := .slice sv3 (k + 1 + 0) cv3) rfl (by kernel_rfl) (by kernel_rfl) (by kernel_rfl) (by kernel_rfl) (fun _ _ _ h => h) (Or.inl ⟨by kernel_rfl, fun w hSw => by (try dsimp only at hSw); go_simp⟩) R5 ?_; try simp only [Act.put, List.getElem_toArray, List.getElem_cons_succ, List.getElem_cons_zero, List.setIfInBounds_toArray, List.set_cons_zero, List.set_cons_succ]
         refine wpAnyF_done (by kernel_rfl) ?_ _
         have hbl := below_next hBw'h.out R5
         have hil : (dByAt l (j + 1)).length = k + 1 + 0 := by
          rw [hins'h.out]
          have := hm'h.out
          simp only [List.length_append, List.length_take, List.length_cons, List.length_drop]
          omega
         have hiu : ints (dByAt l (j + 1)) = ints (M.take k) ++ ints [j] ++ ints (M.drop k) := by
          rw [hins'h.out]
          unfold ints
          simp
         have hown6 := ownsRow_mono hown5 (base' := w.heap.size) (by have := hBw'h.out.size; omega)
         rw [← hiu] at hown6
         clear R5 hown5 hiu j1 j2 j3
         have hbl'h := Lib.hid hbl
         have hil'h := Lib.hid hil
         have hown6'h := Lib.hid hown6
         clear hbl hil hown6
         go_wp2
         go_roundg (go - 1)
         case measure => have := hj'h.out; have := hlt'h.out; omega
         case rel => exact ⟨j + 1, by have := hj'h.out; have := hlt'h.out; omega, by go_num, by rw [hil'h.out]; exact hown6'h.out, hbl'h.out⟩
  ·
   have i3 : ¬ (j : Int) < (n : Int) := by omega
   obtain rfl : j = n := by omega
   clear hlt hj
   have hrow'h := Lib.hid hrow
   have hB'h := Lib.hid hB
   clear hrow hB
   go_wp2
   go_ret
   exact ⟨sp2, cap2, rfl, hB'h.out, hrow'h.out⟩
end Go.Proofs.YtogeohjeabbmaaaGreatDoor
