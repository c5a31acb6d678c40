/-
 The document's answer for layer 27: Search, the first order that bears calls out, and begins with a row.
-/
import Derived.Test.YtogeohjeabbmaaaGreatDoorDocB27
set_option linter.unusedSimpArgs false
set_option linter.unusedVariables false
set_option maxRecDepth 100000
namespace Go.Proofs.YtogeohjeabbmaaaGreatDoor
open Go.RowKit

/-- What is sought with a call that stands next. -/
def dsub (l : List Mm) (f : Nat) (row : List Nat) (i : Nat) : Option (List Nat) :=
 if i ∈ row then none else match f with
  | 0 => none
  | f + 1 => dSeekF l f (row ++ [i])
theorem dSeekF_eq (l : List Mm) (f : Nat) (row : List Nat) : dSeekF l f row = if beginsB l (intsZ row) then (if (dBehindL l (intsZ row)).isSome then some row else (List.range' 0 l.length).findSome? (dsub l f row)) else none := by
 cases f with
 | zero =>
  have h0 : dsub l 0 row = fun _ => none := by
   funext i
   unfold dsub
   split <;> rfl
  rw [h0, findSome_none]
  rfl
 | succ f => rfl
theorem find_hit {g : Nat → Option (List Nat)} {j : Nat} {q : List Nat} (hq : g j = some q) : ∀ {n s : Nat}, (∀ i, s ≤ i → i < j → g i = none) → s ≤ j → j < s + n → (List.range' s n).findSome? g = some q
 | 0, s, _, h1, h2 => by omega
 | n + 1, s, h, h1, h2 => by
  rw [List.range'_succ, List.findSome?_cons]
  by_cases e : s = j
  ·
   rw [e, hq]
  ·
   rw [h s (Nat.le_refl _) (by omega)]
   exact find_hit hq (fun i hi => h i (by omega)) (by omega) (by omega)
theorem find_miss {g : Nat → Option (List Nat)} : ∀ {n s : Nat}, (∀ i, s ≤ i → i < s + n → g i = none) → (List.range' s n).findSome? g = none
 | 0, s, _ => rfl
 | n + 1, s, h => by
  rw [List.range'_succ, List.findSome?_cons, h s (Nat.le_refl _) (by omega)]
  exact find_miss fun i hi hi2 => h i (by omega) (by omega)
/-- What Search leaves. -/
def DSeaP (w : World) (r : Option (List Nat)) (e : Ending) (w' : World) : Prop :=
 Below w.heap.size w w' ∧ ((r = none ∧ e = .returned (.tuple #[.slice none 0 0, .bool false])) ∨
  ∃ q s c, r = some q ∧ e = .returned (.tuple #[.slice s q.length c, .bool true]) ∧ Sl w' s q.length (ints q))
/-- What Search is called with. -/
structure SeaPre (l : List Mm) (sp : Option Addr) (n f : Nat) (row : List Nat) (rn : Nat) (rp : Option Addr) (rc : Nat) (w : World) : Prop where
 len : rn = row.length
 few : rn + f ≤ 80
 ms : MsIn w sp n l
 sl : Sl w rp rn (ints row)
 le : rn ≤ rc
 inn : ∀ x ∈ row, x < l.length
 un : unmetK l (metR (intsZ row)) ≤ f
set_option maxHeartbeats 16000000 in
theorem dsearch_one (sp : Option Addr) (n cap : Nat) (l : List Mm) (hck : checkB l = true) (f : Nat)
  (rec : ∀ f', f = f' + 1 → ∀ (row : List Nat) (rn : Nat) (rp : Option Addr) (rc : Nat) (w : World), SeaPre l sp n f' row rn rp rc w → Calls Tryz.prog 20 #[.slice sp n cap, .slice rp rn rc] w (DSeaP w (dSeekF l f' row)))
  (row : List Nat) (rn : Nat) (rp : Option Addr) (rc : Nat) (w : World) (h : SeaPre l sp n f row rn rp rc w) :
  Calls Tryz.prog 20 #[.slice sp n cap, .slice rp rn rc] w (DSeaP w (dSeekF l f row)) := by
 have hlen := h.ms.len
 have h80 : n ≤ 80 := by rw [hlen]; exact check_80 hck
 obtain ⟨i0, hi, hz, hs, hby⟩ := info_parts infoI
 obtain ⟨R, hR⟩ : ∃ R, R = dSeekF l f row := ⟨_, rfl⟩
 rw [← hR]
 rw [dSeekF_eq] at hR
 have hrn : rn ≤ 80 := by have := h.few; omega
 have BG := dbegins_any sp n cap l rp rn rc row w h.ms hck h.sl h.le h.inn (by omega)
 obtain ⟨bg, hbg⟩ : ∃ bg, bg = beginsB l (intsZ row) := ⟨_, rfl⟩
 rw [← hbg] at BG hR
 clear hbg
 have rec'h := Lib.hid rec
 have h'h := Lib.hid h
 have hlen'h := Lib.hid hlen
 have h80'h := Lib.hid h80
 have hR'h := Lib.hid hR
 have hrn'h := Lib.hid hrn
 have BG'h := Lib.hid BG
 have hck'h := Lib.hid hck
 clear rec h hlen h80 hR hrn BG hck
 go_enter Tryz.func20, Tryz.ntmps20
 go_wp2_with fail
 refine BG'h.out.mono ?_
 rintro e w1 ⟨rfl, hB1⟩
 cases bg with
 | false =>
  obtain rfl : R = none := hR'h.out
  clear BG'h
  have hB1'h := Lib.hid hB1
  clear hB1
  go_wp2
  go_ret2
  exact ⟨hB1'h.out, .inl ⟨rfl, rfl⟩⟩
 | true =>
  simp only [if_true] at hR'h
  have hM1 := h'h.out.ms.below hB1
  have hS1 := h'h.out.sl.below hB1
  have BH := dbehind_any sp n cap l rp rn rc row w1 hM1 hck'h.out hS1 h'h.out.le h'h.out.inn (by have := hrn'h.out; omega)
  obtain ⟨bh, hbh⟩ : ∃ bh, bh = dBehindL l (intsZ row) := ⟨_, rfl⟩
  rw [← hbh] at BH
  rw [← hbh] at hR'h
  clear hbh BG'h hM1 hS1
  have hB1'h := Lib.hid hB1
  have BH'h := Lib.hid BH
  clear hB1 BH
  go_upto_region 4 with (first | (go_at_call 12; refine BH'h.out.mono ?_; rintro e w2 ⟨s2, n2, c2, rfl, hb2, -⟩; have hb2'h := Lib.hid hb2; clear hb2))
  have hB2 := below_next (below_next hB1'h.out hb2'h.out) ((Below.refl w2.heap.size w2).alloc (Nat.le_refl _) (.cells #[.slice s2 n2 c2] 29))
  clear BH'h hb2'h hB1'h
  generalize w2.alloc _ = W2 at hB2 ⊢
  generalize w2.heap.size = mb
  cases bh with
  | some q =>
   obtain rfl : R = some row := hR'h.out
   have hS2 := h'h.out.sl.below hB2
   have hB2'h := Lib.hid hB2
   have hS2'h := Lib.hid hS2
   clear hB2 hS2
   go_wp2
   go_ret2
   exact ⟨hB2'h.out, .inr ⟨row, rp, rc, rfl, by rw [← h'h.out.len]; rfl, by rw [← h'h.out.len]; exact hS2'h.out⟩⟩
  | none =>
   simp only [Option.isSome_none, Bool.false_eq_true, if_false] at hR'h ⊢
   have hB2'h := Lib.hid hB2
   clear hB2
   go_wp2
   go_loopg [25] n (fun q v25 wr => ∃ j : Nat, j + q = n ∧ v25 = .int .i64 (j : Int) ∧ (∀ i, i < j → dsub l f row i = none) ∧ Below w.heap.size w wr)
   case atStart => exact ⟨0, by omega, rfl, fun i hi => by omega, hB2'h.out⟩
   case round =>
    obtain ⟨j, hj, rfl, hall, hB⟩ := hrel
    by_cases hlt : j < n
    ·
     have i3 : (j : Int) < (n : Int) := by omega
     have i4 : (0 : Int) ≤ (j : Int) := by omega
     have i5 : (j : Int) + 1 ≤ 5000 := by have := h80'h.out; omega
     have hSr := h'h.out.sl.below hB
     have IN := in_any rp rn rc (intsZ row) (j : Int) wr (by rw [← ints_Z]; exact hSr)
     rw [show decide ((j : Int) ∈ intsZ row) = decide (j ∈ row) from decide_eq_decide.2 intsZ_mem] at IN
     have hjl : j < l.length := by have := hlen'h.out; omega
     have hj'h := Lib.hid hj
     have hlt'h := Lib.hid hlt
     have hall'h := Lib.hid hall
     have hB'h := Lib.hid hB
     have IN'h := Lib.hid IN
     have hSr'h := Lib.hid hSr
     have hjl'h := Lib.hid hjl
     clear hj hlt hall hB IN hSr hjl
     go_wp2_with fail
     refine IN'h.out.mono ?_
     rintro e w4 ⟨rfl, hw4⟩
     obtain rfl := hw4.symm
     by_cases hmem : j ∈ row
     ·
      rw [decide_eq_true hmem]
      have hall2 : ∀ i, i < j + 1 → dsub l f row i = none := fun i hi => by
       by_cases e : i = j
       ·
        rw [e]; unfold dsub; rw [if_pos hmem]
       ·
        exact hall'h.out i (by omega)
      clear hmem
      have hall2'h := Lib.hid hall2
      clear hall2
      go_wp2
      go_roundg (gk - 1)
      case measure => have := hj'h.out; have := hlt'h.out; omega
      case rel => exact ⟨j + 1, by have := hj'h.out; have := hlt'h.out; omega, by go_num, hall2'h.out, hB'h.out⟩
     ·
      rw [decide_eq_false hmem]
      have hun : metR (intsZ row) j = false := decide_eq_false fun hh => hmem (intsZ_mem.1 hh)
      have hpos := unmet_pos hjl'h.out hun
      have hmk := unmet_mark hjl'h.out hun
      rw [show markB (metR (intsZ row)) j = metR (intsZ (row ++ [j])) by rw [intsZ_append]; exact metR_mark (x := (j : Int)) (by omega)] at hmk
      obtain ⟨f', hf⟩ : ∃ f', f = f' + 1 := ⟨f - 1, by have := h'h.out.un; omega⟩
      have hsub : dsub l f row j = dSeekF l f' (row ++ [j]) := by rw [hf]; unfold dsub; rw [if_neg hmem]
      have SE := fun (s : Option Addr) (c : Nat) (W : World) (hW : Below w.heap.size w W) (hs : Sl W s (rn + 1) (ints (row ++ [j]))) (hle : rn + 1 ≤ c) => rec'h.out f' hf (row ++ [j]) (rn + 1) s c W ⟨by rw [h'h.out.len, List.length_append]; rfl, by have := h'h.out.few; omega, h'h.out.ms.below hW, hs, hle, fun x hx => by
       rcases List.mem_append.1 hx with hx | hx
       ·
        exact h'h.out.inn x hx
       ·
        rw [List.mem_singleton] at hx; subst hx; exact hjl'h.out, by have := h'h.out.un; omega⟩
      clear hun hpos hmk hmem IN'h
      have hown0 := own_lit' wr 3 0 #[] rfl (by decide)
      have hb0 := (Below.refl wr.heap.size wr).alloc (Nat.le_refl _) (.cells #[] 3)
      have hS0 := SlK.of_sl (hSr'h.out.below hb0)
      have hB0 := below_next hB'h.out hb0
      have hz0 : wr.heap.size ≤ (wr.alloc (.cells #[] 3)).heap.size := by simp
      have hsub'h := Lib.hid hsub
      have SE'h := Lib.hid SE
      have hown0'h := Lib.hid hown0
      have hS0'h := Lib.hid hS0
      have hB0'h := Lib.hid hB0
      have hz0'h := Lib.hid hz0
      have hf'h := Lib.hid hf
      clear hsub SE hown0 hS0 hB0 hz0 hf
      clear hb0 hSr'h
      go_upto_region 11 with (first
       | (at_builtin; refine wpList_append_slk _ rfl (.tmp 33) (.tmp 34) 23 rfl wr.heap.size 3 i0 (.int .i64 0) 1 8 Tryz.underlying23 hi hz hs hby rfl (by decide) _ 0 [] rfl hown0'h.out rp rn rc _ rfl hS0'h.out (ints_one' _) (by have := hrn'h.out; unfold maxLen; omega) (by have := hrn'h.out; omega) hz0'h.out ?_; intro v1 w1 hown1 hgrow1 hwh1; rw [Nat.zero_add, List.nil_append] at hown1; obtain ⟨sv1, cv1, rfl⟩ := row_slice' hown1; have hB1 := hB0'h.out.grown hgrow1 hB0'h.out.size (fun q hq => by have h1 := hown0'h.out.lt q hq; have h2 := hB'h.out.size; omega); have hz1 := hgrow1.size; have hb1 := (Below.refl w1.heap.size w1).alloc (Nat.le_refl _) (.cells #[.int .i64 (j : Int)] 3); have hown2 := ownsRow_next hown1 hb1; have hkey : SlK (w1.alloc (.cells #[.int .i64 (j : Int)] 3)) 1 (some ⟨w1.heap.size, 0, none⟩) 1 (ints [j]) := SlK.of_blk (World.alloc_heap_new _ _) rfl (by decide); have hB2 := below_next hB1 hb1; have hz2 : wr.heap.size ≤ (w1.alloc (.cells #[.int .i64 (j : Int)] 3)).heap.size := (by have h3 := hz0'h.out; have h4 := hb1.size; omega); have hown2'h := Lib.hid hown2; have hkey'h := Lib.hid hkey; have hB2'h := Lib.hid hB2; have hz2'h := Lib.hid hz2; clear hown1 hgrow1 hwh1 hB1 hz1 hb1 hown2 hkey hB2 hz2)
       | (at_builtin; refine wpList_append_slk _ rfl (.tmp 35) (.tmp 37) 23 rfl wr.heap.size 3 i0 (.int .i64 0) 1 8 Tryz.underlying23 hi hz hs hby rfl (by decide) _ rn _ rfl hown2'h.out (some ⟨w1.heap.size, 0, none⟩) 1 1 _ rfl hkey'h.out (ints_one' _) (by have := hrn'h.out; unfold maxLen; omega) (by have := hrn'h.out; omega) hz2'h.out ?_; intro v2 w3 hown3 hgrow3 hwh3; obtain ⟨sv3, cv3, rfl⟩ := row_slice' hown3; have hB3 := hB2'h.out.grown hgrow3 hB2'h.out.size (fun q hq => by have h1 := hown2'h.out.lt q hq; have h2 := hB'h.out.size; omega); have hown3'h := Lib.hid hown3; have hB3'h := Lib.hid hB3; clear hown3 hgrow3 hwh3 hB3)
       | (go_at_call 20; refine (SE'h.out sv3 cv3 w3 hB3'h.out (by have h1 := Sl.of_row hown3'h.out (by have := hrn'h.out; unfold maxLen; omega); rw [show ints row ++ ints [j] = ints (row ++ [j]) by unfold ints; rw [List.map_append]] at h1; exact h1) (by obtain ⟨_, _, e, h1, -, -⟩ := row_form hown3'h.out; injection e with _ _ e; omega)).mono ?_; rintro e w5 ⟨hb5, ⟨hn5, rfl⟩ | ⟨q5, s5, c5, hq5, rfl, hS5⟩⟩))
      ·
       have hB5 := below_next hB3'h.out hb5
       have hall2 : ∀ i, i < j + 1 → dsub l f row i = none := fun i hi => by
        by_cases e : i = j
        ·
         rw [e, hsub'h.out, hn5]
        ·
         exact hall'h.out i (by omega)
       clear hb5 hn5
       have hB5'h := Lib.hid hB5
       have hall2'h := Lib.hid hall2
       clear hB5 hall2
       go_wp2
       go_roundg (gk - 1)
       case measure => have := hj'h.out; have := hlt'h.out; omega
       case rel => exact ⟨j + 1, by have := hj'h.out; have := hlt'h.out; omega, by go_num, hall2'h.out, hB5'h.out⟩
      ·
       have hB5 := below_next hB3'h.out hb5
       obtain rfl : R = some q5 := by
        rw [hR'h.out]
        exact find_hit (j := j) (by rw [hsub'h.out]; exact hq5) (fun i _ hi => hall'h.out i hi) (by omega) (by have := hjl'h.out; omega)
       clear hb5 hq5
       have hB5'h := Lib.hid hB5
       have hS5'h := Lib.hid hS5
       clear hB5 hS5
       go_wp2
       go_ret2
       exact ⟨hB5'h.out, .inr ⟨q5, s5, c5, rfl, rfl, hS5'h.out⟩⟩
    ·
     have i3 : ¬ (j : Int) < (n : Int) := by omega
     obtain rfl : R = none := by
      rw [hR'h.out]
      exact find_miss fun i _ hi => hall i (by have := hlen'h.out; omega)
     clear hall hj hlt
     have hB'h := Lib.hid hB
     clear hB
     go_wp2
     go_ret2
     exact ⟨hB'h.out, .inl ⟨rfl, rfl⟩⟩
theorem dsearch_any (sp : Option Addr) (n cap : Nat) (l : List Mm) (hck : checkB l = true) : ∀ (f : Nat) (row : List Nat) (rn : Nat) (rp : Option Addr) (rc : Nat) (w : World), SeaPre l sp n f row rn rp rc w →
  Calls Tryz.prog 20 #[.slice sp n cap, .slice rp rn rc] w (DSeaP w (dSeekF l f row)) := by
 intro f
 induction f with
 | zero => exact dsearch_one sp n cap l hck 0 (fun f' e => by omega)
 | succ f ih => exact dsearch_one sp n cap l hck (f + 1) (fun f' e => by obtain rfl : f' = f := (by omega); exact ih)
end Go.Proofs.YtogeohjeabbmaaaGreatDoor
