/-
 The document's maps of layer 24 for layer 27: With, Without.
-/
import Derived.Test.YtogeohjeabbmaaaGreatDoorY3
import Derived.Test.YtogeohjeabbmaaaGreatDoorHask
import Derived.Deep.LoopGhost
set_option linter.unusedSimpArgs false
set_option linter.unusedVariables false
set_option maxRecDepth 100000
namespace Go.Proofs.YtogeohjeabbmaaaGreatDoor
open Go.RowKit

theorem prs_snocV (l : Ps) (p : Nat × Nat) : prs l ++ [.int .u64 (p.1 : Int), .int .u64 (p.2 : Int)] = prs (l ++ [p]) := by rw [prs_append]; rfl
theorem take_filter {α : Type} {p : α → Bool} {l : List α} {k : Nat} (h : k < l.length) : (l.take (k + 1)).filter p = (l.take k).filter p ++ if p l[k] = true then [l[k]] else [] := by
 rw [List.take_succ_eq_append_getElem h, List.filter_append, List.filter_cons]; simp
theorem filter_all {ps : Ps} {q : Nat × Nat → Bool} (h : ∀ p ∈ ps, q p = true) : ps.filter q = ps := List.filter_eq_self.2 h
theorem filter_none {ps : Ps} {q : Nat × Nat → Bool} (h : ∀ p ∈ ps, q p = false) : ps.filter q = [] := List.filter_eq_nil_iff.2 fun p hp => by rw [h p hp]; decide
theorem del_filter {ps : Ps} (h : upB ps = true) (k : Nat) : delP ps k = ps.filter fun p => !(p.1 == k) := by
 induction ps with
 | nil => rfl
 | cons p l ih =>
  have hl := up_tail h
  have hg := up_head h
  rw [delP]
  by_cases h1 : p.1 < k
  ·
   rw [if_pos h1, ih hl, List.filter_cons_of_pos (by simp; omega)]
  ·
   rw [if_neg h1]
   have hall : l.filter (fun p => !(p.1 == k)) = l := filter_all fun q hq => by have := hg q hq; simp; omega
   by_cases h2 : p.1 = k
   ·
    rw [if_pos h2, List.filter_cons_of_neg (by simp [h2]), hall]
   ·
    rw [if_neg h2, List.filter_cons_of_pos (by simp [h2]), hall]
theorem ins_filter {ps : Ps} (h : upB ps = true) (k v : Nat) : insP ps k v = (ps.filter (fun p => decide (p.1 < k)) ++ [(k, v)]) ++ ps.filter fun p => decide (k < p.1) := by
 induction ps with
 | nil => rfl
 | cons p l ih =>
  have hl := up_tail h
  have hg := up_head h
  rw [insP]
  by_cases h1 : p.1 < k
  ·
   rw [if_pos h1, ih hl, List.filter_cons_of_pos (by simp; omega), List.filter_cons_of_neg (by simp; omega)]
   rfl
  ·
   rw [if_neg h1]
   have hlo : l.filter (fun p => decide (p.1 < k)) = [] := filter_none fun q hq => by have := hg q hq; simp; omega
   have hhi : l.filter (fun p => decide (k < p.1)) = l := filter_all fun q hq => by have := hg q hq; simp; omega
   by_cases h2 : p.1 = k
   ·
    rw [if_pos h2, List.filter_cons_of_neg (by simp; omega), List.filter_cons_of_neg (by simp; omega), hlo, hhi]
    rfl
   ·
    rw [if_neg h2, List.filter_cons_of_neg (by simp; omega), List.filter_cons_of_pos (by simp; omega), hlo, hhi]
    rfl
theorem row_slice3 {w : World} {base : Nat} {e : TypeId} {size : Nat} {v : Value} {n : Nat} {xs : List Value} (h : w.ownsRow base e size v n xs) : ∃ sp n' cap, v = .slice sp n' cap := by
 obtain ⟨sp, cap, rfl, _⟩ := row_form h
 exact ⟨_, _, _, rfl⟩
theorem apart4 {b p j : Nat} {c1 c2 c3 c4 : Array Value} {t1 t2 t3 t4 : TypeId} (h1 : b + 3 ≤ j) (h2 : j < p) : ∀ x ∈ ([(p, c1, t1), (b + 2, c2, t2), (b + 1, c3, t3), (b, c4, t4)] : List Blk3), x.1 ≠ j := by
 intro x hx
 rcases List.mem_cons.1 hx with rfl | hx
 ·
  simp only; omega
 rcases List.mem_cons.1 hx with rfl | hx
 ·
  simp only; omega
 rcases List.mem_cons.1 hx with rfl | hx
 ·
  simp only; omega
 rcases List.mem_cons.1 hx with rfl | hx
 ·
  simp only; omega
 ·
  cases hx
theorem apart3 {b p j : Nat} {c2 c3 c4 : Array Value} {t2 t3 t4 : TypeId} (h1 : b + 3 ≤ j) : ∀ x ∈ ([(b + 2, c2, t2), (b + 1, c3, t3), (b, c4, t4)] : List Blk3), x.1 ≠ j := fun x hx => apart4 (p := j + 1) (c1 := #[]) (t1 := t2) h1 (by omega) x (List.mem_cons_of_mem _ hx)
set_option maxHeartbeats 2000000 in
theorem rWithout_any (sp : Option Addr) (n cap : Nat) (ps : Ps) (key : Nat) (w : World) (h : SlK w 2 sp n (prs ps)) (hup : upB ps = true) (hn : n ≤ 4096) :
  Calls Tryz.prog 69 #[.agg #[.slice sp n cap], .int .u64 key] w fun e w' => ∃ sp' n' cap', e = .returned (.agg #[.slice sp' n' cap']) ∧ Below w.heap.size w w' ∧ w'.ownsRow w.heap.size 61 2 (.slice sp' n' cap') (delP ps key).length (prs (delP ps key)) := by
 obtain ⟨i0, hi, hz0, hz1, hz2⟩ := info_parts info_pair
 have hlen := prs_len h
 have H0 := (((Hs.nil w).new #[.slice sp n cap] 29).new #[.slice none 0 0] 29).new #[.slice none 0 0] 29
 obtain ⟨W0, hW0⟩ : ∃ W0, W0 = ((w.alloc (.cells #[.slice sp n cap] 29)).alloc (.cells #[.slice none 0 0] 29)).alloc (.cells #[.slice none 0 0] 29) := ⟨_, rfl⟩
 rw [← hW0] at H0
 simp only [World.size_alloc, Nat.add_assoc, Nat.reduceAdd] at H0
 have q0 : W0.cell? ⟨w.heap.size, 0, none⟩ = some (.slice sp n cap) := blk_cell H0.rows.2.2.1 rfl
 rw [del_filter hup]
 obtain ⟨pre, hpre0⟩ : ∃ pre : Ps, pre = [] := ⟨_, rfl⟩
 have hpre : pre.length ≤ 5000 := by rw [hpre0]; simp
 have hR0 : W0.ownsRow (w.heap.size + 3) 61 2 (.slice none 0 0) pre.length (prs pre) := by rw [hpre0]; exact World.ownsRow_nil _ _ _ _
 have H0'h := Lib.hid H0
 have h'h := Lib.hid h
 have hlen'h := Lib.hid hlen
 have hup'h := Lib.hid hup
 have hpre0'h := Lib.hid hpre0
 have hpre'h := Lib.hid hpre
 have hR0'h := Lib.hid hR0
 clear H0 h hlen hup hpre0 hpre hR0
 go_enter Tryz.func69, Tryz.ntmps69
 go_upto_region 2 with fail
 simp only [Nat.add_assoc, Nat.reduceAdd]
 rw [← hW0]
 clear hW0
 go_wp2
 clear q0
 go_loopg [11] n (fun q i wr => ∃ (k : Nat) (v : Value), k + q = n ∧ i = .int .i64 k ∧ Hs w [(w.heap.size + 2, #[v], 29), (w.heap.size + 1, #[.slice none 0 0], 29), (w.heap.size, #[.slice sp n cap], 29)] wr ∧ wr.ownsRow (w.heap.size + 3) 61 2 v (pre ++ (ps.take k).filter (fun p : Nat × Nat => !(p.1 == key))).length (prs (pre ++ (ps.take k).filter (fun p : Nat × Nat => !(p.1 == key)))))
 case atStart => exact ⟨0, _, by omega, rfl, H0'h.out, by rw [List.take_zero, List.filter_nil, List.append_nil]; exact hR0'h.out⟩
 case round =>
  obtain ⟨k, v, hq, rfl, hH, hrow⟩ := hrel
  have hfl : (pre ++ (ps.take k).filter (fun p : Nat × Nat => !(p.1 == key))).length ≤ 5000 + k := by have h1 := hpre'h.out; have h2 : ((ps.take k).filter (fun p : Nat × Nat => !(p.1 == key))).length ≤ k := Nat.le_trans (List.length_filter_le _ _) (by rw [List.length_take]; omega); rw [List.length_append]; omega
  by_cases hlt : k < n
  ·
   have hkl : k < ps.length := by have := hlen'h.out; omega
   obtain ⟨b, off, rfl⟩ := prs_some h'h.out (by omega)
   obtain ⟨d1, d2⟩ := prs_cells (h'h.out.below hH.old) hkl
   have htf := take_filter (p := (fun p : Nat × Nat => !(p.1 == key))) hkl
   rw [nthP_eq hkl] at htf
   have H4 := hH.new #[.int .u64 ((nthP ps k).1 : Int), .int .u64 ((nthP ps k).2 : Int)] 61
   have hw4 : w.heap.size + 3 ≤ wr.heap.size := by have := hH.lt _ (List.mem_cons_self ..); simp only at this; omega
   have hrow4 := ownsRow_next hrow ((Below.refl wr.heap.size wr).alloc (Nat.le_refl _) (.cells #[.int .u64 ((nthP ps k).1 : Int), .int .u64 ((nthP ps k).2 : Int)] 61))
   have hone : ∀ u ∈ ([.int .u64 ((nthP ps k).1 : Int), .int .u64 ((nthP ps k).2 : Int)] : List Value), u.oneCell' = true := by
    intro u hu
    simp at hu
    rcases hu with rfl | rfl <;> rfl
   have hi1 : (k : Int) < (n : Int) := by omega
   have h0k : (0 : Int) ≤ (k : Int) := by omega
   obtain ⟨W4, hW4⟩ : ∃ W4, W4 = wr.alloc (.cells #[.int .u64 ((nthP ps k).1 : Int), .int .u64 ((nthP ps k).2 : Int)] 61) := ⟨_, rfl⟩
   rw [← hW4] at H4 hrow4
   have q0 : W4.cell? ⟨wr.heap.size, 0, none⟩ = some (.int .u64 ((nthP ps k).1 : Int)) := blk_cell H4.rows.1 rfl
   have q1 : W4.cell? ⟨wr.heap.size, 1, none⟩ = some (.int .u64 ((nthP ps k).2 : Int)) := blk_cell H4.rows.1 rfl
   have q2 : W4.cell? ⟨w.heap.size + 2, 0, none⟩ = some v := blk_cell H4.rows.2.1 rfl
   have q2f := blk_free 0 H4.rows.2.1
   by_cases hc : (nthP ps k).1 ≠ key
   ·
    have hF : (!((nthP ps k).1 == key)) = true := by simp [hc]
    have hfact := (show (((nthP ps k).1 : Int) != (key : Int)) = true by simp; omega)
    rw [hF, if_pos rfl] at htf
    have hsn := prs_snocV (pre ++ (ps.take k).filter (fun p : Nat × Nat => !(p.1 == key))) (nthP ps k)
    have htf2 : pre ++ (ps.take (k + 1)).filter (fun p : Nat × Nat => !(p.1 == key)) = (pre ++ (ps.take k).filter (fun p : Nat × Nat => !(p.1 == key))) ++ [nthP ps k] := by rw [htf, List.append_assoc]
    rw [← htf2] at hsn
    have hlen2 : (pre ++ (ps.take (k + 1)).filter (fun p : Nat × Nat => !(p.1 == key))).length = (pre ++ (ps.take k).filter (fun p : Nat × Nat => !(p.1 == key))).length + 1 := by rw [htf2]; simp only [List.length_append, List.length_cons, List.length_nil]
    obtain ⟨F2, hF2⟩ : ∃ F2, F2 = pre ++ (ps.take (k + 1)).filter (fun p : Nat × Nat => !(p.1 == key)) := ⟨_, rfl⟩
    simp only [← hF2] at hsn hlen2
    clear htf htf2 hF
    have hF2'h := Lib.hid hF2
    clear hF2
    generalize pre ++ (ps.take k).filter (fun p : Nat × Nat => !(p.1 == key)) = F1 at *
    generalize (nthP ps k).1 = y0 at *
    generalize (nthP ps k).2 = y1 at *
    clear hc
    have hq'h := Lib.hid hq
    have hH'h := Lib.hid hH
    have hrow'h := Lib.hid hrow
    have H4'h := Lib.hid H4
    have hrow4'h := Lib.hid hrow4
    have hone'h := Lib.hid hone
    have hsn'h := Lib.hid hsn
    have hlen2'h := Lib.hid hlen2
    have hkl'h := Lib.hid hkl
    have hW4'h := Lib.hid hW4
    clear hq hH hrow H4 hrow4 hone hsn hlen2 hkl hW4
    go_upto_region 5 with fail
    rw [← hW4'h.out]
    clear d1 d2
    go_wp2_with (at_builtin; refine wpList_append_slk _ rfl (.tmp 20) (.tmp 22) 27 rfl (w.heap.size + 3) 61 i0 _ 2 16 Tryz.underlying27 hi hz0 hz1 hz2 rfl (by decide) _ F1.length _ rfl (ownsRow_next hrow4'h.out ((Below.refl _ _).alloc (Nat.le_refl _) _)) (some ⟨W4.heap.size, 0, none⟩) 1 1 _ rfl (SlK.of_blk (k := 2) (n := 1) (World.alloc_heap_new W4 (.cells #[.int .u64 (y0 : Int), .int .u64 (y1 : Int)] 61)) rfl (by decide)) hone'h.out (by unfold maxLen; omega) (by omega) (by rw [World.size_alloc]; have := H4'h.out.old.size; have := H4'h.out.lt _ (List.mem_cons_self ..); simp only at this; omega) ?_; intro v' w9 hown' hgrow hat; obtain ⟨sv, nv, cv, rfl⟩ := row_slice3 hown'; have H9 := (H4'h.out.next ((Below.refl _ _).alloc (Nat.le_refl _) _)).grown' hgrow (fun j hj => by have h1 := hrow'h.out.lt j hj; exact ⟨by omega, apart4 h1.1 h1.2⟩); have q9 : w9.cell? ⟨w.heap.size + 2, 0, none⟩ = some v := blk_cell H9.rows.2.1 rfl; have q9f := blk_free 0 H9.rows.2.1; have H10 := (H9.put 1 rfl 0 (.slice sv nv cv)).tail; have hown10 := ownsRow_setCell_below hown' (a := ⟨w.heap.size + 2, 0, none⟩) (show w.heap.size + 2 < w.heap.size + 3 by omega) (.slice sv nv cv); have H10'h := Lib.hid H10; have hown10'h := Lib.hid hown10; clear H9 H10 hown10 hown' hgrow hat q2 q2f)
    go_roundg (gk - 1)
    case measure => have := hq'h.out; omega
    case rel => exact ⟨k + 1, _, by have := hq'h.out; omega, by go_num, H10'h.out, by rw [← hF2'h.out, hlen2'h.out, ← hsn'h.out]; exact hown10'h.out⟩
   ·
    have hF : (!((nthP ps k).1 == key)) = false := by simp at hc; simp [hc]
    have hfact := (show (((nthP ps k).1 : Int) != (key : Int)) = false by simp; omega)
    rw [hF, if_neg (by decide), List.append_nil] at htf
    obtain ⟨F2, hF2⟩ : ∃ F2, F2 = pre ++ (ps.take (k + 1)).filter (fun p : Nat × Nat => !(p.1 == key)) := ⟨_, rfl⟩
    rw [htf] at hF2
    have hrow5 := hrow4
    rw [← hF2] at hrow5
    have hF3 : F2 = pre ++ (ps.take (k + 1)).filter (fun p : Nat × Nat => !(p.1 == key)) := by rw [htf]; exact hF2
    clear htf hF2 hF
    have hF3'h := Lib.hid hF3
    clear hF3
    generalize (nthP ps k).1 = y0 at *
    generalize (nthP ps k).2 = y1 at *
    clear hc
    have hq'h := Lib.hid hq
    have hH'h := Lib.hid hH
    have hrow'h := Lib.hid hrow
    have H4'h := Lib.hid H4
    have hrow4'h := Lib.hid hrow4
    have hrow5'h := Lib.hid hrow5
    have hone'h := Lib.hid hone
    have hkl'h := Lib.hid hkl
    have hW4'h := Lib.hid hW4
    clear hq hH hrow H4 hrow4 hrow5 hone hkl hW4
    go_upto_region 5 with fail
    rw [← hW4'h.out]
    clear d1 d2
    go_wp2
    go_roundg (gk - 1)
    case measure => have := hq'h.out; omega
    case rel => exact ⟨k + 1, v, by have := hq'h.out; omega, by go_num, H4'h.out.tail, by rw [← hF3'h.out]; exact hrow5'h.out⟩
  ·
   have hkn : k = ps.length := by have := hlen'h.out; omega
   rw [hkn, List.take_length] at hrow
   obtain ⟨sv, cv, rfl⟩ := row_slice' hrow
   have hi1 : ¬ (k : Int) < (n : Int) := by omega
   clear hlt hkn
   have hpre0 := hpre0'h.out
   subst hpre0
   rw [List.nil_append] at hH hrow
   obtain ⟨out, hout⟩ : ∃ out, out = ps.filter (fun p => !(p.1 == key)) := ⟨_, rfl⟩
   rw [← hout] at hH hrow
   have q2 : wr.cell? ⟨w.heap.size + 2, 0, none⟩ = some (.slice sv out.length cv) := blk_cell hH.rows.1 rfl
   have q1 : wr.cell? ⟨w.heap.size + 1, 0, none⟩ = some (.slice none 0 0) := blk_cell hH.rows.2.1 rfl
   have q1f := blk_free 0 hH.rows.2.1
   have H9 := hH.put 1 rfl 0 (.slice sv out.length cv)
   have hrow9 := ownsRow_setCell_below hrow (a := ⟨w.heap.size + 1, 0, none⟩) (show w.heap.size + 1 < w.heap.size + 3 by omega) (.slice sv out.length cv)
   have hq'h := Lib.hid hq
   have hH'h := Lib.hid hH
   have hrow'h := Lib.hid hrow
   have H9'h := Lib.hid H9
   have hrow9'h := Lib.hid hrow9
   have hout'h := Lib.hid hout
   clear hq hH hrow H9 hrow9 hout
   go_wp2
   have e1 : (wr.setCell ⟨w.heap.size + 1, 0, none⟩ (.slice sv out.length cv)).cell? ⟨w.heap.size + 1, 0, none⟩ = some (.slice sv out.length cv) := blk_cell (i := 0) H9'h.out.rows.2.1 rfl
   generalize World.setCell _ _ _ = W9 at H9'h hrow9'h e1 ⊢
   refine bodyPost_ret (v := .agg #[.slice sv out.length cv]) ?_ rfl ⟨sv, out.length, cv, rfl, H9'h.out.old, by rw [← hout'h.out]; exact ownsRow_mono hrow9'h.out (show w.heap.size ≤ w.heap.size + 3 by omega)⟩
   simp [results, Tryz.results69, go_sem, e1]
set_option maxHeartbeats 4000000 in
theorem rWith_any (sp : Option Addr) (n cap : Nat) (ps : Ps) (key val : Nat) (w : World) (h : SlK w 2 sp n (prs ps)) (hup : upB ps = true) (hn : n ≤ 4096) :
  Calls Tryz.prog 68 #[.agg #[.slice sp n cap], .int .u64 key, .int .u64 val] w fun e w' => ∃ sp' n' cap', e = .returned (.agg #[.slice sp' n' cap']) ∧ Below w.heap.size w w' ∧ w'.ownsRow w.heap.size 61 2 (.slice sp' n' cap') (insP ps key val).length (prs (insP ps key val)) := by
 obtain ⟨i0, hi, hz0, hz1, hz2⟩ := info_parts info_pair
 have hlen := prs_len h
 have H0 := (((Hs.nil w).new #[.slice sp n cap] 29).new #[.slice none 0 0] 29).new #[.slice none 0 0] 29
 obtain ⟨W0, hW0⟩ : ∃ W0, W0 = ((w.alloc (.cells #[.slice sp n cap] 29)).alloc (.cells #[.slice none 0 0] 29)).alloc (.cells #[.slice none 0 0] 29) := ⟨_, rfl⟩
 rw [← hW0] at H0
 simp only [World.size_alloc, Nat.add_assoc, Nat.reduceAdd] at H0
 have q0 : W0.cell? ⟨w.heap.size, 0, none⟩ = some (.slice sp n cap) := blk_cell H0.rows.2.2.1 rfl
 obtain ⟨pre, hpre0⟩ : ∃ pre : Ps, pre = [] := ⟨_, rfl⟩
 have hpre : pre.length ≤ 5000 := by rw [hpre0]; simp
 have hR0 : W0.ownsRow (w.heap.size + 3) 61 2 (.slice none 0 0) pre.length (prs pre) := by rw [hpre0]; exact World.ownsRow_nil _ _ _ _
 have H0'h := Lib.hid H0
 have h'h := Lib.hid h
 have hlen'h := Lib.hid hlen
 have hup'h := Lib.hid hup
 have hpre0'h := Lib.hid hpre0
 have hpre'h := Lib.hid hpre
 have hR0'h := Lib.hid hR0
 clear H0 h hlen hup hpre0 hpre hR0
 go_enter Tryz.func68, Tryz.ntmps68
 go_upto_region 2 with fail
 simp only [Nat.add_assoc, Nat.reduceAdd]
 rw [← hW0]
 clear hW0
 go_wp2
 clear q0
 go_loopg [15] n (fun q i wr => ∃ (k : Nat) (v : Value), k + q = n ∧ i = .int .i64 k ∧ Hs w [(w.heap.size + 2, #[v], 29), (w.heap.size + 1, #[.slice none 0 0], 29), (w.heap.size, #[.slice sp n cap], 29)] wr ∧ wr.ownsRow (w.heap.size + 3) 61 2 v (pre ++ (ps.take k).filter (fun p : Nat × Nat => decide (p.1 < key))).length (prs (pre ++ (ps.take k).filter (fun p : Nat × Nat => decide (p.1 < key)))))
 case atStart => exact ⟨0, _, by omega, rfl, H0'h.out, by rw [List.take_zero, List.filter_nil, List.append_nil]; exact hR0'h.out⟩
 case round =>
  obtain ⟨k, v, hq, rfl, hH, hrow⟩ := hrel
  have hfl : (pre ++ (ps.take k).filter (fun p : Nat × Nat => decide (p.1 < key))).length ≤ 5000 + k := by have h1 := hpre'h.out; have h2 : ((ps.take k).filter (fun p : Nat × Nat => decide (p.1 < key))).length ≤ k := Nat.le_trans (List.length_filter_le _ _) (by rw [List.length_take]; omega); rw [List.length_append]; omega
  by_cases hlt : k < n
  ·
   have hkl : k < ps.length := by have := hlen'h.out; omega
   obtain ⟨b, off, rfl⟩ := prs_some h'h.out (by omega)
   obtain ⟨d1, d2⟩ := prs_cells (h'h.out.below hH.old) hkl
   have htf := take_filter (p := (fun p : Nat × Nat => decide (p.1 < key))) hkl
   rw [nthP_eq hkl] at htf
   have H4 := hH.new #[.int .u64 ((nthP ps k).1 : Int), .int .u64 ((nthP ps k).2 : Int)] 61
   have hw4 : w.heap.size + 3 ≤ wr.heap.size := by have := hH.lt _ (List.mem_cons_self ..); simp only at this; omega
   have hrow4 := ownsRow_next hrow ((Below.refl wr.heap.size wr).alloc (Nat.le_refl _) (.cells #[.int .u64 ((nthP ps k).1 : Int), .int .u64 ((nthP ps k).2 : Int)] 61))
   have hone : ∀ u ∈ ([.int .u64 ((nthP ps k).1 : Int), .int .u64 ((nthP ps k).2 : Int)] : List Value), u.oneCell' = true := by
    intro u hu
    simp at hu
    rcases hu with rfl | rfl <;> rfl
   have hi1 : (k : Int) < (n : Int) := by omega
   have h0k : (0 : Int) ≤ (k : Int) := by omega
   obtain ⟨W4, hW4⟩ : ∃ W4, W4 = wr.alloc (.cells #[.int .u64 ((nthP ps k).1 : Int), .int .u64 ((nthP ps k).2 : Int)] 61) := ⟨_, rfl⟩
   rw [← hW4] at H4 hrow4
   have q0 : W4.cell? ⟨wr.heap.size, 0, none⟩ = some (.int .u64 ((nthP ps k).1 : Int)) := blk_cell H4.rows.1 rfl
   have q1 : W4.cell? ⟨wr.heap.size, 1, none⟩ = some (.int .u64 ((nthP ps k).2 : Int)) := blk_cell H4.rows.1 rfl
   have q2 : W4.cell? ⟨w.heap.size + 2, 0, none⟩ = some v := blk_cell H4.rows.2.1 rfl
   have q2f := blk_free 0 H4.rows.2.1
   by_cases hc : (nthP ps k).1 < key
   ·
    have hF : (decide ((nthP ps k).1 < key)) = true := by simp [hc]
    have hfact := (show ((nthP ps k).1 : Int) < (key : Int) by omega)
    rw [hF, if_pos rfl] at htf
    have hsn := prs_snocV (pre ++ (ps.take k).filter (fun p : Nat × Nat => decide (p.1 < key))) (nthP ps k)
    have htf2 : pre ++ (ps.take (k + 1)).filter (fun p : Nat × Nat => decide (p.1 < key)) = (pre ++ (ps.take k).filter (fun p : Nat × Nat => decide (p.1 < key))) ++ [nthP ps k] := by rw [htf, List.append_assoc]
    rw [← htf2] at hsn
    have hlen2 : (pre ++ (ps.take (k + 1)).filter (fun p : Nat × Nat => decide (p.1 < key))).length = (pre ++ (ps.take k).filter (fun p : Nat × Nat => decide (p.1 < key))).length + 1 := by rw [htf2]; simp only [List.length_append, List.length_cons, List.length_nil]
    obtain ⟨F2, hF2⟩ : ∃ F2, F2 = pre ++ (ps.take (k + 1)).filter (fun p : Nat × Nat => decide (p.1 < key)) := ⟨_, rfl⟩
    simp only [← hF2] at hsn hlen2
    clear htf htf2 hF
    have hF2'h := Lib.hid hF2
    clear hF2
    generalize pre ++ (ps.take k).filter (fun p : Nat × Nat => decide (p.1 < key)) = F1 at *
    generalize (nthP ps k).1 = y0 at *
    generalize (nthP ps k).2 = y1 at *
    clear hc
    have hq'h := Lib.hid hq
    have hH'h := Lib.hid hH
    have hrow'h := Lib.hid hrow
    have H4'h := Lib.hid H4
    have hrow4'h := Lib.hid hrow4
    have hone'h := Lib.hid hone
    have hsn'h := Lib.hid hsn
    have hlen2'h := Lib.hid hlen2
    have hkl'h := Lib.hid hkl
    have hW4'h := Lib.hid hW4
    clear hq hH hrow H4 hrow4 hone hsn hlen2 hkl hW4
    go_upto_region 5 with fail
    rw [← hW4'h.out]
    clear d1 d2
    go_wp2_with (at_builtin; refine wpList_append_slk _ rfl (.tmp 24) (.tmp 26) 27 rfl (w.heap.size + 3) 61 i0 _ 2 16 Tryz.underlying27 hi hz0 hz1 hz2 rfl (by decide) _ F1.length _ rfl (ownsRow_next hrow4'h.out ((Below.refl _ _).alloc (Nat.le_refl _) _)) (some ⟨W4.heap.size, 0, none⟩) 1 1 _ rfl (SlK.of_blk (k := 2) (n := 1) (World.alloc_heap_new W4 (.cells #[.int .u64 (y0 : Int), .int .u64 (y1 : Int)] 61)) rfl (by decide)) hone'h.out (by unfold maxLen; omega) (by omega) (by rw [World.size_alloc]; have := H4'h.out.old.size; have := H4'h.out.lt _ (List.mem_cons_self ..); simp only at this; omega) ?_; intro v' w9 hown' hgrow hat; obtain ⟨sv, nv, cv, rfl⟩ := row_slice3 hown'; have H9 := (H4'h.out.next ((Below.refl _ _).alloc (Nat.le_refl _) _)).grown' hgrow (fun j hj => by have h1 := hrow'h.out.lt j hj; exact ⟨by omega, apart4 h1.1 h1.2⟩); have q9 : w9.cell? ⟨w.heap.size + 2, 0, none⟩ = some v := blk_cell H9.rows.2.1 rfl; have q9f := blk_free 0 H9.rows.2.1; have H10 := (H9.put 1 rfl 0 (.slice sv nv cv)).tail; have hown10 := ownsRow_setCell_below hown' (a := ⟨w.heap.size + 2, 0, none⟩) (show w.heap.size + 2 < w.heap.size + 3 by omega) (.slice sv nv cv); have H10'h := Lib.hid H10; have hown10'h := Lib.hid hown10; clear H9 H10 hown10 hown' hgrow hat q2 q2f)
    go_roundg (gk - 1)
    case measure => have := hq'h.out; omega
    case rel => exact ⟨k + 1, _, by have := hq'h.out; omega, by go_num, H10'h.out, by rw [← hF2'h.out, hlen2'h.out, ← hsn'h.out]; exact hown10'h.out⟩
   ·
    have hF : (decide ((nthP ps k).1 < key)) = false := by simp [hc]
    have hfact := (show ¬ ((nthP ps k).1 : Int) < (key : Int) by omega)
    rw [hF, if_neg (by decide), List.append_nil] at htf
    obtain ⟨F2, hF2⟩ : ∃ F2, F2 = pre ++ (ps.take (k + 1)).filter (fun p : Nat × Nat => decide (p.1 < key)) := ⟨_, rfl⟩
    rw [htf] at hF2
    have hrow5 := hrow4
    rw [← hF2] at hrow5
    have hF3 : F2 = pre ++ (ps.take (k + 1)).filter (fun p : Nat × Nat => decide (p.1 < key)) := by rw [htf]; exact hF2
    clear htf hF2 hF
    have hF3'h := Lib.hid hF3
    clear hF3
    generalize (nthP ps k).1 = y0 at *
    generalize (nthP ps k).2 = y1 at *
    clear hc
    have hq'h := Lib.hid hq
    have hH'h := Lib.hid hH
    have hrow'h := Lib.hid hrow
    have H4'h := Lib.hid H4
    have hrow4'h := Lib.hid hrow4
    have hrow5'h := Lib.hid hrow5
    have hone'h := Lib.hid hone
    have hkl'h := Lib.hid hkl
    have hW4'h := Lib.hid hW4
    clear hq hH hrow H4 hrow4 hrow5 hone hkl hW4
    go_upto_region 5 with fail
    rw [← hW4'h.out]
    clear d1 d2
    go_wp2
    go_roundg (gk - 1)
    case measure => have := hq'h.out; omega
    case rel => exact ⟨k + 1, v, by have := hq'h.out; omega, by go_num, H4'h.out.tail, by rw [← hF3'h.out]; exact hrow5'h.out⟩
  ·
   have hkn : k = ps.length := by have := hlen'h.out; omega
   rw [hkn, List.take_length] at hrow
   obtain ⟨sv, cv, rfl⟩ := row_slice' hrow
   have hi1 : ¬ (k : Int) < (n : Int) := by omega
   clear hlt hkn
   have hpre0 := hpre0'h.out
   subst hpre0
   rw [List.nil_append] at hH hrow
   have hole : (ps.filter (fun p => decide (p.1 < key))).length ≤ 4100 := Nat.le_trans (List.length_filter_le _ _) (show ps.length ≤ 4100 by have := hlen'h.out; omega)
   obtain ⟨out, hout⟩ : ∃ out, out = ps.filter (fun p => decide (p.1 < key)) := ⟨_, rfl⟩
   rw [← hout] at hH hrow hole
   have q2 : wr.cell? ⟨w.heap.size + 2, 0, none⟩ = some (.slice sv out.length cv) := blk_cell hH.rows.1 rfl
   have hone : ∀ u ∈ ([.int .u64 (key : Int), .int .u64 (val : Int)] : List Value), u.oneCell' = true := by
    intro u hu
    simp at hu
    rcases hu with rfl | rfl <;> rfl
   have hq'h := Lib.hid hq
   have hH'h := Lib.hid hH
   have hrow'h := Lib.hid hrow
   have hone'h := Lib.hid hone
   have hout'h := Lib.hid hout
   clear hq hH hrow hone hout
   clear hpre'h hpre0'h hR0'h hfl
   have q2f := blk_free 0 hH'h.out.rows.1
   have hwr3 : w.heap.size + 3 ≤ wr.heap.size := by have := hH'h.out.lt _ (List.mem_cons_self ..); simp only at this; omega
   go_upto_region 9 with (at_builtin; refine wpList_append_slk _ rfl (.tmp 31) (.tmp 35) 27 rfl (w.heap.size + 3) 61 i0 _ 2 16 Tryz.underlying27 hi hz0 hz1 hz2 rfl (by decide) _ out.length _ rfl (ownsRow_next hrow'h.out ((Below.refl _ _).alloc (Nat.le_refl _) _)) (some ⟨wr.heap.size, 0, none⟩) 1 1 _ rfl (SlK.of_blk (k := 2) (n := 1) (World.alloc_heap_new wr (.cells #[.int .u64 (key : Int), .int .u64 (val : Int)] 61)) rfl (by decide)) hone'h.out (by unfold maxLen; omega) (by omega) (by rw [World.size_alloc]; omega) ?_; intro v' w9 hown' hgrow hat; obtain ⟨sv, nv, cv, rfl⟩ := row_slice3 hown'; have H9 := (hH'h.out.next ((Below.refl _ _).alloc (Nat.le_refl _) _)).grown' hgrow (fun j hj => by have h1 := hrow'h.out.lt j hj; exact ⟨by omega, apart3 (p := 0) h1.1⟩); have q9 : w9.cell? ⟨w.heap.size + 2, 0, none⟩ = some _ := blk_cell H9.rows.1 rfl; have q9f := blk_free 0 H9.rows.1; have H10 := H9.put 0 rfl 0 (.slice sv nv cv); have hown10 := ownsRow_setCell_below hown' (a := ⟨w.heap.size + 2, 0, none⟩) (show w.heap.size + 2 < w.heap.size + 3 by omega) (.slice sv nv cv); have H10'h := Lib.hid H10; have hown10'h := Lib.hid hown10; clear H9 H10 hown10 hown' hgrow hat q2 q2f)
   generalize World.setCell _ _ _ = W10 at H10'h hown10'h ⊢
   clear q9 q9f
   rw [prs_snocV out (key, val)] at hown10'h
   have hpl : out.length + 1 = (out ++ [(key, val)]).length := by simp only [List.length_append, List.length_cons, List.length_nil]
   rw [hpl] at hown10'h
   have hpre : (out ++ [(key, val)]).length ≤ 5000 := by rw [← hpl]; omega
   obtain ⟨pre, hpr⟩ : ∃ pre, pre = out ++ [(key, val)] := ⟨_, rfl⟩
   rw [← hpr] at hown10'h hpre
   have hpre'h := Lib.hid hpre
   have hpr'h := Lib.hid hpr
   clear hpre hpr
   have p0 : W10.cell? ⟨w.heap.size, 0, none⟩ = some (.slice sp n cap) := blk_cell H10'h.out.rows.2.2.1 rfl
   go_wp2
   clear p0 hole hi1 hwr3 hq'h hH'h hrow'h hone'h
   have H10 := H10'h.out
   change Hs w [(w.heap.size + 2, #[.slice sv nv cv], 29), (w.heap.size + 1, #[.slice none 0 0], 29), (w.heap.size, #[.slice sp n cap], 29)] W10 at H10
   clear H10'h
   have H10'h := Lib.hid H10
   clear H10
   go_loopg [41] n (fun q i wr => ∃ (k : Nat) (v : Value), k + q = n ∧ i = .int .i64 k ∧ Hs w [(w.heap.size + 2, #[v], 29), (w.heap.size + 1, #[.slice none 0 0], 29), (w.heap.size, #[.slice sp n cap], 29)] wr ∧ wr.ownsRow (w.heap.size + 3) 61 2 v (pre ++ (ps.take k).filter (fun p : Nat × Nat => decide (key < p.1))).length (prs (pre ++ (ps.take k).filter (fun p : Nat × Nat => decide (key < p.1)))))
   case atStart => exact ⟨0, _, by omega, rfl, H10'h.out, by rw [List.take_zero, List.filter_nil, List.append_nil]; exact hown10'h.out⟩
   case round =>
    obtain ⟨k, v, hq, rfl, hH, hrow⟩ := hrel
    have hfl : (pre ++ (ps.take k).filter (fun p : Nat × Nat => decide (key < p.1))).length ≤ 5000 + k := by have h1 := hpre'h.out; have h2 : ((ps.take k).filter (fun p : Nat × Nat => decide (key < p.1))).length ≤ k := Nat.le_trans (List.length_filter_le _ _) (by rw [List.length_take]; omega); rw [List.length_append]; omega
    by_cases hlt : k < n
    ·
     have hkl : k < ps.length := by have := hlen'h.out; omega
     obtain ⟨b, off, rfl⟩ := prs_some h'h.out (by omega)
     obtain ⟨d1, d2⟩ := prs_cells (h'h.out.below hH.old) hkl
     have htf := take_filter (p := (fun p : Nat × Nat => decide (key < p.1))) hkl
     rw [nthP_eq hkl] at htf
     have H4 := hH.new #[.int .u64 ((nthP ps k).1 : Int), .int .u64 ((nthP ps k).2 : Int)] 61
     have hw4 : w.heap.size + 3 ≤ wr.heap.size := by have := hH.lt _ (List.mem_cons_self ..); simp only at this; omega
     have hrow4 := ownsRow_next hrow ((Below.refl wr.heap.size wr).alloc (Nat.le_refl _) (.cells #[.int .u64 ((nthP ps k).1 : Int), .int .u64 ((nthP ps k).2 : Int)] 61))
     have hone : ∀ u ∈ ([.int .u64 ((nthP ps k).1 : Int), .int .u64 ((nthP ps k).2 : Int)] : List Value), u.oneCell' = true := by
      intro u hu
      simp at hu
      rcases hu with rfl | rfl <;> rfl
     have hi1 : (k : Int) < (n : Int) := by omega
     have h0k : (0 : Int) ≤ (k : Int) := by omega
     obtain ⟨W4, hW4⟩ : ∃ W4, W4 = wr.alloc (.cells #[.int .u64 ((nthP ps k).1 : Int), .int .u64 ((nthP ps k).2 : Int)] 61) := ⟨_, rfl⟩
     rw [← hW4] at H4 hrow4
     have q0 : W4.cell? ⟨wr.heap.size, 0, none⟩ = some (.int .u64 ((nthP ps k).1 : Int)) := blk_cell H4.rows.1 rfl
     have q1 : W4.cell? ⟨wr.heap.size, 1, none⟩ = some (.int .u64 ((nthP ps k).2 : Int)) := blk_cell H4.rows.1 rfl
     have q2 : W4.cell? ⟨w.heap.size + 2, 0, none⟩ = some v := blk_cell H4.rows.2.1 rfl
     have q2f := blk_free 0 H4.rows.2.1
     by_cases hc : key < (nthP ps k).1
     ·
      have hF : (decide (key < (nthP ps k).1)) = true := by simp [hc]
      have hfact := (show (key : Int) < ((nthP ps k).1 : Int) by omega)
      rw [hF, if_pos rfl] at htf
      have hsn := prs_snocV (pre ++ (ps.take k).filter (fun p : Nat × Nat => decide (key < p.1))) (nthP ps k)
      have htf2 : pre ++ (ps.take (k + 1)).filter (fun p : Nat × Nat => decide (key < p.1)) = (pre ++ (ps.take k).filter (fun p : Nat × Nat => decide (key < p.1))) ++ [nthP ps k] := by rw [htf, List.append_assoc]
      rw [← htf2] at hsn
      have hlen2 : (pre ++ (ps.take (k + 1)).filter (fun p : Nat × Nat => decide (key < p.1))).length = (pre ++ (ps.take k).filter (fun p : Nat × Nat => decide (key < p.1))).length + 1 := by rw [htf2]; simp only [List.length_append, List.length_cons, List.length_nil]
      obtain ⟨F2, hF2⟩ : ∃ F2, F2 = pre ++ (ps.take (k + 1)).filter (fun p : Nat × Nat => decide (key < p.1)) := ⟨_, rfl⟩
      simp only [← hF2] at hsn hlen2
      clear htf htf2 hF
      have hF2'h := Lib.hid hF2
      clear hF2
      generalize pre ++ (ps.take k).filter (fun p : Nat × Nat => decide (key < p.1)) = F1 at *
      generalize (nthP ps k).1 = y0 at *
      generalize (nthP ps k).2 = y1 at *
      clear hc
      have hq'h := Lib.hid hq
      have hH'h := Lib.hid hH
      have hrow'h := Lib.hid hrow
      have H4'h := Lib.hid H4
      have hrow4'h := Lib.hid hrow4
      have hone'h := Lib.hid hone
      have hsn'h := Lib.hid hsn
      have hlen2'h := Lib.hid hlen2
      have hkl'h := Lib.hid hkl
      have hW4'h := Lib.hid hW4
      clear hq hH hrow H4 hrow4 hone hsn hlen2 hkl hW4
      go_upto_region 12 with fail
      rw [← hW4'h.out]
      clear d1 d2
      go_wp2_with (at_builtin; refine wpList_append_slk _ rfl (.tmp 50) (.tmp 52) 27 rfl (w.heap.size + 3) 61 i0 _ 2 16 Tryz.underlying27 hi hz0 hz1 hz2 rfl (by decide) _ F1.length _ rfl (ownsRow_next hrow4'h.out ((Below.refl _ _).alloc (Nat.le_refl _) _)) (some ⟨W4.heap.size, 0, none⟩) 1 1 _ rfl (SlK.of_blk (k := 2) (n := 1) (World.alloc_heap_new W4 (.cells #[.int .u64 (y0 : Int), .int .u64 (y1 : Int)] 61)) rfl (by decide)) hone'h.out (by unfold maxLen; omega) (by omega) (by rw [World.size_alloc]; have := H4'h.out.old.size; have := H4'h.out.lt _ (List.mem_cons_self ..); simp only at this; omega) ?_; intro v' w9 hown' hgrow hat; obtain ⟨sv, nv, cv, rfl⟩ := row_slice3 hown'; have H9 := (H4'h.out.next ((Below.refl _ _).alloc (Nat.le_refl _) _)).grown' hgrow (fun j hj => by have h1 := hrow'h.out.lt j hj; exact ⟨by omega, apart4 h1.1 h1.2⟩); have q9 : w9.cell? ⟨w.heap.size + 2, 0, none⟩ = some v := blk_cell H9.rows.2.1 rfl; have q9f := blk_free 0 H9.rows.2.1; have H10 := (H9.put 1 rfl 0 (.slice sv nv cv)).tail; have hown10 := ownsRow_setCell_below hown' (a := ⟨w.heap.size + 2, 0, none⟩) (show w.heap.size + 2 < w.heap.size + 3 by omega) (.slice sv nv cv); have H10'h := Lib.hid H10; have hown10'h := Lib.hid hown10; clear H9 H10 hown10 hown' hgrow hat q2 q2f)
      go_roundg (gk - 1)
      case measure => have := hq'h.out; omega
      case rel => exact ⟨k + 1, _, by have := hq'h.out; omega, by go_num, H10'h.out, by rw [← hF2'h.out, hlen2'h.out, ← hsn'h.out]; exact hown10'h.out⟩
     ·
      have hF : (decide (key < (nthP ps k).1)) = false := by simp [hc]
      have hfact := (show ¬ (key : Int) < ((nthP ps k).1 : Int) by omega)
      rw [hF, if_neg (by decide), List.append_nil] at htf
      obtain ⟨F2, hF2⟩ : ∃ F2, F2 = pre ++ (ps.take (k + 1)).filter (fun p : Nat × Nat => decide (key < p.1)) := ⟨_, rfl⟩
      rw [htf] at hF2
      have hrow5 := hrow4
      rw [← hF2] at hrow5
      have hF3 : F2 = pre ++ (ps.take (k + 1)).filter (fun p : Nat × Nat => decide (key < p.1)) := by rw [htf]; exact hF2
      clear htf hF2 hF
      have hF3'h := Lib.hid hF3
      clear hF3
      generalize (nthP ps k).1 = y0 at *
      generalize (nthP ps k).2 = y1 at *
      clear hc
      have hq'h := Lib.hid hq
      have hH'h := Lib.hid hH
      have hrow'h := Lib.hid hrow
      have H4'h := Lib.hid H4
      have hrow4'h := Lib.hid hrow4
      have hrow5'h := Lib.hid hrow5
      have hone'h := Lib.hid hone
      have hkl'h := Lib.hid hkl
      have hW4'h := Lib.hid hW4
      clear hq hH hrow H4 hrow4 hrow5 hone hkl hW4
      go_upto_region 12 with fail
      rw [← hW4'h.out]
      clear d1 d2
      go_wp2
      go_roundg (gk - 1)
      case measure => have := hq'h.out; omega
      case rel => exact ⟨k + 1, v, by have := hq'h.out; omega, by go_num, H4'h.out.tail, by rw [← hF3'h.out]; exact hrow5'h.out⟩
    ·
     have hkn : k = ps.length := by have := hlen'h.out; omega
     rw [hkn, List.take_length] at hrow
     obtain ⟨sv, cv, rfl⟩ := row_slice' hrow
     have hi1 : ¬ (k : Int) < (n : Int) := by omega
     clear hlt hkn
     obtain ⟨res, hres⟩ : ∃ res, res = pre ++ ps.filter (fun p => decide (key < p.1)) := ⟨_, rfl⟩
     rw [← hres] at hH hrow
     have hfin : res = insP ps key val := by rw [ins_filter hup'h.out, hres, hpr'h.out, hout'h.out]
     clear hres
     have q2 : wr.cell? ⟨w.heap.size + 2, 0, none⟩ = some (.slice sv res.length cv) := blk_cell hH.rows.1 rfl
     have q1 : wr.cell? ⟨w.heap.size + 1, 0, none⟩ = some (.slice none 0 0) := blk_cell hH.rows.2.1 rfl
     have q1f := blk_free 0 hH.rows.2.1
     have H9 := hH.put 1 rfl 0 (.slice sv res.length cv)
     have hrow9 := ownsRow_setCell_below hrow (a := ⟨w.heap.size + 1, 0, none⟩) (show w.heap.size + 1 < w.heap.size + 3 by omega) (.slice sv res.length cv)
     have hq'h := Lib.hid hq
     have hH'h := Lib.hid hH
     have hrow'h := Lib.hid hrow
     have H9'h := Lib.hid H9
     have hrow9'h := Lib.hid hrow9
     have hfin'h := Lib.hid hfin
     clear hq hH hrow H9 hrow9 hfin
     go_wp2
     have e1 : (wr.setCell ⟨w.heap.size + 1, 0, none⟩ (.slice sv res.length cv)).cell? ⟨w.heap.size + 1, 0, none⟩ = some (.slice sv res.length cv) := blk_cell (i := 0) H9'h.out.rows.2.1 rfl
     generalize World.setCell _ _ _ = W9 at H9'h hrow9'h e1 ⊢
     refine bodyPost_ret (v := .agg #[.slice sv res.length cv]) ?_ rfl ⟨sv, res.length, cv, rfl, H9'h.out.old, by rw [← hfin'h.out]; exact ownsRow_mono hrow9'h.out (show w.heap.size ≤ w.heap.size + 3 by omega)⟩
     simp [results, Tryz.results68, go_sem, e1]
end Go.Proofs.YtogeohjeabbmaaaGreatDoor
