/-
  Package model: copies of rows; tables made of maps.
-/
import Derived.Test.YthfeiiibedmkiaaModelG
import Derived.Test.YthfeiiibedmkiaaRowMk
set_option linter.unusedSimpArgs false
set_option linter.unusedVariables false
set_option maxRecDepth 100000
namespace Go.Proofs.Ythfeiiibedmkiaa
open Go.RowKit

set_option maxHeartbeats 1000000 in
theorem mown_any (sp : Option Addr) (n cap : Nat) (ps : Ps) (w : World) (h : SlK w 2 sp n (prs ps)) (hn : n ≤ 4096) :
    Calls Try.prog 75 #[.slice sp n cap] w fun e w' => e = .returned (.slice (some ⟨w.heap.size, 0, none⟩) n n) ∧ Below w.heap.size w w' ∧ RowP w' w.heap.size (some ⟨w.heap.size, 0, none⟩) n n ps := by
  obtain ⟨i0, hi, hz0, hz1, hz2⟩ := info_parts info_pair
  have hlen := prs_len h
  have mk := run_make_rowk (P := Try.prog) 24 38 i0 _ Try.underlying24 hi hz0 .i64 .i64 n (by unfold maxLen; omega) (by rw [hz2]; omega) w
  obtain ⟨C, hC⟩ : ∃ C, C = madeCells (Value.agg #[.int .u64 0, .int .u64 0]).cells (n * i0.size) := ⟨_, rfl⟩
  have hCs : C.size = n * 2 := by rw [hC, size_madeCells, hz1]
  rw [← hC] at mk
  obtain ⟨W1, hW1⟩ : ∃ W1, W1 = w.alloc (.cells C 38) := ⟨_, rfl⟩
  rw [← hW1] at mk
  have hb1 : Below w.heap.size w W1 := by rw [hW1]; exact (Below.refl _ _).alloc (Nat.le_refl _) _
  have hg1 : W1.heap[w.heap.size]? = some (.cells C 38 (0, 0)) := by rw [hW1]; exact World.alloc_heap_new _ _
  by_cases h0 : n = 0
  · subst h0
    have hps : ps = [] := List.eq_nil_of_length_eq_zero hlen.symm
    have cp := fun ty dc sc => run_copy_none_k W1 24 24 ty 38 (some ⟨w.heap.size, 0, none⟩) sp 0 dc 0 sc 2 Try.underlying24 info_pair2 rfl
    have hR : RowP W1 w.heap.size (some ⟨w.heap.size, 0, none⟩) 0 0 ps := ⟨hlen, Nat.le_refl _, by decide, .inr ⟨_, C, rfl, Nat.le_refl _, hg1, by omega, by rw [hps]; simp [prs]⟩⟩
    simp only [show ((0 : Nat) : Int) = 0 from rfl] at mk
    clear hC hW1
    have h'h := Lib.hid h
    have hlen'h := Lib.hid hlen
    have hb1'h := Lib.hid hb1
    have hg1'h := Lib.hid hg1
    have cp'h := Lib.hid cp
    have hR'h := Lib.hid hR
    have hi'h := Lib.hid hi
    have hz0'h := Lib.hid hz0
    have hz1'h := Lib.hid hz1
    have hz2'h := Lib.hid hz2
    have hCs'h := Lib.hid hCs
    clear h hlen hb1 hg1 cp hR hi hz0 hz1 hz2 hCs
    go_enter Try.func75, Try.ntmps75
    go_upto_region 2 with fail
    clear mk
    go_wp2_with (refine wpList_copy_run' _ rfl _ _ 24 24 rfl _ _ rfl rfl (cp'h.out _ _ _) ?_)
    go_ret
    exact ⟨rfl, hb1'h.out, hR'h.out⟩
  · obtain ⟨b, off, rfl⟩ := prs_some h (by omega)
    have hpl : (prs ps).length = n * 2 := by rw [prs_length, ← hlen]
    have cp := fun ty dc sc => run_copy_rowk W1 24 24 ty 38 2 w.heap.size 0 n dc ⟨b, off, none⟩ n sc C _ (prs ps) Try.underlying24 info_pair2 hg1 (by rw [hpl]; show n * 2 = min n n * 2; rw [Nat.min_self]) (fun q u hu => by rw [add_lit']; exact (h.below hb1).cell hu) (by rw [hpl, hCs]; omega) (prs_one _)
    obtain ⟨C2, hC2⟩ : ∃ C2, C2 = (C.toList.take 0 ++ prs ps ++ C.toList.drop (0 + (prs ps).length)).toArray := ⟨_, rfl⟩
    rw [← hC2] at cp
    obtain ⟨W2, hW2⟩ : ∃ W2, W2 = W1.setRow w.heap.size C2 := ⟨_, rfl⟩
    rw [← hW2] at cp
    have hg2 : W2.heap[w.heap.size]? = some (.cells C2 38 (0, 0)) := by rw [hW2]; exact setRow_heap _ _ _ _ _ _ hg1
    have hb2 : Below w.heap.size w W2 := by rw [hW2]; exact below_setRow' hb1 (Nat.le_refl _) _
    have hR : RowP W2 w.heap.size (some ⟨w.heap.size, 0, none⟩) n n ps := by
      refine ⟨hlen, Nat.le_refl _, by unfold maxLen; omega, .inr ⟨_, C2, rfl, Nat.le_refl _, hg2, ?_, ?_⟩⟩
      · rw [hC2]; simp [hpl]
      · rw [hC2, ← hpl]; simp
    clear hC hW1 hC2 hW2
    have h'h := Lib.hid h
    have hlen'h := Lib.hid hlen
    have hb1'h := Lib.hid hb1
    have hg1'h := Lib.hid hg1
    have cp'h := Lib.hid cp
    have hR'h := Lib.hid hR
    have hi'h := Lib.hid hi
    have hz0'h := Lib.hid hz0
    have hz1'h := Lib.hid hz1
    have hz2'h := Lib.hid hz2
    have hCs'h := Lib.hid hCs
    have hb2'h := Lib.hid hb2
    have hg2'h := Lib.hid hg2
    have hpl'h := Lib.hid hpl
    clear h hlen hb1 hg1 cp hR hi hz0 hz1 hz2 hCs hb2 hg2 hpl
    go_enter Try.func75, Try.ntmps75
    go_upto_region 2 with fail
    clear mk
    go_wp2_with (refine wpList_copy_run' _ rfl _ _ 24 24 rfl _ _ rfl rfl (cp'h.out _ _ _) ?_)
    go_ret
    exact ⟨rfl, hb2'h.out, hR'h.out⟩
/-- A table of a map's own copy. -/
theorem mof_any (sp : Option Addr) (n cap : Nat) (ps : Ps) (w : World) (h : SlK w 2 sp n (prs ps)) (hn : n ≤ 4096) :
    Calls Try.prog 71 #[.agg #[.slice sp n cap]] w fun e w' => ∃ tb g, e = .returned (.pointer (some ⟨tb, 0, none⟩)) ∧ Below w.heap.size w w' ∧ Tab w' w.heap.size tb (some ⟨g, 0, none⟩) n n ps := by
  have H0 := (Hs.nil w).new #[.slice sp n cap] 31
  have O := mown_any sp n cap ps _ (h.below H0.old) hn
  have h'h := Lib.hid h
  have H0'h := Lib.hid H0
  have O'h := Lib.hid O
  clear h H0 O
  go_enter Try.func71, Try.ntmps71
  go_wp2_with (go_at_call 75; refine O'h.out.mono ?_; rintro e w2 ⟨rfl, hb2, hR⟩)
  go_ret
  have e1 : (w.alloc (.cells #[.slice sp n cap] 31)).heap.size = w.heap.size + 1 := by simp
  rw [e1] at hR
  have H2 := H0'h.out.next hb2
  have hn' := H2.new #[.slice (some ⟨w.heap.size + 1, 0, none⟩) n n] 100
  refine ⟨w2.heap.size, w.heap.size + 1, rfl, hn'.old, hn'.rows.1, H2.old.size, ?_⟩
  exact (hR.low (by omega)).below ((Below.refl _ _).alloc (Nat.le_refl _) _)
end Go.Proofs.Ythfeiiibedmkiaa
