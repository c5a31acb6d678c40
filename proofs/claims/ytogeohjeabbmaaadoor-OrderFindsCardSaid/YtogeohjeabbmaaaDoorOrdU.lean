/-
  Layer 27 (order): the statements' own calls, plain.
-/
import Derived.Test.YtogeohjeabbmaaaDoorOrdT
set_option linter.unusedSimpArgs false
set_option linter.unusedVariables false
set_option maxRecDepth 100000
namespace Go.Proofs.YtogeohjeabbmaaaDoor
open Go.RowKit

def mkM (m : Md) : Mm := ⟨m, none, 0, 0, none, 0, 0⟩
def thA (o : Int) : Md := ⟨0, ⟨2, 5, 50, 0⟩, ⟨0, 0, false⟩, [], 1, 4, o, []⟩
def thB : Md := ⟨1, ⟨1, 5, 0, 0⟩, ⟨0, 50, true⟩, [], 2, 6, 8, []⟩
def thC : Md := ⟨2, ⟨1, 5, 0, 0⟩, ⟨0, 0, false⟩, [], 3, 3, 7, []⟩
def threeL (o : Int) : List Mm := [mkM (thA o), mkM thB, mkM thC]
/-- Rows in which the calls lie at one end, or in the midst. -/
theorem mms_drop (l : List Mm) (k : Nat) : (mms l).drop (k * 13) = mms (l.drop k) := flat_drop mmL_len l k
theorem MsIn.drop {w : World} {b off n : Nat} {l : List Mm} (h : MsIn w (some ⟨b, off, none⟩) n l) {k : Nat} (hk : k ≤ n) : MsIn w (some ⟨b, off + k * 13, none⟩) (n - k) (l.drop k) := by
  refine ⟨⟨?_, Nat.le_trans (Nat.sub_le _ _) h.sl.2.1, ?_⟩, fun m hm => h.each m (List.mem_of_mem_drop hm)⟩
  · rw [← mms_drop, List.length_drop, h.sl.1, Nat.sub_mul]
  · by_cases h0 : n - k = 0
    · exact .inl h0
    · refine .inr ⟨b, _, rfl, fun j u hu => ?_⟩
      rw [← mms_drop, List.getElem?_drop] at hu
      rw [show off + k * 13 + j = off + (k * 13 + j) by omega]
      exact h.sl.cell hu
theorem mkM_in (m : Md) (w : World) (hp : m.prs = []) (ht : m.told = []) (hok : MdOk m) : MmIn w (mkM m) :=
  ⟨by show SlK w 2 none 0 (prs m.prs); rw [hp]; exact SlK.nil _ _ _, by show Sl w none 0 (m.told.map (Value.int .i64)); rw [ht]; exact (SlK.nil w 1 none).sl, fun _ => rfl, Nat.le_refl _, fun _ => rfl, Nat.le_refl _, hok⟩
theorem md_ok (m : Md) (h1 : I64 m.goer) (h2 : CalOk m.call) (h3 : I64 m.ans.err) (h4 : m.ans.val < 2 ^ 64) (h5 : I64 m.began) (h6 : I64 m.at') (h7 : I64 m.over) (hp : m.prs = []) (ht : m.told = []) : MdOk m :=
  ⟨h1, h2, h3, h4, h5, h6, h7, (by rw [ht]; intro x hx; cases hx), (by rw [hp]; intro x hx; cases hx)⟩
theorem thA_ok (o : Int) (ho : I64 o) : MdOk (thA o) := md_ok _ (show I64 0 by unfold I64; decide) (show CalOk ⟨2, 5, 50, 0⟩ from ⟨by decide, by decide, by decide, by decide, by decide⟩) (show I64 0 by unfold I64; decide) (show 0 < 2 ^ 64 by decide) (show I64 1 by unfold I64; decide) (show I64 4 by unfold I64; decide) ho rfl rfl
theorem thB_ok : MdOk (thB) := md_ok _ (show I64 1 by unfold I64; decide) (show CalOk ⟨1, 5, 0, 0⟩ from ⟨by decide, by decide, by decide, by decide, by decide⟩) (show I64 0 by unfold I64; decide) (show 50 < 2 ^ 64 by decide) (show I64 2 by unfold I64; decide) (show I64 6 by unfold I64; decide) (show I64 8 by unfold I64; decide) rfl rfl
theorem thC_ok : MdOk (thC) := md_ok _ (show I64 2 by unfold I64; decide) (show CalOk ⟨1, 5, 0, 0⟩ from ⟨by decide, by decide, by decide, by decide, by decide⟩) (show I64 0 by unfold I64; decide) (show 0 < 2 ^ 64 by decide) (show I64 3 by unfold I64; decide) (show I64 3 by unfold I64; decide) (show I64 7 by unfold I64; decide) rfl rfl
theorem three_each (o : Int) (ho : I64 o) (w : World) : ∀ m ∈ threeL o, MmIn w m := by
  intro m hm
  unfold threeL at hm
  simp at hm
  rcases hm with rfl | rfl | rfl
  · exact mkM_in _ _ rfl rfl (thA_ok o ho)
  · exact mkM_in _ _ rfl rfl thB_ok
  · exact mkM_in _ _ rfl rfl thC_ok
theorem three_in (o : Int) (ho : I64 o) {w : World} {b : Nat} (h : w.heap[b]? = some (.cells (mms (threeL o)).toArray 39 (0, 0))) : MsIn w (some ⟨b, 0, none⟩) 3 (threeL o) :=
  ⟨by have := SlK.of_blk (k := 13) (n := 3) h rfl (by decide); simpa using this, three_each o ho w⟩
/-! ### What comes of them -/
theorem three_check : checkB (threeL 9) = true := by kernel_rfl
theorem three_cand : candK (threeL 9) 3 = [0, 1, 2] := by kernel_rfl
theorem three_sorted {C : List Nat} (hp : C.Perm (candK (threeL 9) 3)) (hs : Srt (atK (threeL 9)) C) : C = [2, 0, 1] := by
  rw [three_cand] at hp
  refine Srt.unique hs ?_ (hp.trans (by decide))
  have h0 : atK (threeL 9) 0 = 4 := rfl
  have h1 : atK (threeL 9) 1 = 6 := rfl
  have h2 : atK (threeL 9) 2 = 3 := rfl
  refine List.pairwise_cons.2 ⟨fun y hy => ?_, List.pairwise_cons.2 ⟨fun y hy => ?_, List.pairwise_singleton _ _⟩⟩
  · simp at hy
    rcases hy with rfl | rfl <;> (unfold ltK; omega)
  · simp at hy
    subst hy
    unfold ltK; omega
theorem three_behind : behindL (threeL 9) (intsZ [2, 0, 1]) = (0, [(5, 50)]) := by kernel_rfl
theorem three_not : (behindL (threeL 9) (intsZ [0, 1, 2])).1 = 371 := by kernel_rfl
theorem three_seek : seekL (threeL 9) = some [2, 0, 1] := by kernel_rfl
theorem three_many : manyP (threeL 9) 3 = 3 := by kernel_rfl
theorem three_free : (freeL (threeL 9)).length = 3 := by kernel_rfl
theorem mid_check : checkB [mkM thB] = true := by kernel_rfl
theorem mid_seek : seekL [mkM thB] = none := by kernel_rfl
theorem mid_many : manyP [mkM thB] 1 = 1 := by kernel_rfl
theorem two_check : checkB [mkM (thA 0), mkM thB] = true := by kernel_rfl
theorem two_seek : seekL [mkM (thA 0), mkM thB] = some [0, 1] := by kernel_rfl
theorem two_many : manyP [mkM (thA 0), mkM thB] 2 = 2 := by kernel_rfl
theorem same_check : checkB [mkM thB, mkM thB] = false := by kernel_rfl
set_option maxHeartbeats 2000000 in
theorem three_any (w : World) : Calls Tryd.prog 23 #[] w fun e w' => e = .returned (.slice (some ⟨w.heap.size, 0, none⟩) 3 3) ∧ w' = w.alloc (.cells (mms (threeL 9)).toArray 39) := by
  go_enter Tryd.func23, Tryd.ntmps23
  go_wp2
  go_ret
  exact ⟨rfl, rfl⟩
end Go.Proofs.YtogeohjeabbmaaaDoor
