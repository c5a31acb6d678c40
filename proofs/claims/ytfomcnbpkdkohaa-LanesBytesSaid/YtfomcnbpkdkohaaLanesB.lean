/-
  The functions of package lanes that make words of bytes, and bytes of words.
-/
import Derived.Test.YtfomcnbpkdkohaaLanes
import Derived.Laws.CopyOwn
set_option linter.unusedSimpArgs false
set_option linter.unusedVariables false
namespace Go.Proofs.Ytfomcnbpkdkohaa
open Go.RowKit

theorem bytes1_any (x i : Nat) (n0 n1 n2 n3 n4 n5 n6 n7 : Int) (w : World) (b : Nat) (hc : w.cell? ⟨b, 0, none⟩ = some (.int .u64 x)) (hi : i < 8) :
    Calls Try.prog 38 #[.agg #[.int .u8 n0, .int .u8 n1, .int .u8 n2, .int .u8 n3, .int .u8 n4, .int .u8 n5, .int .u8 n6, .int .u8 n7], .int .i64 i, .pointer (some ⟨b, 0, none⟩)] w fun e w' =>
      ∃ o1 o2, e = .returned (.agg ((#[.int .u8 n0, .int .u8 n1, .int .u8 n2, .int .u8 n3, .int .u8 n4, .int .u8 n5, .int .u8 n6, .int .u8 n7] : Array Value).setIfInBounds i (.int .u8 (byteAt x i)))) ∧ w' = (w.alloc o1).alloc o2 := by
  obtain rfl | rfl | rfl | rfl | rfl | rfl | rfl | rfl : i = 0 ∨ i = 1 ∨ i = 2 ∨ i = 3 ∨ i = 4 ∨ i = 5 ∨ i = 6 ∨ i = 7 := by omega
  all_goals
    have hcA := keep_alloc ⟨b, 0, none⟩ (.int .u64 x)
    go_enter Try.func38, Try.ntmps38
    go_wp2_with (go_at_call 39; refine (at_any _ _ _ hi).mono ?_; rintro e w' ⟨rfl, rfl⟩)
    refine bodyPost_ret (v := .agg ((#[.int .u8 n0, .int .u8 n1, .int .u8 n2, .int .u8 n3, .int .u8 n4, .int .u8 n5, .int .u8 n6, .int .u8 n7] : Array Value).setIfInBounds _ (.int .u8 (byteAt x _)))) (by simp [results, Try.results38, go_sem]) rfl ⟨_, _, rfl, rfl⟩

theorem bytes1_int (x : Nat) (j : Int) (n0 n1 n2 n3 n4 n5 n6 n7 : Int) (w : World) (b : Nat) (hc : w.cell? ⟨b, 0, none⟩ = some (.int .u64 x)) (h0 : 0 ≤ j) (h8 : j < 8) :
    Calls Try.prog 38 #[.agg #[.int .u8 n0, .int .u8 n1, .int .u8 n2, .int .u8 n3, .int .u8 n4, .int .u8 n5, .int .u8 n6, .int .u8 n7], .int .i64 j, .pointer (some ⟨b, 0, none⟩)] w fun e w' =>
      ∃ o1 o2, e = .returned (.agg ((#[.int .u8 n0, .int .u8 n1, .int .u8 n2, .int .u8 n3, .int .u8 n4, .int .u8 n5, .int .u8 n6, .int .u8 n7] : Array Value).setIfInBounds j.toNat (.int .u8 (byteAt x j.toNat)))) ∧ w' = (w.alloc o1).alloc o2 := by
  obtain ⟨i, rfl⟩ := Int.eq_ofNat_of_zero_le h0
  exact bytes1_any x i n0 n1 n2 n3 n4 n5 n6 n7 w b hc (by omega)

def sofar (x k j : Nat) : Nat := if j < k then byteAt x j else 0
def sofarA (x k : Nat) : Array Value := #[.int .u8 (sofar x k 0), .int .u8 (sofar x k 1), .int .u8 (sofar x k 2), .int .u8 (sofar x k 3), .int .u8 (sofar x k 4), .int .u8 (sofar x k 5), .int .u8 (sofar x k 6), .int .u8 (sofar x k 7)]
theorem sofarA_succ (x k : Nat) (hk : k < 8) : (sofarA x k).setIfInBounds k (.int .u8 (byteAt x k)) = sofarA x (k + 1) := by
  obtain rfl | rfl | rfl | rfl | rfl | rfl | rfl | rfl : k = 0 ∨ k = 1 ∨ k = 2 ∨ k = 3 ∨ k = 4 ∨ k = 5 ∨ k = 6 ∨ k = 7 := by omega
  all_goals rfl
def bytesA (x : Nat) : Array Value := #[.int .u8 (byteAt x 0), .int .u8 (byteAt x 1), .int .u8 (byteAt x 2), .int .u8 (byteAt x 3), .int .u8 (byteAt x 4), .int .u8 (byteAt x 5), .int .u8 (byteAt x 6), .int .u8 (byteAt x 7)]

/-- One round's call, by the row that stands there. -/
theorem bytes1_row (x k : Nat) (hk : k < 8) (w : World) (b : Nat) (hc : w.cell? ⟨b, 0, none⟩ = some (.int .u64 x)) :
    Calls Try.prog 38 #[.agg (sofarA x k), .int .i64 k, .pointer (some ⟨b, 0, none⟩)] w fun e w' => e = .returned (.agg (sofarA x (k + 1))) ∧ Below w.heap.size w w' := by
  refine (bytes1_any x k _ _ _ _ _ _ _ _ w b hc hk).mono ?_
  rintro e w' ⟨o1, o2, rfl, rfl⟩
  exact ⟨by rw [← sofarA_succ x k hk]; rfl, ((Below.refl _ _).alloc (Nat.le_refl _) _).alloc (by simp) _⟩

theorem sofarA_size (x k : Nat) : (sofarA x k).size = 8 := rfl
theorem sofarA_one (x k : Nat) : (sofarA x k).all (·.oneCell') = true := by simp [sofarA, Value.oneCell']
theorem sofarA_full (x : Nat) : sofarA x 8 = bytesA x := rfl
theorem info_bytes : (Try.prog.info? 24).map (·.size) = some 8 := by kernel_rfl

theorem madeB_any (x : Nat) (w : World) (b : Nat) (hc : w.cell? ⟨b, 0, none⟩ = some (.int .u64 x)) :
    Calls Try.prog 37 #[.agg (sofarA x 0), .func (.func 38) #[] #[.pointer (some ⟨b, 0, none⟩)]] w fun e w' => e = .returned (.agg (bytesA x)) ∧ Below w.heap.size w w' := by
  have hbl := lt_of_cell hc
  simp only at hbl
  go_enter Try.func37, Try.ntmps37
  go_wp2
  obtain ⟨W0, hW0⟩ : ∃ W0, W0 = ((w.alloc (.cells (sofarA x 0) 24)).alloc (.cells #[.int .u8 0, .int .u8 0, .int .u8 0, .int .u8 0, .int .u8 0, .int .u8 0, .int .u8 0, .int .u8 0] 24)) := ⟨_, rfl⟩
  have hz : W0.heap.size = w.heap.size + 2 := by rw [hW0]; simp
  have hR : W0.heap[w.heap.size]? = some (.cells (sofarA x 0) 24) := by rw [hW0]; exact heap_alloc2_old _ _ _
  have hT : ∃ cs : Array Value, cs.size = 8 ∧ W0.heap[w.heap.size + 1]? = some (.cells cs 24) := ⟨_, rfl, by rw [hW0]; exact heap_alloc2_new _ _ _⟩
  have hB : Below w.heap.size w W0 := by rw [hW0]; exact ((Below.refl _ _).alloc (Nat.le_refl _) _).alloc (by simp) _
  rw [← hW0]
  clear hW0
  go_loopw [6] (fun i wr => ∃ k : Nat, k ≤ 8 ∧ i = .int .i64 k ∧ wr.heap[w.heap.size]? = some (.cells (sofarA x k) 24) ∧ (∃ cs : Array Value, cs.size = 8 ∧ wr.heap[w.heap.size + 1]? = some (.cells cs 24)) ∧ Below w.heap.size w wr)
    (fun i _ => 8 - (intOf i).toNat)
  case atStart => exact ⟨0, by omega, rfl, hR, hT, hB⟩
  case round =>
    obtain ⟨k, hk, rfl, hR, ⟨cs, hcs, hT⟩, hB⟩ := hrel
    have hcw : wr.cell? ⟨b, 0, none⟩ = some (.int .u64 x) := (hB.cell (p := ⟨b, 0, none⟩) hbl).trans hc
    have hlt := lt_of_heap hT
    by_cases h8 : k < 8
    · go_wp2_with (first | (refine wpList_load_row rfl 24 (.tmp 2) rfl w.heap.size rfl 24 _ (0, 0) _ hR Try.underlying24 rfl info_bytes ?_) | (go_at_call 38; refine (bytes1_row x k h8 _ b hcw).mono ?_; rintro e w' ⟨rfl, hb1⟩; have hR1 := heap_below hb1 hR (by omega); have hT1 := heap_below hb1 hT (by omega); clear hR hT) | (refine wpList_store_row rfl 24 (.tmp 2) (.tmp 12) rfl w.heap.size (sofarA x (k + 1)) rfl rfl 24 (sofarA x k) hR1 info_bytes rfl (sofarA_one _ _) ?_))
      refine ⟨⟨k + 1, by omega, by go_num, setRow_heap _ _ _ _ _ _ hR1, ⟨cs, hcs, (setRow_other _ _ _ _ (by omega)).trans hT1⟩, below_setRow' (hB.trans (hb1.mono (by omega))) (Nat.le_refl _) _⟩, by simp [intOf]; omega⟩
    · obtain rfl : k = 8 := by omega
      rw [sofarA_full] at hR
      go_wp2_with (first | (refine wpList_load_row rfl 24 (.tmp 2) rfl w.heap.size rfl 24 _ (0, 0) _ hR Try.underlying24 rfl info_bytes ?_) | (refine wpList_store_row rfl 24 (.tmp 4) (.tmp 14) rfl (w.heap.size + 1) (bytesA x) rfl rfl 24 cs hT info_bytes hcs (sofarA_one x 8) ?_))
      have hT2 := setRow_heap wr (w.heap.size + 1) cs (bytesA x) _ _ hT
      refine bodyPost_ret (results_cell_row rfl _ _ (w.heap.size + 1) 24 (bytesA x) (0, 0) _ rfl hT2 Try.underlying24 rfl info_bytes) rfl ⟨rfl, below_setRow' hB (by omega) _⟩

theorem bytes_any (x : Nat) (w : World) : Calls Try.prog 10 #[.int .u64 x] w fun e w' => e = .returned (.agg (bytesA x)) ∧ Below w.heap.size w w' := by
  go_enter Try.func10, Try.ntmps10
  go_wp2_with fail
  have hc : ((w.alloc (.cells #[.int .u64 x] 22)).alloc (.cells #[.int .u8 0, .int .u8 0, .int .u8 0, .int .u8 0, .int .u8 0, .int .u8 0, .int .u8 0, .int .u8 0] 24)).cell? ⟨w.heap.size, 0, none⟩ = some (.int .u64 x) :=
    keep_alloc _ _ _ _ (blk_cell (World.alloc_heap_new _ _) rfl)
  have hT := heap_alloc2_new w (.cells #[.int .u64 x] 22) (.cells #[.int .u8 0, .int .u8 0, .int .u8 0, .int .u8 0, .int .u8 0, .int .u8 0, .int .u8 0, .int .u8 0] 24)
  refine (madeB_any x _ w.heap.size hc).mono ?_
  rintro e w' ⟨rfl, hb⟩
  have hT1 := heap_below hb hT (by simp)
  clear hc hT
  go_wp2_with (first | (refine wpList_store_row rfl 24 (.tmp 2) (.tmp 5) rfl (w.heap.size + 1) (bytesA x) rfl rfl 24 _ hT1 info_bytes rfl (sofarA_one x 8) ?_))
  have hT2 := setRow_heap w' (w.heap.size + 1) _ (bytesA x) _ _ hT1
  refine bodyPost_ret (results_cell_row rfl _ _ (w.heap.size + 1) 24 (bytesA x) (0, 0) _ rfl hT2 Try.underlying24 rfl info_bytes) rfl ⟨rfl, below_setRow' ((((Below.refl _ w).alloc (Nat.le_refl _) _).alloc (by simp) _).trans (hb.mono (by simp; omega))) (by omega) _⟩

/-! ### Of -/
/-- The word of the first k of eight bytes. -/
def partW (c : Nat → Nat) (k : Nat) : Nat := word ((List.range 8).map fun i => if i < k then c i else 0)
theorem partW_bytey (c : Nat → Nat) (hc : ∀ i, c i < 256) (k : Nat) : Bytey ((List.range 8).map fun i => if i < k then c i else 0) := by
  refine fun b hb => ?_
  obtain ⟨i, _, rfl⟩ := List.mem_map.1 hb
  split
  · exact hc i
  · decide
theorem partW_lt (c : Nat → Nat) (hc : ∀ i, c i < 256) (k : Nat) : partW c k < 2 ^ 64 := word8_lt (partW_bytey c hc k) (by simp)
theorem partW_succ (c : Nat → Nat) (hc : ∀ i, c i < 256) (k : Nat) (hk : k < 8) : partW c (k + 1) = setLane (partW c k) k (c k) := by
  unfold setLane
  conv => rhs; unfold partW
  rw [bytes8_word (partW_bytey c hc k) (by simp)]
  unfold partW
  congr 1
  apply List.ext_getElem (by simp)
  intro i h1 h2
  simp only [List.getElem_map, List.getElem_range, List.getElem_set]
  by_cases h : k = i
  · subst h; simp
  · rw [if_neg h]
    by_cases h3 : i < k
    · rw [if_pos (by omega), if_pos h3]
    · rw [if_neg (by omega), if_neg h3]
theorem partW_zero (c : Nat → Nat) : partW c 0 = 0 := by unfold partW; simp [word, List.range, List.range.loop]

theorem of1_any (x k y : Nat) (w : World) (b : Nat) (hx : x < 2 ^ 64) (hk : k < 8) (hy : y < 256) (hc : w.cell? ⟨b, k, none⟩ = some (.int .u8 y)) :
    Calls Try.prog 41 #[.int .u64 x, .int .i64 k, .pointer (some ⟨b, 0, none⟩)] w fun e w' => e = .returned (.int .u64 (setLane x k y)) ∧ ∃ m, w' = w.drewN m := by
  have hw := with_any x k y w hx hk hy
  clear hx
  go_enter Try.func41, Try.ntmps41
  go_wp2_with fail
  refine hw.mono ?_
  clear hw
  rintro e w' ⟨rfl, m, rfl⟩
  go_wp2
  go_ret
  exact ⟨rfl, m, rfl⟩

theorem madeW_any (c : Nat → Nat) (hcb : ∀ i, c i < 256) (w : World) (b : Nat) (h : ∀ i, i < 8 → w.cell? ⟨b, i, none⟩ = some (.int .u8 (c i))) :
    Calls Try.prog 40 #[.int .u64 0, .func (.func 41) #[] #[.pointer (some ⟨b, 0, none⟩)]] w fun e w' => e = .returned (.int .u64 (partW c 8)) ∧ Below w.heap.size w w' := by
  have HB := Lib.hid hcb
  have HC := Lib.hid h
  clear hcb h
  go_enter Try.func40, Try.ntmps40
  go_wp2
  go_loopw [0, 6] (fun x i wr => ∃ k : Nat, k ≤ 8 ∧ i = .int .i64 k ∧ x = .int .u64 (partW c k) ∧ Below w.heap.size w wr)
    (fun _ i _ => 8 - (intOf i).toNat)
  case atStart => exact ⟨0, by omega, rfl, by rw [partW_zero]; rfl, Below.refl _ _⟩
  case round =>
    obtain ⟨k, hk, rfl, rfl, hB⟩ := hrel
    by_cases h8 : k < 8
    · have hc1 := HC.out k h8
      have hc2 : wr.cell? ⟨b, k, none⟩ = some (.int .u8 (c k)) := (hB.cell (p := ⟨b, k, none⟩) (lt_of_cell hc1)).trans hc1
      have hcall := of1_any (partW c k) k (c k) wr b (partW_lt c HB.out k) h8 (HB.out k) hc2
      rw [← partW_succ c HB.out k h8] at hcall
      clear hc1 hc2
      go_wp2_with fail
      refine hcall.mono ?_
      clear hcall
      rintro e w' ⟨rfl, m, rfl⟩
      go_wp2
      exact ⟨⟨k + 1, by omega, by go_num, rfl, hB.trans (below_drewN' _ _)⟩, by simp [intOf]; omega⟩
    · obtain rfl : k = 8 := by omega
      go_wp2
      go_ret
      exact ⟨rfl, hB⟩

theorem info_u8 : (Try.prog.info? 5).map (·.size) = some 1 := by kernel_rfl
/-- The bytes of a list of numbers. -/
def u8s (l : List Nat) : List Value := l.map fun (b : Nat) => .int .u8 (b : Int)
theorem u8s_one (l : List Nat) : ∀ v ∈ u8s l, v.oneCell' = true := by intro v hv; obtain ⟨b, _, rfl⟩ := List.mem_map.1 hv; rfl
def ofW (l : List Nat) : Nat := word (l.take 8)

theorem getD_lt {l : List Nat} (h : Bytey l) (i : Nat) : nthN l i < 256 := by
  unfold nthN
  rw [List.getD_eq_getElem?_getD]
  by_cases hi : i < l.length
  · rw [List.getElem?_eq_getElem hi]; exact h _ (List.getElem_mem hi)
  · rw [List.getElem?_eq_none (by omega)]; decide
theorem ofW_eq (l : List Nat) (h : Bytey l) : partW (nthN l) 8 = ofW l := by
  have ht : Bytey (l.take 8) := fun b hb => h b (List.mem_of_mem_take hb)
  refine word_ext (partW_lt _ (getD_lt h) 8) ?_ (fun i hi => ?_)
  · have h1 := word_lt ht
    exact Nat.lt_of_lt_of_le h1 (Nat.le_trans (Nat.pow_le_pow_right (by decide) (show (l.take 8).length ≤ 8 by simp; omega)) (by decide))
  · unfold partW ofW
    rw [byteAt_word (partW_bytey _ (getD_lt h) 8), byteAt_word ht]
    unfold nthN
    simp only [List.getD_eq_getElem?_getD, List.getElem?_map, List.getElem?_range hi, Option.map_some, Option.getD_some, hi, if_true, List.getElem?_take]

def zeros8 : List Value := [.int .u8 0, .int .u8 0, .int .u8 0, .int .u8 0, .int .u8 0, .int .u8 0, .int .u8 0, .int .u8 0]
theorem zeros8_get (i : Nat) (h : i < 8) : zeros8[i]? = some (.int .u8 0) := by
  obtain rfl | rfl | rfl | rfl | rfl | rfl | rfl | rfl : i = 0 ∨ i = 1 ∨ i = 2 ∨ i = 3 ∨ i = 4 ∨ i = 5 ∨ i = 6 ∨ i = 7 := by omega
  all_goals rfl
theorem splice_get (l : List Nat) (i : Nat) (hi : i < 8) : (splice zeros8 0 ((u8s l).take 8))[i]? = some (.int .u8 (nthN l i)) := by
  unfold splice nthN
  simp only [List.take_zero, List.nil_append, Nat.zero_add]
  by_cases h : i < l.length
  · rw [List.getElem?_append_left (by simp [u8s]; omega), List.getElem?_take, if_pos hi]
    simp [u8s, List.getElem?_eq_getElem h]
  · rw [List.getElem?_append_right (by simp [u8s]; omega), List.getElem?_drop, zeros8_get _ (by simp [u8s]; omega)]
    simp [List.getElem?_eq_none (show l.length ≤ i by omega)]

theorem of_any (sp : Option Addr) (n cap : Nat) (l : List Nat) (w : World) (hl : Bytey l) (h : Sl w sp n (u8s l)) :
    Calls Try.prog 11 #[.slice sp n cap] w fun e w' => e = .returned (.int .u64 (ofW l)) ∧ Below w.heap.size w w' := by
  have hlen : n = l.length := by have := h.1; simpa [u8s] using this
  have hg : (w.alloc (.cells zeros8.toArray 24)).heap[w.heap.size]? = some (.cells zeros8.toArray 24 (0, 0)) := World.alloc_heap_new _ _
  have hcs : ((u8s l).take 8).length = Nat.min n 8 := by rw [hlen]; simp [u8s, Nat.min_comm]
  have hpos : 0 < ((u8s l).take 8).length → (some ⟨w.heap.size, 0, none⟩ : Option Addr) = some ⟨w.heap.size, 0, none⟩ ∧ ∃ ad, sp = some ad ∧ ∀ j v, ((u8s l).take 8)[j]? = some v → (w.alloc (.cells zeros8.toArray 24)).cell? (ad.add j) = some v := by
    intro h0
    obtain ⟨b, off, rfl, hc⟩ := h.some' (by rw [hcs] at h0; exact Nat.lt_of_lt_of_le h0 (Nat.min_le_left _ _))
    refine ⟨rfl, _, rfl, fun j v hv => ?_⟩
    have hadd : (⟨b, off, none⟩ : Addr).add j = ⟨b, off + j, none⟩ := by unfold Addr.add; split <;> simp_all
    rw [hadd]
    refine keep_alloc _ _ _ _ (hc j v ?_)
    rw [List.getElem?_take] at hv
    split at hv
    · exact hv
    · cases hv
  have hfit : 0 + ((u8s l).take 8).length ≤ zeros8.length := by simp [zeros8]; omega
  have hone : ∀ v ∈ (u8s l).take 8, v.oneCell' = true := fun v hv => u8s_one l v (List.mem_of_mem_take hv)
  have hB : Below w.heap.size w (w.alloc (.cells zeros8.toArray 24)) := (Below.refl _ w).alloc (Nat.le_refl _) _
  have HW := Lib.hid (ofW_eq l hl)
  have HL := Lib.hid hl
  have HP := Lib.hid hpos
  have HC := Lib.hid hcs
  clear h hl hlen hpos hcs
  go_enter Try.func11, Try.ntmps11
  go_wp2_with (refine wpList_copy_splice rfl (.tmp 4) (.tmp 5) 27 27 rfl 5 Try.underlying27 info_u8 (some ⟨w.heap.size, 0, none⟩) sp 8 8 n cap rfl rfl w.heap.size 0 zeros8 24 hg ((u8s l).take 8) HC.out HP.out hfit hone w.heap.size w hB (Nat.le_refl _) ?_; intro w1 hH hb1)
  refine (madeW_any (nthN l) (getD_lt HL.out) w1 w.heap.size (fun i hi => blk_cell hH.out (by rw [List.getElem?_toArray]; exact splice_get l i hi))).mono ?_
  rintro e w' ⟨rfl, hb2⟩
  go_wp2
  go_ret
  exact ⟨ret_u64 (congrArg Int.ofNat HW.out), hb1.trans (hb2.mono hb1.size)⟩

end Go.Proofs.Ytfomcnbpkdkohaa
