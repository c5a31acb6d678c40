/-
  The law of layer 24: what the layer does at the chapter's map.
-/
import Derived.Test.YtihccjmmnpldjaaModelV
set_option linter.unusedSimpArgs false
set_option linter.unusedVariables false
set_option maxRecDepth 100000
namespace Go.Proofs.Ytihccjmmnpldjaa
open Go.RowKit

def l6 : List Cl := [⟨1, 3, 0, 0⟩, ⟨2, 4, 40, 0⟩, ⟨4, 3, 8, 9⟩, ⟨5, 3, 7, 0⟩, ⟨3, 3, 0, 0⟩, ⟨7, 0, 0, 0⟩]
def l3 : List Cl := [⟨2, 4, 0, 0⟩, ⟨3, 3, 0, 0⟩, ⟨3, 4, 0, 0⟩]
def want6 : List An := [⟨0, 30, true⟩, ⟨0, 0, false⟩, ⟨0, 30, false⟩, ⟨0, 30, true⟩, ⟨0, 30, true⟩, ⟨0, 1, false⟩]
theorem l6_map : mapP l6 [(3, 30)] l6.length = [(4, 40)] := by kernel_rfl
theorem l6_ans : ansK l6 [(3, 30)] l6.length = want6 := by kernel_rfl
theorem l6_ok : l6.all isOp = true := by kernel_rfl
theorem l6_six : ∀ c ∈ l6, c.op ≠ 6 := by decide
theorem l3_ok : l3.all isOp = true := by kernel_rfl
theorem l3_six : ∀ c ∈ l3, c.op ≠ 6 := by decide
theorem l3_least : leastK l3 [(3, 30)] l3.length = 0 := by kernel_rfl
theorem l3_most : mostK l3 [(3, 30)] l3.length = 2 := by kernel_rfl
theorem comes4 : comesP [(4, 40)] ⟨3, 4, 0, 0⟩ = -1 := by kernel_rfl
theorem get4 : anK [(4, 40)] 4 = ⟨0, 40, true⟩ := by kernel_rfl
def c6 : Array Value := #[.int .i64 1, .int .u64 3, .int .u64 0, .int .u64 0, .int .i64 2, .int .u64 4, .int .u64 40, .int .u64 0, .int .i64 4, .int .u64 3, .int .u64 8, .int .u64 9, .int .i64 5, .int .u64 3, .int .u64 7, .int .u64 0, .int .i64 3, .int .u64 3, .int .u64 0, .int .u64 0, .int .i64 7, .int .u64 0, .int .u64 0, .int .u64 0]
def w6 : Array Value := #[.int .i64 0, .int .u64 30, .bool true, .slice none 0 0, .int .i64 0, .int .u64 0, .bool false, .slice none 0 0, .int .i64 0, .int .u64 30, .bool false, .slice none 0 0, .int .i64 0, .int .u64 30, .bool true, .slice none 0 0, .int .i64 0, .int .u64 30, .bool true, .slice none 0 0, .int .i64 0, .int .u64 1, .bool false, .slice none 0 0]
def c3 : Array Value := #[.int .i64 2, .int .u64 4, .int .u64 0, .int .u64 0, .int .i64 3, .int .u64 3, .int .u64 0, .int .u64 0, .int .i64 3, .int .u64 4, .int .u64 0, .int .u64 0]
set_option maxHeartbeats 4000000 in
theorem wakes_any (w : World) : Calls Try.prog 7 #[] w fun e w' => e = .returned (.bool true) ∧ Below w.heap.size w w' := by
  have hB0 := Below.refl w.heap.size w
  have hB0'h := Lib.hid hB0
  clear hB0
  go_enter Try.func7, Try.ntmps7
  go_wp2_with (go_at_call 23; refine (thirty_any _).mono ?_; rintro e w1 ⟨b1, rfl, hb1, hS1⟩; have hb1'h := Lib.hid hb1; have hS1'h := Lib.hid hS1; clear hb1 hS1)
  have hbA : Below w1.heap.size w1 (w1.alloc (.cells c6 33)) := (Below.refl _ _).alloc (Nat.le_refl _) _
  have hcA : SlK (w1.alloc (.cells c6 33)) 4 (some ⟨w1.heap.size, 0, none⟩) 6 (cls l6) := SlK.of_blk (World.alloc_heap_new _ _) rfl (by decide)
  change Calls _ _ _ (w1.alloc (.cells c6 33)) _
  refine (mRun_yes (some ⟨b1, 0, none⟩) (some ⟨w1.heap.size, 0, none⟩) 1 1 6 6 [(3, 30)] l6 _ (hS1'h.out.below hbA) hcA rfl l6_six (by decide)).mono ?_
  rintro e w3 ⟨hb3, hr3⟩
  rw [if_pos l6_ok] at hr3
  obtain ⟨sp3, n3, cap3, sa, na, ca, rfl, hM3, hA3, hnil3, hle3⟩ := hr3
  rw [l6_map] at hM3
  rw [l6_ans] at hA3
  have hB3 : Below w.heap.size w w3 := below_next (below_next hb1'h.out hbA) hb3
  have hna : na = 6 := slk_len anL_len (by decide) hA3
  subst hna
  have hM3'h := Lib.hid hM3
  have hA3'h := Lib.hid hA3
  have hnil3'h := Lib.hid hnil3
  have hle3'h := Lib.hid hle3
  have hB3'h := Lib.hid hB3
  clear hM3 hA3 hnil3 hle3 hB3
  clear hb3 hbA hcA hb1'h hS1'h hB0'h
  go_wp2_with (go_at_call 23; refine (thirty_any _).mono ?_; rintro e w4 ⟨b2, rfl, hb4, hS4⟩; have hb4'h := Lib.hid hb4; have hS4'h := Lib.hid hS4; clear hb4 hS4)
  have H4 := ((Hs.nil w3).new2 #[.slice sp3 n3 cap3] w6 24 35).next hb4'h.out
  have H5 := H4.new c3 33
  have hcA : SlK (w4.alloc (.cells c3 33)) 4 (some ⟨w4.heap.size, 0, none⟩) 3 (cls l3) := SlK.of_blk (World.alloc_heap_new _ _) rfl (by decide)
  change Calls _ _ _ (w4.alloc (.cells c3 33)) _
  refine (mSizes_yes (some ⟨b2, 0, none⟩) (some ⟨w4.heap.size, 0, none⟩) 1 1 3 3 [(3, 30)] l3 _ (hS4'h.out.below ((Below.refl _ _).alloc (Nat.le_refl _) _)) hcA rfl l3_six (by decide) l3_ok).mono ?_
  rw [l3_least, l3_most]
  rintro e w5 ⟨rfl, hb5⟩
  have H6 := H5.next hb5
  have hM6 := hM3'h.out.below H6.old
  have hA6 := hA3'h.out.below H6.old
  have hW6 : SlK w5 4 (some ⟨w3.heap.size + 1, 0, none⟩) 6 (ans want6) := SlK.of_blk (cs := w6) H6.rows.2.1 rfl (by decide)
  have x0 : w5.cell? ⟨w3.heap.size, 0, none⟩ = some (.slice sp3 n3 cap3) := blk_cell (i := 0) H6.rows.2.2.1 rfl
  have hn3 : n3 = 1 := prs_len hM6
  have G : Calls Try.prog 12 #[.agg #[.slice sp3 n3 cap3], .int .u64 4] w5 fun e w' => e = .returned (.tuple #[.int .u64 40, .bool true]) ∧ Below w5.heap.size w5 w' := mGet_yes sp3 n3 cap3 [(4, 40)] 4 w5 hM6 rfl (by omega)
  clear hcA H4 H5 hb5 hb4'h hS4'h
  have H6'h := Lib.hid H6
  have hM6'h := Lib.hid hM6
  have hA6'h := Lib.hid hA6
  have hW6'h := Lib.hid hW6
  have G'h := Lib.hid G
  have hn3'h := Lib.hid hn3
  clear H6 hM6 hA6 hW6 G hn3
  go_upto_region 5 with (go_at_call 12; refine G'h.out.mono ?_; rintro e w7 ⟨rfl, hb7⟩; have hb7'h := Lib.hid hb7; clear hb7)
  have H7 := H6'h.out.next hb7'h.out
  have E : Calls Try.prog 25 #[.slice sa 6 ca, .slice (some ⟨w3.heap.size + 1, 0, none⟩) 6 6, .func (.func 19) #[] #[]] w7 fun e w' => e = .returned (.bool true) ∧ Below w7.heap.size w7 w' := by
    have := equalFn_any sa (some ⟨w3.heap.size + 1, 0, none⟩) 6 6 ca 6 want6 want6 w7 (hA6'h.out.below hb7'h.out) (hW6'h.out.below hb7'h.out)
    rwa [show decide (want6 = want6) = true by simp] at this
  have x0 : w7.cell? ⟨w3.heap.size, 0, none⟩ = some (.slice sp3 n3 cap3) := blk_cell (i := 0) H7.rows.2.2.1 rfl
  have CC : ∀ W, Below w7.heap.size w7 W → Calls Try.prog 10 #[.agg #[.slice sp3 n3 cap3], .agg #[.int .i64 3, .int .u64 4, .int .u64 0, .int .u64 0]] W fun e w' => e = .returned (.int .i64 (-1)) ∧ Below W.heap.size W w' := fun W hb => by
    have := mComes_any sp3 n3 cap3 [(4, 40)] ⟨3, 4, 0, 0⟩ W ((hM6'h.out.below hb7'h.out).below hb) (by have := hn3'h.out; omega)
    rw [comes4] at this
    exact this
  have H7'h := Lib.hid H7
  have E'h := Lib.hid E
  have CC'h := Lib.hid CC
  clear H7 E CC
  go_wp2_with (first | (go_at_call 25; refine E'h.out.mono ?_; rintro e w8 ⟨rfl, hb8⟩; have x8 : w8.cell? ⟨w3.heap.size, 0, none⟩ = some (.slice sp3 n3 cap3) := blk_cell (i := 0) (H7'h.out.next hb8).rows.2.2.1 rfl; have hb8'h := Lib.hid hb8; clear hb8) | (go_at_call 10; refine (CC'h.out _ hb8'h.out).mono ?_; rintro e w9 ⟨rfl, hb9⟩; have hb9'h := Lib.hid hb9; clear hb9))
  go_ret
  exact ⟨rfl, below_next hB3'h.out (below_next (below_next H7'h.out.old hb8'h.out) hb9'h.out)⟩
end Go.Proofs.Ytihccjmmnpldjaa
