/-
  Chapter 28: does the layer do anything?
-/
import Derived.Test.YthfeiiibedmkiaaPr2
import Derived.Test.YthfeiiibedmkiaaPr0
set_option linter.unusedSimpArgs false
set_option linter.unusedVariables false
set_option maxRecDepth 100000
namespace Go.Proofs.Ythfeiiibedmkiaa
open Go.RowKit

section
variable {P : Program} {ops : Array Oper} {Q : Exit → Act → World → Prop} {md : Region.Mode} {S : World → Prop} {L : Nat}
/-- Three are ready: each may be first. -/
theorem wpAnyF_three {i j m : Nat} {o o' o2 : Oper} {fuel : Nat} {listed : Array Bool} {a : Act} {w : World} (hr : Region.ready md ops listed = [i, j, m]) (ho : ops[i]? = some o) (ho' : ops[j]? = some o') (ho2 : ops[m]? = some o2)
    (h : ∀ K' : Act → World → Prop, Shut (∀ a w, (i ≠ L → S w) → wpAnyF P md ops Q S L fuel (listed.setIfInBounds i true) a w → K' a w) → if Region.wanted o (yielded ops a.tmps) = true then Oper.wp P o a w K' Q else K' (a.put o.dst undef) w)
    (h' : ∀ K' : Act → World → Prop, Shut (∀ a w, (j ≠ L → S w) → wpAnyF P md ops Q S L fuel (listed.setIfInBounds j true) a w → K' a w) → if Region.wanted o' (yielded ops a.tmps) = true then Oper.wp P o' a w K' Q else K' (a.put o'.dst undef) w)
    (h2 : ∀ K' : Act → World → Prop, Shut (∀ a w, (m ≠ L → S w) → wpAnyF P md ops Q S L fuel (listed.setIfInBounds m true) a w → K' a w) → if Region.wanted o2 (yielded ops a.tmps) = true then Oper.wp P o2 a w K' Q else K' (a.put o2.dst undef) w) :
    wpAnyF P md ops Q S L (fuel + 1) listed a w :=
  ⟨fun h0 => absurd (hr ▸ h0) (by simp), fun k hk => by
    rw [hr] at hk
    rcases List.mem_cons.1 hk with rfl | hk
    · exact wpOp_step ho (fun K' hK => h K' (fun a w hS hW => hK a w ⟨hS, hW⟩))
    · rcases List.mem_cons.1 hk with rfl | hk
      · exact wpOp_step ho' (fun K' hK => h' K' (fun a w hS hW => hK a w ⟨hS, hW⟩))
      · have : k = m := by simpa using hk
        subst this
        exact wpOp_step ho2 (fun K' hK => h2 K' (fun a w hS hW => hK a w ⟨hS, hW⟩))⟩
end
theorem below_alloc2 {w1 W : World} (h : Below w1.heap.size w1 W) (o : Obj) : Below w1.heap.size w1 (W.alloc o) := h.alloc h.size o
theorem slk_alloc2 {W : World} {k : Nat} {s : Option Addr} {n : Nat} {v : List Value} (h : SlK W k s n v) (o : Obj) : SlK (W.alloc o) k s n v := h.below ((Below.refl _ _).alloc (Nat.le_refl _) _)
theorem slk_drew2 {W : World} {k : Nat} {s : Option Addr} {n : Nat} {v : List Value} (h : SlK W k s n v) : SlK W.drew k s n v := h
theorem below_drewN2 {w1 W : World} (h : Below w1.heap.size w1 W) (d : Nat) : Below w1.heap.size w1 (W.drewN d) := below_next h (below_drewN' _ d)
theorem below_next' {w a b : World} (h : Below w.heap.size w a) (h1 : Below a.heap.size a b) : Below w.heap.size w b := below_next h h1
theorem lit50u (W : World) : Sl (W.alloc (.cells #[.int .u64 50, .int .u64 51] 36)) (some ⟨W.heap.size, 0, none⟩) 2 (u64s [50, 51]) := (SlK.of_blk (k := 1) (World.alloc_heap_new _ _) rfl (by decide)).sl
theorem lit56u (W : World) : Sl (W.alloc (.cells #[.int .u64 5, .int .u64 6] 36)) (some ⟨W.heap.size, 0, none⟩) 2 (u64s [5, 6]) := (SlK.of_blk (k := 1) (World.alloc_heap_new _ _) rfl (by decide)).sl
theorem lit47 (W : World) : SlK (W.alloc (.cells #[.int .i64 4, .int .i64 7] 43)) 2 (some ⟨W.heap.size, 0, none⟩) 1 (tms [(4, 7)]) := SlK.of_blk (World.alloc_heap_new _ _) rfl (by decide)
theorem lit51 (W : World) : SlK (W.alloc (.cells #[.int .u64 5, .int .u64 51] 38)) 2 (some ⟨W.heap.size, 0, none⟩) 1 (prs [(5, 51)]) := SlK.of_blk (World.alloc_heap_new _ _) rfl (by decide)
theorem lit49 (W : World) : SlK (W.alloc (.cells #[.int .u64 5, .int .u64 49] 38)) 2 (some ⟨W.heap.size, 0, none⟩) 1 (prs [(5, 49)]) := SlK.of_blk (World.alloc_heap_new _ _) rfl (by decide)
theorem lit5051 (W : World) : SlK (W.alloc (.cells #[.int .u64 5, .int .u64 50, .int .u64 5, .int .u64 51] 38)) 2 (some ⟨W.heap.size, 0, none⟩) 2 (prs [(5, 50), (5, 51)]) := SlK.of_blk (World.alloc_heap_new _ _) rfl (by decide)
set_option maxHeartbeats 8000000 in
theorem wakes28_any (w : World) : Calls Try.prog 9 #[] w fun e w' => e = .returned (.bool true) ∧ Below w.heap.size w w' := by
  go_enter Try.func9, Try.ntmps9
  go_upto_region 2 with (go_at_call 39; refine (four_any _).mono ?_; rintro e w1 ⟨rfl, hb1, hS1, hlt1⟩; have hb1'h := Lib.hid hb1; have hS1'h := Lib.hid hS1; clear hb1 hS1)
  obtain ⟨b0, hb0⟩ : ∃ b0, b0 = w.heap.size := ⟨_, rfl⟩
  rw [← hb0] at hS1'h hlt1 ⊢
  have H1 := ((Hs.nil w1).new #[.int .i64 3, .int .i64 7] 43)
  have hB1 : Below w.heap.size w (w1.alloc (.cells #[.int .i64 3, .int .i64 7] 43)) := hb1'h.out.alloc hb1'h.out.size _
  have hS1 : SlK (w1.alloc (.cells #[.int .i64 3, .int .i64 7] 43)) 4 (some ⟨b0, 0, none⟩) 4 (chs fourL) := slk_alloc2 hS1'h.out _
  have hlt : b0 < (w1.alloc (.cells #[.int .i64 3, .int .i64 7] 43)).heap.size := by rw [World.size_alloc]; omega
  obtain ⟨b2, hb2⟩ : ∃ b2, b2 = w1.heap.size := ⟨_, rfl⟩
  rw [← hb2] at H1 ⊢
  generalize w1.alloc _ = W1 at *
  clear hb1'h hS1'h hlt1 hb0 hb2
  have HR : ∀ W, Below W1.heap.size W1 W → W.heap[b2]? = some (.cells (tmA 3 7) 43 (0, 0)) := fun W hb => (H1.next hb).rows.1
  have FS := fun W (hb : Below W1.heap.size W1 W) => hS1.below hb
  have FB : ∀ W, Below W1.heap.size W1 W → ∀ a : Addr, some (⟨b0, 0, none⟩ : Addr) = some a → a.block < W.heap.size := fun W hb a ha => by cases ha; have := hb.size; simp only; omega
  have MP : ∀ W, Below W1.heap.size W1 W → Calls Try.prog 13 #[.slice (some ⟨b0, 0, none⟩) 4 4, .int .i64 5] W (MapEnd fourL 5 W) := fun W hb => by
    have h := rMap_yes (some ⟨b0, 0, none⟩) 4 4 fourL 5 W (FS W hb) (FB W hb) (by decide) (fun h => by cases h) (by decide) four_facts.1
    exact h
  have HL : ∀ W, Below W1.heap.size W1 W → Calls Try.prog 29 #[.slice (some ⟨b0, 0, none⟩) 4 4, .int .u64 6, .agg #[.int .i64 7, .int .i64 9]] W fun e w' => e = .returned (.tuple #[.bool false, .bool true]) ∧ Below W.heap.size W w' := fun W hb => by
    have h := rHeld_yes (some ⟨b0, 0, none⟩) 4 4 fourL 6 7 9 W (FS W hb) (FB W hb) (by decide) (fun h => by cases h) (by decide) four_facts.2.1
    rw [four_held.1, four_held.2] at h; exact h
  have SZ : ∀ W, Below W1.heap.size W1 W → Calls Try.prog 25 #[.slice (some ⟨b0, 0, none⟩) 4 4, .agg #[.int .i64 1, .int .i64 9]] W fun e w' => e = .returned (.tuple #[.int .i64 0, .int .i64 2, .int .i64 0]) ∧ Below W.heap.size W w' := fun W hb => by
    have h := rSizes_yes (some ⟨b0, 0, none⟩) 4 4 fourL 1 9 W (FS W hb) (FB W hb) (by decide) (fun h => by cases h) (by decide) four_facts.2.2.1
    rw [four_sizes.1, four_sizes.2] at h; exact h
  have VL : ∀ W, Below W1.heap.size W1 W → Calls Try.prog 30 #[.slice (some ⟨b0, 0, none⟩) 4 4, .int .u64 5, .agg #[.int .i64 3, .int .i64 7]] W fun e w' => ∃ sp' n' cap', e = .returned (.slice sp' n' cap') ∧ Below W.heap.size W w' ∧ w'.ownsRow W.heap.size 36 1 (.slice sp' n' cap') 2 (u64s [50, 51]) := fun W hb => by
    have h := rValues_yes (some ⟨b0, 0, none⟩) 4 4 fourL 5 3 7 W (FS W hb) (FB W hb) (by decide) (fun h => by cases h) (by decide) four_facts.2.2.2.1
    rw [four_vals] at h; exact h
  have MU : ∀ W, Below W1.heap.size W1 W → Calls Try.prog 26 #[.slice (some ⟨b0, 0, none⟩) 4 4, .agg #[.int .i64 4, .int .i64 7]] W fun e w' => ∃ sp' n' cap', e = .returned (.slice sp' n' cap') ∧ Below W.heap.size W w' ∧ w'.ownsRow W.heap.size 36 1 (.slice sp' n' cap') 2 (u64s [5, 6]) := fun W hb => by
    have h := rMust_yes (some ⟨b0, 0, none⟩) 4 4 fourL 4 7 W (FS W hb) (FB W hb) (by decide) (fun h => by cases h) (by decide) four_facts.2.2.2.2.1
    rw [four_must] at h; exact h
  have ST : ∀ W, Below W1.heap.size W1 W → Calls Try.prog 18 #[.slice (some ⟨b0, 0, none⟩) 4 4, .int .u64 6, .int .u64 60] W fun e w' => ∃ sp' n' cap', e = .returned (.slice sp' n' cap') ∧ Below W.heap.size W w' ∧ w'.ownsRow W.heap.size 43 2 (.slice sp' n' cap') 1 (tms [(4, 7)]) := fun W hb => by
    have h := rSteps_yes (some ⟨b0, 0, none⟩) 4 4 fourL 6 60 W (FS W hb) (FB W hb) (by decide) four_facts.2.2.2.2.2 (fun c hc => (four_ok c hc).hi)
    rw [four_steps] at h; exact h
  have R1 : ∀ W, Below W1.heap.size W1 W → ∀ st, SlK W 2 st 1 (prs [(5, 51)]) → Calls Try.prog 23 #[.slice (some ⟨b0, 0, none⟩) 4 4, .agg #[.int .i64 3, .int .i64 7], .slice st 1 1] W fun e w' => e = .returned (.int .i64 0) ∧ Below W.heap.size W w' := fun W hb st hT => by
    have h := range_yes (some ⟨b0, 0, none⟩) 4 4 fourL 3 7 st 1 1 [(5, 51)] W (FS W hb) (FB W hb) (by decide) (fun h => by cases h) (by decide) four_ok hT (by intro p hp; simp at hp; subst hp; decide) (by decide) four_facts.2.2.2.1
    rw [four_range.1] at h; exact h
  have R2 : ∀ W, Below W1.heap.size W1 W → ∀ st, SlK W 2 st 1 (prs [(5, 49)]) → Calls Try.prog 23 #[.slice (some ⟨b0, 0, none⟩) 4 4, .agg #[.int .i64 3, .int .i64 7], .slice st 1 1] W fun e w' => e = .returned (.int .i64 382) ∧ Below W.heap.size W w' := fun W hb st hT => by
    have h := range_yes (some ⟨b0, 0, none⟩) 4 4 fourL 3 7 st 1 1 [(5, 49)] W (FS W hb) (FB W hb) (by decide) (fun h => by cases h) (by decide) four_ok hT (by intro p hp; simp at hp; subst hp; decide) (by decide) four_facts.2.2.2.1
    rw [four_range.2.1] at h; exact h
  have R3 : ∀ W, Below W1.heap.size W1 W → ∀ st, SlK W 2 st 2 (prs [(5, 50), (5, 51)]) → Calls Try.prog 23 #[.slice (some ⟨b0, 0, none⟩) 4 4, .agg #[.int .i64 3, .int .i64 7], .slice st 2 2] W fun e w' => e = .returned (.int .i64 381) ∧ Below W.heap.size W w' := fun W hb st hT => by
    have h := range_yes (some ⟨b0, 0, none⟩) 4 4 fourL 3 7 st 2 2 [(5, 50), (5, 51)] W (FS W hb) (FB W hb) (by decide) (fun h => by cases h) (by decide) four_ok hT (by intro p hp; simp at hp; rcases hp with rfl | rfl <;> decide) (by decide) four_facts.2.2.2.1
    rw [four_range.2.2.1] at h; exact h
  have R4 : ∀ W, Below W1.heap.size W1 W → ∀ st, SlK W 2 st 1 (prs [(5, 51)]) → Calls Try.prog 23 #[.slice (some ⟨b0, 0, none⟩) 4 4, .agg #[.int .i64 4, .int .i64 7], .slice st 1 1] W fun e w' => e = .returned (.int .i64 383) ∧ Below W.heap.size W w' := fun W hb st hT => by
    have h := range_yes (some ⟨b0, 0, none⟩) 4 4 fourL 4 7 st 1 1 [(5, 51)] W (FS W hb) (FB W hb) (by decide) (fun h => by cases h) (by decide) four_ok hT (by intro p hp; simp at hp; subst hp; decide) (by decide) four_facts.2.2.2.2.1
    rw [four_range.2.2.2] at h; exact h
  clear FS FB hlt
  have H1'h := Lib.hid H1
  have hB1'h := Lib.hid hB1
  have hS1'h := Lib.hid hS1
  have HR'h := Lib.hid HR
  have MP'h := Lib.hid MP
  have HL'h := Lib.hid HL
  have SZ'h := Lib.hid SZ
  have VL'h := Lib.hid VL
  have MU'h := Lib.hid MU
  have ST'h := Lib.hid ST
  have R1'h := Lib.hid R1
  have R2'h := Lib.hid R2
  have R3'h := Lib.hid R3
  have R4'h := Lib.hid R4
  clear H1 hB1 hS1 HR MP HL SZ VL MU ST R1 R2 R3 R4
  have hz1 := Below.refl W1.heap.size W1
  go_upto_region 3 with (go_at_call 13; (with_reducible refine (MP'h.out _ ?_).mono ?_); (repeat (first | with_reducible assumption | with_reducible refine below_drewN2 ?_ _ | with_reducible exact Below.refl _ _ | with_reducible refine below_alloc2 ?_ _ | with_reducible refine Below.drew ?_)); rintro e w2 ⟨hb2, s2, n2, c2, rfl, hM2, _, _⟩)
  rw [four_map] at hM2
  obtain rfl := prs_len hM2
  have hz2 := below_next hz1 hb2
  have hz3 := below_alloc2 hz2 (.cells #[.slice s2 2 c2] 31)
  have H3 := ((Hs.nil w2).new #[.slice s2 2 c2] 31)
  obtain ⟨b3, hb3⟩ : ∃ b3, b3 = w2.heap.size := ⟨_, rfl⟩
  rw [← hb3] at H3 ⊢
  change Code.wp _ _ _ _ (w2.alloc (.cells #[.slice s2 2 c2] 31))
  generalize w2.alloc _ = W3 at hz3 H3 ⊢
  clear hb2 hM2 hz2 hz1 hb3
  have H3'h := Lib.hid H3
  clear H3
  go_upto_region 5 with (first | (go_at_call 29; (with_reducible refine (HL'h.out _ ?_).mono ?_); (repeat (first | with_reducible assumption | with_reducible refine below_drewN2 ?_ _ | with_reducible exact Below.refl _ _ | with_reducible refine below_alloc2 ?_ _ | with_reducible refine Below.drew ?_)); rintro e w4 ⟨rfl, hb4⟩; have hz4 := below_next hz3 hb4; have hb4'h := Lib.hid hb4; clear hb4) | (go_at_call 25; (with_reducible refine (SZ'h.out _ ?_).mono ?_); (repeat (first | with_reducible assumption | with_reducible refine below_drewN2 ?_ _ | with_reducible exact Below.refl _ _ | with_reducible refine below_alloc2 ?_ _ | with_reducible refine Below.drew ?_)); rintro e w5 ⟨rfl, hb5⟩; have hz5 := below_next hz4 hb5; have hb5'h := Lib.hid hb5; clear hb5))
  have H5 := (H3'h.out.next hb4'h.out).next hb5'h.out
  clear hz3 hz4
  have h50 := Below.refl w5.heap.size w5
  have HRf := fun W (hb : Below w5.heap.size w5 W) => HR'h.out W (below_next hz5 hb)
  have HRg := HRf
  have R1f := fun W (hb : Below w5.heap.size w5 W) => R1'h.out W (below_next hz5 hb)
  have R2f := fun W (hb : Below w5.heap.size w5 W) => R2'h.out W (below_next hz5 hb)
  have R3f := fun W (hb : Below w5.heap.size w5 W) => R3'h.out W (below_next hz5 hb)
  have R4f := fun W (hb : Below w5.heap.size w5 W) => R4'h.out W (below_next hz5 hb)
  have VLf := fun W (hb : Below w5.heap.size w5 W) => VL'h.out W (below_next hz5 hb)
  have MUf := fun W (hb : Below w5.heap.size w5 W) => MU'h.out W (below_next hz5 hb)
  have STf := fun W (hb : Below w5.heap.size w5 W) => ST'h.out W (below_next hz5 hb)
  have Bw5 := below_next' hB1'h.out hz5
  clear HR'h R1'h R2'h R3'h R4'h VL'h MU'h ST'h MP'h HL'h SZ'h hz5
  have H5'h := Lib.hid H5
  have HRg'h := Lib.hid HRg
  have R4f'h := Lib.hid R4f
  have VLf'h := Lib.hid VLf
  have MUf'h := Lib.hid MUf
  have STf'h := Lib.hid STf
  have Bw5'h := Lib.hid Bw5
  clear H5 HRg R4f VLf MUf STf Bw5
  go_cut [10, 11, 12] from 34 to 119 (fun t u v wr => t = .int .i64 0 ∧ u = .int .i64 382 ∧ v = .int .i64 381 ∧ Below w5.heap.size w5 wr)
  case first =>
    refine wp_region_heldQ (fun W' => W'.heap[b2]? = some (.cells (tmA 3 7) 43 (0, 0)) ∧ Below w5.heap.size w5 W') 99 (by kernel_rfl) ?_
    have u0 := Below.drew h50
    generalize w5.drew = V0 at u0 ⊢
    have R := And.intro (HRf _ u0) u0
    refine wpAnyF_take (i := 0) (v := .slice (some ⟨b0, 0, none⟩) 4 4) rfl (by kernel_rfl) (by kernel_rfl) (by kernel_rfl) (by kernel_rfl) (fun _ _ _ h => h) (Or.inl ⟨by kernel_rfl, fun w hSw => by (try dsimp only at hSw); go_simp⟩) R ?_; try simp only [Act.put, List.getElem_toArray, List.getElem_cons_succ, List.getElem_cons_zero, List.setIfInBounds_toArray, List.set_cons_zero, List.set_cons_succ]
    refine wpAnyF_take (i := 5) (v := .slice (some ⟨b0, 0, none⟩) 4 4) rfl (by kernel_rfl) (by kernel_rfl) (by kernel_rfl) (by kernel_rfl) (fun _ _ _ h => h) (Or.inl ⟨by kernel_rfl, fun w hSw => by (try dsimp only at hSw); go_simp⟩) R ?_; try simp only [Act.put, List.getElem_toArray, List.getElem_cons_succ, List.getElem_cons_zero, List.setIfInBounds_toArray, List.set_cons_zero, List.set_cons_succ]
    refine wpAnyF_take (i := 10) (v := .slice (some ⟨b0, 0, none⟩) 4 4) rfl (by kernel_rfl) (by kernel_rfl) (by kernel_rfl) (by kernel_rfl) (fun _ _ _ h => h) (Or.inl ⟨by kernel_rfl, fun w hSw => by (try dsimp only at hSw); go_simp⟩) R ?_; try simp only [Act.put, List.getElem_toArray, List.getElem_cons_succ, List.getElem_cons_zero, List.setIfInBounds_toArray, List.set_cons_zero, List.set_cons_succ]
    refine wpAnyF_take (i := 1) (v := .agg (tmA 3 7)) rfl (by kernel_rfl) (by kernel_rfl) (by kernel_rfl) (by kernel_rfl) (fun _ _ _ h => h) (Or.inl ⟨by kernel_rfl, fun w hSw => run_load_agg (by rfl) (by rfl) hSw.1 Try.underlying43 rfl info_tm⟩) R ?_; try simp only [Act.put, List.getElem_toArray, List.getElem_cons_succ, List.getElem_cons_zero, List.setIfInBounds_toArray, List.set_cons_zero, List.set_cons_succ]
    refine wpAnyF_take (i := 6) (v := .agg (tmA 3 7)) rfl (by kernel_rfl) (by kernel_rfl) (by kernel_rfl) (by kernel_rfl) (fun _ _ _ h => h) (Or.inl ⟨by kernel_rfl, fun w hSw => run_load_agg (by rfl) (by rfl) hSw.1 Try.underlying43 rfl info_tm⟩) R ?_; try simp only [Act.put, List.getElem_toArray, List.getElem_cons_succ, List.getElem_cons_zero, List.setIfInBounds_toArray, List.set_cons_zero, List.set_cons_succ]
    refine wpAnyF_take (i := 11) (v := .agg (tmA 3 7)) rfl (by kernel_rfl) (by kernel_rfl) (by kernel_rfl) (by kernel_rfl) (fun _ _ _ h => h) (Or.inl ⟨by kernel_rfl, fun w hSw => run_load_agg (by rfl) (by rfl) hSw.1 Try.underlying43 rfl info_tm⟩) R ?_; try simp only [Act.put, List.getElem_toArray, List.getElem_cons_succ, List.getElem_cons_zero, List.setIfInBounds_toArray, List.set_cons_zero, List.set_cons_succ]
    refine wpAnyF_take (i := 2) (v := .agg #[.int .u64 5, .int .u64 51]) rfl (by kernel_rfl) (by kernel_rfl) (by kernel_rfl) (by kernel_rfl) (fun _ _ _ h => h) (Or.inl ⟨by kernel_rfl, fun w hSw => by (try dsimp only at hSw); go_simp⟩) R ?_; try simp only [Act.put, List.getElem_toArray, List.getElem_cons_succ, List.getElem_cons_zero, List.setIfInBounds_toArray, List.set_cons_zero, List.set_cons_succ]
    refine wpAnyF_take (i := 7) (v := .agg #[.int .u64 5, .int .u64 49]) rfl (by kernel_rfl) (by kernel_rfl) (by kernel_rfl) (by kernel_rfl) (fun _ _ _ h => h) (Or.inl ⟨by kernel_rfl, fun w hSw => by (try dsimp only at hSw); go_simp⟩) R ?_; try simp only [Act.put, List.getElem_toArray, List.getElem_cons_succ, List.getElem_cons_zero, List.setIfInBounds_toArray, List.set_cons_zero, List.set_cons_succ]
    refine wpAnyF_take (i := 12) (v := .agg #[.int .u64 5, .int .u64 50]) rfl (by kernel_rfl) (by kernel_rfl) (by kernel_rfl) (by kernel_rfl) (fun _ _ _ h => h) (Or.inl ⟨by kernel_rfl, fun w hSw => by (try dsimp only at hSw); go_simp⟩) R ?_; try simp only [Act.put, List.getElem_toArray, List.getElem_cons_succ, List.getElem_cons_zero, List.setIfInBounds_toArray, List.set_cons_zero, List.set_cons_succ]
    refine wpAnyF_take (i := 13) (v := .agg #[.int .u64 5, .int .u64 51]) rfl (by kernel_rfl) (by kernel_rfl) (by kernel_rfl) (by kernel_rfl) (fun _ _ _ h => h) (Or.inl ⟨by kernel_rfl, fun w hSw => by (try dsimp only at hSw); go_simp⟩) R ?_; try simp only [Act.put, List.getElem_toArray, List.getElem_cons_succ, List.getElem_cons_zero, List.setIfInBounds_toArray, List.set_cons_zero, List.set_cons_succ]
    clear R
    refine wpAnyF_three (i := 3) (j := 8) (m := 14) (by kernel_rfl) rfl rfl rfl (fun K hK => ?_) (fun K hK => ?_) (fun K hK => ?_)
    · go_simp
      have u1 := below_alloc2 u0 (.cells #[.int .u64 5, .int .u64 51] 38)
      have g1 := lit51 V0
      generalize V0.alloc (.cells #[.int .u64 5, .int .u64 51] 38) = V1 at u1 g1 ⊢
      generalize V0.heap.size = b1 at g1 ⊢
      have R := And.intro (HRf _ u1) u1
      refine hK.out _ _ (fun _ => R) ?_; clear hK K; try simp only [Act.put, List.getElem_toArray, List.getElem_cons_succ, List.getElem_cons_zero, List.setIfInBounds_toArray, List.set_cons_zero, List.set_cons_succ]
      clear R
      refine wpAnyF_three (i := 4) (j := 8) (m := 14) (by kernel_rfl) rfl rfl rfl (fun K hK => ?_) (fun K hK => ?_) (fun K hK => ?_)
      · go_simp
        refine (R1f _ u1 _ g1).mono ?_
        rintro e V2 ⟨rfl, h2⟩
        have u2 := below_next u1 h2
        dsimp only
        have R := And.intro (HRf _ u2) u2
        refine hK.out _ _ (fun _ => R) ?_; clear hK K; try simp only [Act.put, List.getElem_toArray, List.getElem_cons_succ, List.getElem_cons_zero, List.setIfInBounds_toArray, List.set_cons_zero, List.set_cons_succ]
        clear R
        refine wpAnyF_two (i := 8) (j := 14) (by kernel_rfl) rfl rfl (fun K hK => ?_) (fun K hK => ?_)
        · go_simp
          have u3 := below_alloc2 u2 (.cells #[.int .u64 5, .int .u64 49] 38)
          have g3 := lit49 V2
          generalize V2.alloc (.cells #[.int .u64 5, .int .u64 49] 38) = V3 at u3 g3 ⊢
          generalize V2.heap.size = b3 at g3 ⊢
          have R := And.intro (HRf _ u3) u3
          refine hK.out _ _ (fun _ => R) ?_; clear hK K; try simp only [Act.put, List.getElem_toArray, List.getElem_cons_succ, List.getElem_cons_zero, List.setIfInBounds_toArray, List.set_cons_zero, List.set_cons_succ]
          clear R
          refine wpAnyF_two (i := 9) (j := 14) (by kernel_rfl) rfl rfl (fun K hK => ?_) (fun K hK => ?_)
          · go_simp
            refine (R2f _ u3 _ g3).mono ?_
            rintro e V4 ⟨rfl, h4⟩
            have u4 := below_next u3 h4
            dsimp only
            have R := And.intro (HRf _ u4) u4
            refine hK.out _ _ (fun _ => R) ?_; clear hK K; try simp only [Act.put, List.getElem_toArray, List.getElem_cons_succ, List.getElem_cons_zero, List.setIfInBounds_toArray, List.set_cons_zero, List.set_cons_succ]
            clear R
            refine wpAnyF_one (i := 14) (by kernel_rfl) rfl (fun K hK => ?_)
            go_simp
            have u5 := below_alloc2 u4 (.cells #[.int .u64 5, .int .u64 50, .int .u64 5, .int .u64 51] 38)
            have g5 := lit5051 V4
            generalize V4.alloc (.cells #[.int .u64 5, .int .u64 50, .int .u64 5, .int .u64 51] 38) = V5 at u5 g5 ⊢
            generalize V4.heap.size = b5 at g5 ⊢
            have R := And.intro (HRf _ u5) u5
            refine hK.out _ _ (fun _ => R) ?_; clear hK K; try simp only [Act.put, List.getElem_toArray, List.getElem_cons_succ, List.getElem_cons_zero, List.setIfInBounds_toArray, List.set_cons_zero, List.set_cons_succ]
            clear R
            refine wpAnyF_one (i := 15) (by kernel_rfl) rfl (fun K hK => ?_)
            go_simp
            refine (R3f _ u5 _ g5).mono ?_
            rintro e V6 ⟨rfl, h6⟩
            have u6 := below_next u5 h6
            dsimp only
            have R := And.intro (HRf _ u6) u6
            refine hK.out _ _ (fun _ => R) ?_; clear hK K; try simp only [Act.put, List.getElem_toArray, List.getElem_cons_succ, List.getElem_cons_zero, List.setIfInBounds_toArray, List.set_cons_zero, List.set_cons_succ]
            clear R
            have R := And.intro (HRf _ u6) u6
            refine wpAnyF_one (i := 16) (by kernel_rfl) rfl (fun K hK => ?_); go_simp
            refine hK.out _ _ (fun _ => R) ?_; clear hK K; try simp only [Act.put, List.getElem_toArray, List.getElem_cons_succ, List.getElem_cons_zero, List.setIfInBounds_toArray, List.set_cons_zero, List.set_cons_succ]
            refine wpAnyF_one (i := 17) (by kernel_rfl) rfl (fun K hK => ?_); go_simp
            refine hK.out _ _ (fun _ => R) ?_; clear hK K; try simp only [Act.put, List.getElem_toArray, List.getElem_cons_succ, List.getElem_cons_zero, List.setIfInBounds_toArray, List.set_cons_zero, List.set_cons_succ]
            refine wpAnyF_one (i := 18) (by kernel_rfl) rfl (fun K hK => ?_); go_simp
            refine hK.out _ _ (fun _ => R) ?_; clear hK K; try simp only [Act.put, List.getElem_toArray, List.getElem_cons_succ, List.getElem_cons_zero, List.setIfInBounds_toArray, List.set_cons_zero, List.set_cons_succ]
            refine wpAnyF_done (by kernel_rfl) ?_ _
            refine noPanic_normal ?_
            clear R
            go_wp2
            go_meet
            exact ⟨rfl, rfl, rfl, u6⟩
          · go_simp
            have u7 := below_alloc2 u3 (.cells #[.int .u64 5, .int .u64 50, .int .u64 5, .int .u64 51] 38)
            have g7 := lit5051 V3
            have g7_8 := slk_alloc2 g3 (.cells #[.int .u64 5, .int .u64 50, .int .u64 5, .int .u64 51] 38)
            generalize V3.alloc (.cells #[.int .u64 5, .int .u64 50, .int .u64 5, .int .u64 51] 38) = V7 at u7 g7_8 g7 ⊢
            generalize V3.heap.size = b7 at g7 ⊢
            have R := And.intro (HRf _ u7) u7
            refine hK.out _ _ (fun _ => R) ?_; clear hK K; try simp only [Act.put, List.getElem_toArray, List.getElem_cons_succ, List.getElem_cons_zero, List.setIfInBounds_toArray, List.set_cons_zero, List.set_cons_succ]
            clear R
            refine wpAnyF_one (i := 9) (by kernel_rfl) rfl (fun K hK => ?_)
            go_simp
            refine (R2f _ u7 _ g7_8).mono ?_
            rintro e V8 ⟨rfl, h8⟩
            have u8 := below_next u7 h8
            have g8_14 := g7.below h8
            dsimp only
            have R := And.intro (HRf _ u8) u8
            refine hK.out _ _ (fun _ => R) ?_; clear hK K; try simp only [Act.put, List.getElem_toArray, List.getElem_cons_succ, List.getElem_cons_zero, List.setIfInBounds_toArray, List.set_cons_zero, List.set_cons_succ]
            clear R
            refine wpAnyF_one (i := 15) (by kernel_rfl) rfl (fun K hK => ?_)
            go_simp
            refine (R3f _ u8 _ g8_14).mono ?_
            rintro e V9 ⟨rfl, h9⟩
            have u9 := below_next u8 h9
            dsimp only
            have R := And.intro (HRf _ u9) u9
            refine hK.out _ _ (fun _ => R) ?_; clear hK K; try simp only [Act.put, List.getElem_toArray, List.getElem_cons_succ, List.getElem_cons_zero, List.setIfInBounds_toArray, List.set_cons_zero, List.set_cons_succ]
            clear R
            have R := And.intro (HRf _ u9) u9
            refine wpAnyF_one (i := 16) (by kernel_rfl) rfl (fun K hK => ?_); go_simp
            refine hK.out _ _ (fun _ => R) ?_; clear hK K; try simp only [Act.put, List.getElem_toArray, List.getElem_cons_succ, List.getElem_cons_zero, List.setIfInBounds_toArray, List.set_cons_zero, List.set_cons_succ]
            refine wpAnyF_one (i := 17) (by kernel_rfl) rfl (fun K hK => ?_); go_simp
            refine hK.out _ _ (fun _ => R) ?_; clear hK K; try simp only [Act.put, List.getElem_toArray, List.getElem_cons_succ, List.getElem_cons_zero, List.setIfInBounds_toArray, List.set_cons_zero, List.set_cons_succ]
            refine wpAnyF_one (i := 18) (by kernel_rfl) rfl (fun K hK => ?_); go_simp
            refine hK.out _ _ (fun _ => R) ?_; clear hK K; try simp only [Act.put, List.getElem_toArray, List.getElem_cons_succ, List.getElem_cons_zero, List.setIfInBounds_toArray, List.set_cons_zero, List.set_cons_succ]
            refine wpAnyF_done (by kernel_rfl) ?_ _
            refine noPanic_normal ?_
            clear R
            go_wp2
            go_meet
            exact ⟨rfl, rfl, rfl, u9⟩
        · go_simp
          have u10 := below_alloc2 u2 (.cells #[.int .u64 5, .int .u64 50, .int .u64 5, .int .u64 51] 38)
          have g10 := lit5051 V2
          generalize V2.alloc (.cells #[.int .u64 5, .int .u64 50, .int .u64 5, .int .u64 51] 38) = V10 at u10 g10 ⊢
          generalize V2.heap.size = b10 at g10 ⊢
          have R := And.intro (HRf _ u10) u10
          refine hK.out _ _ (fun _ => R) ?_; clear hK K; try simp only [Act.put, List.getElem_toArray, List.getElem_cons_succ, List.getElem_cons_zero, List.setIfInBounds_toArray, List.set_cons_zero, List.set_cons_succ]
          clear R
          refine wpAnyF_one (i := 8) (by kernel_rfl) rfl (fun K hK => ?_)
          go_simp
          have u11 := below_alloc2 u10 (.cells #[.int .u64 5, .int .u64 49] 38)
          have g11 := lit49 V10
          have g11_14 := slk_alloc2 g10 (.cells #[.int .u64 5, .int .u64 49] 38)
          generalize V10.alloc (.cells #[.int .u64 5, .int .u64 49] 38) = V11 at u11 g11_14 g11 ⊢
          generalize V10.heap.size = b11 at g11 ⊢
          have R := And.intro (HRf _ u11) u11
          refine hK.out _ _ (fun _ => R) ?_; clear hK K; try simp only [Act.put, List.getElem_toArray, List.getElem_cons_succ, List.getElem_cons_zero, List.setIfInBounds_toArray, List.set_cons_zero, List.set_cons_succ]
          clear R
          refine wpAnyF_one (i := 9) (by kernel_rfl) rfl (fun K hK => ?_)
          go_simp
          refine (R2f _ u11 _ g11).mono ?_
          rintro e V12 ⟨rfl, h12⟩
          have u12 := below_next u11 h12
          have g12_14 := g11_14.below h12
          dsimp only
          have R := And.intro (HRf _ u12) u12
          refine hK.out _ _ (fun _ => R) ?_; clear hK K; try simp only [Act.put, List.getElem_toArray, List.getElem_cons_succ, List.getElem_cons_zero, List.setIfInBounds_toArray, List.set_cons_zero, List.set_cons_succ]
          clear R
          refine wpAnyF_one (i := 15) (by kernel_rfl) rfl (fun K hK => ?_)
          go_simp
          refine (R3f _ u12 _ g12_14).mono ?_
          rintro e V13 ⟨rfl, h13⟩
          have u13 := below_next u12 h13
          dsimp only
          have R := And.intro (HRf _ u13) u13
          refine hK.out _ _ (fun _ => R) ?_; clear hK K; try simp only [Act.put, List.getElem_toArray, List.getElem_cons_succ, List.getElem_cons_zero, List.setIfInBounds_toArray, List.set_cons_zero, List.set_cons_succ]
          clear R
          have R := And.intro (HRf _ u13) u13
          refine wpAnyF_one (i := 16) (by kernel_rfl) rfl (fun K hK => ?_); go_simp
          refine hK.out _ _ (fun _ => R) ?_; clear hK K; try simp only [Act.put, List.getElem_toArray, List.getElem_cons_succ, List.getElem_cons_zero, List.setIfInBounds_toArray, List.set_cons_zero, List.set_cons_succ]
          refine wpAnyF_one (i := 17) (by kernel_rfl) rfl (fun K hK => ?_); go_simp
          refine hK.out _ _ (fun _ => R) ?_; clear hK K; try simp only [Act.put, List.getElem_toArray, List.getElem_cons_succ, List.getElem_cons_zero, List.setIfInBounds_toArray, List.set_cons_zero, List.set_cons_succ]
          refine wpAnyF_one (i := 18) (by kernel_rfl) rfl (fun K hK => ?_); go_simp
          refine hK.out _ _ (fun _ => R) ?_; clear hK K; try simp only [Act.put, List.getElem_toArray, List.getElem_cons_succ, List.getElem_cons_zero, List.setIfInBounds_toArray, List.set_cons_zero, List.set_cons_succ]
          refine wpAnyF_done (by kernel_rfl) ?_ _
          refine noPanic_normal ?_
          clear R
          go_wp2
          go_meet
          exact ⟨rfl, rfl, rfl, u13⟩
      · go_simp
        have u14 := below_alloc2 u1 (.cells #[.int .u64 5, .int .u64 49] 38)
        have g14 := lit49 V1
        have g14_3 := slk_alloc2 g1 (.cells #[.int .u64 5, .int .u64 49] 38)
        generalize V1.alloc (.cells #[.int .u64 5, .int .u64 49] 38) = V14 at u14 g14_3 g14 ⊢
        generalize V1.heap.size = b14 at g14 ⊢
        have R := And.intro (HRf _ u14) u14
        refine hK.out _ _ (fun _ => R) ?_; clear hK K; try simp only [Act.put, List.getElem_toArray, List.getElem_cons_succ, List.getElem_cons_zero, List.setIfInBounds_toArray, List.set_cons_zero, List.set_cons_succ]
        clear R
        refine wpAnyF_two (i := 4) (j := 14) (by kernel_rfl) rfl rfl (fun K hK => ?_) (fun K hK => ?_)
        · go_simp
          refine (R1f _ u14 _ g14_3).mono ?_
          rintro e V15 ⟨rfl, h15⟩
          have u15 := below_next u14 h15
          have g15_8 := g14.below h15
          dsimp only
          have R := And.intro (HRf _ u15) u15
          refine hK.out _ _ (fun _ => R) ?_; clear hK K; try simp only [Act.put, List.getElem_toArray, List.getElem_cons_succ, List.getElem_cons_zero, List.setIfInBounds_toArray, List.set_cons_zero, List.set_cons_succ]
          clear R
          refine wpAnyF_two (i := 9) (j := 14) (by kernel_rfl) rfl rfl (fun K hK => ?_) (fun K hK => ?_)
          · go_simp
            refine (R2f _ u15 _ g15_8).mono ?_
            rintro e V16 ⟨rfl, h16⟩
            have u16 := below_next u15 h16
            dsimp only
            have R := And.intro (HRf _ u16) u16
            refine hK.out _ _ (fun _ => R) ?_; clear hK K; try simp only [Act.put, List.getElem_toArray, List.getElem_cons_succ, List.getElem_cons_zero, List.setIfInBounds_toArray, List.set_cons_zero, List.set_cons_succ]
            clear R
            refine wpAnyF_one (i := 14) (by kernel_rfl) rfl (fun K hK => ?_)
            go_simp
            have u17 := below_alloc2 u16 (.cells #[.int .u64 5, .int .u64 50, .int .u64 5, .int .u64 51] 38)
            have g17 := lit5051 V16
            generalize V16.alloc (.cells #[.int .u64 5, .int .u64 50, .int .u64 5, .int .u64 51] 38) = V17 at u17 g17 ⊢
            generalize V16.heap.size = b17 at g17 ⊢
            have R := And.intro (HRf _ u17) u17
            refine hK.out _ _ (fun _ => R) ?_; clear hK K; try simp only [Act.put, List.getElem_toArray, List.getElem_cons_succ, List.getElem_cons_zero, List.setIfInBounds_toArray, List.set_cons_zero, List.set_cons_succ]
            clear R
            refine wpAnyF_one (i := 15) (by kernel_rfl) rfl (fun K hK => ?_)
            go_simp
            refine (R3f _ u17 _ g17).mono ?_
            rintro e V18 ⟨rfl, h18⟩
            have u18 := below_next u17 h18
            dsimp only
            have R := And.intro (HRf _ u18) u18
            refine hK.out _ _ (fun _ => R) ?_; clear hK K; try simp only [Act.put, List.getElem_toArray, List.getElem_cons_succ, List.getElem_cons_zero, List.setIfInBounds_toArray, List.set_cons_zero, List.set_cons_succ]
            clear R
            have R := And.intro (HRf _ u18) u18
            refine wpAnyF_one (i := 16) (by kernel_rfl) rfl (fun K hK => ?_); go_simp
            refine hK.out _ _ (fun _ => R) ?_; clear hK K; try simp only [Act.put, List.getElem_toArray, List.getElem_cons_succ, List.getElem_cons_zero, List.setIfInBounds_toArray, List.set_cons_zero, List.set_cons_succ]
            refine wpAnyF_one (i := 17) (by kernel_rfl) rfl (fun K hK => ?_); go_simp
            refine hK.out _ _ (fun _ => R) ?_; clear hK K; try simp only [Act.put, List.getElem_toArray, List.getElem_cons_succ, List.getElem_cons_zero, List.setIfInBounds_toArray, List.set_cons_zero, List.set_cons_succ]
            refine wpAnyF_one (i := 18) (by kernel_rfl) rfl (fun K hK => ?_); go_simp
            refine hK.out _ _ (fun _ => R) ?_; clear hK K; try simp only [Act.put, List.getElem_toArray, List.getElem_cons_succ, List.getElem_cons_zero, List.setIfInBounds_toArray, List.set_cons_zero, List.set_cons_succ]
            refine wpAnyF_done (by kernel_rfl) ?_ _
            refine noPanic_normal ?_
            clear R
            go_wp2
            go_meet
            exact ⟨rfl, rfl, rfl, u18⟩
          · go_simp
            have u19 := below_alloc2 u15 (.cells #[.int .u64 5, .int .u64 50, .int .u64 5, .int .u64 51] 38)
            have g19 := lit5051 V15
            have g19_8 := slk_alloc2 g15_8 (.cells #[.int .u64 5, .int .u64 50, .int .u64 5, .int .u64 51] 38)
            generalize V15.alloc (.cells #[.int .u64 5, .int .u64 50, .int .u64 5, .int .u64 51] 38) = V19 at u19 g19_8 g19 ⊢
            generalize V15.heap.size = b19 at g19 ⊢
            have R := And.intro (HRf _ u19) u19
            refine hK.out _ _ (fun _ => R) ?_; clear hK K; try simp only [Act.put, List.getElem_toArray, List.getElem_cons_succ, List.getElem_cons_zero, List.setIfInBounds_toArray, List.set_cons_zero, List.set_cons_succ]
            clear R
            refine wpAnyF_one (i := 9) (by kernel_rfl) rfl (fun K hK => ?_)
            go_simp
            refine (R2f _ u19 _ g19_8).mono ?_
            rintro e V20 ⟨rfl, h20⟩
            have u20 := below_next u19 h20
            have g20_14 := g19.below h20
            dsimp only
            have R := And.intro (HRf _ u20) u20
            refine hK.out _ _ (fun _ => R) ?_; clear hK K; try simp only [Act.put, List.getElem_toArray, List.getElem_cons_succ, List.getElem_cons_zero, List.setIfInBounds_toArray, List.set_cons_zero, List.set_cons_succ]
            clear R
            refine wpAnyF_one (i := 15) (by kernel_rfl) rfl (fun K hK => ?_)
            go_simp
            refine (R3f _ u20 _ g20_14).mono ?_
            rintro e V21 ⟨rfl, h21⟩
            have u21 := below_next u20 h21
            dsimp only
            have R := And.intro (HRf _ u21) u21
            refine hK.out _ _ (fun _ => R) ?_; clear hK K; try simp only [Act.put, List.getElem_toArray, List.getElem_cons_succ, List.getElem_cons_zero, List.setIfInBounds_toArray, List.set_cons_zero, List.set_cons_succ]
            clear R
            have R := And.intro (HRf _ u21) u21
            refine wpAnyF_one (i := 16) (by kernel_rfl) rfl (fun K hK => ?_); go_simp
            refine hK.out _ _ (fun _ => R) ?_; clear hK K; try simp only [Act.put, List.getElem_toArray, List.getElem_cons_succ, List.getElem_cons_zero, List.setIfInBounds_toArray, List.set_cons_zero, List.set_cons_succ]
            refine wpAnyF_one (i := 17) (by kernel_rfl) rfl (fun K hK => ?_); go_simp
            refine hK.out _ _ (fun _ => R) ?_; clear hK K; try simp only [Act.put, List.getElem_toArray, List.getElem_cons_succ, List.getElem_cons_zero, List.setIfInBounds_toArray, List.set_cons_zero, List.set_cons_succ]
            refine wpAnyF_one (i := 18) (by kernel_rfl) rfl (fun K hK => ?_); go_simp
            refine hK.out _ _ (fun _ => R) ?_; clear hK K; try simp only [Act.put, List.getElem_toArray, List.getElem_cons_succ, List.getElem_cons_zero, List.setIfInBounds_toArray, List.set_cons_zero, List.set_cons_succ]
            refine wpAnyF_done (by kernel_rfl) ?_ _
            refine noPanic_normal ?_
            clear R
            go_wp2
            go_meet
            exact ⟨rfl, rfl, rfl, u21⟩
        · go_simp
          have u22 := below_alloc2 u14 (.cells #[.int .u64 5, .int .u64 50, .int .u64 5, .int .u64 51] 38)
          have g22 := lit5051 V14
          have g22_3 := slk_alloc2 g14_3 (.cells #[.int .u64 5, .int .u64 50, .int .u64 5, .int .u64 51] 38)
          have g22_8 := slk_alloc2 g14 (.cells #[.int .u64 5, .int .u64 50, .int .u64 5, .int .u64 51] 38)
          generalize V14.alloc (.cells #[.int .u64 5, .int .u64 50, .int .u64 5, .int .u64 51] 38) = V22 at u22 g22_3 g22_8 g22 ⊢
          generalize V14.heap.size = b22 at g22 ⊢
          have R := And.intro (HRf _ u22) u22
          refine hK.out _ _ (fun _ => R) ?_; clear hK K; try simp only [Act.put, List.getElem_toArray, List.getElem_cons_succ, List.getElem_cons_zero, List.setIfInBounds_toArray, List.set_cons_zero, List.set_cons_succ]
          clear R
          refine wpAnyF_one (i := 4) (by kernel_rfl) rfl (fun K hK => ?_)
          go_simp
          refine (R1f _ u22 _ g22_3).mono ?_
          rintro e V23 ⟨rfl, h23⟩
          have u23 := below_next u22 h23
          have g23_8 := g22_8.below h23
          have g23_14 := g22.below h23
          dsimp only
          have R := And.intro (HRf _ u23) u23
          refine hK.out _ _ (fun _ => R) ?_; clear hK K; try simp only [Act.put, List.getElem_toArray, List.getElem_cons_succ, List.getElem_cons_zero, List.setIfInBounds_toArray, List.set_cons_zero, List.set_cons_succ]
          clear R
          refine wpAnyF_one (i := 9) (by kernel_rfl) rfl (fun K hK => ?_)
          go_simp
          refine (R2f _ u23 _ g23_8).mono ?_
          rintro e V24 ⟨rfl, h24⟩
          have u24 := below_next u23 h24
          have g24_14 := g23_14.below h24
          dsimp only
          have R := And.intro (HRf _ u24) u24
          refine hK.out _ _ (fun _ => R) ?_; clear hK K; try simp only [Act.put, List.getElem_toArray, List.getElem_cons_succ, List.getElem_cons_zero, List.setIfInBounds_toArray, List.set_cons_zero, List.set_cons_succ]
          clear R
          refine wpAnyF_one (i := 15) (by kernel_rfl) rfl (fun K hK => ?_)
          go_simp
          refine (R3f _ u24 _ g24_14).mono ?_
          rintro e V25 ⟨rfl, h25⟩
          have u25 := below_next u24 h25
          dsimp only
          have R := And.intro (HRf _ u25) u25
          refine hK.out _ _ (fun _ => R) ?_; clear hK K; try simp only [Act.put, List.getElem_toArray, List.getElem_cons_succ, List.getElem_cons_zero, List.setIfInBounds_toArray, List.set_cons_zero, List.set_cons_succ]
          clear R
          have R := And.intro (HRf _ u25) u25
          refine wpAnyF_one (i := 16) (by kernel_rfl) rfl (fun K hK => ?_); go_simp
          refine hK.out _ _ (fun _ => R) ?_; clear hK K; try simp only [Act.put, List.getElem_toArray, List.getElem_cons_succ, List.getElem_cons_zero, List.setIfInBounds_toArray, List.set_cons_zero, List.set_cons_succ]
          refine wpAnyF_one (i := 17) (by kernel_rfl) rfl (fun K hK => ?_); go_simp
          refine hK.out _ _ (fun _ => R) ?_; clear hK K; try simp only [Act.put, List.getElem_toArray, List.getElem_cons_succ, List.getElem_cons_zero, List.setIfInBounds_toArray, List.set_cons_zero, List.set_cons_succ]
          refine wpAnyF_one (i := 18) (by kernel_rfl) rfl (fun K hK => ?_); go_simp
          refine hK.out _ _ (fun _ => R) ?_; clear hK K; try simp only [Act.put, List.getElem_toArray, List.getElem_cons_succ, List.getElem_cons_zero, List.setIfInBounds_toArray, List.set_cons_zero, List.set_cons_succ]
          refine wpAnyF_done (by kernel_rfl) ?_ _
          refine noPanic_normal ?_
          clear R
          go_wp2
          go_meet
          exact ⟨rfl, rfl, rfl, u25⟩
      · go_simp
        have u26 := below_alloc2 u1 (.cells #[.int .u64 5, .int .u64 50, .int .u64 5, .int .u64 51] 38)
        have g26 := lit5051 V1
        have g26_3 := slk_alloc2 g1 (.cells #[.int .u64 5, .int .u64 50, .int .u64 5, .int .u64 51] 38)
        generalize V1.alloc (.cells #[.int .u64 5, .int .u64 50, .int .u64 5, .int .u64 51] 38) = V26 at u26 g26_3 g26 ⊢
        generalize V1.heap.size = b26 at g26 ⊢
        have R := And.intro (HRf _ u26) u26
        refine hK.out _ _ (fun _ => R) ?_; clear hK K; try simp only [Act.put, List.getElem_toArray, List.getElem_cons_succ, List.getElem_cons_zero, List.setIfInBounds_toArray, List.set_cons_zero, List.set_cons_succ]
        clear R
        refine wpAnyF_two (i := 4) (j := 8) (by kernel_rfl) rfl rfl (fun K hK => ?_) (fun K hK => ?_)
        · go_simp
          refine (R1f _ u26 _ g26_3).mono ?_
          rintro e V27 ⟨rfl, h27⟩
          have u27 := below_next u26 h27
          have g27_14 := g26.below h27
          dsimp only
          have R := And.intro (HRf _ u27) u27
          refine hK.out _ _ (fun _ => R) ?_; clear hK K; try simp only [Act.put, List.getElem_toArray, List.getElem_cons_succ, List.getElem_cons_zero, List.setIfInBounds_toArray, List.set_cons_zero, List.set_cons_succ]
          clear R
          refine wpAnyF_one (i := 8) (by kernel_rfl) rfl (fun K hK => ?_)
          go_simp
          have u28 := below_alloc2 u27 (.cells #[.int .u64 5, .int .u64 49] 38)
          have g28 := lit49 V27
          have g28_14 := slk_alloc2 g27_14 (.cells #[.int .u64 5, .int .u64 49] 38)
          generalize V27.alloc (.cells #[.int .u64 5, .int .u64 49] 38) = V28 at u28 g28_14 g28 ⊢
          generalize V27.heap.size = b28 at g28 ⊢
          have R := And.intro (HRf _ u28) u28
          refine hK.out _ _ (fun _ => R) ?_; clear hK K; try simp only [Act.put, List.getElem_toArray, List.getElem_cons_succ, List.getElem_cons_zero, List.setIfInBounds_toArray, List.set_cons_zero, List.set_cons_succ]
          clear R
          refine wpAnyF_one (i := 9) (by kernel_rfl) rfl (fun K hK => ?_)
          go_simp
          refine (R2f _ u28 _ g28).mono ?_
          rintro e V29 ⟨rfl, h29⟩
          have u29 := below_next u28 h29
          have g29_14 := g28_14.below h29
          dsimp only
          have R := And.intro (HRf _ u29) u29
          refine hK.out _ _ (fun _ => R) ?_; clear hK K; try simp only [Act.put, List.getElem_toArray, List.getElem_cons_succ, List.getElem_cons_zero, List.setIfInBounds_toArray, List.set_cons_zero, List.set_cons_succ]
          clear R
          refine wpAnyF_one (i := 15) (by kernel_rfl) rfl (fun K hK => ?_)
          go_simp
          refine (R3f _ u29 _ g29_14).mono ?_
          rintro e V30 ⟨rfl, h30⟩
          have u30 := below_next u29 h30
          dsimp only
          have R := And.intro (HRf _ u30) u30
          refine hK.out _ _ (fun _ => R) ?_; clear hK K; try simp only [Act.put, List.getElem_toArray, List.getElem_cons_succ, List.getElem_cons_zero, List.setIfInBounds_toArray, List.set_cons_zero, List.set_cons_succ]
          clear R
          have R := And.intro (HRf _ u30) u30
          refine wpAnyF_one (i := 16) (by kernel_rfl) rfl (fun K hK => ?_); go_simp
          refine hK.out _ _ (fun _ => R) ?_; clear hK K; try simp only [Act.put, List.getElem_toArray, List.getElem_cons_succ, List.getElem_cons_zero, List.setIfInBounds_toArray, List.set_cons_zero, List.set_cons_succ]
          refine wpAnyF_one (i := 17) (by kernel_rfl) rfl (fun K hK => ?_); go_simp
          refine hK.out _ _ (fun _ => R) ?_; clear hK K; try simp only [Act.put, List.getElem_toArray, List.getElem_cons_succ, List.getElem_cons_zero, List.setIfInBounds_toArray, List.set_cons_zero, List.set_cons_succ]
          refine wpAnyF_one (i := 18) (by kernel_rfl) rfl (fun K hK => ?_); go_simp
          refine hK.out _ _ (fun _ => R) ?_; clear hK K; try simp only [Act.put, List.getElem_toArray, List.getElem_cons_succ, List.getElem_cons_zero, List.setIfInBounds_toArray, List.set_cons_zero, List.set_cons_succ]
          refine wpAnyF_done (by kernel_rfl) ?_ _
          refine noPanic_normal ?_
          clear R
          go_wp2
          go_meet
          exact ⟨rfl, rfl, rfl, u30⟩
        · go_simp
          have u31 := below_alloc2 u26 (.cells #[.int .u64 5, .int .u64 49] 38)
          have g31 := lit49 V26
          have g31_3 := slk_alloc2 g26_3 (.cells #[.int .u64 5, .int .u64 49] 38)
          have g31_14 := slk_alloc2 g26 (.cells #[.int .u64 5, .int .u64 49] 38)
          generalize V26.alloc (.cells #[.int .u64 5, .int .u64 49] 38) = V31 at u31 g31_3 g31_14 g31 ⊢
          generalize V26.heap.size = b31 at g31 ⊢
          have R := And.intro (HRf _ u31) u31
          refine hK.out _ _ (fun _ => R) ?_; clear hK K; try simp only [Act.put, List.getElem_toArray, List.getElem_cons_succ, List.getElem_cons_zero, List.setIfInBounds_toArray, List.set_cons_zero, List.set_cons_succ]
          clear R
          refine wpAnyF_one (i := 4) (by kernel_rfl) rfl (fun K hK => ?_)
          go_simp
          refine (R1f _ u31 _ g31_3).mono ?_
          rintro e V32 ⟨rfl, h32⟩
          have u32 := below_next u31 h32
          have g32_14 := g31_14.below h32
          have g32_8 := g31.below h32
          dsimp only
          have R := And.intro (HRf _ u32) u32
          refine hK.out _ _ (fun _ => R) ?_; clear hK K; try simp only [Act.put, List.getElem_toArray, List.getElem_cons_succ, List.getElem_cons_zero, List.setIfInBounds_toArray, List.set_cons_zero, List.set_cons_succ]
          clear R
          refine wpAnyF_one (i := 9) (by kernel_rfl) rfl (fun K hK => ?_)
          go_simp
          refine (R2f _ u32 _ g32_8).mono ?_
          rintro e V33 ⟨rfl, h33⟩
          have u33 := below_next u32 h33
          have g33_14 := g32_14.below h33
          dsimp only
          have R := And.intro (HRf _ u33) u33
          refine hK.out _ _ (fun _ => R) ?_; clear hK K; try simp only [Act.put, List.getElem_toArray, List.getElem_cons_succ, List.getElem_cons_zero, List.setIfInBounds_toArray, List.set_cons_zero, List.set_cons_succ]
          clear R
          refine wpAnyF_one (i := 15) (by kernel_rfl) rfl (fun K hK => ?_)
          go_simp
          refine (R3f _ u33 _ g33_14).mono ?_
          rintro e V34 ⟨rfl, h34⟩
          have u34 := below_next u33 h34
          dsimp only
          have R := And.intro (HRf _ u34) u34
          refine hK.out _ _ (fun _ => R) ?_; clear hK K; try simp only [Act.put, List.getElem_toArray, List.getElem_cons_succ, List.getElem_cons_zero, List.setIfInBounds_toArray, List.set_cons_zero, List.set_cons_succ]
          clear R
          have R := And.intro (HRf _ u34) u34
          refine wpAnyF_one (i := 16) (by kernel_rfl) rfl (fun K hK => ?_); go_simp
          refine hK.out _ _ (fun _ => R) ?_; clear hK K; try simp only [Act.put, List.getElem_toArray, List.getElem_cons_succ, List.getElem_cons_zero, List.setIfInBounds_toArray, List.set_cons_zero, List.set_cons_succ]
          refine wpAnyF_one (i := 17) (by kernel_rfl) rfl (fun K hK => ?_); go_simp
          refine hK.out _ _ (fun _ => R) ?_; clear hK K; try simp only [Act.put, List.getElem_toArray, List.getElem_cons_succ, List.getElem_cons_zero, List.setIfInBounds_toArray, List.set_cons_zero, List.set_cons_succ]
          refine wpAnyF_one (i := 18) (by kernel_rfl) rfl (fun K hK => ?_); go_simp
          refine hK.out _ _ (fun _ => R) ?_; clear hK K; try simp only [Act.put, List.getElem_toArray, List.getElem_cons_succ, List.getElem_cons_zero, List.setIfInBounds_toArray, List.set_cons_zero, List.set_cons_succ]
          refine wpAnyF_done (by kernel_rfl) ?_ _
          refine noPanic_normal ?_
          clear R
          go_wp2
          go_meet
          exact ⟨rfl, rfl, rfl, u34⟩
    · go_simp
      have u35 := below_alloc2 u0 (.cells #[.int .u64 5, .int .u64 49] 38)
      have g35 := lit49 V0
      generalize V0.alloc (.cells #[.int .u64 5, .int .u64 49] 38) = V35 at u35 g35 ⊢
      generalize V0.heap.size = b35 at g35 ⊢
      have R := And.intro (HRf _ u35) u35
      refine hK.out _ _ (fun _ => R) ?_; clear hK K; try simp only [Act.put, List.getElem_toArray, List.getElem_cons_succ, List.getElem_cons_zero, List.setIfInBounds_toArray, List.set_cons_zero, List.set_cons_succ]
      clear R
      refine wpAnyF_two (i := 3) (j := 14) (by kernel_rfl) rfl rfl (fun K hK => ?_) (fun K hK => ?_)
      · go_simp
        have u36 := below_alloc2 u35 (.cells #[.int .u64 5, .int .u64 51] 38)
        have g36 := lit51 V35
        have g36_8 := slk_alloc2 g35 (.cells #[.int .u64 5, .int .u64 51] 38)
        generalize V35.alloc (.cells #[.int .u64 5, .int .u64 51] 38) = V36 at u36 g36_8 g36 ⊢
        generalize V35.heap.size = b36 at g36 ⊢
        have R := And.intro (HRf _ u36) u36
        refine hK.out _ _ (fun _ => R) ?_; clear hK K; try simp only [Act.put, List.getElem_toArray, List.getElem_cons_succ, List.getElem_cons_zero, List.setIfInBounds_toArray, List.set_cons_zero, List.set_cons_succ]
        clear R
        refine wpAnyF_two (i := 4) (j := 14) (by kernel_rfl) rfl rfl (fun K hK => ?_) (fun K hK => ?_)
        · go_simp
          refine (R1f _ u36 _ g36).mono ?_
          rintro e V37 ⟨rfl, h37⟩
          have u37 := below_next u36 h37
          have g37_8 := g36_8.below h37
          dsimp only
          have R := And.intro (HRf _ u37) u37
          refine hK.out _ _ (fun _ => R) ?_; clear hK K; try simp only [Act.put, List.getElem_toArray, List.getElem_cons_succ, List.getElem_cons_zero, List.setIfInBounds_toArray, List.set_cons_zero, List.set_cons_succ]
          clear R
          refine wpAnyF_two (i := 9) (j := 14) (by kernel_rfl) rfl rfl (fun K hK => ?_) (fun K hK => ?_)
          · go_simp
            refine (R2f _ u37 _ g37_8).mono ?_
            rintro e V38 ⟨rfl, h38⟩
            have u38 := below_next u37 h38
            dsimp only
            have R := And.intro (HRf _ u38) u38
            refine hK.out _ _ (fun _ => R) ?_; clear hK K; try simp only [Act.put, List.getElem_toArray, List.getElem_cons_succ, List.getElem_cons_zero, List.setIfInBounds_toArray, List.set_cons_zero, List.set_cons_succ]
            clear R
            refine wpAnyF_one (i := 14) (by kernel_rfl) rfl (fun K hK => ?_)
            go_simp
            have u39 := below_alloc2 u38 (.cells #[.int .u64 5, .int .u64 50, .int .u64 5, .int .u64 51] 38)
            have g39 := lit5051 V38
            generalize V38.alloc (.cells #[.int .u64 5, .int .u64 50, .int .u64 5, .int .u64 51] 38) = V39 at u39 g39 ⊢
            generalize V38.heap.size = b39 at g39 ⊢
            have R := And.intro (HRf _ u39) u39
            refine hK.out _ _ (fun _ => R) ?_; clear hK K; try simp only [Act.put, List.getElem_toArray, List.getElem_cons_succ, List.getElem_cons_zero, List.setIfInBounds_toArray, List.set_cons_zero, List.set_cons_succ]
            clear R
            refine wpAnyF_one (i := 15) (by kernel_rfl) rfl (fun K hK => ?_)
            go_simp
            refine (R3f _ u39 _ g39).mono ?_
            rintro e V40 ⟨rfl, h40⟩
            have u40 := below_next u39 h40
            dsimp only
            have R := And.intro (HRf _ u40) u40
            refine hK.out _ _ (fun _ => R) ?_; clear hK K; try simp only [Act.put, List.getElem_toArray, List.getElem_cons_succ, List.getElem_cons_zero, List.setIfInBounds_toArray, List.set_cons_zero, List.set_cons_succ]
            clear R
            have R := And.intro (HRf _ u40) u40
            refine wpAnyF_one (i := 16) (by kernel_rfl) rfl (fun K hK => ?_); go_simp
            refine hK.out _ _ (fun _ => R) ?_; clear hK K; try simp only [Act.put, List.getElem_toArray, List.getElem_cons_succ, List.getElem_cons_zero, List.setIfInBounds_toArray, List.set_cons_zero, List.set_cons_succ]
            refine wpAnyF_one (i := 17) (by kernel_rfl) rfl (fun K hK => ?_); go_simp
            refine hK.out _ _ (fun _ => R) ?_; clear hK K; try simp only [Act.put, List.getElem_toArray, List.getElem_cons_succ, List.getElem_cons_zero, List.setIfInBounds_toArray, List.set_cons_zero, List.set_cons_succ]
            refine wpAnyF_one (i := 18) (by kernel_rfl) rfl (fun K hK => ?_); go_simp
            refine hK.out _ _ (fun _ => R) ?_; clear hK K; try simp only [Act.put, List.getElem_toArray, List.getElem_cons_succ, List.getElem_cons_zero, List.setIfInBounds_toArray, List.set_cons_zero, List.set_cons_succ]
            refine wpAnyF_done (by kernel_rfl) ?_ _
            refine noPanic_normal ?_
            clear R
            go_wp2
            go_meet
            exact ⟨rfl, rfl, rfl, u40⟩
          · go_simp
            have u41 := below_alloc2 u37 (.cells #[.int .u64 5, .int .u64 50, .int .u64 5, .int .u64 51] 38)
            have g41 := lit5051 V37
            have g41_8 := slk_alloc2 g37_8 (.cells #[.int .u64 5, .int .u64 50, .int .u64 5, .int .u64 51] 38)
            generalize V37.alloc (.cells #[.int .u64 5, .int .u64 50, .int .u64 5, .int .u64 51] 38) = V41 at u41 g41_8 g41 ⊢
            generalize V37.heap.size = b41 at g41 ⊢
            have R := And.intro (HRf _ u41) u41
            refine hK.out _ _ (fun _ => R) ?_; clear hK K; try simp only [Act.put, List.getElem_toArray, List.getElem_cons_succ, List.getElem_cons_zero, List.setIfInBounds_toArray, List.set_cons_zero, List.set_cons_succ]
            clear R
            refine wpAnyF_one (i := 9) (by kernel_rfl) rfl (fun K hK => ?_)
            go_simp
            refine (R2f _ u41 _ g41_8).mono ?_
            rintro e V42 ⟨rfl, h42⟩
            have u42 := below_next u41 h42
            have g42_14 := g41.below h42
            dsimp only
            have R := And.intro (HRf _ u42) u42
            refine hK.out _ _ (fun _ => R) ?_; clear hK K; try simp only [Act.put, List.getElem_toArray, List.getElem_cons_succ, List.getElem_cons_zero, List.setIfInBounds_toArray, List.set_cons_zero, List.set_cons_succ]
            clear R
            refine wpAnyF_one (i := 15) (by kernel_rfl) rfl (fun K hK => ?_)
            go_simp
            refine (R3f _ u42 _ g42_14).mono ?_
            rintro e V43 ⟨rfl, h43⟩
            have u43 := below_next u42 h43
            dsimp only
            have R := And.intro (HRf _ u43) u43
            refine hK.out _ _ (fun _ => R) ?_; clear hK K; try simp only [Act.put, List.getElem_toArray, List.getElem_cons_succ, List.getElem_cons_zero, List.setIfInBounds_toArray, List.set_cons_zero, List.set_cons_succ]
            clear R
            have R := And.intro (HRf _ u43) u43
            refine wpAnyF_one (i := 16) (by kernel_rfl) rfl (fun K hK => ?_); go_simp
            refine hK.out _ _ (fun _ => R) ?_; clear hK K; try simp only [Act.put, List.getElem_toArray, List.getElem_cons_succ, List.getElem_cons_zero, List.setIfInBounds_toArray, List.set_cons_zero, List.set_cons_succ]
            refine wpAnyF_one (i := 17) (by kernel_rfl) rfl (fun K hK => ?_); go_simp
            refine hK.out _ _ (fun _ => R) ?_; clear hK K; try simp only [Act.put, List.getElem_toArray, List.getElem_cons_succ, List.getElem_cons_zero, List.setIfInBounds_toArray, List.set_cons_zero, List.set_cons_succ]
            refine wpAnyF_one (i := 18) (by kernel_rfl) rfl (fun K hK => ?_); go_simp
            refine hK.out _ _ (fun _ => R) ?_; clear hK K; try simp only [Act.put, List.getElem_toArray, List.getElem_cons_succ, List.getElem_cons_zero, List.setIfInBounds_toArray, List.set_cons_zero, List.set_cons_succ]
            refine wpAnyF_done (by kernel_rfl) ?_ _
            refine noPanic_normal ?_
            clear R
            go_wp2
            go_meet
            exact ⟨rfl, rfl, rfl, u43⟩
        · go_simp
          have u44 := below_alloc2 u36 (.cells #[.int .u64 5, .int .u64 50, .int .u64 5, .int .u64 51] 38)
          have g44 := lit5051 V36
          have g44_8 := slk_alloc2 g36_8 (.cells #[.int .u64 5, .int .u64 50, .int .u64 5, .int .u64 51] 38)
          have g44_3 := slk_alloc2 g36 (.cells #[.int .u64 5, .int .u64 50, .int .u64 5, .int .u64 51] 38)
          generalize V36.alloc (.cells #[.int .u64 5, .int .u64 50, .int .u64 5, .int .u64 51] 38) = V44 at u44 g44_8 g44_3 g44 ⊢
          generalize V36.heap.size = b44 at g44 ⊢
          have R := And.intro (HRf _ u44) u44
          refine hK.out _ _ (fun _ => R) ?_; clear hK K; try simp only [Act.put, List.getElem_toArray, List.getElem_cons_succ, List.getElem_cons_zero, List.setIfInBounds_toArray, List.set_cons_zero, List.set_cons_succ]
          clear R
          refine wpAnyF_one (i := 4) (by kernel_rfl) rfl (fun K hK => ?_)
          go_simp
          refine (R1f _ u44 _ g44_3).mono ?_
          rintro e V45 ⟨rfl, h45⟩
          have u45 := below_next u44 h45
          have g45_8 := g44_8.below h45
          have g45_14 := g44.below h45
          dsimp only
          have R := And.intro (HRf _ u45) u45
          refine hK.out _ _ (fun _ => R) ?_; clear hK K; try simp only [Act.put, List.getElem_toArray, List.getElem_cons_succ, List.getElem_cons_zero, List.setIfInBounds_toArray, List.set_cons_zero, List.set_cons_succ]
          clear R
          refine wpAnyF_one (i := 9) (by kernel_rfl) rfl (fun K hK => ?_)
          go_simp
          refine (R2f _ u45 _ g45_8).mono ?_
          rintro e V46 ⟨rfl, h46⟩
          have u46 := below_next u45 h46
          have g46_14 := g45_14.below h46
          dsimp only
          have R := And.intro (HRf _ u46) u46
          refine hK.out _ _ (fun _ => R) ?_; clear hK K; try simp only [Act.put, List.getElem_toArray, List.getElem_cons_succ, List.getElem_cons_zero, List.setIfInBounds_toArray, List.set_cons_zero, List.set_cons_succ]
          clear R
          refine wpAnyF_one (i := 15) (by kernel_rfl) rfl (fun K hK => ?_)
          go_simp
          refine (R3f _ u46 _ g46_14).mono ?_
          rintro e V47 ⟨rfl, h47⟩
          have u47 := below_next u46 h47
          dsimp only
          have R := And.intro (HRf _ u47) u47
          refine hK.out _ _ (fun _ => R) ?_; clear hK K; try simp only [Act.put, List.getElem_toArray, List.getElem_cons_succ, List.getElem_cons_zero, List.setIfInBounds_toArray, List.set_cons_zero, List.set_cons_succ]
          clear R
          have R := And.intro (HRf _ u47) u47
          refine wpAnyF_one (i := 16) (by kernel_rfl) rfl (fun K hK => ?_); go_simp
          refine hK.out _ _ (fun _ => R) ?_; clear hK K; try simp only [Act.put, List.getElem_toArray, List.getElem_cons_succ, List.getElem_cons_zero, List.setIfInBounds_toArray, List.set_cons_zero, List.set_cons_succ]
          refine wpAnyF_one (i := 17) (by kernel_rfl) rfl (fun K hK => ?_); go_simp
          refine hK.out _ _ (fun _ => R) ?_; clear hK K; try simp only [Act.put, List.getElem_toArray, List.getElem_cons_succ, List.getElem_cons_zero, List.setIfInBounds_toArray, List.set_cons_zero, List.set_cons_succ]
          refine wpAnyF_one (i := 18) (by kernel_rfl) rfl (fun K hK => ?_); go_simp
          refine hK.out _ _ (fun _ => R) ?_; clear hK K; try simp only [Act.put, List.getElem_toArray, List.getElem_cons_succ, List.getElem_cons_zero, List.setIfInBounds_toArray, List.set_cons_zero, List.set_cons_succ]
          refine wpAnyF_done (by kernel_rfl) ?_ _
          refine noPanic_normal ?_
          clear R
          go_wp2
          go_meet
          exact ⟨rfl, rfl, rfl, u47⟩
      · go_simp
        have u48 := below_alloc2 u35 (.cells #[.int .u64 5, .int .u64 50, .int .u64 5, .int .u64 51] 38)
        have g48 := lit5051 V35
        have g48_8 := slk_alloc2 g35 (.cells #[.int .u64 5, .int .u64 50, .int .u64 5, .int .u64 51] 38)
        generalize V35.alloc (.cells #[.int .u64 5, .int .u64 50, .int .u64 5, .int .u64 51] 38) = V48 at u48 g48_8 g48 ⊢
        generalize V35.heap.size = b48 at g48 ⊢
        have R := And.intro (HRf _ u48) u48
        refine hK.out _ _ (fun _ => R) ?_; clear hK K; try simp only [Act.put, List.getElem_toArray, List.getElem_cons_succ, List.getElem_cons_zero, List.setIfInBounds_toArray, List.set_cons_zero, List.set_cons_succ]
        clear R
        refine wpAnyF_one (i := 3) (by kernel_rfl) rfl (fun K hK => ?_)
        go_simp
        have u49 := below_alloc2 u48 (.cells #[.int .u64 5, .int .u64 51] 38)
        have g49 := lit51 V48
        have g49_8 := slk_alloc2 g48_8 (.cells #[.int .u64 5, .int .u64 51] 38)
        have g49_14 := slk_alloc2 g48 (.cells #[.int .u64 5, .int .u64 51] 38)
        generalize V48.alloc (.cells #[.int .u64 5, .int .u64 51] 38) = V49 at u49 g49_8 g49_14 g49 ⊢
        generalize V48.heap.size = b49 at g49 ⊢
        have R := And.intro (HRf _ u49) u49
        refine hK.out _ _ (fun _ => R) ?_; clear hK K; try simp only [Act.put, List.getElem_toArray, List.getElem_cons_succ, List.getElem_cons_zero, List.setIfInBounds_toArray, List.set_cons_zero, List.set_cons_succ]
        clear R
        refine wpAnyF_one (i := 4) (by kernel_rfl) rfl (fun K hK => ?_)
        go_simp
        refine (R1f _ u49 _ g49).mono ?_
        rintro e V50 ⟨rfl, h50⟩
        have u50 := below_next u49 h50
        have g50_8 := g49_8.below h50
        have g50_14 := g49_14.below h50
        dsimp only
        have R := And.intro (HRf _ u50) u50
        refine hK.out _ _ (fun _ => R) ?_; clear hK K; try simp only [Act.put, List.getElem_toArray, List.getElem_cons_succ, List.getElem_cons_zero, List.setIfInBounds_toArray, List.set_cons_zero, List.set_cons_succ]
        clear R
        refine wpAnyF_one (i := 9) (by kernel_rfl) rfl (fun K hK => ?_)
        go_simp
        refine (R2f _ u50 _ g50_8).mono ?_
        rintro e V51 ⟨rfl, h51⟩
        have u51 := below_next u50 h51
        have g51_14 := g50_14.below h51
        dsimp only
        have R := And.intro (HRf _ u51) u51
        refine hK.out _ _ (fun _ => R) ?_; clear hK K; try simp only [Act.put, List.getElem_toArray, List.getElem_cons_succ, List.getElem_cons_zero, List.setIfInBounds_toArray, List.set_cons_zero, List.set_cons_succ]
        clear R
        refine wpAnyF_one (i := 15) (by kernel_rfl) rfl (fun K hK => ?_)
        go_simp
        refine (R3f _ u51 _ g51_14).mono ?_
        rintro e V52 ⟨rfl, h52⟩
        have u52 := below_next u51 h52
        dsimp only
        have R := And.intro (HRf _ u52) u52
        refine hK.out _ _ (fun _ => R) ?_; clear hK K; try simp only [Act.put, List.getElem_toArray, List.getElem_cons_succ, List.getElem_cons_zero, List.setIfInBounds_toArray, List.set_cons_zero, List.set_cons_succ]
        clear R
        have R := And.intro (HRf _ u52) u52
        refine wpAnyF_one (i := 16) (by kernel_rfl) rfl (fun K hK => ?_); go_simp
        refine hK.out _ _ (fun _ => R) ?_; clear hK K; try simp only [Act.put, List.getElem_toArray, List.getElem_cons_succ, List.getElem_cons_zero, List.setIfInBounds_toArray, List.set_cons_zero, List.set_cons_succ]
        refine wpAnyF_one (i := 17) (by kernel_rfl) rfl (fun K hK => ?_); go_simp
        refine hK.out _ _ (fun _ => R) ?_; clear hK K; try simp only [Act.put, List.getElem_toArray, List.getElem_cons_succ, List.getElem_cons_zero, List.setIfInBounds_toArray, List.set_cons_zero, List.set_cons_succ]
        refine wpAnyF_one (i := 18) (by kernel_rfl) rfl (fun K hK => ?_); go_simp
        refine hK.out _ _ (fun _ => R) ?_; clear hK K; try simp only [Act.put, List.getElem_toArray, List.getElem_cons_succ, List.getElem_cons_zero, List.setIfInBounds_toArray, List.set_cons_zero, List.set_cons_succ]
        refine wpAnyF_done (by kernel_rfl) ?_ _
        refine noPanic_normal ?_
        clear R
        go_wp2
        go_meet
        exact ⟨rfl, rfl, rfl, u52⟩
    · go_simp
      have u53 := below_alloc2 u0 (.cells #[.int .u64 5, .int .u64 50, .int .u64 5, .int .u64 51] 38)
      have g53 := lit5051 V0
      generalize V0.alloc (.cells #[.int .u64 5, .int .u64 50, .int .u64 5, .int .u64 51] 38) = V53 at u53 g53 ⊢
      generalize V0.heap.size = b53 at g53 ⊢
      have R := And.intro (HRf _ u53) u53
      refine hK.out _ _ (fun _ => R) ?_; clear hK K; try simp only [Act.put, List.getElem_toArray, List.getElem_cons_succ, List.getElem_cons_zero, List.setIfInBounds_toArray, List.set_cons_zero, List.set_cons_succ]
      clear R
      refine wpAnyF_two (i := 3) (j := 8) (by kernel_rfl) rfl rfl (fun K hK => ?_) (fun K hK => ?_)
      · go_simp
        have u54 := below_alloc2 u53 (.cells #[.int .u64 5, .int .u64 51] 38)
        have g54 := lit51 V53
        have g54_14 := slk_alloc2 g53 (.cells #[.int .u64 5, .int .u64 51] 38)
        generalize V53.alloc (.cells #[.int .u64 5, .int .u64 51] 38) = V54 at u54 g54_14 g54 ⊢
        generalize V53.heap.size = b54 at g54 ⊢
        have R := And.intro (HRf _ u54) u54
        refine hK.out _ _ (fun _ => R) ?_; clear hK K; try simp only [Act.put, List.getElem_toArray, List.getElem_cons_succ, List.getElem_cons_zero, List.setIfInBounds_toArray, List.set_cons_zero, List.set_cons_succ]
        clear R
        refine wpAnyF_two (i := 4) (j := 8) (by kernel_rfl) rfl rfl (fun K hK => ?_) (fun K hK => ?_)
        · go_simp
          refine (R1f _ u54 _ g54).mono ?_
          rintro e V55 ⟨rfl, h55⟩
          have u55 := below_next u54 h55
          have g55_14 := g54_14.below h55
          dsimp only
          have R := And.intro (HRf _ u55) u55
          refine hK.out _ _ (fun _ => R) ?_; clear hK K; try simp only [Act.put, List.getElem_toArray, List.getElem_cons_succ, List.getElem_cons_zero, List.setIfInBounds_toArray, List.set_cons_zero, List.set_cons_succ]
          clear R
          refine wpAnyF_one (i := 8) (by kernel_rfl) rfl (fun K hK => ?_)
          go_simp
          have u56 := below_alloc2 u55 (.cells #[.int .u64 5, .int .u64 49] 38)
          have g56 := lit49 V55
          have g56_14 := slk_alloc2 g55_14 (.cells #[.int .u64 5, .int .u64 49] 38)
          generalize V55.alloc (.cells #[.int .u64 5, .int .u64 49] 38) = V56 at u56 g56_14 g56 ⊢
          generalize V55.heap.size = b56 at g56 ⊢
          have R := And.intro (HRf _ u56) u56
          refine hK.out _ _ (fun _ => R) ?_; clear hK K; try simp only [Act.put, List.getElem_toArray, List.getElem_cons_succ, List.getElem_cons_zero, List.setIfInBounds_toArray, List.set_cons_zero, List.set_cons_succ]
          clear R
          refine wpAnyF_one (i := 9) (by kernel_rfl) rfl (fun K hK => ?_)
          go_simp
          refine (R2f _ u56 _ g56).mono ?_
          rintro e V57 ⟨rfl, h57⟩
          have u57 := below_next u56 h57
          have g57_14 := g56_14.below h57
          dsimp only
          have R := And.intro (HRf _ u57) u57
          refine hK.out _ _ (fun _ => R) ?_; clear hK K; try simp only [Act.put, List.getElem_toArray, List.getElem_cons_succ, List.getElem_cons_zero, List.setIfInBounds_toArray, List.set_cons_zero, List.set_cons_succ]
          clear R
          refine wpAnyF_one (i := 15) (by kernel_rfl) rfl (fun K hK => ?_)
          go_simp
          refine (R3f _ u57 _ g57_14).mono ?_
          rintro e V58 ⟨rfl, h58⟩
          have u58 := below_next u57 h58
          dsimp only
          have R := And.intro (HRf _ u58) u58
          refine hK.out _ _ (fun _ => R) ?_; clear hK K; try simp only [Act.put, List.getElem_toArray, List.getElem_cons_succ, List.getElem_cons_zero, List.setIfInBounds_toArray, List.set_cons_zero, List.set_cons_succ]
          clear R
          have R := And.intro (HRf _ u58) u58
          refine wpAnyF_one (i := 16) (by kernel_rfl) rfl (fun K hK => ?_); go_simp
          refine hK.out _ _ (fun _ => R) ?_; clear hK K; try simp only [Act.put, List.getElem_toArray, List.getElem_cons_succ, List.getElem_cons_zero, List.setIfInBounds_toArray, List.set_cons_zero, List.set_cons_succ]
          refine wpAnyF_one (i := 17) (by kernel_rfl) rfl (fun K hK => ?_); go_simp
          refine hK.out _ _ (fun _ => R) ?_; clear hK K; try simp only [Act.put, List.getElem_toArray, List.getElem_cons_succ, List.getElem_cons_zero, List.setIfInBounds_toArray, List.set_cons_zero, List.set_cons_succ]
          refine wpAnyF_one (i := 18) (by kernel_rfl) rfl (fun K hK => ?_); go_simp
          refine hK.out _ _ (fun _ => R) ?_; clear hK K; try simp only [Act.put, List.getElem_toArray, List.getElem_cons_succ, List.getElem_cons_zero, List.setIfInBounds_toArray, List.set_cons_zero, List.set_cons_succ]
          refine wpAnyF_done (by kernel_rfl) ?_ _
          refine noPanic_normal ?_
          clear R
          go_wp2
          go_meet
          exact ⟨rfl, rfl, rfl, u58⟩
        · go_simp
          have u59 := below_alloc2 u54 (.cells #[.int .u64 5, .int .u64 49] 38)
          have g59 := lit49 V54
          have g59_14 := slk_alloc2 g54_14 (.cells #[.int .u64 5, .int .u64 49] 38)
          have g59_3 := slk_alloc2 g54 (.cells #[.int .u64 5, .int .u64 49] 38)
          generalize V54.alloc (.cells #[.int .u64 5, .int .u64 49] 38) = V59 at u59 g59_14 g59_3 g59 ⊢
          generalize V54.heap.size = b59 at g59 ⊢
          have R := And.intro (HRf _ u59) u59
          refine hK.out _ _ (fun _ => R) ?_; clear hK K; try simp only [Act.put, List.getElem_toArray, List.getElem_cons_succ, List.getElem_cons_zero, List.setIfInBounds_toArray, List.set_cons_zero, List.set_cons_succ]
          clear R
          refine wpAnyF_one (i := 4) (by kernel_rfl) rfl (fun K hK => ?_)
          go_simp
          refine (R1f _ u59 _ g59_3).mono ?_
          rintro e V60 ⟨rfl, h60⟩
          have u60 := below_next u59 h60
          have g60_14 := g59_14.below h60
          have g60_8 := g59.below h60
          dsimp only
          have R := And.intro (HRf _ u60) u60
          refine hK.out _ _ (fun _ => R) ?_; clear hK K; try simp only [Act.put, List.getElem_toArray, List.getElem_cons_succ, List.getElem_cons_zero, List.setIfInBounds_toArray, List.set_cons_zero, List.set_cons_succ]
          clear R
          refine wpAnyF_one (i := 9) (by kernel_rfl) rfl (fun K hK => ?_)
          go_simp
          refine (R2f _ u60 _ g60_8).mono ?_
          rintro e V61 ⟨rfl, h61⟩
          have u61 := below_next u60 h61
          have g61_14 := g60_14.below h61
          dsimp only
          have R := And.intro (HRf _ u61) u61
          refine hK.out _ _ (fun _ => R) ?_; clear hK K; try simp only [Act.put, List.getElem_toArray, List.getElem_cons_succ, List.getElem_cons_zero, List.setIfInBounds_toArray, List.set_cons_zero, List.set_cons_succ]
          clear R
          refine wpAnyF_one (i := 15) (by kernel_rfl) rfl (fun K hK => ?_)
          go_simp
          refine (R3f _ u61 _ g61_14).mono ?_
          rintro e V62 ⟨rfl, h62⟩
          have u62 := below_next u61 h62
          dsimp only
          have R := And.intro (HRf _ u62) u62
          refine hK.out _ _ (fun _ => R) ?_; clear hK K; try simp only [Act.put, List.getElem_toArray, List.getElem_cons_succ, List.getElem_cons_zero, List.setIfInBounds_toArray, List.set_cons_zero, List.set_cons_succ]
          clear R
          have R := And.intro (HRf _ u62) u62
          refine wpAnyF_one (i := 16) (by kernel_rfl) rfl (fun K hK => ?_); go_simp
          refine hK.out _ _ (fun _ => R) ?_; clear hK K; try simp only [Act.put, List.getElem_toArray, List.getElem_cons_succ, List.getElem_cons_zero, List.setIfInBounds_toArray, List.set_cons_zero, List.set_cons_succ]
          refine wpAnyF_one (i := 17) (by kernel_rfl) rfl (fun K hK => ?_); go_simp
          refine hK.out _ _ (fun _ => R) ?_; clear hK K; try simp only [Act.put, List.getElem_toArray, List.getElem_cons_succ, List.getElem_cons_zero, List.setIfInBounds_toArray, List.set_cons_zero, List.set_cons_succ]
          refine wpAnyF_one (i := 18) (by kernel_rfl) rfl (fun K hK => ?_); go_simp
          refine hK.out _ _ (fun _ => R) ?_; clear hK K; try simp only [Act.put, List.getElem_toArray, List.getElem_cons_succ, List.getElem_cons_zero, List.setIfInBounds_toArray, List.set_cons_zero, List.set_cons_succ]
          refine wpAnyF_done (by kernel_rfl) ?_ _
          refine noPanic_normal ?_
          clear R
          go_wp2
          go_meet
          exact ⟨rfl, rfl, rfl, u62⟩
      · go_simp
        have u63 := below_alloc2 u53 (.cells #[.int .u64 5, .int .u64 49] 38)
        have g63 := lit49 V53
        have g63_14 := slk_alloc2 g53 (.cells #[.int .u64 5, .int .u64 49] 38)
        generalize V53.alloc (.cells #[.int .u64 5, .int .u64 49] 38) = V63 at u63 g63_14 g63 ⊢
        generalize V53.heap.size = b63 at g63 ⊢
        have R := And.intro (HRf _ u63) u63
        refine hK.out _ _ (fun _ => R) ?_; clear hK K; try simp only [Act.put, List.getElem_toArray, List.getElem_cons_succ, List.getElem_cons_zero, List.setIfInBounds_toArray, List.set_cons_zero, List.set_cons_succ]
        clear R
        refine wpAnyF_one (i := 3) (by kernel_rfl) rfl (fun K hK => ?_)
        go_simp
        have u64 := below_alloc2 u63 (.cells #[.int .u64 5, .int .u64 51] 38)
        have g64 := lit51 V63
        have g64_14 := slk_alloc2 g63_14 (.cells #[.int .u64 5, .int .u64 51] 38)
        have g64_8 := slk_alloc2 g63 (.cells #[.int .u64 5, .int .u64 51] 38)
        generalize V63.alloc (.cells #[.int .u64 5, .int .u64 51] 38) = V64 at u64 g64_14 g64_8 g64 ⊢
        generalize V63.heap.size = b64 at g64 ⊢
        have R := And.intro (HRf _ u64) u64
        refine hK.out _ _ (fun _ => R) ?_; clear hK K; try simp only [Act.put, List.getElem_toArray, List.getElem_cons_succ, List.getElem_cons_zero, List.setIfInBounds_toArray, List.set_cons_zero, List.set_cons_succ]
        clear R
        refine wpAnyF_one (i := 4) (by kernel_rfl) rfl (fun K hK => ?_)
        go_simp
        refine (R1f _ u64 _ g64).mono ?_
        rintro e V65 ⟨rfl, h65⟩
        have u65 := below_next u64 h65
        have g65_14 := g64_14.below h65
        have g65_8 := g64_8.below h65
        dsimp only
        have R := And.intro (HRf _ u65) u65
        refine hK.out _ _ (fun _ => R) ?_; clear hK K; try simp only [Act.put, List.getElem_toArray, List.getElem_cons_succ, List.getElem_cons_zero, List.setIfInBounds_toArray, List.set_cons_zero, List.set_cons_succ]
        clear R
        refine wpAnyF_one (i := 9) (by kernel_rfl) rfl (fun K hK => ?_)
        go_simp
        refine (R2f _ u65 _ g65_8).mono ?_
        rintro e V66 ⟨rfl, h66⟩
        have u66 := below_next u65 h66
        have g66_14 := g65_14.below h66
        dsimp only
        have R := And.intro (HRf _ u66) u66
        refine hK.out _ _ (fun _ => R) ?_; clear hK K; try simp only [Act.put, List.getElem_toArray, List.getElem_cons_succ, List.getElem_cons_zero, List.setIfInBounds_toArray, List.set_cons_zero, List.set_cons_succ]
        clear R
        refine wpAnyF_one (i := 15) (by kernel_rfl) rfl (fun K hK => ?_)
        go_simp
        refine (R3f _ u66 _ g66_14).mono ?_
        rintro e V67 ⟨rfl, h67⟩
        have u67 := below_next u66 h67
        dsimp only
        have R := And.intro (HRf _ u67) u67
        refine hK.out _ _ (fun _ => R) ?_; clear hK K; try simp only [Act.put, List.getElem_toArray, List.getElem_cons_succ, List.getElem_cons_zero, List.setIfInBounds_toArray, List.set_cons_zero, List.set_cons_succ]
        clear R
        have R := And.intro (HRf _ u67) u67
        refine wpAnyF_one (i := 16) (by kernel_rfl) rfl (fun K hK => ?_); go_simp
        refine hK.out _ _ (fun _ => R) ?_; clear hK K; try simp only [Act.put, List.getElem_toArray, List.getElem_cons_succ, List.getElem_cons_zero, List.setIfInBounds_toArray, List.set_cons_zero, List.set_cons_succ]
        refine wpAnyF_one (i := 17) (by kernel_rfl) rfl (fun K hK => ?_); go_simp
        refine hK.out _ _ (fun _ => R) ?_; clear hK K; try simp only [Act.put, List.getElem_toArray, List.getElem_cons_succ, List.getElem_cons_zero, List.setIfInBounds_toArray, List.set_cons_zero, List.set_cons_succ]
        refine wpAnyF_one (i := 18) (by kernel_rfl) rfl (fun K hK => ?_); go_simp
        refine hK.out _ _ (fun _ => R) ?_; clear hK K; try simp only [Act.put, List.getElem_toArray, List.getElem_cons_succ, List.getElem_cons_zero, List.setIfInBounds_toArray, List.set_cons_zero, List.set_cons_succ]
        refine wpAnyF_done (by kernel_rfl) ?_ _
        refine noPanic_normal ?_
        clear R
        go_wp2
        go_meet
        exact ⟨rfl, rfl, rfl, u67⟩
  case rest =>
    obtain ⟨rfl, rfl, rfl, hu⟩ := hcut
    clear HRf R1f R2f R3f h50
    go_upto_region 7 with (go_at_call 23; (refine (R4f'h.out _ (by (repeat (first | with_reducible assumption | with_reducible refine below_drewN2 ?_ _ | with_reducible exact Below.refl _ _ | with_reducible refine below_alloc2 ?_ _ | with_reducible refine Below.drew ?_))) _ (by (repeat (first | with_reducible exact lit51 _ | with_reducible exact lit49 _ | with_reducible exact lit5051 _ | with_reducible refine slk_alloc2 ?_ _ | with_reducible refine slk_drew2 ?_ | with_reducible refine SlK.below ?_ (by with_reducible assumption))))).mono ?_); rintro e w6 ⟨rfl, hb6⟩; have hu6 := below_next (show Below w5.heap.size w5 _ by (repeat (first | with_reducible assumption | with_reducible refine below_drewN2 ?_ _ | with_reducible exact Below.refl _ _ | with_reducible refine below_alloc2 ?_ _ | with_reducible refine Below.drew ?_))) hb6)
    have H6 := H5'h.out.next hu6
    have q3 : w6.cell? ⟨b3, 0, none⟩ = some (.slice s2 2 c2) := blk_cell H6.rows.1 rfl
    have k1 : w6.cell? ⟨b2, 0, none⟩ = some (.int .i64 3) := blk_cell (HRg'h.out _ hu6) rfl
    have k2 : w6.cell? ⟨b2, 1, none⟩ = some (.int .i64 7) := blk_cell (HRg'h.out _ hu6) rfl
    clear hb6 H5'h R4f'h hu
    have H6'h := Lib.hid H6
    clear H6
    go_wp2_with (first | (go_at_call 30; refine (VLf'h.out _ (by (repeat (first | with_reducible assumption | with_reducible refine below_drewN2 ?_ _ | with_reducible exact Below.refl _ _ | with_reducible refine below_alloc2 ?_ _ | with_reducible refine Below.drew ?_)))).mono ?_; rintro e w7 ⟨s7, n7, c7, rfl, hb7, hrow7⟩; obtain rfl := row_len9 hrow7; have hu7 := below_next (show Below w5.heap.size w5 _ by (repeat (first | with_reducible assumption | with_reducible refine below_drewN2 ?_ _ | with_reducible exact Below.refl _ _ | with_reducible refine below_alloc2 ?_ _ | with_reducible refine Below.drew ?_))) hb7; have S7 := (SlK.of_row hrow7 (by decide)).sl) | (go_at_call 33; refine (same64 s7 _ 2 c7 _ [50, 51] _ ((SlK.of_sl S7).below ((Below.refl _ _).alloc (Nat.le_refl _) _)).sl (lit50u _)).mono ?_; rintro e w8 ⟨rfl, d8, rfl⟩; clear hb7 hrow7 S7) | (go_at_call 26; refine (MUf'h.out _ (by (repeat (first | with_reducible assumption | with_reducible refine below_drewN2 ?_ _ | with_reducible exact Below.refl _ _ | with_reducible refine below_alloc2 ?_ _ | with_reducible refine Below.drew ?_)))).mono ?_; rintro e w9 ⟨s9, n9, c9, rfl, hb9, hrow9⟩; obtain rfl := row_len9 hrow9; have hu9 := below_next (show Below w5.heap.size w5 _ by (repeat (first | with_reducible assumption | with_reducible refine below_drewN2 ?_ _ | with_reducible exact Below.refl _ _ | with_reducible refine below_alloc2 ?_ _ | with_reducible refine Below.drew ?_))) hb9; have S9 := (SlK.of_row hrow9 (by decide)).sl) | (go_at_call 33; refine (same64 s9 _ 2 c9 _ [5, 6] _ ((SlK.of_sl S9).below ((Below.refl _ _).alloc (Nat.le_refl _) _)).sl (lit56u _)).mono ?_; rintro e w10 ⟨rfl, d10, rfl⟩; clear hb9 hrow9 S9) | (go_at_call 18; refine (STf'h.out _ (by (repeat (first | with_reducible assumption | with_reducible refine below_drewN2 ?_ _ | with_reducible exact Below.refl _ _ | with_reducible refine below_alloc2 ?_ _ | with_reducible refine Below.drew ?_)))).mono ?_; rintro e w11 ⟨s11, n11, c11, rfl, hb11, hrow11⟩; obtain rfl := row_len9 hrow11; have hu11 := below_next (show Below w5.heap.size w5 _ by (repeat (first | with_reducible assumption | with_reducible refine below_drewN2 ?_ _ | with_reducible exact Below.refl _ _ | with_reducible refine below_alloc2 ?_ _ | with_reducible refine Below.drew ?_))) hb11; have S11 := SlK.of_row hrow11 (by decide)) | (go_at_call 17; refine (equalT_any s11 _ 1 1 c11 _ [(4, 7)] [(4, 7)] _ (S11.below ((Below.refl _ _).alloc (Nat.le_refl _) _)) (lit47 _)).mono ?_; rw [decide_eq_true rfl]; rintro e w12 ⟨rfl, d12, rfl⟩))
    go_ret
    exact ⟨rfl, below_next Bw5'h.out (by (repeat (first | with_reducible assumption | with_reducible refine below_drewN2 ?_ _ | with_reducible exact Below.refl _ _ | with_reducible refine below_alloc2 ?_ _ | with_reducible refine Below.drew ?_)))⟩
end Go.Proofs.Ythfeiiibedmkiaa
