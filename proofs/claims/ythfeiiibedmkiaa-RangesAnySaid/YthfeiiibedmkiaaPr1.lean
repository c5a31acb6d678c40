/-
  Several texts of mine in one: RanF RanG RanH RanI RanJ RanK RanL RanM RanN RanO.
-/
import Derived.Test.YthfeiiibedmkiaaPr0
import Derived.RangeFuncCalls
import Derived.Sort.BigQuietIn
/-
  The map at a step.
-/
set_option linter.unusedSimpArgs false
set_option linter.unusedVariables false
set_option maxRecDepth 100000
namespace Go.Proofs.Ythfeiiibedmkiaa
open Go.RowKit

theorem rmaps_any (sp : Option Addr) (n cap : Nat) (f t : Int) (w : World) :
    Calls Try.prog 46 #[.slice sp n cap, .agg (tmA f t)] w fun e w' => e = .returned (.func (.func 67) #[] #[.pointer (some ⟨w.heap.size, 0, none⟩), .pointer (some ⟨w.heap.size + 1, 0, none⟩)]) ∧
      w' = (w.alloc (.cells #[.slice sp n cap] 22)).alloc (.cells (tmA f t) 43) := by
  go_enter Try.func46, Try.ntmps46
  go_wp2
  go_ret
  exact ⟨rfl, rfl⟩
theorem enters_maps (args : Array Value) (w : World) : (callFunc 67 args).run Try.prog w = .ok (.enter 67 args) w := by
  exact enters_of Try.func67 (by kernel_rfl) rfl args w
theorem MapsY.size {l : List Ch} {k0 : Nat} {vs : Vs} {v : Array Value} {S : Nat → Prop} {W : World} (h : MapsY l k0 (vs ++ [v]) S W) : v.size = 1 := by
  obtain ⟨sp, n, cap, rfl, _⟩ := h vs.length v (by rw [List.getElem?_append_right (Nat.le_refl _), Nat.sub_self]; rfl)
  rfl
theorem MapsY.last {l : List Ch} {k0 : Nat} {vs : Vs} {v : Array Value} {S : Nat → Prop} {W : World} (h : MapsY l k0 (vs ++ [v]) S W) : MapV (mapL l (k0 + vs.length)) v S W := h vs.length v (by rw [List.getElem?_append_right (Nat.le_refl _), Nat.sub_self]; rfl)
/-- Behind ranges.maps: what the iterator reads. -/
theorem mapsR_new {sp : Option Addr} {n cap : Nat} {l : List Ch} {f t : Int} {w w5 : World} (h5 : w5 = (w.alloc (.cells #[.slice sp n cap] 22)).alloc (.cells (tmA f t) 43)) (hS : SlK w 4 sp n (chs l)) :
    MapsR w.heap.size (w.heap.size + 1) sp n cap l f t w5 ∧ Below w.heap.size w w5 := by
  have H := (Hs.nil w).new2 #[.slice sp n cap] (tmA f t) 22 43
  rw [← h5] at H
  exact ⟨⟨H.rows.2.1, H.rows.1, hS.below H.old⟩, H.old⟩
/-- Behind the assignment: the told map's own block. -/
def MapA (tm : Nat → Value → Act) (I : Vs → (Nat → Prop) → World → Prop) (vs : Vs) (v : Array Value) (a₁ : Act) (S : Nat → Prop) (W : World) : Prop :=
  I vs S W ∧ ∃ bx sp n cap, v = #[.agg #[.slice sp n cap]] ∧ a₁ = tm bx (.agg #[.slice sp n cap]) ∧ W.heap[bx]? = some (.cells #[.slice sp n cap] 31 (0, 0)) ∧ ¬ S bx
theorem MapA.stable {tm : Nat → Value → Act} {I : Vs → (Nat → Prop) → World → Prop} (hI : ∀ vs, Stable (I vs)) (vs : Vs) (v : Array Value) (a₁ : Act) : Stable (MapA tm I vs v a₁) := by
  rintro S S' W W' ⟨h, bx, sp, n, cap, h1, h2, h3, h4⟩ hf
  exact ⟨hI _ _ _ _ _ h hf, bx, sp, n, cap, h1, h2, hf.heap' h4 h3, hf.not (lt_of_heap h3) h4⟩
theorem fail_zero {l : List Ch} {f t : Int} (h : failE l f t = 0) : rightL l = true ∧ f ≤ t := by
  unfold failE at h
  split at h
  · rename_i hr
    split at h
    · rename_i hsp
      unfold spanB at hsp
      simp at hsp
      exact ⟨hr, hsp.2⟩
    · cases h
  · cases h
def noXm (c : Code) (vs : Vs) (S : Nat → Prop) (W : World) : Prop := False
theorem noXm_stable (c : Code) (vs : Vs) : Stable (noXm c vs) := fun _ _ _ _ h _ => h.elim
/-- The blocks that are the function's own, ahead of the loop. -/
theorem HsS.first {w0 w3 w5 : World} {L : List Blk3} {sp : Option Addr} {n : Nat} (H : Hs w0 L w3) (hb : Below w3.heap.size w3 w5) (hs : ∀ a, sp = some a → a.block < w0.heap.size) : HsS w0 (mapsRO w3.heap.size (w3.heap.size + 1) sp n) w5.heap.size L (fun _ => False) w5 :=
  ⟨H.next hb, Nat.le_refl _, fun _ _ h => h, fun x hx h => by
    have h1 := H.lt x hx
    have h2 := H.low x hx
    rcases h with h | h | ⟨_, h⟩
    · omega
    · omega
    · obtain ⟨a, ha, hab⟩ := Option.map_eq_some_iff.1 h
      have := hs a ha; omega, fun _ h => h.elim⟩
end Go.Proofs.Ythfeiiibedmkiaa

/-
  The map at a step.
-/
set_option linter.unusedSimpArgs false
set_option linter.unusedVariables false
set_option maxRecDepth 100000
namespace Go.Proofs.Ythfeiiibedmkiaa
open Go.RowKit

def MapEnd (l : List Ch) (s : Int) (w : World) (e : Ending) (w' : World) : Prop :=
  Below w.heap.size w w' ∧ ∃ sp n cap, e = .returned (.tuple #[.agg #[.slice sp n cap], .int .i64 0]) ∧ SlK w' 2 sp n (prs (mapL l (cntL l s))) ∧ (sp = none → cap = 0) ∧ n ≤ cap
theorem rMap_no (sp : Option Addr) (n cap : Nat) (l : List Ch) (s : Int) (w : World) (h : SlK w 4 sp n (chs l)) (hs : ∀ a, sp = some a → a.block < w.heap.size) (hn : n ≤ 4000) (hf : failE l s s ≠ 0) :
    Calls Try.prog 13 #[.slice sp n cap, .int .i64 s] w fun e w' => e = .returned (.tuple #[.agg #[.slice none 0 0], .int .i64 (failE l s s)]) ∧ Below w.heap.size w w' := by
  have H0 := (Hs.nil w).new #[.slice none 0 0] 31
  obtain ⟨W0, hW0⟩ : ∃ W0, W0 = w.alloc (.cells #[.slice none 0 0] 31) := ⟨_, rfl⟩
  rw [← hW0] at H0
  have F := rfails_any sp n cap l s s W0 (h.below H0.old) (fun a ha => by have := hs a ha; have := H0.old.size; omega) hn
  have hz : ((failE l s s : Int) != 0) = true := by simp; omega
  unfold tmA at F
  generalize failE l s s = z at *
  have H0'h := Lib.hid H0
  have F'h := Lib.hid F
  have h'h := Lib.hid h
  have hs'h := Lib.hid hs
  clear H0 F h hs
  refine (callsIn_wide (n := 0)).1 ?_
  refine callsIn_of_wp_marks Try.func13 rfl trivial ?_
  simp only [Try.ntmps13, List.size_toArray, List.length_cons, List.length_nil, Nat.reduceAdd, Nat.reduceSub, Array.replicate_succ, Array.replicate_zero, List.push_toArray, List.append_toArray, List.nil_append, List.cons_append]
  refine wpIn_wide.2 ?_
  go_upto_region 1 with fail
  rw [← hW0]
  clear hW0
  go_upto_region 3 with (first | (go_at_call 45; refine F'h.out.mono ?_; rintro e w2 ⟨rfl, hb2⟩))
  have H2 := H0'h.out.next hb2
  have q0 : w2.cell? ⟨w.heap.size, 0, none⟩ = some (.slice none 0 0) := blk_cell H2.rows.1 rfl
  have q0f := blk_free 0 H2.rows.1
  have H3 := H2.put 0 rfl 0 (.slice none 0 0)
  have H2'h := Lib.hid H2
  have H3'h := Lib.hid H3
  clear H2 H3
  go_wp2
  have e1 := blk_cell (i := 0) (v := .slice none 0 0) H3'h.out.rows.1 rfl
  generalize World.setCell _ _ _ = W3 at H3'h e1 ⊢
  refine post_plain (v := .tuple #[.agg #[.slice none 0 0], .int .i64 z]) (.inl rfl) ?_ ⟨rfl, H3'h.out.old⟩
  simp [results, Try.results13, go_sem, e1]
/-- What the loop holds: the told map lies in out. -/
def MpI (w : World) (RO : Nat → Prop) (B b4 b7 : Nat) (vs : Vs) (S : Nat → Prop) (W : World) : Prop :=
  ∃ x : Value, HsS w RO B [(b7, #[x], 31), (b4, #[.slice none 0 0], 31)] S W ∧ (∀ v, vs.getLast? = some v → v = #[.agg #[x]])
theorem MpI.stable (w : World) (RO : Nat → Prop) (B b4 b7 : Nat) (vs : Vs) : Stable (MpI w RO B b4 b7 vs) := by
  rintro S S' W W' ⟨x, h, hv⟩ hf
  exact ⟨x, HsS.stable _ _ _ _ _ _ _ _ h hf, hv⟩
set_option maxHeartbeats 4000000 in
theorem rMap_yes (sp : Option Addr) (n cap : Nat) (l : List Ch) (s : Int) (w : World) (h : SlK w 4 sp n (chs l)) (hs : ∀ a, sp = some a → a.block < w.heap.size) (hn : n ≤ 4000) (hnl : sp = none → cap = 0) (hle : n ≤ cap) (hf : failE l s s = 0) :
    Calls Try.prog 13 #[.slice sp n cap, .int .i64 s] w (MapEnd l s w) := by
  have hr : rightL l = true := by
    cases hr : rightL l with
    | true => rfl
    | false => unfold failE at hf; rw [hr] at hf; cases hf
  have H0 := (Hs.nil w).new #[.slice none 0 0] 31
  obtain ⟨W0, hW0⟩ : ∃ W0, W0 = w.alloc (.cells #[.slice none 0 0] 31) := ⟨_, rfl⟩
  rw [← hW0] at H0
  have F := rfails_any sp n cap l s s W0 (h.below H0.old) (fun a ha => by have := hs a ha; have := H0.old.size; omega) hn
  unfold tmA at F
  rw [hf] at F
  have H0'h := Lib.hid H0
  have F'h := Lib.hid F
  have h'h := Lib.hid h
  have hs'h := Lib.hid hs
  have hr'h := Lib.hid hr
  have hnl'h := Lib.hid hnl
  clear H0 F h hs hr hnl
  refine (callsIn_wide (n := 0)).1 ?_
  refine callsIn_of_wp_marks Try.func13 rfl trivial ?_
  simp only [Try.ntmps13, List.size_toArray, List.length_cons, List.length_nil, Nat.reduceAdd, Nat.reduceSub, Array.replicate_succ, Array.replicate_zero, List.push_toArray, List.append_toArray, List.nil_append, List.cons_append]
  refine wpIn_wide.2 ?_
  go_upto_region 1 with fail
  rw [← hW0]
  clear hW0
  go_upto_region 4 with (first | (go_at_call 45; refine F'h.out.mono ?_; rintro e w2 ⟨rfl, hb2⟩))
  have H3 := (H0'h.out.next hb2).new #[.slice none 0 0] 31
  obtain ⟨W3, hW3⟩ : ∃ W3, W3 = w2.alloc (.cells #[.slice none 0 0] 31) := ⟨_, rfl⟩
  obtain ⟨b7, hb7⟩ : ∃ b7, b7 = w2.heap.size := ⟨_, rfl⟩
  rw [← hW3, ← hb7] at H3
  have H3'h := Lib.hid H3
  clear H3
  go_upto_region 5 with fail
  rw [← hW3, ← hb7]
  clear hW3 hb7 hb2
  have M := rmaps_any sp n cap s s W3
  unfold tmA at M
  obtain ⟨W5, hW5⟩ : ∃ W5, W5 = (W3.alloc (.cells #[.slice sp n cap] 22)).alloc (.cells #[.int .i64 s, .int .i64 s] 43) := ⟨_, rfl⟩
  rw [← hW5] at M
  have M'h := Lib.hid M
  have hW5'h := Lib.hid hW5
  clear M hW5
  go_wp2_with (first | (go_at_call 46; refine M'h.out.mono ?_; rintro e w5 ⟨rfl, rfl⟩))
  obtain ⟨hR5, hb5⟩ := mapsR_new (l := l) (f := s) (t := s) hW5'h.out (h'h.out.below H3'h.out.old)
  have it := maps_it W3.heap.size (W3.heap.size + 1) sp n cap l s s w5 hR5 hr'h.out (Int.le_refl _) hn hnl'h.out hle
  have hS5 := HsS.first (n := n) H3'h.out hb5 hs'h.out
  have hRl := hR5.lt
  generalize mapsRO W3.heap.size (W3.heap.size + 1) sp n = RO at it hS5 hRl
  have hI0 : MpI w RO w5.heap.size w.heap.size b7 [] (fun _ => False) w5 := ⟨_, hS5, fun v hv => by simp at hv⟩
  have it'h := Lib.hid it
  have hS5'h := Lib.hid hS5
  have hRl'h := Lib.hid hRl
  have hI0'h := Lib.hid hI0
  have hR5'h := Lib.hid hR5
  have hb5'h := Lib.hid hb5
  clear it hS5 hRl hI0 hR5 hb5
  refine (wpIn_wide (n := 0)).1 ?_
  refine' wpIn_rangeH rfl (fun h => by cases h) rfl trivial enters_maps it'h.out (MapsY.keeps _ _ _) (fun b h => h.elim) (fun vs v S W hy => hy.size) (fun b hb => ⟨hRl'h.out b hb, fun h => h⟩)
    (MpI w RO w5.heap.size w.heap.size b7) noXm (MpI.stable _ _ _ _ _) noXm_stable hI0'h.out
    (MapA (fun bx v => { tmps := #[.slice sp n cap, .int .i64 s, undef, undef, .pointer (some ⟨w.heap.size, 0, none⟩), .int .i64 0, .int .i64 0, .pointer (some ⟨b7, 0, none⟩), .pointer (some ⟨bx, 0, none⟩), .slice sp n cap, .int .i64 s, .int .i64 s, .agg #[.int .i64 s, .int .i64 s], .int .i64 0, .int .i64 0, .bool false, undef, undef, .slice sp n cap, .int .i64 s, .int .i64 s, .agg #[.int .i64 s, .int .i64 s], .func (.func 67) #[] #[.pointer (some ⟨W3.heap.size, 0, none⟩), .pointer (some ⟨W3.heap.size + 1, 0, none⟩)], v, undef, undef], defers := [] }) (MpI w RO w5.heap.size w.heap.size b7)) (MapA.stable (MpI.stable _ _ _ _ _)) ?assign ?body ?done (by intro _ _ _ _ _ _ _ _ _ _ _ _ h; exact h.elim)
  case assign =>
    intro ly vs v S S1 W hk hl hs1 hro hSb hY hI
    obtain ⟨sp', n', cap', rfl, hS', hc', hle', hbS⟩ := hY.last
    have hbw : Below W.heap.size W (W.alloc (.cells #[.slice sp' n' cap'] 31)) := (Below.refl _ _).alloc (Nat.le_refl _) _
    have hns : ¬ S W.heap.size := fun h => by have := hSb _ h; omega
    have hY'h := Lib.hid hY
    have hI'h := Lib.hid hI
    have hro'h := Lib.hid hro
    have hSb'h := Lib.hid hSb
    have hS''h := Lib.hid hS'
    have hbS'h := Lib.hid hbS
    have hbw'h := Lib.hid hbw
    have hns'h := Lib.hid hns
    have hc''h := Lib.hid hc'
    clear hY hI hro hSb hS' hbS hbw hns hc'
    gi_wp2
    exact ⟨⟨MpI.stable _ _ _ _ _ _ _ _ _ _ hI'h.out (Foreign.of_below hbw'h.out), W.heap.size, sp', n', cap', rfl, rfl, World.alloc_heap_new _ _, hns'h.out⟩, Kept.of_below hbw'h.out⟩
  case body =>
    rintro ly vs v S S1 a₁ W r hk hl hs1 hlr hro hSb hY ⟨hI, bx, sp', n', cap', rfl, rfl, hbx, hbs⟩
    obtain ⟨sp2, n2, cap2, he2, hSl, hcc, hlen, hbS⟩ := hY.last
    simp only [Array.mk.injEq, List.cons.injEq, Value.agg.injEq, Value.slice.injEq, and_true] at he2
    obtain ⟨rfl, rfl, rfl⟩ := he2
    have q0 : W.cell? ⟨bx, 0, none⟩ = some (.slice sp' n' cap') := blk_cell hbx rfl
    clear hlr hs1 hl
    have hY'h := Lib.hid hY
    have hbx'h := Lib.hid hbx
    have hro'h := Lib.hid hro
    have hbS'h := Lib.hid hbS
    have hcc'h := Lib.hid hcc
    clear hY hbx hro hbS hcc
    obtain ⟨x, hH, hx⟩ := hI
    have q1 : W.cell? ⟨b7, 0, none⟩ = some x := blk_cell hH.hs.rows.1 rfl
    have q1f := blk_free 0 hH.hs.rows.1
    have K1 := (hH.start hSb hRl'h.out).put 0 rfl 0 (.slice sp' n' cap')
    have hH'h := Lib.hid hH
    have K1'h := Lib.hid K1
    clear hH K1
    gi_wp2
    exact ⟨K1'h.out.kept, _, K1'h.out.back hH'h.out, fun v hv => by simp at hv; exact hv.symm⟩
  case done =>
    rintro D S S1 vs W hD hSD hro hs1 hS1D hvs hY hI hK
    rw [Nat.sub_self, Nat.zero_add] at hvs
    obtain ⟨v, rfl⟩ := List.length_eq_one_iff.1 hvs
    obtain ⟨sp', n', cap', hve, hSl, hcc, hlen, hbS⟩ := hY 0 v rfl
    obtain ⟨x, hH, hx⟩ := hI
    have hx1 := hx v rfl
    rw [hve] at hx1
    have hxe : x = .slice sp' n' cap' := by simpa using hx1.symm
    subst hxe
    rw [Nat.add_zero] at hSl
    have q1 : W.cell? ⟨b7, 0, none⟩ = some (.slice sp' n' cap') := blk_cell hH.hs.rows.1 rfl
    have q4 : W.cell? ⟨w.heap.size, 0, none⟩ = some (.slice none 0 0) := blk_cell hH.hs.rows.2.1 rfl
    have q4f := blk_free 0 hH.hs.rows.2.1
    have H8 := hH.hs.put 1 rfl 0 (.slice sp' n' cap')
    have hDlt := hH.hs.lt
    have hDw : w.heap.size ≠ D := fun e => by have := H3'h.out.lt _ (List.mem_cons_of_mem _ (List.mem_cons_self ..)); have := hb5'h.out.size; simp only at *; omega
    have hSD2 : ∀ b, sp'.map (·.block) = some b → b ≠ D := fun b hb e => hS1D (e ▸ hbS b hb)
    have hSw : ∀ b, sp'.map (·.block) = some b → b ≠ w.heap.size := fun b hb e => by
      have h1 := hs1 b (hbS b hb)
      have h2 := hH.mine _ (List.mem_cons_of_mem _ (List.mem_cons_self ..))
      rw [e] at h1; exact h2 h1
    have hK8 : (W.setCell ⟨w.heap.size, 0, none⟩ (.slice sp' n' cap')).heap[D]? = some (.deferred (some [])) := (Below.heap_setCell W ⟨w.heap.size, 0, none⟩ _ D (show D ≠ w.heap.size from Ne.symm hDw)).trans hK
    have hSl8 : SlK (W.setCell ⟨w.heap.size, 0, none⟩ (.slice sp' n' cap')) 2 sp' n' (prs (mapL l (cntL l s))) := hSl.keep fun b o _ hb ho => (Below.heap_setCell W ⟨w.heap.size, 0, none⟩ _ b (hSw b hb)).trans ho
    clear hx hx1 hve
    have hY'h := Lib.hid hY
    have hH'h := Lib.hid hH
    have hK'h := Lib.hid hK
    have hSl'h := Lib.hid hSl
    have hbS'h := Lib.hid hbS
    have H8'h := Lib.hid H8
    have hK8'h := Lib.hid hK8
    have hSl8'h := Lib.hid hSl8
    have hSD2'h := Lib.hid hSD2
    have hcc'h := Lib.hid hcc
    have hSw'h := Lib.hid hSw
    clear hY hH hK hSl hbS H8 hK8 hSl8 hSD2 hcc hSw
    go_wp2
    generalize World.setCell _ _ _ = W8 at H8'h hK8'h hSl8'h ⊢
    have e4 : (W8.putObj D (.deferred none)).cell? ⟨w.heap.size, 0, none⟩ = some (.slice sp' n' cap') := blk_cell (i := 0) ((World.putObj_heap_other hDw).trans H8'h.out.rows.2.1) rfl
    refine post_mark (W := W8) (v := .tuple #[.agg #[.slice sp' n' cap'], .int .i64 0]) (.inl rfl) hK8'h.out ?_ ⟨below_putObj H8'h.out.old (D := D) (by have := hb5'h.out.size; have := H3'h.out.old.size; omega) (.deferred none), sp', n', cap', rfl, hSl8'h.out.keep fun b o _ hb ho => (World.putObj_heap_other (hSD2'h.out b hb)).trans ho, hcc'h.out, hlen⟩
    simp [results, Try.results13, go_sem, e4]
end Go.Proofs.Ythfeiiibedmkiaa

/-
  Is a key there all the time, and at some time.
-/
set_option linter.unusedSimpArgs false
set_option linter.unusedVariables false
set_option maxRecDepth 100000
namespace Go.Proofs.Ythfeiiibedmkiaa
open Go.RowKit

/-- How many maps are told in a time. -/
def numT (l : List Ch) (f t : Int) : Nat := cntL l t - cntL l f + 1
def allK (l : List Ch) (k0 key k : Nat) : Bool := (List.range k).all fun j => hasP (mapL l (k0 + j)) key
def anyK (l : List Ch) (k0 key k : Nat) : Bool := (List.range k).any fun j => hasP (mapL l (k0 + j)) key
theorem allK_succ (l : List Ch) (k0 key k : Nat) : allK l k0 key (k + 1) = (allK l k0 key k && hasP (mapL l (k0 + k)) key) := by unfold allK; rw [List.range_succ, List.all_append]; simp
theorem anyK_succ (l : List Ch) (k0 key k : Nat) : anyK l k0 key (k + 1) = (anyK l k0 key k || hasP (mapL l (k0 + k)) key) := by unfold anyK; rw [List.range_succ, List.any_append]; simp
def HeldI (w : World) (RO : Nat → Prop) (B b8 b9 : Nat) (l : List Ch) (k0 key : Nat) (f t : Int) (vs : Vs) (S : Nat → Prop) (W : World) : Prop :=
  HsS w RO B [(b9, #[.bool (anyK l k0 key vs.length)], 4), (b8, #[.bool (allK l k0 key vs.length)], 4), (w.heap.size + 1, tmA f t, 43), (w.heap.size, #[.int .u64 (key : Int)], 36)] S W
theorem HeldI.stable (w : World) (RO : Nat → Prop) (B b8 b9 : Nat) (l : List Ch) (k0 key : Nat) (f t : Int) (vs : Vs) : Stable (HeldI w RO B b8 b9 l k0 key f t vs) := HsS.stable _ _ _ _
theorem rHeld_no (sp : Option Addr) (n cap : Nat) (l : List Ch) (key : Nat) (f t : Int) (w : World) (h : SlK w 4 sp n (chs l)) (hs : ∀ a, sp = some a → a.block < w.heap.size) (hn : n ≤ 4000) (hf : failE l f t ≠ 0) :
    Calls Try.prog 29 #[.slice sp n cap, .int .u64 key, .agg (tmA f t)] w fun e w' => e = .returned (.tuple #[.bool false, .bool false]) ∧ Below w.heap.size w w' := by
  have H0 := (Hs.nil w).new2 #[.int .u64 (key : Int)] (tmA f t) 36 43
  obtain ⟨W0, hW0⟩ : ∃ W0, W0 = (w.alloc (.cells #[.int .u64 (key : Int)] 36)).alloc (.cells (tmA f t) 43) := ⟨_, rfl⟩
  rw [← hW0] at H0
  have F := rfails_any sp n cap l f t W0 (h.below H0.old) (fun a ha => by have := hs a ha; have := H0.old.size; omega) hn
  have hz : ((failE l f t : Int) != 0) = true := by simp; omega
  generalize failE l f t = z at *
  have H0'h := Lib.hid H0
  have F'h := Lib.hid F
  have h'h := Lib.hid h
  have hs'h := Lib.hid hs
  clear H0 F h hs
  refine (callsIn_wide (n := 0)).1 ?_
  refine callsIn_of_wp_marks Try.func29 rfl trivial ?_
  simp only [Try.ntmps29, List.size_toArray, List.length_cons, List.length_nil, Nat.reduceAdd, Nat.reduceSub, Array.replicate_succ, Array.replicate_zero, List.push_toArray, List.append_toArray, List.nil_append, List.cons_append]
  refine wpIn_wide.2 ?_
  go_upto_region 1 with fail
  rw [← hW0]
  clear hW0
  go_wp2_with (first | guard_target = wpList _ _ _ (Oper.mk _ (.load _ (.tmp 5)) _ _ _ _ :: _) _ _; refine wpList_load_row rfl 43 (.tmp 5) rfl (w.heap.size + 1) rfl 43 (tmA f t) (0, 0) _ H0'h.out.rows.1 Try.underlying43 rfl info_tm ?_ | (go_at_call 45; refine F'h.out.mono ?_; rintro e w2 ⟨rfl, hb2⟩))
  exact post_plain (.inl rfl) (results_tmp2 rfl _ _ _) ⟨rfl, (H0'h.out.next hb2).old⟩
set_option maxHeartbeats 4000000 in
theorem rHeld_yes (sp : Option Addr) (n cap : Nat) (l : List Ch) (key : Nat) (f t : Int) (w : World) (h : SlK w 4 sp n (chs l)) (hs : ∀ a, sp = some a → a.block < w.heap.size) (hn : n ≤ 4000) (hnl : sp = none → cap = 0) (hle : n ≤ cap) (hf : failE l f t = 0) :
    Calls Try.prog 29 #[.slice sp n cap, .int .u64 key, .agg (tmA f t)] w fun e w' => e = .returned (.tuple #[.bool (allK l (cntL l f) key (numT l f t)), .bool (anyK l (cntL l f) key (numT l f t))]) ∧ Below w.heap.size w w' := by
  obtain ⟨hr, hft⟩ := fail_zero hf
  have H0 := (Hs.nil w).new2 #[.int .u64 (key : Int)] (tmA f t) 36 43
  obtain ⟨W0, hW0⟩ : ∃ W0, W0 = (w.alloc (.cells #[.int .u64 (key : Int)] 36)).alloc (.cells (tmA f t) 43) := ⟨_, rfl⟩
  rw [← hW0] at H0
  have F := rfails_any sp n cap l f t W0 (h.below H0.old) (fun a ha => by have := hs a ha; have := H0.old.size; omega) hn
  rw [hf] at F
  have hlen := chs_len h
  have H0'h := Lib.hid H0
  have F'h := Lib.hid F
  have h'h := Lib.hid h
  have hs'h := Lib.hid hs
  have hr'h := Lib.hid hr
  have hft'h := Lib.hid hft
  have hnl'h := Lib.hid hnl
  have hlen'h := Lib.hid hlen
  clear H0 F h hs hr hft hnl hlen
  refine (callsIn_wide (n := 0)).1 ?_
  refine callsIn_of_wp_marks Try.func29 rfl trivial ?_
  simp only [Try.ntmps29, List.size_toArray, List.length_cons, List.length_nil, Nat.reduceAdd, Nat.reduceSub, Array.replicate_succ, Array.replicate_zero, List.push_toArray, List.append_toArray, List.nil_append, List.cons_append]
  refine wpIn_wide.2 ?_
  go_upto_region 1 with fail
  rw [← hW0]
  clear hW0
  go_upto_region 3 with (first | guard_target = wpList _ _ _ (Oper.mk _ (.load _ (.tmp 5)) _ _ _ _ :: _) _ _; refine wpList_load_row rfl 43 (.tmp 5) rfl (w.heap.size + 1) rfl 43 (tmA f t) (0, 0) _ H0'h.out.rows.1 Try.underlying43 rfl info_tm ?_ | (go_at_call 45; refine F'h.out.mono ?_; rintro e w2 ⟨rfl, hb2⟩))
  have H3 := (H0'h.out.next hb2).new2 #[.bool true] #[.bool false] 4 4
  obtain ⟨W3, hW3⟩ : ∃ W3, W3 = (w2.alloc (.cells #[.bool true] 4)).alloc (.cells #[.bool false] 4) := ⟨_, rfl⟩
  rw [← hW3] at H3
  have H3'h := Lib.hid H3
  clear H3
  go_upto_region 4 with fail
  rw [← hW3]
  clear hW3 hb2
  generalize w2.heap.size = b8 at *
  have M := rmaps_any sp n cap f t W3
  obtain ⟨W5, hW5⟩ : ∃ W5, W5 = (W3.alloc (.cells #[.slice sp n cap] 22)).alloc (.cells (tmA f t) 43) := ⟨_, rfl⟩
  rw [← hW5] at M
  have M'h := Lib.hid M
  have hW5'h := Lib.hid hW5
  clear M hW5
  go_wp2_with (first | guard_target = wpList _ _ _ (Oper.mk _ (.load _ (.tmp 5)) _ _ _ _ :: _) _ _; refine wpList_load_row rfl 43 (.tmp 5) rfl (w.heap.size + 1) rfl 43 (tmA f t) (0, 0) _ H3'h.out.rows.2.2.1 Try.underlying43 rfl info_tm ?_ | (go_at_call 46; refine M'h.out.mono ?_; rintro e w5 ⟨rfl, rfl⟩))
  obtain ⟨hR5, hb5⟩ := mapsR_new (l := l) (f := f) (t := t) hW5'h.out (h'h.out.below H3'h.out.old)
  have it := maps_it W3.heap.size (W3.heap.size + 1) sp n cap l f t w5 hR5 hr'h.out hft'h.out hn hnl'h.out hle
  have hS5 := HsS.first (n := n) H3'h.out hb5 hs'h.out
  have hRl := hR5.lt
  generalize mapsRO W3.heap.size (W3.heap.size + 1) sp n = RO at it hS5 hRl
  have hI0 : HeldI w RO w5.heap.size b8 (b8 + 1) l (cntL l f) key f t [] (fun _ => False) w5 := hS5
  have it'h := Lib.hid it
  have hS5'h := Lib.hid hS5
  have hRl'h := Lib.hid hRl
  have hI0'h := Lib.hid hI0
  have hR5'h := Lib.hid hR5
  have hb5'h := Lib.hid hb5
  clear it hS5 hRl hI0 hR5 hb5
  refine (wpIn_wide (n := 0)).1 ?_
  refine' wpIn_rangeH rfl (fun h => by cases h) rfl trivial enters_maps it'h.out (MapsY.keeps _ _ _) (fun b h => h.elim) (fun vs v S W hy => hy.size) (fun b hb => ⟨hRl'h.out b hb, fun h => h⟩)
    (HeldI w RO w5.heap.size b8 (b8 + 1) l (cntL l f) key f t) noXm (HeldI.stable _ _ _ _ _ _ _ _ _ _) noXm_stable hI0'h.out
    (MapA (fun bx v => { tmps := #[.slice sp n cap, .int .u64 (key : Int), .agg (tmA f t), undef, .pointer (some ⟨w.heap.size, 0, none⟩), .pointer (some ⟨w.heap.size + 1, 0, none⟩), .bool false, .bool false, .pointer (some ⟨b8, 0, none⟩), .pointer (some ⟨b8 + 1, 0, none⟩), .pointer (some ⟨bx, 0, none⟩), undef, undef, .slice sp n cap, .agg (tmA f t), .int .i64 0, .bool false, .slice sp n cap, .agg (tmA f t), .func (.func 67) #[] #[.pointer (some ⟨W3.heap.size, 0, none⟩), .pointer (some ⟨W3.heap.size + 1, 0, none⟩)], v, undef, undef, undef, undef, undef, undef, undef, undef, undef, undef, undef, undef, undef, undef, undef, undef], defers := [] }) (HeldI w RO w5.heap.size b8 (b8 + 1) l (cntL l f) key f t)) (MapA.stable (HeldI.stable _ _ _ _ _ _ _ _ _ _)) ?assign ?body ?done (by intro _ _ _ _ _ _ _ _ _ _ _ _ h; exact h.elim)
  case assign =>
    intro ly vs v S S1 W hk hl hs1 hro hSb hY hI
    obtain ⟨sp', n', cap', rfl, hS', hc', hle', hbS⟩ := hY.last
    have hbw : Below W.heap.size W (W.alloc (.cells #[.slice sp' n' cap'] 31)) := (Below.refl _ _).alloc (Nat.le_refl _) _
    have hns : ¬ S W.heap.size := fun h => by have := hSb _ h; omega
    have hY'h := Lib.hid hY
    have hI'h := Lib.hid hI
    have hro'h := Lib.hid hro
    have hSb'h := Lib.hid hSb
    have hS''h := Lib.hid hS'
    have hbS'h := Lib.hid hbS
    have hbw'h := Lib.hid hbw
    have hns'h := Lib.hid hns
    have hc''h := Lib.hid hc'
    clear hY hI hro hSb hS' hbS hbw hns hc'
    gi_wp2
    exact ⟨⟨HeldI.stable _ _ _ _ _ _ _ _ _ _ _ _ _ _ _ hI'h.out (Foreign.of_below hbw'h.out), W.heap.size, sp', n', cap', rfl, rfl, World.alloc_heap_new _ _, hns'h.out⟩, Kept.of_below hbw'h.out⟩
  case body =>
    rintro ly vs v S S1 a₁ W r hk hl hs1 hlr hro hSb hY ⟨hI, bx, sp', n', cap', rfl, rfl, hbx, hbs⟩
    obtain ⟨sp2, n2, cap2, he2, hSl, hcc, hlen, hbS⟩ := hY.last
    simp only [Array.mk.injEq, List.cons.injEq, Value.agg.injEq, Value.slice.injEq, and_true] at he2
    obtain ⟨rfl, rfl, rfl⟩ := he2
    have q0 : W.cell? ⟨bx, 0, none⟩ = some (.slice sp' n' cap') := blk_cell hbx rfl
    clear hlr hs1 hl
    have hY'h := Lib.hid hY
    have hbx'h := Lib.hid hbx
    have hro'h := Lib.hid hro
    have hbS'h := Lib.hid hbS
    have hcc'h := Lib.hid hcc
    clear hY hbx hro hbS hcc
    have hcl := cntL_le l t
    have hkN : cntL l f + vs.length ≤ n := by have := hlen'h.out; have := cntL_le l f; omega
    have hn2 : n' ≤ 4096 := by have h1 := prs_len hSl; have h2 := len_mapL l (cntL l f + vs.length); omega
    have G := fun W' h => mGet_yes sp' n' cap' (mapL l (cntL l f + vs.length)) key W' h (up_mapL l _) hn2
    have ha := allK_succ l (cntL l f) key vs.length
    have hy := anyK_succ l (cntL l f) key vs.length
    have q4 : W.cell? ⟨w.heap.size, 0, none⟩ = some (.int .u64 (key : Int)) := blk_cell hI.hs.rows.2.2.2.1 rfl
    have K0 := hI.start hSb hRl'h.out
    unfold HeldI at hI
    generalize (getS (mapL l (cntL l f + vs.length)) key).getD 0 = gv at G
    generalize hasP (mapL l (cntL l f + vs.length)) key = gh at G ha hy
    generalize allK l (cntL l f) key vs.length = ba at hI K0 ha
    generalize anyK l (cntL l f) key vs.length = by' at hI K0 hy
    clear hcl hkN hn2 hk hSb
    have hI'h := Lib.hid hI
    have K0'h := Lib.hid K0
    have G'h := Lib.hid G
    have ha'h := Lib.hid ha
    have hy'h := Lib.hid hy
    have hSl'h := Lib.hid hSl
    clear hI K0 G ha hy hSl
    gi_upto_region 7 with (first | (gi_at_call 28; refine (CallsIn.inRound _ (callsIn_wide.2 (G'h.out _ hSl'h.out))).mono ?_; rintro e w6 ⟨rfl, hb6⟩))
    have K1 := K0'h.out.next hb6
    have p8 : w6.cell? ⟨b8, 0, none⟩ = some (.bool ba) := blk_cell K1.hs.rows.2.1 rfl
    have p8f := blk_free 0 K1.hs.rows.2.1
    have p9 : w6.cell? ⟨b8 + 1, 0, none⟩ = some (.bool by') := blk_cell K1.hs.rows.1 rfl
    have p9f := blk_free 0 K1.hs.rows.1
    have p9g : ∀ v, (w6.setCell ⟨b8, 0, none⟩ v).cell? ⟨b8 + 1, 0, none⟩ = some (.bool by') := fun v => (World.cell?_of_block (Below.heap_setCell _ _ _ _ (by simp only; omega))).trans p9
    have p9h : ∀ v, (w6.setCell ⟨b8, 0, none⟩ v).frozen? ⟨b8 + 1, 0, none⟩ = false := fun v => (World.frozen?_of_block (Below.heap_setCell _ _ _ _ (by simp only; omega))).trans p9f
    have K2 := (K1.put 1 rfl 0 (.bool (ba && gh))).put 0 rfl 0 (.bool (by' || gh))
    clear q0 q4 hb6
    have K1'h := Lib.hid K1
    have K2'h := Lib.hid K2
    clear K1 K2
    cases ba <;> cases by' <;>
    · gi_wp2
      refine ⟨K2'h.out.kept, ?_⟩
      have hB := K2'h.out.back hI'h.out
      unfold HeldI
      rw [show (vs ++ [#[Value.agg #[Value.slice sp' n' cap']]]).length = vs.length + 1 by simp, ha'h.out, hy'h.out]
      exact hB
  case done =>
    rintro D S S1 vs W hD hSD hro hs1 hS1D hvs hY hI hK
    unfold HeldI at hI
    rw [hvs] at hI
    have hDlt := hI.hs.lt
    generalize hA : allK l (cntL l f) key (cntL l t - cntL l f + 1) = ba at hI
    generalize hB : anyK l (cntL l f) key (cntL l t - cntL l f + 1) = by' at hI
    have p8 : ∀ d, (W.drewN d).cell? ⟨b8, 0, none⟩ = some (.bool ba) := fun d => blk_cell (W := W) hI.hs.rows.2.1 rfl
    have p9 : ∀ d, (W.drewN d).cell? ⟨b8 + 1, 0, none⟩ = some (.bool by') := fun d => blk_cell (W := W) hI.hs.rows.1 rfl
    clear hvs
    have hY'h := Lib.hid hY
    have hI'h := Lib.hid hI
    have hK'h := Lib.hid hK
    have hA'h := Lib.hid hA
    have hB'h := Lib.hid hB
    clear hY hI hK hA hB
    go_wp2
    go_quiet (fail)
    go_wp2
    have hD2 : w.heap.size ≤ D := by have := hb5'h.out.size; have := H3'h.out.old.size; omega
    refine post_mark (W := W.drewN nq) (.inl rfl) hK'h.out (results_tmp2 rfl _ _ _) ⟨?_, below_putObj (hI'h.out.hs.old.trans (below_drewN' _ _)) hD2 (.deferred none)⟩
    unfold numT
    rw [hA'h.out, hB'h.out]; rfl
end Go.Proofs.Ythfeiiibedmkiaa

/-
  The least, and the greatest, number of keys in a time.
-/
set_option linter.unusedSimpArgs false
set_option linter.unusedVariables false
set_option maxRecDepth 100000
namespace Go.Proofs.Ythfeiiibedmkiaa
open Go.RowKit

def leastM (l : List Ch) (k0 : Nat) : Nat → Nat
  | 0 => l.length + 1
  | k + 1 => min (leastM l k0 k) (mapL l (k0 + k)).length
def mostM (l : List Ch) (k0 : Nat) : Nat → Nat
  | 0 => 0
  | k + 1 => max (mostM l k0 k) (mapL l (k0 + k)).length
theorem leastM_le (l : List Ch) (k0 : Nat) : ∀ k, leastM l k0 k ≤ l.length + 1
  | 0 => Nat.le_refl _
  | k + 1 => by have := leastM_le l k0 k; rw [leastM]; omega
theorem mostM_le (l : List Ch) (k0 : Nat) : ∀ k, mostM l k0 k ≤ k0 + k
  | 0 => Nat.zero_le _
  | k + 1 => by have := mostM_le l k0 k; have := len_mapL l (k0 + k); rw [mostM]; omega
def SizI (w : World) (RO : Nat → Prop) (B b8 : Nat) (l : List Ch) (k0 : Nat) (f t : Int) (vs : Vs) (S : Nat → Prop) (W : World) : Prop :=
  HsS w RO B [(b8 + 1, #[.int .i64 (mostM l k0 vs.length : Nat)], 3), (b8, #[.int .i64 (leastM l k0 vs.length : Nat)], 3), (w.heap.size, tmA f t, 43)] S W
theorem SizI.stable (w : World) (RO : Nat → Prop) (B b8 : Nat) (l : List Ch) (k0 : Nat) (f t : Int) (vs : Vs) : Stable (SizI w RO B b8 l k0 f t vs) := HsS.stable _ _ _ _
theorem rSizes_no (sp : Option Addr) (n cap : Nat) (l : List Ch) (f t : Int) (w : World) (h : SlK w 4 sp n (chs l)) (hs : ∀ a, sp = some a → a.block < w.heap.size) (hn : n ≤ 4000) (hf : failE l f t ≠ 0) :
    Calls Try.prog 25 #[.slice sp n cap, .agg (tmA f t)] w fun e w' => e = .returned (.tuple #[.int .i64 0, .int .i64 0, .int .i64 (failE l f t)]) ∧ Below w.heap.size w w' := by
  have H0 := (Hs.nil w).new (tmA f t) 43
  obtain ⟨W0, hW0⟩ : ∃ W0, W0 = w.alloc (.cells (tmA f t) 43) := ⟨_, rfl⟩
  rw [← hW0] at H0
  have F := rfails_any sp n cap l f t W0 (h.below H0.old) (fun a ha => by have := hs a ha; have := H0.old.size; omega) hn
  have hz : ((failE l f t : Int) != 0) = true := by simp; omega
  generalize failE l f t = z at *
  have H0'h := Lib.hid H0
  have F'h := Lib.hid F
  have h'h := Lib.hid h
  have hs'h := Lib.hid hs
  clear H0 F h hs
  refine (callsIn_wide (n := 0)).1 ?_
  refine callsIn_of_wp_marks Try.func25 rfl trivial ?_
  simp only [Try.ntmps25, List.size_toArray, List.length_cons, List.length_nil, Nat.reduceAdd, Nat.reduceSub, Array.replicate_succ, Array.replicate_zero, List.push_toArray, List.append_toArray, List.nil_append, List.cons_append]
  refine wpIn_wide.2 ?_
  go_upto_region 1 with fail
  rw [← hW0]
  clear hW0
  go_wp2_with (first | guard_target = wpList _ _ _ (Oper.mk _ (.load _ (.tmp 3)) _ _ _ _ :: _) _ _; refine wpList_load_row rfl 43 (.tmp 3) rfl (w.heap.size) rfl 43 (tmA f t) (0, 0) _ H0'h.out.rows.1 Try.underlying43 rfl info_tm ?_ | (go_at_call 45; refine F'h.out.mono ?_; rintro e w2 ⟨rfl, hb2⟩))
  exact post_plain (.inl rfl) (results_tmp3 rfl _ _ _) ⟨rfl, (H0'h.out.next hb2).old⟩
set_option maxHeartbeats 4000000 in
theorem rSizes_yes (sp : Option Addr) (n cap : Nat) (l : List Ch) (f t : Int) (w : World) (h : SlK w 4 sp n (chs l)) (hs : ∀ a, sp = some a → a.block < w.heap.size) (hn : n ≤ 4000) (hnl : sp = none → cap = 0) (hle : n ≤ cap) (hf : failE l f t = 0) :
    Calls Try.prog 25 #[.slice sp n cap, .agg (tmA f t)] w fun e w' => e = .returned (.tuple #[.int .i64 (leastM l (cntL l f) (numT l f t) : Nat), .int .i64 (mostM l (cntL l f) (numT l f t) : Nat), .int .i64 0]) ∧ Below w.heap.size w w' := by
  obtain ⟨hr, hft⟩ := fail_zero hf
  have H0 := (Hs.nil w).new (tmA f t) 43
  obtain ⟨W0, hW0⟩ : ∃ W0, W0 = w.alloc (.cells (tmA f t) 43) := ⟨_, rfl⟩
  rw [← hW0] at H0
  have F := rfails_any sp n cap l f t W0 (h.below H0.old) (fun a ha => by have := hs a ha; have := H0.old.size; omega) hn
  rw [hf] at F
  have hlen := chs_len h
  have H0'h := Lib.hid H0
  have F'h := Lib.hid F
  have h'h := Lib.hid h
  have hs'h := Lib.hid hs
  have hr'h := Lib.hid hr
  have hft'h := Lib.hid hft
  have hnl'h := Lib.hid hnl
  have hlen'h := Lib.hid hlen
  clear H0 F h hs hr hft hnl hlen
  refine (callsIn_wide (n := 0)).1 ?_
  refine callsIn_of_wp_marks Try.func25 rfl trivial ?_
  simp only [Try.ntmps25, List.size_toArray, List.length_cons, List.length_nil, Nat.reduceAdd, Nat.reduceSub, Array.replicate_succ, Array.replicate_zero, List.push_toArray, List.append_toArray, List.nil_append, List.cons_append]
  refine wpIn_wide.2 ?_
  go_upto_region 1 with fail
  rw [← hW0]
  clear hW0
  go_upto_region 4 with (first | guard_target = wpList _ _ _ (Oper.mk _ (.load _ (.tmp 3)) _ _ _ _ :: _) _ _; refine wpList_load_row rfl 43 (.tmp 3) rfl (w.heap.size) rfl 43 (tmA f t) (0, 0) _ H0'h.out.rows.1 Try.underlying43 rfl info_tm ?_ | (go_at_call 45; refine F'h.out.mono ?_; rintro e w2 ⟨rfl, hb2⟩))
  have H3 := (H0'h.out.next hb2).new2 #[.int .i64 ((n : Int) + 1)] #[.int .i64 0] 3 3
  obtain ⟨W3, hW3⟩ : ∃ W3, W3 = (w2.alloc (.cells #[.int .i64 ((n : Int) + 1)] 3)).alloc (.cells #[.int .i64 0] 3) := ⟨_, rfl⟩
  rw [← hW3] at H3
  have H3'h := Lib.hid H3
  clear H3
  go_upto_region 5 with fail
  rw [← hW3]
  clear hW3 hb2
  generalize w2.heap.size = b8 at *
  have M := rmaps_any sp n cap f t W3
  obtain ⟨W5, hW5⟩ : ∃ W5, W5 = (W3.alloc (.cells #[.slice sp n cap] 22)).alloc (.cells (tmA f t) 43) := ⟨_, rfl⟩
  rw [← hW5] at M
  have M'h := Lib.hid M
  have hW5'h := Lib.hid hW5
  clear M hW5
  go_wp2_with (first | guard_target = wpList _ _ _ (Oper.mk _ (.load _ (.tmp 3)) _ _ _ _ :: _) _ _; refine wpList_load_row rfl 43 (.tmp 3) rfl (w.heap.size) rfl 43 (tmA f t) (0, 0) _ H3'h.out.rows.2.2.1 Try.underlying43 rfl info_tm ?_ | (go_at_call 46; refine M'h.out.mono ?_; rintro e w5 ⟨rfl, rfl⟩))
  obtain ⟨hR5, hb5⟩ := mapsR_new (l := l) (f := f) (t := t) hW5'h.out (h'h.out.below H3'h.out.old)
  have it := maps_it W3.heap.size (W3.heap.size + 1) sp n cap l f t w5 hR5 hr'h.out hft'h.out hn hnl'h.out hle
  have hS5 := HsS.first (n := n) H3'h.out hb5 hs'h.out
  have hRl := hR5.lt
  generalize mapsRO W3.heap.size (W3.heap.size + 1) sp n = RO at it hS5 hRl
  have hI0 : SizI w RO w5.heap.size b8 l (cntL l f) f t [] (fun _ => False) w5 := by
    unfold SizI
    rw [show ((leastM l (cntL l f) ([] : Vs).length : Nat) : Int) = (n : Int) + 1 by have := hlen'h.out; simp [leastM]; omega]
    exact hS5
  have it'h := Lib.hid it
  have hS5'h := Lib.hid hS5
  have hRl'h := Lib.hid hRl
  have hI0'h := Lib.hid hI0
  have hR5'h := Lib.hid hR5
  have hb5'h := Lib.hid hb5
  clear it hS5 hRl hI0 hR5 hb5
  refine (wpIn_wide (n := 0)).1 ?_
  refine' wpIn_rangeH rfl (fun h => by cases h) rfl trivial enters_maps it'h.out (MapsY.keeps _ _ _) (fun b h => h.elim) (fun vs v S W hy => hy.size) (fun b hb => ⟨hRl'h.out b hb, fun h => h⟩)
    (SizI w RO w5.heap.size b8 l (cntL l f) f t) noXm (SizI.stable _ _ _ _ _ _ _ _) noXm_stable hI0'h.out
    (MapA (fun bx v => { tmps := #[.slice sp n cap, .agg (tmA f t), undef, .pointer (some ⟨w.heap.size, 0, none⟩), .int .i64 0, .int .i64 0, .int .i64 0, .int .i64 0, .pointer (some ⟨b8, 0, none⟩), .pointer (some ⟨b8 + 1, 0, none⟩), .pointer (some ⟨bx, 0, none⟩), .slice sp n cap, .agg (tmA f t), .int .i64 0, .int .i64 0, .bool false, undef, .slice sp n cap, .int .i64 (n : Int), .int .i64 ((n : Int) + 1), .slice sp n cap, .agg (tmA f t), .func (.func 67) #[] #[.pointer (some ⟨W3.heap.size, 0, none⟩), .pointer (some ⟨W3.heap.size + 1, 0, none⟩)], v, undef, undef, undef, undef, undef, undef, undef, undef, undef, undef, undef, undef], defers := [] }) (SizI w RO w5.heap.size b8 l (cntL l f) f t)) (MapA.stable (SizI.stable _ _ _ _ _ _ _ _)) ?assign ?body ?done (by intro _ _ _ _ _ _ _ _ _ _ _ _ h; exact h.elim)
  case assign =>
    intro ly vs v S S1 W hk hl hs1 hro hSb hY hI
    obtain ⟨sp', n', cap', rfl, hS', hc', hle', hbS⟩ := hY.last
    have hbw : Below W.heap.size W (W.alloc (.cells #[.slice sp' n' cap'] 31)) := (Below.refl _ _).alloc (Nat.le_refl _) _
    have hns : ¬ S W.heap.size := fun h => by have := hSb _ h; omega
    have hY'h := Lib.hid hY
    have hI'h := Lib.hid hI
    have hro'h := Lib.hid hro
    have hSb'h := Lib.hid hSb
    have hS''h := Lib.hid hS'
    have hbS'h := Lib.hid hbS
    have hbw'h := Lib.hid hbw
    have hns'h := Lib.hid hns
    have hc''h := Lib.hid hc'
    clear hY hI hro hSb hS' hbS hbw hns hc'
    gi_wp2
    exact ⟨⟨SizI.stable _ _ _ _ _ _ _ _ _ _ _ _ _ hI'h.out (Foreign.of_below hbw'h.out), W.heap.size, sp', n', cap', rfl, rfl, World.alloc_heap_new _ _, hns'h.out⟩, Kept.of_below hbw'h.out⟩
  case body =>
    rintro ly vs v S S1 a₁ W r hk hl hs1 hlr hro hSb hY ⟨hI, bx, sp', n', cap', rfl, rfl, hbx, hbs⟩
    obtain ⟨sp2, n2, cap2, he2, hSl, hcc, hlen, hbS⟩ := hY.last
    simp only [Array.mk.injEq, List.cons.injEq, Value.agg.injEq, Value.slice.injEq, and_true] at he2
    obtain ⟨rfl, rfl, rfl⟩ := he2
    have q0 : W.cell? ⟨bx, 0, none⟩ = some (.slice sp' n' cap') := blk_cell hbx rfl
    clear hlr hs1 hl
    have hY'h := Lib.hid hY
    have hbx'h := Lib.hid hbx
    have hro'h := Lib.hid hro
    have hbS'h := Lib.hid hbS
    have hcc'h := Lib.hid hcc
    clear hY hbx hro hbS hcc
    have hn' : n' = (mapL l (cntL l f + vs.length)).length := prs_len hSl
    have e1 : (leastM l (cntL l f) (vs.length + 1) : Int) = min (leastM l (cntL l f) vs.length : Int) (n' : Int) := by rw [leastM, hn']; omega
    have e2 : (mostM l (cntL l f) (vs.length + 1) : Int) = max (mostM l (cntL l f) vs.length : Int) (n' : Int) := by rw [mostM, hn']; omega
    have K0 := hI.start hSb hRl'h.out
    unfold SizI at hI
    generalize (leastM l (cntL l f) vs.length : Int) = a0 at *
    generalize (mostM l (cntL l f) vs.length : Int) = a1 at *
    have z0 : W.drew.cell? ⟨b8, 0, none⟩ = some (.int .i64 a0) := blk_cell (W := W.drew) hI.hs.rows.2.1 rfl
    have z1 : W.drew.cell? ⟨b8 + 1, 0, none⟩ = some (.int .i64 a1) := blk_cell (W := W.drew) hI.hs.rows.1 rfl
    have z2 : W.drew.cell? ⟨bx, 0, none⟩ = some (.slice sp' n' cap') := q0
    have fr1 : W.drew.frozen? ⟨b8, 0, none⟩ = false := blk_free (W := W.drew) 0 hI.hs.rows.2.1
    have fr2 : W.drew.frozen? ⟨b8 + 1, 0, none⟩ = false := blk_free (W := W.drew) 0 hI.hs.rows.1
    have hx8 : bx ≠ b8 := fun e => by
      have := (e ▸ hbx'h.out).symm.trans hI.hs.rows.2.1
      simp at this
    have hx9 : bx ≠ b8 + 1 := fun e => by
      have := (e ▸ hbx'h.out).symm.trans hI.hs.rows.1
      simp at this
    have z1' : ∀ (W : World) v, (W.setCell ⟨b8, 0, none⟩ v).cell? ⟨b8 + 1, 0, none⟩ = W.cell? ⟨b8 + 1, 0, none⟩ := fun W v => World.cell?_of_block (Below.heap_setCell _ _ _ _ (show b8 + 1 ≠ b8 by omega))
    have f1' : ∀ (W : World) v, (W.setCell ⟨b8, 0, none⟩ v).frozen? ⟨b8 + 1, 0, none⟩ = W.frozen? ⟨b8 + 1, 0, none⟩ := fun W v => World.frozen?_of_block (Below.heap_setCell _ _ _ _ (show b8 + 1 ≠ b8 by omega))
    have z2' : ∀ (W : World) v, (W.setCell ⟨b8, 0, none⟩ v).cell? ⟨bx, 0, none⟩ = W.cell? ⟨bx, 0, none⟩ := fun W v => World.cell?_of_block (Below.heap_setCell _ _ _ _ hx8)
    have z2'' : ∀ (W : World) v, (W.setCell ⟨b8 + 1, 0, none⟩ v).cell? ⟨bx, 0, none⟩ = W.cell? ⟨bx, 0, none⟩ := fun W v => World.cell?_of_block (Below.heap_setCell _ _ _ _ hx9)
    have fr3 : ∀ v, (W.setCell ⟨b8, 0, none⟩ v).frozen? ⟨b8 + 1, 0, none⟩ = false := fun v => (f1' W v).trans fr2
    have z3 : ∀ v, (W.setCell ⟨b8, 0, none⟩ v).cell? ⟨b8 + 1, 0, none⟩ = some (.int .i64 a1) := fun v => (z1' W v).trans z1
    have fr4 : ∀ v, (W.setCell ⟨b8, 0, none⟩ v).drew.frozen? ⟨b8 + 1, 0, none⟩ = false := fr3
    have z4 : ∀ v, (W.setCell ⟨b8, 0, none⟩ v).drew.cell? ⟨b8 + 1, 0, none⟩ = some (.int .i64 a1) := z3
    have K2 := ((K0.put 1 rfl 0 (.int .i64 (min a0 (n' : Int)))).put 0 rfl 0 (.int .i64 (max a1 (n' : Int)))).drew
    have hI'h := Lib.hid hI
    have K0'h := Lib.hid K0
    have e1'h := Lib.hid e1
    have e2'h := Lib.hid e2
    have hn''h := Lib.hid hn'
    have hSl'h := Lib.hid hSl
    have hx8'h := Lib.hid hx8
    have hx9'h := Lib.hid hx9
    have hSb'h := Lib.hid hSb
    have K2'h := Lib.hid K2
    clear hI K0 e1 e2 hn' hSl hx8 hx9 hSb K2
    gi_wp2
    refine wpIn_round_heldT ⟨10, fun w' => w'.cell? ⟨b8, 0, none⟩ = some (.int .i64 a0), 11, fun w' => w'.cell? ⟨b8 + 1, 0, none⟩ = some (.int .i64 a1), fun w' => w'.cell? ⟨bx, 0, none⟩ = some (.slice sp' n' cap')⟩ (by kernel_rfl) (by kernel_rfl) (inBlock_noLet rangePost_noLet) ?_
    refine wpAnyT_take true false (i := 0) (v := .int .i64 a0) rfl (by kernel_rfl) (by kernel_rfl) (by kernel_rfl) (by kernel_rfl) (fun _ _ _ h => h) (Or.inl ⟨by rfl, by intro w hSw; obtain ⟨s0, s1, s2⟩ := hSw; simp only [true_implies, Bool.false_eq_true, false_implies] at s0 s1; (try dsimp only at s2); go_simp; try (split <;> omega)⟩) ⟨fun _ => z0, fun _ => z1, z2⟩ ?_; (try simp only [Act.put, List.setIfInBounds_toArray, List.set_cons_zero, List.set_cons_succ])
    refine wpAnyT_take false false (i := 1) (v := .pointer (some ⟨bx, 0, none⟩)) rfl (by kernel_rfl) (by kernel_rfl) (by kernel_rfl) (by kernel_rfl) (fun _ _ _ h => h) (Or.inl ⟨by rfl, by intro w hSw; obtain ⟨s0, s1, s2⟩ := hSw; simp only [true_implies, Bool.false_eq_true, false_implies] at s0 s1; (try dsimp only at s2); go_simp; try (split <;> omega)⟩) ⟨fun _ => z0, fun _ => z1, z2⟩ ?_; (try simp only [Act.put, List.setIfInBounds_toArray, List.set_cons_zero, List.set_cons_succ])
    refine wpAnyT_take false false (i := 2) (v := .slice sp' n' cap') rfl (by kernel_rfl) (by kernel_rfl) (by kernel_rfl) (by kernel_rfl) (fun _ _ _ h => h) (Or.inl ⟨by rfl, by intro w hSw; obtain ⟨s0, s1, s2⟩ := hSw; simp only [true_implies, Bool.false_eq_true, false_implies] at s0 s1; (try dsimp only at s2); go_simp; try (split <;> omega)⟩) ⟨fun _ => z0, fun _ => z1, z2⟩ ?_; (try simp only [Act.put, List.setIfInBounds_toArray, List.set_cons_zero, List.set_cons_succ])
    refine wpAnyT_take false false (i := 3) (v := .int .i64 (n' : Int)) rfl (by kernel_rfl) (by kernel_rfl) (by kernel_rfl) (by kernel_rfl) (fun _ _ _ h => h) (Or.inl ⟨by rfl, by intro w hSw; obtain ⟨s0, s1, s2⟩ := hSw; simp only [true_implies, Bool.false_eq_true, false_implies] at s0 s1; (try dsimp only at s2); go_simp; try (split <;> omega)⟩) ⟨fun _ => z0, fun _ => z1, z2⟩ ?_; (try simp only [Act.put, List.setIfInBounds_toArray, List.set_cons_zero, List.set_cons_succ])
    refine wpAnyT_take false false (i := 4) (v := .int .i64 (min a0 (n' : Int))) rfl (by kernel_rfl) (by kernel_rfl) (by kernel_rfl) (by kernel_rfl) (fun _ _ _ h => h) (Or.inl ⟨by rfl, by intro w hSw; obtain ⟨s0, s1, s2⟩ := hSw; simp only [true_implies, Bool.false_eq_true, false_implies] at s0 s1; (try dsimp only at s2); go_simp; try (split <;> omega)⟩) ⟨fun _ => z0, fun _ => z1, z2⟩ ?_; (try simp only [Act.put, List.setIfInBounds_toArray, List.set_cons_zero, List.set_cons_succ])
    refine wpAnyT_take false true (i := 5) (v := .int .i64 a1) rfl (by kernel_rfl) (by kernel_rfl) (by kernel_rfl) (by kernel_rfl) (fun _ _ _ h => h) (Or.inl ⟨by rfl, by intro w hSw; obtain ⟨s0, s1, s2⟩ := hSw; simp only [true_implies, Bool.false_eq_true, false_implies] at s0 s1; (try dsimp only at s2); go_simp; try (split <;> omega)⟩) ⟨fun _ => z0, fun _ => z1, z2⟩ ?_; (try simp only [Act.put, List.setIfInBounds_toArray, List.set_cons_zero, List.set_cons_succ])
    refine wpAnyT_take false false (i := 6) (v := .pointer (some ⟨bx, 0, none⟩)) rfl (by kernel_rfl) (by kernel_rfl) (by kernel_rfl) (by kernel_rfl) (fun _ _ _ h => h) (Or.inl ⟨by rfl, by intro w hSw; obtain ⟨s0, s1, s2⟩ := hSw; simp only [true_implies, Bool.false_eq_true, false_implies] at s0 s1; (try dsimp only at s2); go_simp; try (split <;> omega)⟩) ⟨fun _ => z0, fun _ => z1, z2⟩ ?_; (try simp only [Act.put, List.setIfInBounds_toArray, List.set_cons_zero, List.set_cons_succ])
    refine wpAnyT_take false false (i := 7) (v := .slice sp' n' cap') rfl (by kernel_rfl) (by kernel_rfl) (by kernel_rfl) (by kernel_rfl) (fun _ _ _ h => h) (Or.inl ⟨by rfl, by intro w hSw; obtain ⟨s0, s1, s2⟩ := hSw; simp only [true_implies, Bool.false_eq_true, false_implies] at s0 s1; (try dsimp only at s2); go_simp; try (split <;> omega)⟩) ⟨fun _ => z0, fun _ => z1, z2⟩ ?_; (try simp only [Act.put, List.setIfInBounds_toArray, List.set_cons_zero, List.set_cons_succ])
    refine wpAnyT_take false false (i := 8) (v := .int .i64 (n' : Int)) rfl (by kernel_rfl) (by kernel_rfl) (by kernel_rfl) (by kernel_rfl) (fun _ _ _ h => h) (Or.inl ⟨by rfl, by intro w hSw; obtain ⟨s0, s1, s2⟩ := hSw; simp only [true_implies, Bool.false_eq_true, false_implies] at s0 s1; (try dsimp only at s2); go_simp; try (split <;> omega)⟩) ⟨fun _ => z0, fun _ => z1, z2⟩ ?_; (try simp only [Act.put, List.setIfInBounds_toArray, List.set_cons_zero, List.set_cons_succ])
    refine wpAnyT_take false false (i := 9) (v := .int .i64 (max a1 (n' : Int))) rfl (by kernel_rfl) (by kernel_rfl) (by kernel_rfl) (by kernel_rfl) (fun _ _ _ h => h) (Or.inl ⟨by rfl, by intro w hSw; obtain ⟨s0, s1, s2⟩ := hSw; simp only [true_implies, Bool.false_eq_true, false_implies] at s0 s1; (try dsimp only at s2); go_simp; try (split <;> omega)⟩) ⟨fun _ => z0, fun _ => z1, z2⟩ ?_; (try simp only [Act.put, List.setIfInBounds_toArray, List.set_cons_zero, List.set_cons_succ])
    refine wpAnyT_one (i := 10) (by kernel_rfl) rfl (fun K hK => ?_)
    go_simp
    refine hK.out _ _ ⟨fun h => absurd (h.symm.trans (show _ = true by kernel_rfl)) (by decide), fun _ => (z1' W _).trans z1, (z2' W _).trans z2⟩ ?_
    clear hK K
    try simp only [Act.put, List.setIfInBounds_toArray, List.set_cons_zero, List.set_cons_succ]
    refine wpAnyT_one (i := 11) (by kernel_rfl) rfl (fun K hK => ?_)
    go_simp
    refine hK.out _ _ ⟨fun h => absurd (h.symm.trans (show _ = true by kernel_rfl)) (by decide), fun h => absurd (h.symm.trans (show _ = true by kernel_rfl)) (by decide), (z2'' _ _).trans ((z2' W _).trans z2)⟩ ?_
    clear hK K
    refine wpAnyT_done (by kernel_rfl) ?_ _
    refine ⟨K2'h.out.kept, ?_⟩
    have hB := K2'h.out.back hI'h.out
    unfold SizI
    rw [show (vs ++ [#[Value.agg #[Value.slice sp' n' cap']]]).length = vs.length + 1 by simp, e1'h.out, e2'h.out]
    exact hB
  case done =>
    rintro D S S1 vs W hD hSD hro hs1 hS1D hvs hY hI hK
    unfold SizI at hI
    rw [hvs] at hI
    generalize hA : leastM l (cntL l f) (cntL l t - cntL l f + 1) = ba at hI
    generalize hB : mostM l (cntL l f) (cntL l t - cntL l f + 1) = by' at hI
    have p8 : ∀ d, (W.drewN d).cell? ⟨b8, 0, none⟩ = some (.int .i64 ba) := fun d => blk_cell (W := W) hI.hs.rows.2.1 rfl
    have p9 : ∀ d, (W.drewN d).cell? ⟨b8 + 1, 0, none⟩ = some (.int .i64 by') := fun d => blk_cell (W := W) hI.hs.rows.1 rfl
    clear hvs
    have hY'h := Lib.hid hY
    have hI'h := Lib.hid hI
    have hK'h := Lib.hid hK
    have hA'h := Lib.hid hA
    have hB'h := Lib.hid hB
    clear hY hI hK hA hB
    go_wp2
    go_quiet (fail)
    go_wp2
    have hD2 : w.heap.size ≤ D := by have := hb5'h.out.size; have := H3'h.out.old.size; omega
    refine post_mark (W := W.drewN nq) (.inl rfl) hK'h.out (results_tmp3 rfl _ _ _) ⟨?_, below_putObj (hI'h.out.hs.old.trans (below_drewN' _ _)) hD2 (.deferred none)⟩
    unfold numT
    rw [hA'h.out, hB'h.out]; rfl
end Go.Proofs.Ythfeiiibedmkiaa

/-
  Whether a number may be told; the times of values.
-/
set_option linter.unusedSimpArgs false
set_option linter.unusedVariables false
set_option maxRecDepth 100000
namespace Go.Proofs.Ythfeiiibedmkiaa
open Go.RowKit

def lenB (l : List Ch) (f t : Int) (x : Nat) : Bool := decide (failE l f t = 0) && (decide (leastM l (cntL l f) (numT l f t) ≤ x) && decide (x ≤ mostM l (cntL l f) (numT l f t)))
theorem rLen_any (sp : Option Addr) (n cap : Nat) (l : List Ch) (f t : Int) (x : Nat) (w : World) (h : SlK w 4 sp n (chs l)) (hs : ∀ a, sp = some a → a.block < w.heap.size) (hn : n ≤ 4000) (hnl : sp = none → cap = 0) (hle : n ≤ cap) :
    Calls Try.prog 34 #[.slice sp n cap, .agg (tmA f t), .int .u64 x] w fun e w' => e = .returned (.bool (lenB l f t x)) ∧ Below w.heap.size w w' := by
  have H0 := (Hs.nil w).new (tmA f t) 43
  obtain ⟨W0, hW0⟩ : ∃ W0, W0 = w.alloc (.cells (tmA f t) 43) := ⟨_, rfl⟩
  rw [← hW0] at H0
  have hs0 : ∀ a, sp = some a → a.block < W0.heap.size := fun a ha => by have := hs a ha; have := H0.old.size; omega
  have hlen := chs_len h
  by_cases hf : failE l f t = 0
  · have S := rSizes_yes sp n cap l f t W0 (h.below H0.old) hs0 hn hnl hle hf
    have b1 := leastM_le l (cntL l f) (numT l f t)
    have b2 := mostM_le l (cntL l f) (numT l f t)
    have b3 : cntL l f + numT l f t ≤ 8001 := by unfold numT; have := cntL_le l f; have := cntL_le l t; omega
    have e : lenB l f t x = (decide (leastM l (cntL l f) (numT l f t) ≤ x) && decide (x ≤ mostM l (cntL l f) (numT l f t))) := by unfold lenB; rw [decide_eq_true hf, Bool.true_and]
    rw [e]
    generalize leastM l (cntL l f) (numT l f t) = a at *
    generalize mostM l (cntL l f) (numT l f t) = b at *
    have ha : a ≤ 4001 := by omega
    have hb : b ≤ 8001 := by omega
    clear e b1 b2 b3
    by_cases h1 : a ≤ x
    · by_cases h2 : x ≤ b
      · have e : (decide (a ≤ x) && decide (x ≤ b)) = true := by simp [h1, h2]
        rw [e]
        have i1 : (a : Int) ≤ (x : Int) := by omega
        have i2 : (x : Int) ≤ (b : Int) := by omega
        have H0'h := Lib.hid H0
        have S'h := Lib.hid S
        have h'h := Lib.hid h
        have hs'h := Lib.hid hs
        have hs0'h := Lib.hid hs0
        have hnl'h := Lib.hid hnl
        have hlen'h := Lib.hid hlen
        have e'h := Lib.hid e
        clear H0 S h hs hs0 hnl hlen e
        go_enter Try.func34, Try.ntmps34
        go_upto_region 1 with fail
        rw [← hW0]
        clear hW0
        go_wp2_with (first | guard_target = wpList _ _ _ (Oper.mk _ (.load _ (.tmp 4)) _ _ _ _ :: _) _ _; refine wpList_load_row rfl 43 (.tmp 4) rfl (w.heap.size) rfl 43 (tmA f t) (0, 0) _ H0'h.out.rows.1 Try.underlying43 rfl info_tm ?_ | (go_at_call 25; refine S'h.out.mono ?_; rintro e w2 ⟨rfl, hb2⟩))
        go_ret
        exact ⟨rfl, (H0'h.out.next hb2).old⟩
      · have e : (decide (a ≤ x) && decide (x ≤ b)) = false := by simp [h2]
        rw [e]
        have i1 : (a : Int) ≤ (x : Int) := by omega
        have i2 : ¬ (x : Int) ≤ (b : Int) := by omega
        have H0'h := Lib.hid H0
        have S'h := Lib.hid S
        have h'h := Lib.hid h
        have hs'h := Lib.hid hs
        have hs0'h := Lib.hid hs0
        have hnl'h := Lib.hid hnl
        have hlen'h := Lib.hid hlen
        have e'h := Lib.hid e
        clear H0 S h hs hs0 hnl hlen e
        go_enter Try.func34, Try.ntmps34
        go_upto_region 1 with fail
        rw [← hW0]
        clear hW0
        go_wp2_with (first | guard_target = wpList _ _ _ (Oper.mk _ (.load _ (.tmp 4)) _ _ _ _ :: _) _ _; refine wpList_load_row rfl 43 (.tmp 4) rfl (w.heap.size) rfl 43 (tmA f t) (0, 0) _ H0'h.out.rows.1 Try.underlying43 rfl info_tm ?_ | (go_at_call 25; refine S'h.out.mono ?_; rintro e w2 ⟨rfl, hb2⟩))
        go_ret
        exact ⟨rfl, (H0'h.out.next hb2).old⟩
    · have e : (decide (a ≤ x) && decide (x ≤ b)) = false := by simp [h1]
      rw [e]
      have i1 : ¬ (a : Int) ≤ (x : Int) := by omega
      have H0'h := Lib.hid H0
      have S'h := Lib.hid S
      have h'h := Lib.hid h
      have hs'h := Lib.hid hs
      have hs0'h := Lib.hid hs0
      have hnl'h := Lib.hid hnl
      have hlen'h := Lib.hid hlen
      have e'h := Lib.hid e
      clear H0 S h hs hs0 hnl hlen e
      go_enter Try.func34, Try.ntmps34
      go_upto_region 1 with fail
      rw [← hW0]
      clear hW0
      go_wp2_with (first | guard_target = wpList _ _ _ (Oper.mk _ (.load _ (.tmp 4)) _ _ _ _ :: _) _ _; refine wpList_load_row rfl 43 (.tmp 4) rfl (w.heap.size) rfl 43 (tmA f t) (0, 0) _ H0'h.out.rows.1 Try.underlying43 rfl info_tm ?_ | (go_at_call 25; refine S'h.out.mono ?_; rintro e w2 ⟨rfl, hb2⟩))
      go_ret
      exact ⟨rfl, (H0'h.out.next hb2).old⟩
  · have S := rSizes_no sp n cap l f t W0 (h.below H0.old) hs0 hn hf
    have e : lenB l f t x = false := by unfold lenB; rw [decide_eq_false hf, Bool.false_and]
    rw [e]
    have hz : ((failE l f t : Int) == 0) = false := by simp; omega
    generalize failE l f t = z at *
    clear hf
    have H0'h := Lib.hid H0
    have S'h := Lib.hid S
    have h'h := Lib.hid h
    have hs'h := Lib.hid hs
    have hs0'h := Lib.hid hs0
    have hnl'h := Lib.hid hnl
    have hlen'h := Lib.hid hlen
    have e'h := Lib.hid e
    clear H0 S h hs hs0 hnl hlen e
    go_enter Try.func34, Try.ntmps34
    go_upto_region 1 with fail
    rw [← hW0]
    clear hW0
    go_wp2_with (first | guard_target = wpList _ _ _ (Oper.mk _ (.load _ (.tmp 4)) _ _ _ _ :: _) _ _; refine wpList_load_row rfl 43 (.tmp 4) rfl (w.heap.size) rfl 43 (tmA f t) (0, 0) _ H0'h.out.rows.1 Try.underlying43 rfl info_tm ?_ | (go_at_call 25; refine S'h.out.mono ?_; rintro e w2 ⟨rfl, hb2⟩))
    go_ret
    exact ⟨rfl, (H0'h.out.next hb2).old⟩
/-! ### The times of a value -/
theorem steps1_any (c : Ch) (p key : Nat) (w : World) (hp : w.cell? ⟨p, 0, none⟩ = some (.int .u64 key)) :
    Calls Try.prog 49 #[.agg #[.int .i64 c.stp, .int .u64 (c.key : Int), .bool c.has, .int .u64 (c.val : Int)], .pointer (some ⟨p, 0, none⟩)] w fun e w' => e = .returned (.bool (c.key == key)) ∧ Below w.heap.size w w' := by
  have e : (c.key == key) = ((c.key : Int) == (key : Int)) := by rw [Bool.eq_iff_iff]; simp; omega
  rw [e]
  have hlt := lt_of_cell hp
  have hp2 : (w.alloc (.cells (chA c) 46)).cell? ⟨p, 0, none⟩ = some (.int .u64 key) := keep_alloc _ _ _ _ hp
  have hO := (Hs.nil w).new (chA c) 46
  have c0 : (w.alloc (.cells (chA c) 46)).cell? ⟨w.heap.size, 1, none⟩ = some (.int .u64 (c.key : Int)) := blk_cell hO.rows.1 rfl
  clear hp
  have e'h := Lib.hid e
  have hO'h := Lib.hid hO
  have hlt'h := Lib.hid hlt
  clear e hO hlt
  go_enter Try.func49, Try.ntmps49
  go_upto_region 1 with fail
  change Code.wp _ _ _ _ (w.alloc (.cells (chA c) 46))
  generalize w.alloc _ = W at *
  go_wp2
  go_ret
  exact ⟨rfl, hO'h.out.old⟩
theorem info_chF : (Try.prog.info? 46).map (fun i => (i.zero, i.size, i.bytes)) = some (some (.agg #[.int .i64 0, .int .u64 0, .bool false, .int .u64 0]), 4, 32) := by kernel_rfl
theorem chs_snoc (l : List Ch) (c : Ch) : chs l ++ chL c = chs (l ++ [c]) := by unfold chs; rw [List.flatMap_append]; simp
theorem take_filter {α : Type} {p : α → Bool} {l : List α} {k : Nat} (h : k < l.length) : (l.take (k + 1)).filter p = (l.take k).filter p ++ if p l[k] = true then [l[k]] else [] := by
  rw [List.take_succ_eq_append_getElem h, List.filter_append, List.filter_cons]; simp
set_option maxHeartbeats 2000000 in
theorem siftC_any (sp : Option Addr) (n cap : Nat) (l : List Ch) (p key : Nat) (w : World) (h : SlK w 4 sp n (chs l)) (hp : w.cell? ⟨p, 0, none⟩ = some (.int .u64 key)) (hn : n ≤ 4000) :
    Calls Try.prog 48 #[.slice sp n cap, .func (.func 49) #[] #[.pointer (some ⟨p, 0, none⟩)]] w fun e w' => ∃ sp' n' cap', e = .returned (.slice sp' n' cap') ∧ Below w.heap.size w w' ∧ w'.ownsRow w.heap.size 46 4 (.slice sp' n' cap') (l.filter fun c => c.key == key).length (chs (l.filter fun c => c.key == key)) := by
  obtain ⟨i0, hi, hz0, hz1, hz2⟩ := info_parts info_chF
  have hlen := chs_len h
  have h'h := Lib.hid h
  have hp'h := Lib.hid hp
  have hlen'h := Lib.hid hlen
  clear h hp hlen
  go_enter Try.func48, Try.ntmps48
  go_wp2
  go_loopg [5, 10] n (fun q v i wr => ∃ k : Nat, k + q = n ∧ i = .int .i64 k ∧ Below w.heap.size w wr ∧ wr.ownsRow w.heap.size 46 4 v ((l.take k).filter fun c => c.key == key).length (chs ((l.take k).filter fun c => c.key == key)))
  case atStart => exact ⟨0, by omega, rfl, Below.refl _ _, World.ownsRow_nil _ _ _ _⟩
  case round =>
    obtain ⟨k, hq, rfl, hB, hrow⟩ := hrel
    have hfl : ((l.take k).filter fun c => c.key == key).length ≤ k := Nat.le_trans (List.length_filter_le _ _) (by rw [List.length_take]; omega)
    by_cases hlt : k < n
    · have hkl : k < l.length := by have := hlen'h.out; omega
      obtain ⟨b, off, rfl⟩ := slk_some h'h.out (by omega)
      obtain ⟨c1, c2, c3, c4⟩ := chs_cells (h'h.out.below hB) hkl
      have htf := take_filter (p := fun c : Ch => c.key == key) hkl
      rw [nthC_eq hkl] at htf
      have C := fun W hW => steps1_any (nthC l k) p key W hW
      have H7 := (Hs.nil wr).new (chA (nthC l k)) 46
      have hchL : chL (nthC l k) = [.int .i64 (nthC l k).stp, .int .u64 ((nthC l k).key : Int), .bool (nthC l k).has, .int .u64 ((nthC l k).val : Int)] := rfl
      have hone := chL_one (nthC l k)
      unfold chA at H7
      rw [hchL] at hone
      cases hv : (nthC l k).key == key with
      | true =>
        rw [hv] at C
        rw [hv, if_pos rfl] at htf
        have hsn := chs_snoc ((l.take k).filter fun c => c.key == key) (nthC l k)
        rw [← htf, hchL] at hsn
        have hlen2 : ((l.take (k + 1)).filter fun c => c.key == key).length = ((l.take k).filter fun c => c.key == key).length + 1 := by rw [htf]; simp
        obtain ⟨F2, hF2⟩ : ∃ F2, F2 = (l.take (k + 1)).filter (fun c => c.key == key) := ⟨_, rfl⟩
        simp only [← hF2] at htf hsn hlen2
        have hF2'h := Lib.hid hF2
        clear hF2
        generalize (l.take k).filter (fun c => c.key == key) = F1 at *
        generalize (nthC l k).stp = y0 at *
        generalize (nthC l k).key = y1 at *
        generalize (nthC l k).has = y2 at *
        generalize (nthC l k).val = y3 at *
        have hi1 : (k : Int) < (n : Int) := by omega
        have h0k : (0 : Int) ≤ (k : Int) := by omega
        clear hchL htf
        have hq'h := Lib.hid hq
        have hB'h := Lib.hid hB
        have hrow'h := Lib.hid hrow
        have C'h := Lib.hid C
        have H7'h := Lib.hid H7
        have hone'h := Lib.hid hone
        have hsn'h := Lib.hid hsn
        have hlen2'h := Lib.hid hlen2
        have hkl'h := Lib.hid hkl
        clear hq hB hrow C H7 hone hsn hlen2 hkl
        go_upto_region 5 with fail
        change Code.wp _ _ _ _ (wr.alloc (.cells #[.int .i64 y0, .int .u64 (y1 : Int), .bool y2, .int .u64 (y3 : Int)] 46))
        have H7 := H7'h.out
        clear c1 c2 c3 c4 H7'h
        have hp7 : (wr.alloc (.cells #[.int .i64 y0, .int .u64 (y1 : Int), .bool y2, .int .u64 (y3 : Int)] 46)).cell? ⟨p, 0, none⟩ = some (.int .u64 key) := keep_alloc _ _ _ _ ((hB'h.out.cell (lt_of_cell hp'h.out)).trans hp'h.out)
        generalize wr.alloc _ = W7 at H7 hp7 ⊢
        have q0 : W7.cell? ⟨wr.heap.size, 0, none⟩ = some (.int .i64 y0) := blk_cell H7.rows.1 rfl
        have q1 : W7.cell? ⟨wr.heap.size, 1, none⟩ = some (.int .u64 (y1 : Int)) := blk_cell H7.rows.1 rfl
        have q2 : W7.cell? ⟨wr.heap.size, 2, none⟩ = some (.bool y2) := blk_cell H7.rows.1 rfl
        have q3 : W7.cell? ⟨wr.heap.size, 3, none⟩ = some (.int .u64 (y3 : Int)) := blk_cell H7.rows.1 rfl
        have H7'h := Lib.hid H7
        have hp7'h := Lib.hid hp7
        clear H7 hp7
        go_upto_region 6 with (first | (go_at_call 49; refine (C'h.out _ hp7'h.out).mono ?_; rintro e w8 ⟨rfl, hb8⟩))
        have H8 := H7'h.out.next hb8
        have hrow8 := ownsRow_next hrow'h.out H8.old
        clear q0 q1 q2 q3
        have q0 : w8.cell? ⟨wr.heap.size, 0, none⟩ = some (.int .i64 y0) := blk_cell H8.rows.1 rfl
        have q1 : w8.cell? ⟨wr.heap.size, 1, none⟩ = some (.int .u64 (y1 : Int)) := blk_cell H8.rows.1 rfl
        have q2 : w8.cell? ⟨wr.heap.size, 2, none⟩ = some (.bool y2) := blk_cell H8.rows.1 rfl
        have q3 : w8.cell? ⟨wr.heap.size, 3, none⟩ = some (.int .u64 (y3 : Int)) := blk_cell H8.rows.1 rfl
        have hws : w.heap.size ≤ w8.heap.size := Nat.le_trans hB'h.out.size H8.old.size
        have H8'h := Lib.hid H8
        have hrow8'h := Lib.hid hrow8
        have hb8'h := Lib.hid hb8
        clear H8 hrow8 hb8
        go_wp2_with (at_builtin; refine wpList_append_slk _ rfl (.tmp 17) (.tmp 19) 22 rfl w.heap.size 46 i0 _ 4 32 Try.underlying22 hi hz0 hz1 hz2 rfl (by decide) _ F1.length _ rfl (ownsRow_next hrow8'h.out ((Below.refl _ _).alloc (Nat.le_refl _) _)) (some ⟨w8.heap.size, 0, none⟩) 1 1 _ rfl (SlK.of_blk (k := 4) (n := 1) (World.alloc_heap_new w8 (.cells #[.int .i64 y0, .int .u64 (y1 : Int), .bool y2, .int .u64 (y3 : Int)] 46)) rfl (by decide)) hone'h.out (by unfold maxLen; omega) (by omega) (by rw [World.size_alloc]; omega) ?_; intro v' w9 hown' hgrow hat)
        go_roundg (gk - 1)
        case measure => have := hq'h.out; omega
        case rel =>
          refine ⟨k + 1, by have := hq'h.out; omega, by go_num, ((below_next hB'h.out H8'h.out.old).trans ((Below.refl _ _).alloc hws _)).grown hgrow (by rw [World.size_alloc]; omega) (fun j hj => (hrow8'h.out.lt j hj).1), ?_⟩
          rw [← hF2'h.out, hlen2'h.out, ← hsn'h.out]; exact hown'
      | false =>
        rw [hv] at C
        rw [hv, if_neg (by decide), List.append_nil] at htf
        obtain ⟨F2, hF2⟩ : ∃ F2, F2 = (l.take (k + 1)).filter (fun c => c.key == key) := ⟨_, rfl⟩
        rw [← hF2] at htf
        have hF2'h := Lib.hid hF2
        clear hF2
        generalize (l.take k).filter (fun c => c.key == key) = F1 at *
        subst htf
        generalize (nthC l k).stp = y0 at *
        generalize (nthC l k).key = y1 at *
        generalize (nthC l k).has = y2 at *
        generalize (nthC l k).val = y3 at *
        have hi1 : (k : Int) < (n : Int) := by omega
        have h0k : (0 : Int) ≤ (k : Int) := by omega
        clear hchL
        have hq'h := Lib.hid hq
        have hB'h := Lib.hid hB
        have hrow'h := Lib.hid hrow
        have C'h := Lib.hid C
        have H7'h := Lib.hid H7
        have hone'h := Lib.hid hone
        have hkl'h := Lib.hid hkl
        clear hq hB hrow C H7 hone hkl
        go_upto_region 5 with fail
        change Code.wp _ _ _ _ (wr.alloc (.cells #[.int .i64 y0, .int .u64 (y1 : Int), .bool y2, .int .u64 (y3 : Int)] 46))
        have H7 := H7'h.out
        clear c1 c2 c3 c4 H7'h
        have hp7 : (wr.alloc (.cells #[.int .i64 y0, .int .u64 (y1 : Int), .bool y2, .int .u64 (y3 : Int)] 46)).cell? ⟨p, 0, none⟩ = some (.int .u64 key) := keep_alloc _ _ _ _ ((hB'h.out.cell (lt_of_cell hp'h.out)).trans hp'h.out)
        generalize wr.alloc _ = W7 at H7 hp7 ⊢
        have q0 : W7.cell? ⟨wr.heap.size, 0, none⟩ = some (.int .i64 y0) := blk_cell H7.rows.1 rfl
        have q1 : W7.cell? ⟨wr.heap.size, 1, none⟩ = some (.int .u64 (y1 : Int)) := blk_cell H7.rows.1 rfl
        have q2 : W7.cell? ⟨wr.heap.size, 2, none⟩ = some (.bool y2) := blk_cell H7.rows.1 rfl
        have q3 : W7.cell? ⟨wr.heap.size, 3, none⟩ = some (.int .u64 (y3 : Int)) := blk_cell H7.rows.1 rfl
        have H7'h := Lib.hid H7
        have hp7'h := Lib.hid hp7
        clear H7 hp7
        go_wp2_with (first | (go_at_call 49; refine (C'h.out _ hp7'h.out).mono ?_; rintro e w8 ⟨rfl, hb8⟩))
        go_roundg (gk - 1)
        case measure => have := hq'h.out; omega
        case rel => exact ⟨k + 1, by have := hq'h.out; omega, by go_num, below_next hB'h.out (H7'h.out.next hb8).old, by rw [← hF2'h.out]; exact ownsRow_next hrow'h.out (H7'h.out.next hb8).old⟩
    · have hkn : k = l.length := by have := hlen'h.out; omega
      rw [hkn, List.take_length] at hrow
      obtain ⟨sp', cap', rfl⟩ := row_slice' hrow
      have hi1 : ¬ (k : Int) < (n : Int) := by omega
      clear hlt hfl hkn
      have hq'h := Lib.hid hq
      have hB'h := Lib.hid hB
      have hrow'h := Lib.hid hrow
      clear hq hB hrow
      go_wp2
      go_ret
      exact ⟨sp', _, cap', rfl, hB'h.out, hrow'h.out⟩
end Go.Proofs.Ythfeiiibedmkiaa

/-
  The times at which a key has a value.
-/
set_option linter.unusedSimpArgs false
set_option linter.unusedVariables false
set_option maxRecDepth 100000
namespace Go.Proofs.Ythfeiiibedmkiaa
open Go.RowKit

def tmL (p : Int × Int) : List Value := [.int .i64 p.1, .int .i64 p.2]
theorem tmL_len (p : Int × Int) : (tmL p).length = 2 := rfl
def tms (l : List (Int × Int)) : List Value := l.flatMap tmL
theorem tms_length (l : List (Int × Int)) : (tms l).length = l.length * 2 := flat_len tmL_len l
theorem tms_snoc (l : List (Int × Int)) (p : Int × Int) : tms l ++ tmL p = tms (l ++ [p]) := by unfold tms; rw [List.flatMap_append]; simp
def setTo (l : List (Int × Int)) (x : Int) : List (Int × Int) := l.set (l.length - 1) ((l.getD (l.length - 1) (0, 0)).1, x)
theorem setTo_len (l : List (Int × Int)) (x : Int) : (setTo l x).length = l.length := by unfold setTo; simp
def stepT (val : Nat) (st : List (Int × Int) × Bool) (c : Ch) : List (Int × Int) × Bool :=
  ((if st.2 = true then setTo st.1 (c.stp - 1) else st.1) ++ (if (c.has && c.val == val) = true then [(c.stp, -1)] else []), c.has && c.val == val)
def stepsK (l : List Ch) (key val k : Nat) : List (Int × Int) × Bool := (((l.filter fun c => c.key == key).take k)).foldl (stepT val) ([], false)
def stepsL (l : List Ch) (key val : Nat) : List (Int × Int) := if rightL l = true then (stepsK l key val (l.filter fun c => c.key == key).length).1 else []
theorem stepsK_succ {l : List Ch} {key val k : Nat} (h : k < (l.filter fun c => c.key == key).length) : stepsK l key val (k + 1) = stepT val (stepsK l key val k) (nthC (l.filter fun c => c.key == key) k) := by
  unfold stepsK; rw [List.take_succ_eq_append_getElem h, List.foldl_append, nthC_eq h]; rfl
theorem tms_set {l : List (Int × Int)} (x : Int) (h : 0 < l.length) : (tms l).set ((l.length - 1) * 2 + 1) (.int .i64 x) = tms (setTo l x) := by
  obtain ⟨l', p, rfl⟩ : ∃ l' p, l = l' ++ [p] := ⟨l.dropLast, l.getLast (by intro e; rw [e] at h; simp at h), (List.dropLast_concat_getLast _).symm⟩
  have e : (l' ++ [p]).length - 1 = l'.length := by simp
  unfold setTo
  rw [e, ← tms_snoc, List.getD_eq_getElem?_getD, List.getElem?_append_right (Nat.le_refl _), Nat.sub_self]
  have e2 : (l' ++ [p]).set l'.length ((([p] : List (Int × Int))[0]?.getD (0, 0)).1, x) = l' ++ [(p.1, x)] := by
    rw [List.set_append_right _ _ (Nat.le_refl _), Nat.sub_self]; rfl
  rw [e2, ← tms_snoc, List.set_append_right _ _ (by rw [tms_length]; omega), tms_length, show l'.length * 2 + 1 - l'.length * 2 = 1 by omega]; rfl
theorem row_len9 {w : World} {base : Nat} {e : TypeId} {size : Nat} {sp : Option Addr} {n cap m : Nat} {xs : List Value} (h : w.ownsRow base e size (.slice sp n cap) m xs) : n = m := by
  rcases h.2 with ⟨hv, h0⟩ | ⟨g, cap', cur, hv, _⟩
  · cases hv; exact h0.symm
  · cases hv; rfl
/-- A cell of a row of one's own. -/
theorem row_cell {w : World} {base : Nat} {e : TypeId} {size : Nat} {sp : Option Addr} {cap n : Nat} {xs : List Value} (h : w.ownsRow base e size (.slice sp n cap) n xs) (hn : 0 < n) :
    ∃ g, sp = some ⟨g, 0, none⟩ ∧ base ≤ g ∧ g < w.heap.size ∧ ∀ i u, xs[i]? = some u → w.cell? ⟨g, i, none⟩ = some u ∧ w.frozen? ⟨g, i, none⟩ = false ∧ ∀ v, (w.setCell ⟨g, i, none⟩ v).ownsRow base e size (.slice sp n cap) n (xs.set i v) := by
  rcases h.2 with ⟨hv, h0⟩ | ⟨g, cap', cur, hv, hb, hg, h1, h2, h3, h4⟩
  · omega
  · cases hv
    refine ⟨g, rfl, hb, lt_of_heap hg, fun i u hu => ?_⟩
    have hi : i < n * size := by
      rw [← h4] at hu
      have := (List.getElem?_eq_some_iff.1 hu).1
      rw [List.length_take] at this; omega
    have hc : cur[i]? = some u := by
      rw [← h4, List.getElem?_take, if_pos hi] at hu
      simpa using hu
    refine ⟨blk_cell hg hc, blk_free i hg, fun v => ⟨by rw [List.length_set]; exact h.1, .inr ⟨g, cap, cur.setIfInBounds i v, rfl, hb, blk_set v hg, h1, h2, by simpa using h3, ?_⟩⟩⟩
    rw [← h4]
    simp [List.take_set]
theorem info_tmF : (Try.prog.info? 43).map (fun i => (i.zero, i.size, i.bytes)) = some (some (.agg #[.int .i64 0, .int .i64 0]), 2, 16) := by kernel_rfl
theorem stepsK_le (l : List Ch) (key val : Nat) : ∀ k, k ≤ (l.filter fun c => c.key == key).length → (stepsK l key val k).1.length ≤ k ∧ ((stepsK l key val k).2 = true → 0 < (stepsK l key val k).1.length)
  | 0, _ => by unfold stepsK; simp
  | k + 1, hk => by
    have ih := stepsK_le l key val k (by omega)
    rw [stepsK_succ (by omega)]
    unfold stepT
    constructor
    · simp only [List.length_append]
      have : (if (stepsK l key val k).2 = true then setTo (stepsK l key val k).1 ((nthC (l.filter fun c => c.key == key) k).stp - 1) else (stepsK l key val k).1).length = (stepsK l key val k).1.length := by split; exact setTo_len _ _; rfl
      rw [this]
      split <;> simp <;> omega
    · intro h
      simp only at h
      rw [if_pos h]
      simp
theorem rSteps_no (sp : Option Addr) (n cap : Nat) (l : List Ch) (key val : Nat) (w : World) (h : SlK w 4 sp n (chs l)) (hs : ∀ a, sp = some a → a.block < w.heap.size) (hn : n ≤ 4000) (hr : rightL l = false) :
    Calls Try.prog 18 #[.slice sp n cap, .int .u64 key, .int .u64 val] w fun e w' => e = .returned (.slice none 0 0) ∧ Below w.heap.size w w' := by
  have H0 := (Hs.nil w).new #[.int .u64 (key : Int)] 36
  obtain ⟨W0, hW0⟩ : ∃ W0, W0 = w.alloc (.cells #[.int .u64 (key : Int)] 36) := ⟨_, rfl⟩
  rw [← hW0] at H0
  have C := rcheck_any sp n cap l W0 (h.below H0.old) (fun a ha => by have := hs a ha; have := H0.old.size; omega) hn
  have e : chkE l = 380 := by unfold chkE; rw [if_neg (by rw [hr]; decide)]
  rw [e] at C
  have H0'h := Lib.hid H0
  have C'h := Lib.hid C
  have h'h := Lib.hid h
  have hs'h := Lib.hid hs
  have hr'h := Lib.hid hr
  have e'h := Lib.hid e
  clear H0 C h hs hr e
  go_enter Try.func18, Try.ntmps18
  go_upto_region 1 with fail
  rw [← hW0]
  clear hW0
  go_wp2_with (first | (go_at_call 12; refine C'h.out.mono ?_; rintro e w2 ⟨rfl, hb2⟩))
  go_ret
  exact ⟨rfl, (H0'h.out.next hb2).old⟩
set_option maxHeartbeats 4000000 in
theorem rSteps_yes (sp : Option Addr) (n cap : Nat) (l : List Ch) (key val : Nat) (w : World) (h : SlK w 4 sp n (chs l)) (hs : ∀ a, sp = some a → a.block < w.heap.size) (hn : n ≤ 4000) (hr : rightL l = true) (hok : ∀ c ∈ l, c.stp ≤ 9223372036854775807) :
    Calls Try.prog 18 #[.slice sp n cap, .int .u64 key, .int .u64 val] w fun e w' => ∃ sp' n' cap', e = .returned (.slice sp' n' cap') ∧ Below w.heap.size w w' ∧ w'.ownsRow w.heap.size 43 2 (.slice sp' n' cap') (stepsL l key val).length (tms (stepsL l key val)) := by
  obtain ⟨i0, hi, hz0, hz1, hz2⟩ := info_parts info_tmF
  have H0 := (Hs.nil w).new #[.int .u64 (key : Int)] 36
  obtain ⟨W0, hW0⟩ : ∃ W0, W0 = w.alloc (.cells #[.int .u64 (key : Int)] 36) := ⟨_, rfl⟩
  rw [← hW0] at H0
  have C := rcheck_any sp n cap l W0 (h.below H0.old) (fun a ha => by have := hs a ha; have := H0.old.size; omega) hn
  have e : chkE l = 0 := by unfold chkE; rw [if_pos hr]
  have eS : stepsL l key val = (stepsK l key val (l.filter fun c => c.key == key).length).1 := by unfold stepsL; rw [if_pos hr]
  rw [e] at C
  rw [eS]
  have hlen := chs_len h
  have hpos : ∀ c ∈ l, 0 < c.stp := fun c hc => by
    obtain ⟨i, hi, rfl⟩ := List.mem_iff_getElem.1 hc
    rw [nthC_eq hi]; exact right_pos hr hi
  have hfm : (l.filter fun c => c.key == key).length ≤ 4000 := Nat.le_trans (List.length_filter_le _ _) (by omega)
  have hfmem : ∀ c ∈ l.filter (fun c => c.key == key), 0 < c.stp ∧ c.stp ≤ 9223372036854775807 := fun c hc => ⟨hpos c (List.mem_filter.1 hc).1, hok c (List.mem_filter.1 hc).1⟩
  have hsucc := fun k (hk : k < (l.filter fun c => c.key == key).length) => stepsK_succ (l := l) (key := key) (val := val) hk
  have hkle := stepsK_le l key val
  have SI := fun W h hp => siftC_any sp n cap l w.heap.size key W h hp hn
  have hK0 : stepsK l key val 0 = ([], false) := rfl
  generalize l.filter (fun c => c.key == key) = cs at *
  generalize stepsK l key val = SK at *
  have H0'h := Lib.hid H0
  have C'h := Lib.hid C
  have h'h := Lib.hid h
  have hs'h := Lib.hid hs
  have hr'h := Lib.hid hr
  have e'h := Lib.hid e
  have eS'h := Lib.hid eS
  have hlen'h := Lib.hid hlen
  have hpos'h := Lib.hid hpos
  have hfmem'h := Lib.hid hfmem
  have hsucc'h := Lib.hid hsucc
  have hkle'h := Lib.hid hkle
  have SI'h := Lib.hid SI
  have hok'h := Lib.hid hok
  have hK0'h := Lib.hid hK0
  clear H0 C h hs hr e eS hlen hpos hfmem hsucc hkle SI hok hK0
  go_enter Try.func18, Try.ntmps18
  go_upto_region 1 with fail
  rw [← hW0]
  clear hW0
  go_upto_region 3 with (first | (go_at_call 12; refine C'h.out.mono ?_; rintro e w2 ⟨rfl, hb2⟩))
  have H2 := H0'h.out.next hb2
  have S2 := SI'h.out w2 (h'h.out.below H2.old) (blk_cell H2.rows.1 rfl)
  clear hb2 SI'h
  have H2'h := Lib.hid H2
  have S2'h := Lib.hid S2
  clear H2 S2
  go_upto_region 6 with (first | (go_at_call 48; refine S2'h.out.mono ?_; rintro e w3 ⟨sp3, n3, cap3, rfl, hb3, hrow3⟩; obtain rfl := row_len9 hrow3))
  have H3 := H2'h.out.next hb3
  have S3 : SlK w3 4 sp3 cs.length (chs cs) := SlK.of_row hrow3 (by unfold maxLen; omega)
  clear hb3 hrow3 H2'h
  have H3'h := Lib.hid H3
  have S3'h := Lib.hid S3
  clear H3 S3
  go_wp2
  go_loopg [7, 8, 18] cs.length (fun q v7 v8 i wr => ∃ k : Nat, k + q = cs.length ∧ i = .int .i64 k ∧ v8 = .bool (SK k).2 ∧ Below w3.heap.size w3 wr ∧ wr.ownsRow w3.heap.size 43 2 v7 (SK k).1.length (tms (SK k).1))
  case atStart => exact ⟨0, by omega, rfl, by rw [hK0'h.out], Below.refl _ _, by rw [hK0'h.out]; exact World.ownsRow_nil _ _ _ _⟩
  case round =>
    obtain ⟨k, hq, rfl, rfl, hB, hrow⟩ := hrel
    have hkle := hkle'h.out k (by omega)
    by_cases hlt : k < cs.length
    · obtain ⟨b, off, rfl⟩ := slk_some S3'h.out (by omega)
      obtain ⟨c0, c1, c2, c3⟩ := chs_cells (S3'h.out.below hB) hlt
      obtain ⟨z1, z2⟩ := hfmem'h.out _ (nthC_mem hlt)
      have hsk := hsucc'h.out k hlt
      obtain ⟨⟨out, op⟩, hSK⟩ : ∃ st, SK k = st := ⟨_, rfl⟩
      rw [hSK] at hrow hkle hsk
      unfold stepT at hsk
      dsimp only at hrow hkle hsk
      rw [hSK]
      have H7 := (Hs.nil wr).new (chA (nthC cs k)) 46
      unfold chA at H7
      generalize (nthC cs k).stp = y0 at *
      generalize (nthC cs k).key = y1 at *
      generalize (nthC cs k).has = y2 at *
      generalize (nthC cs k).val = y3 at *
      have hw0 : IntKind.i64.wrap (y0 - 1) = y0 - 1 := Go.IntWalk.i64_in _ (by omega)
      have hw64 : RowKit.wrap64 (y0 - 1) = y0 - 1 := (Go.IntWalk.i64_left _).symm.trans hw0
      have hi1 : (k : Int) < (cs.length : Int) := by omega
      have h0k : (0 : Int) ≤ (k : Int) := by omega
      have hol : out.length ≤ 4000 := by omega
      have hrow7 := ownsRow_next hrow (w' := wr.alloc (.cells #[.int .i64 y0, .int .u64 (y1 : Int), .bool y2, .int .u64 (y3 : Int)] 46)) ((Below.refl _ _).alloc (Nat.le_refl _) _)
      have hB7 : Below w3.heap.size w3 (wr.alloc (.cells #[.int .i64 y0, .int .u64 (y1 : Int), .bool y2, .int .u64 (y3 : Int)] 46)) := below_next hB ((Below.refl _ _).alloc (Nat.le_refl _) _)
      have hwz := hB.size
      clear z1 z2 hrow
      have hq'h := Lib.hid hq
      have hB'h := Lib.hid hB
      have hsk'h := Lib.hid hsk
      have hSK'h := Lib.hid hSK
      have hkle'h := Lib.hid hkle
      have H7'h := Lib.hid H7
      have hrow7'h := Lib.hid hrow7
      have hB7'h := Lib.hid hB7
      clear hq hB hsk hSK hkle H7 hrow7 hB7
      go_upto_region 8 with fail
      change Code.wp _ _ _ _ (wr.alloc (.cells #[.int .i64 y0, .int .u64 (y1 : Int), .bool y2, .int .u64 (y3 : Int)] 46))
      have H7 := H7'h.out
      have hrow7 := hrow7'h.out
      have hB7 := hB7'h.out
      clear c0 c1 c2 c3 H7'h hrow7'h hB7'h
      generalize wr.alloc _ = W7 at H7 hrow7 hB7 ⊢
      have q0 : W7.cell? ⟨wr.heap.size, 0, none⟩ = some (.int .i64 y0) := blk_cell H7.rows.1 rfl
      obtain ⟨cb, hcb⟩ : ∃ cb, cb = wr.heap.size := ⟨_, rfl⟩
      rw [← hcb] at H7 q0 ⊢
      clear hcb
      cases op with
      | true =>
        obtain ⟨sp7, cap7, rfl⟩ := row_slice' hrow7
        have hop := hkle'h.out.2 rfl
        obtain ⟨g7, rfl, hg1, hg2, hgc⟩ := row_cell hrow7 hop
        obtain ⟨L1, hL1⟩ : ∃ L1, out.length = L1 + 1 := ⟨out.length - 1, by omega⟩
        have hts := tms_set (y0 - 1) hop
        rw [show out.length - 1 = L1 by omega] at hts
        obtain ⟨u1, hu1⟩ : ∃ u, (tms out)[L1 * 2 + 1]? = some u := ⟨_, List.getElem?_eq_getElem (by rw [tms_length]; omega)⟩
        obtain ⟨q7, q7f, q7s⟩ := hgc _ _ hu1
        have hrow8 := q7s (.int .i64 (y0 - 1))
        rw [hts, ← setTo_len out (y0 - 1)] at hrow8
        have hgw : g7 ≠ cb := fun e => by
          rcases hrow7.2 with ⟨hv, _⟩ | ⟨g', cap', cur, hv, _, hg', _⟩
          · cases hv
          · cases hv
            rw [e] at hg'
            have := hg'.symm.trans H7.rows.1
            simp at this
        have hK8 : ∀ b, b ≠ g7 → (W7.setCell ⟨g7, L1 * 2 + 1, none⟩ (.int .i64 (y0 - 1))).heap[b]? = W7.heap[b]? := fun b hb => Below.heap_setCell _ ⟨g7, _, none⟩ _ _ hb
        have hB8 : Below w3.heap.size w3 (W7.setCell ⟨g7, L1 * 2 + 1, none⟩ (.int .i64 (y0 - 1))) := hB7.setCell (by exact hg1) _
        have h0L : (0 : Int) ≤ (L1 : Int) := by omega
        have hLL : (L1 : Int) < (L1 : Int) + 1 := by omega
        have hL4 : L1 ≤ 4000 := by omega
        have H8 : (W7.setCell ⟨g7, L1 * 2 + 1, none⟩ (.int .i64 (y0 - 1))).heap[cb]? = some (.cells #[.int .i64 y0, .int .u64 (y1 : Int), .bool y2, .int .u64 (y3 : Int)] 46 (0, 0)) := (hK8 cb (Ne.symm hgw)).trans H7.rows.1
        rw [if_pos rfl] at hsk'h
        have hol1 := setTo_len out (y0 - 1)
        obtain ⟨out1, ho1⟩ : ∃ out1, out1 = setTo out (y0 - 1) := ⟨_, rfl⟩
        rw [← ho1] at hsk'h hrow8 hol1
        rw [hL1]
        rw [hol1, hL1] at hrow8
        have hm : out1.length = L1 + 1 := hol1.trans hL1
        clear hol1
        clear hu1 hts hgc q7s ho1
        have hrow8'h := Lib.hid hrow8
        have hB8'h := Lib.hid hB8
        have hK8'h := Lib.hid hK8
        have H7'h := Lib.hid H7
        have hrow7'h := Lib.hid hrow7
        have hB7'h := Lib.hid hB7
        have H8'h := Lib.hid H8
        have hm'h := Lib.hid hm
        clear hrow8 hB8 hK8 H7 hrow7 hB7 H8 hm
        go_upto_region 10 with fail
        clear q7 q7f q0
        have hrow8 := hrow8'h.out
        have hB8 := hB8'h.out
        have H8 := H8'h.out
        clear hrow8'h hB8'h H8'h hK8'h H7'h hrow7'h hB7'h
        generalize World.setCell _ _ _ = W8 at hrow8 hB8 H8 ⊢
        have hm := hm'h.out
        clear hm'h
        obtain ⟨m, hme⟩ : ∃ m, m = L1 + 1 := ⟨_, rfl⟩
        have hol2 : m ≤ 4000 := by omega
        rw [← hme] at hrow8 hm ⊢
        obtain ⟨sp7, hsp7⟩ : ∃ sp7, sp7 = (some (⟨g7, 0, none⟩ : Addr)) := ⟨_, rfl⟩
        rw [← hsp7] at hrow8 ⊢
        clear hme hsp7
        have q0 : W8.cell? ⟨cb, 0, none⟩ = some (.int .i64 y0) := blk_cell H8 rfl
        have q2 : W8.cell? ⟨cb, 2, none⟩ = some (.bool y2) := blk_cell H8 rfl
        have q3 : W8.cell? ⟨cb, 3, none⟩ = some (.int .u64 (y3 : Int)) := blk_cell H8 rfl
        have hz8 := hB8.size
        cases y2 with
        | false =>
          have hrow8'h := Lib.hid hrow8
          have hB8'h := Lib.hid hB8
          have H8'h := Lib.hid H8
          have hm'h := Lib.hid hm
          clear hrow8 hB8 H8 hm
          go_wp2
          go_roundg (gk - 1)
          case measure => have := hq'h.out; omega
          case rel => exact ⟨k + 1, by have := hq'h.out; omega, by go_num, by rw [hsk'h.out]; rfl, hB8'h.out, by rw [hsk'h.out]; simp only [Bool.false_and, Bool.false_eq_true, if_false, List.append_nil]; rw [hm'h.out]; exact hrow8'h.out⟩
        | true =>
          by_cases hyv : y3 = val
          · subst hyv
            have hyy : ((y3 : Int) == (y3 : Int)) = true := by simp
            have hb12 : (true && y3 == y3) = true := by simp
            rw [hb12, if_pos rfl] at hsk'h
            have hone : ∀ u ∈ ([.int .i64 y0, .int .i64 (-1)] : List Value), u.oneCell' = true := by
              intro u hu
              simp at hu
              rcases hu with rfl | rfl <;> rfl
            have hsn : tms out1 ++ [.int .i64 y0, .int .i64 (-1)] = tms (out1 ++ [(y0, -1)]) := tms_snoc out1 (y0, -1)
            have hrow8'h := Lib.hid hrow8
            have hB8'h := Lib.hid hB8
            have H8'h := Lib.hid H8
            have hm'h := Lib.hid hm
            have hone'h := Lib.hid hone
            have hsn'h := Lib.hid hsn
            clear hrow8 hB8 H8 hm hone hsn
            go_wp2_with (at_builtin; refine wpList_append_slk _ rfl (.tmp 41) (.tmp 45) 39 rfl w3.heap.size 43 i0 _ 2 16 Try.underlying39 hi hz0 hz1 hz2 rfl (by decide) _ m _ rfl (ownsRow_next hrow8'h.out ((Below.refl _ _).alloc (Nat.le_refl _) _)) (some ⟨W8.heap.size, 0, none⟩) 1 1 _ rfl (SlK.of_blk (k := 2) (n := 1) (World.alloc_heap_new W8 (.cells #[.int .i64 y0, .int .i64 (-1)] 43)) rfl (by decide)) hone'h.out (by unfold maxLen; omega) (by omega) (by rw [World.size_alloc]; omega) ?_; intro v' w9 hown' hgrow hat)
            go_roundg (gk - 1)
            case measure => have := hq'h.out; omega
            case rel =>
              refine ⟨k + 1, by have := hq'h.out; omega, by go_num, by rw [hsk'h.out], (hB8'h.out.trans ((Below.refl _ _).alloc hz8 _)).grown hgrow (by rw [World.size_alloc]; omega) (fun j hj => (hrow8'h.out.lt j hj).1), ?_⟩
              rw [hsk'h.out]
              simp only [List.length_append, List.length_cons, List.length_nil, Nat.zero_add]
              rw [hm'h.out, ← hsn'h.out]; exact hown'
          · have hyy : ((y3 : Int) == (val : Int)) = false := by simp; omega
            have hb12 : (true && y3 == val) = false := by simp [hyv]
            rw [hb12, if_neg (by decide), List.append_nil] at hsk'h
            clear hyv
            have hrow8'h := Lib.hid hrow8
            have hB8'h := Lib.hid hB8
            have H8'h := Lib.hid H8
            have hm'h := Lib.hid hm
            clear hrow8 hB8 H8 hm
            go_wp2
            go_roundg (gk - 1)
            case measure => have := hq'h.out; omega
            case rel => exact ⟨k + 1, by have := hq'h.out; omega, by go_num, by rw [hsk'h.out], hB8'h.out, by rw [hsk'h.out]; simp only; rw [hm'h.out]; exact hrow8'h.out⟩
      | false =>
        have hrow8 := hrow7
        have hB8 := hB7
        have H8 := H7.rows.1
        rw [if_neg (by decide)] at hsk'h
        obtain ⟨sp7, cap7, rfl⟩ := row_slice' hrow7
        obtain ⟨m, hm⟩ : ∃ m, out.length = m := ⟨_, rfl⟩
        have hol2 : m ≤ 4000 := by omega
        rw [hm] at hrow8 ⊢
        obtain ⟨out1, ho1⟩ : ∃ out1, out1 = out := ⟨_, rfl⟩
        rw [← ho1] at hrow8 hm hsk'h
        obtain ⟨W8, hW8⟩ : ∃ W8, W8 = W7 := ⟨_, rfl⟩
        rw [← hW8] at hrow8 hB8 H8 ⊢
        clear hrow7 hB7 H7 hW8 ho1 q0 hol
        have hrow8'h := Lib.hid hrow8
        have hB8'h := Lib.hid hB8
        have H8'h := Lib.hid H8
        have hm'h := Lib.hid hm
        clear hrow8 hB8 H8 hm
        go_upto_region 10 with fail
        have hrow8 := hrow8'h.out
        have hB8 := hB8'h.out
        have H8 := H8'h.out
        have hm := hm'h.out
        clear hrow8'h hB8'h H8'h hm'h
        have q0 : W8.cell? ⟨cb, 0, none⟩ = some (.int .i64 y0) := blk_cell H8 rfl
        have q2 : W8.cell? ⟨cb, 2, none⟩ = some (.bool y2) := blk_cell H8 rfl
        have q3 : W8.cell? ⟨cb, 3, none⟩ = some (.int .u64 (y3 : Int)) := blk_cell H8 rfl
        have hz8 := hB8.size
        cases y2 with
        | false =>
          have hrow8'h := Lib.hid hrow8
          have hB8'h := Lib.hid hB8
          have H8'h := Lib.hid H8
          have hm'h := Lib.hid hm
          clear hrow8 hB8 H8 hm
          go_wp2
          go_roundg (gk - 1)
          case measure => have := hq'h.out; omega
          case rel => exact ⟨k + 1, by have := hq'h.out; omega, by go_num, by rw [hsk'h.out]; rfl, hB8'h.out, by rw [hsk'h.out]; simp only [Bool.false_and, Bool.false_eq_true, if_false, List.append_nil]; rw [hm'h.out]; exact hrow8'h.out⟩
        | true =>
          by_cases hyv : y3 = val
          · subst hyv
            have hyy : ((y3 : Int) == (y3 : Int)) = true := by simp
            have hb12 : (true && y3 == y3) = true := by simp
            rw [hb12, if_pos rfl] at hsk'h
            have hone : ∀ u ∈ ([.int .i64 y0, .int .i64 (-1)] : List Value), u.oneCell' = true := by
              intro u hu
              simp at hu
              rcases hu with rfl | rfl <;> rfl
            have hsn : tms out1 ++ [.int .i64 y0, .int .i64 (-1)] = tms (out1 ++ [(y0, -1)]) := tms_snoc out1 (y0, -1)
            have hrow8'h := Lib.hid hrow8
            have hB8'h := Lib.hid hB8
            have H8'h := Lib.hid H8
            have hm'h := Lib.hid hm
            have hone'h := Lib.hid hone
            have hsn'h := Lib.hid hsn
            clear hrow8 hB8 H8 hm hone hsn
            go_wp2_with (at_builtin; refine wpList_append_slk _ rfl (.tmp 41) (.tmp 45) 39 rfl w3.heap.size 43 i0 _ 2 16 Try.underlying39 hi hz0 hz1 hz2 rfl (by decide) _ m _ rfl (ownsRow_next hrow8'h.out ((Below.refl _ _).alloc (Nat.le_refl _) _)) (some ⟨W8.heap.size, 0, none⟩) 1 1 _ rfl (SlK.of_blk (k := 2) (n := 1) (World.alloc_heap_new W8 (.cells #[.int .i64 y0, .int .i64 (-1)] 43)) rfl (by decide)) hone'h.out (by unfold maxLen; omega) (by omega) (by rw [World.size_alloc]; omega) ?_; intro v' w9 hown' hgrow hat)
            go_roundg (gk - 1)
            case measure => have := hq'h.out; omega
            case rel =>
              refine ⟨k + 1, by have := hq'h.out; omega, by go_num, by rw [hsk'h.out], (hB8'h.out.trans ((Below.refl _ _).alloc hz8 _)).grown hgrow (by rw [World.size_alloc]; omega) (fun j hj => (hrow8'h.out.lt j hj).1), ?_⟩
              rw [hsk'h.out]
              simp only [List.length_append, List.length_cons, List.length_nil, Nat.zero_add]
              rw [hm'h.out, ← hsn'h.out]; exact hown'
          · have hyy : ((y3 : Int) == (val : Int)) = false := by simp; omega
            have hb12 : (true && y3 == val) = false := by simp [hyv]
            rw [hb12, if_neg (by decide), List.append_nil] at hsk'h
            clear hyv
            have hrow8'h := Lib.hid hrow8
            have hB8'h := Lib.hid hB8
            have H8'h := Lib.hid H8
            have hm'h := Lib.hid hm
            clear hrow8 hB8 H8 hm
            go_wp2
            go_roundg (gk - 1)
            case measure => have := hq'h.out; omega
            case rel => exact ⟨k + 1, by have := hq'h.out; omega, by go_num, by rw [hsk'h.out], hB8'h.out, by rw [hsk'h.out]; simp only; rw [hm'h.out]; exact hrow8'h.out⟩
    · have hkn : k = cs.length := by omega
      rw [hkn] at hrow
      obtain ⟨sp', cap', rfl⟩ := row_slice' hrow
      have hi1 : ¬ (k : Int) < (cs.length : Int) := by omega
      clear hlt hkle hkn
      have hq'h := Lib.hid hq
      have hB'h := Lib.hid hB
      have hrow'h := Lib.hid hrow
      clear hq hB hrow
      go_wp2
      go_ret
      exact ⟨sp', _, cap', rfl, below_next H3'h.out.old hB'h.out, ownsRow_mono hrow'h.out H3'h.out.old.size⟩
end Go.Proofs.Ythfeiiibedmkiaa

/-
  The values that a key has in a time.
-/
set_option linter.unusedSimpArgs false
set_option linter.unusedVariables false
set_option maxRecDepth 100000
namespace Go.Proofs.Ythfeiiibedmkiaa
open Go.RowKit

theorem info_u64V : (Try.prog.info? 36).map (fun i => (i.zero, i.size, i.bytes)) = some (some (.int .u64 0), 1, 8) := by kernel_rfl
theorem row_keep {w w' : World} {base : Nat} {e : TypeId} {size : Nat} {v : Value} {n : Nat} {xs : List Value} (h : w.ownsRow base e size v n xs) (hh : ∀ j, v.ownBlock = some j → w'.heap[j]? = w.heap[j]?) : w'.ownsRow base e size v n xs := by
  obtain ⟨h1, h2⟩ := h
  refine ⟨h1, h2.imp id ?_⟩
  rintro ⟨g, cap, cur, hv, hg, hh1, r⟩
  exact ⟨g, cap, cur, hv, hg, (hh g (by rw [hv]; rfl)).trans hh1, r⟩
def lastN (out : List Nat) : Nat := out.getLastD 0
def stepV (st : List Nat × Bool) (g : Option Nat) : List Nat × Bool :=
  (st.1 ++ (if (g.isSome && (!st.2 || (decide (st.1.length = 0) || decide (lastN st.1 ≠ g.getD 0)))) = true then [g.getD 0] else []), g.isSome)
def valsK (l : List Ch) (k0 key : Nat) : Nat → List Nat × Bool
  | 0 => ([], false)
  | k + 1 => stepV (valsK l k0 key k) (getS (mapL l (k0 + k)) key)
def valsL (l : List Ch) (key : Nat) (f t : Int) : List Nat := if failE l f t = 0 then (valsK l (cntL l f) key (numT l f t)).1 else []
theorem valsK_le (l : List Ch) (k0 key : Nat) : ∀ k, (valsK l k0 key k).1.length ≤ k
  | 0 => Nat.le_refl _
  | k + 1 => by have := valsK_le l k0 key k; rw [valsK]; unfold stepV; simp only [List.length_append]; split <;> simp <;> omega
theorem vals1_any (b7 : Nat) (sp : Option Addr) (n cap : Nat) (out : List Nat) (w : World) (hc : w.cell? ⟨b7, 0, none⟩ = some (.slice sp n cap)) (h : Sl w sp n (u64s out)) (hn : n ≤ 9000) :
    Calls Try.prog 59 #[.pointer (some ⟨b7, 0, none⟩)] w fun e w' => e = .returned (.tuple #[.int .u64 (lastN out), .bool (decide (0 < out.length))]) ∧ w' = w := by
  have hlen : n = out.length := by have := h.1; rw [u64s_length] at this; omega
  by_cases h0 : 0 < n
  · obtain ⟨b, off, rfl, hcs⟩ := h.some' h0
    obtain ⟨m, rfl⟩ : ∃ m, n = m + 1 := ⟨n - 1, by omega⟩
    have hlast : nthN out m = lastN out := by
      unfold lastN
      have e : out.length - 1 = m := by omega
      rw [← nthN_eq (by omega), List.getLastD_eq_getLast?, List.getLast?_eq_getElem?, e, List.getElem?_eq_getElem (by omega)]; rfl
    have c1 := hcs m _ (u64s_at (by omega))
    rw [hlast] at c1
    have hp : decide (0 < out.length) = true := by rw [← hlen]; simp
    rw [hp]
    have z1 : (0 : Int) < (m : Int) + 1 := by omega
    have z2 : (0 : Int) ≤ (m : Int) := by omega
    have z3 : (m : Int) < (m : Int) + 1 := by omega
    generalize lastN out = x at *
    clear hcs hlast
    have h'h := Lib.hid h
    have hlen'h := Lib.hid hlen
    have hp'h := Lib.hid hp
    clear h hlen hp
    go_enter Try.func59, Try.ntmps59
    go_wp2
    go_ret2
    exact ⟨rfl, rfl⟩
  · obtain rfl : n = 0 := by omega
    have ho : out = [] := List.eq_nil_of_length_eq_zero hlen.symm
    subst ho
    have h'h := Lib.hid h
    have hlen'h := Lib.hid hlen
    clear h hlen
    go_enter Try.func59, Try.ntmps59
    go_wp2
    go_ret2
    exact ⟨rfl, rfl⟩
def ValI (w : World) (RO : Nat → Prop) (B b7 b8 b9 : Nat) (l : List Ch) (k0 key : Nat) (f t : Int) (vs : Vs) (S : Nat → Prop) (W : World) : Prop :=
  ∃ x : Value, HsS w RO B [(b9, #[.bool (valsK l k0 key vs.length).2], 4), (b8, #[.func (.func 59) #[] #[.pointer (some ⟨b7, 0, none⟩)]], 102), (b7, #[x], 57), (w.heap.size + 1, tmA f t, 43), (w.heap.size, #[.int .u64 (key : Int)], 36)] S W ∧
    OwnR B 36 1 x (valsK l k0 key vs.length).1.length (u64s (valsK l k0 key vs.length).1) S W
theorem ValI.stable (w : World) (RO : Nat → Prop) (B b7 b8 b9 : Nat) (l : List Ch) (k0 key : Nat) (f t : Int) (vs : Vs) : Stable (ValI w RO B b7 b8 b9 l k0 key f t vs) := by
  rintro S S' W W' ⟨x, h1, h2⟩ hf
  exact ⟨x, HsS.stable _ _ _ _ _ _ _ _ h1 hf, OwnR.stable _ _ _ _ _ _ _ _ _ _ h2 hf⟩
theorem rValues_no (sp : Option Addr) (n cap : Nat) (l : List Ch) (key : Nat) (f t : Int) (w : World) (h : SlK w 4 sp n (chs l)) (hs : ∀ a, sp = some a → a.block < w.heap.size) (hn : n ≤ 4000) (hf : failE l f t ≠ 0) :
    Calls Try.prog 30 #[.slice sp n cap, .int .u64 key, .agg (tmA f t)] w fun e w' => e = .returned (.slice none 0 0) ∧ Below w.heap.size w w' := by
  have H0 := (Hs.nil w).new2 #[.int .u64 (key : Int)] (tmA f t) 36 43
  obtain ⟨W0, hW0⟩ : ∃ W0, W0 = (w.alloc (.cells #[.int .u64 (key : Int)] 36)).alloc (.cells (tmA f t) 43) := ⟨_, rfl⟩
  rw [← hW0] at H0
  have F := rfails_any sp n cap l f t W0 (h.below H0.old) (fun a ha => by have := hs a ha; have := H0.old.size; omega) hn
  have hz : ((failE l f t : Int) != 0) = true := by simp; omega
  generalize failE l f t = z at *
  have H0'h := Lib.hid H0
  have F'h := Lib.hid F
  have h'h := Lib.hid h
  have hs'h := Lib.hid hs
  clear H0 F h hs
  refine (callsIn_wide (n := 0)).1 ?_
  refine callsIn_of_wp_marks Try.func30 rfl trivial ?_
  simp only [Try.ntmps30, List.size_toArray, List.length_cons, List.length_nil, Nat.reduceAdd, Nat.reduceSub, Array.replicate_succ, Array.replicate_zero, List.push_toArray, List.append_toArray, List.nil_append, List.cons_append]
  refine wpIn_wide.2 ?_
  go_upto_region 1 with fail
  rw [← hW0]
  clear hW0
  go_wp2_with (first | guard_target = wpList _ _ _ (Oper.mk _ (.load _ (.tmp 5)) _ _ _ _ :: _) _ _; refine wpList_load_row rfl 43 (.tmp 5) rfl (w.heap.size + 1) rfl 43 (tmA f t) (0, 0) _ H0'h.out.rows.1 Try.underlying43 rfl info_tm ?_ | (go_at_call 45; refine F'h.out.mono ?_; rintro e w2 ⟨rfl, hb2⟩))
  exact post_plain (.inl rfl) (results_tmp rfl _ _ _) ⟨rfl, (H0'h.out.next hb2).old⟩
set_option maxHeartbeats 4000000 in
theorem rValues_yes (sp : Option Addr) (n cap : Nat) (l : List Ch) (key : Nat) (f t : Int) (w : World) (h : SlK w 4 sp n (chs l)) (hs : ∀ a, sp = some a → a.block < w.heap.size) (hn : n ≤ 4000) (hnl : sp = none → cap = 0) (hle : n ≤ cap) (hf : failE l f t = 0) :
    Calls Try.prog 30 #[.slice sp n cap, .int .u64 key, .agg (tmA f t)] w fun e w' => ∃ sp' n' cap', e = .returned (.slice sp' n' cap') ∧ Below w.heap.size w w' ∧ w'.ownsRow w.heap.size 36 1 (.slice sp' n' cap') (valsL l key f t).length (u64s (valsL l key f t)) := by
  have hvl : valsL l key f t = (valsK l (cntL l f) key (numT l f t)).1 := by unfold valsL; rw [if_pos hf]
  rw [hvl]
  obtain ⟨hr, hft⟩ := fail_zero hf
  have H0 := (Hs.nil w).new2 #[.int .u64 (key : Int)] (tmA f t) 36 43
  obtain ⟨W0, hW0⟩ : ∃ W0, W0 = (w.alloc (.cells #[.int .u64 (key : Int)] 36)).alloc (.cells (tmA f t) 43) := ⟨_, rfl⟩
  rw [← hW0] at H0
  have F := rfails_any sp n cap l f t W0 (h.below H0.old) (fun a ha => by have := hs a ha; have := H0.old.size; omega) hn
  rw [hf] at F
  have hlen := chs_len h
  have H0'h := Lib.hid H0
  have F'h := Lib.hid F
  have h'h := Lib.hid h
  have hs'h := Lib.hid hs
  have hr'h := Lib.hid hr
  have hft'h := Lib.hid hft
  have hnl'h := Lib.hid hnl
  have hlen'h := Lib.hid hlen
  have hvl'h := Lib.hid hvl
  clear H0 F h hs hr hft hnl hlen hvl
  refine (callsIn_wide (n := 0)).1 ?_
  refine callsIn_of_wp_marks Try.func30 rfl trivial ?_
  simp only [Try.ntmps30, List.size_toArray, List.length_cons, List.length_nil, Nat.reduceAdd, Nat.reduceSub, Array.replicate_succ, Array.replicate_zero, List.push_toArray, List.append_toArray, List.nil_append, List.cons_append]
  refine wpIn_wide.2 ?_
  go_upto_region 1 with fail
  rw [← hW0]
  clear hW0
  go_upto_region 3 with (first | guard_target = wpList _ _ _ (Oper.mk _ (.load _ (.tmp 5)) _ _ _ _ :: _) _ _; refine wpList_load_row rfl 43 (.tmp 5) rfl (w.heap.size + 1) rfl 43 (tmA f t) (0, 0) _ H0'h.out.rows.1 Try.underlying43 rfl info_tm ?_ | (go_at_call 45; refine F'h.out.mono ?_; rintro e w2 ⟨rfl, hb2⟩))
  have H3 := ((H0'h.out.next hb2).new2 #[.slice none 0 0] #[.func (.func 59) #[] #[.pointer (some ⟨w2.heap.size, 0, none⟩)]] 57 102).new #[.bool false] 4
  obtain ⟨W3, hW3⟩ : ∃ W3, W3 = ((w2.alloc (.cells #[.slice none 0 0] 57)).alloc (.cells #[.func (.func 59) #[] #[.pointer (some ⟨w2.heap.size, 0, none⟩)]] 102)).alloc (.cells #[.bool false] 4) := ⟨_, rfl⟩
  rw [← hW3] at H3
  simp only [World.size_alloc] at H3
  have H3'h := Lib.hid H3
  clear H3
  go_upto_region 6 with fail
  rw [← hW3]
  clear hW3 hb2
  generalize w2.heap.size = b7 at *
  have M := rmaps_any sp n cap f t W3
  obtain ⟨W5, hW5⟩ : ∃ W5, W5 = (W3.alloc (.cells #[.slice sp n cap] 22)).alloc (.cells (tmA f t) 43) := ⟨_, rfl⟩
  rw [← hW5] at M
  have M'h := Lib.hid M
  have hW5'h := Lib.hid hW5
  clear M hW5
  go_wp2_with (first | guard_target = wpList _ _ _ (Oper.mk _ (.load _ (.tmp 5)) _ _ _ _ :: _) _ _; refine wpList_load_row rfl 43 (.tmp 5) rfl (w.heap.size + 1) rfl 43 (tmA f t) (0, 0) _ H3'h.out.rows.2.2.2.1 Try.underlying43 rfl info_tm ?_ | (go_at_call 46; refine M'h.out.mono ?_; rintro e w5 ⟨rfl, rfl⟩))
  obtain ⟨hR5, hb5⟩ := mapsR_new (l := l) (f := f) (t := t) hW5'h.out (h'h.out.below H3'h.out.old)
  have it := maps_it W3.heap.size (W3.heap.size + 1) sp n cap l f t w5 hR5 hr'h.out hft'h.out hn hnl'h.out hle
  have hS5 := HsS.first (n := n) H3'h.out hb5 hs'h.out
  have hRl := hR5.lt
  generalize mapsRO W3.heap.size (W3.heap.size + 1) sp n = RO at it hS5 hRl
  have hI0 : ValI w RO w5.heap.size b7 (b7 + 1) (b7 + 1 + 1) l (cntL l f) key f t [] (fun _ => False) w5 := ⟨.slice none 0 0, hS5, ⟨World.ownsRow_nil _ _ _ _, fun k hk => by cases hk⟩⟩
  obtain ⟨i0, hi, hz0, hz1, hz2⟩ := info_parts info_u64V
  have it'h := Lib.hid it
  have hS5'h := Lib.hid hS5
  have hRl'h := Lib.hid hRl
  have hI0'h := Lib.hid hI0
  have hR5'h := Lib.hid hR5
  have hb5'h := Lib.hid hb5
  clear it hS5 hRl hI0 hR5 hb5
  refine (wpIn_wide (n := 0)).1 ?_
  refine' wpIn_rangeH rfl (fun h => by cases h) rfl trivial enters_maps it'h.out (MapsY.keeps _ _ _) (fun b h => h.elim) (fun vs v S W hy => hy.size) (fun b hb => ⟨hRl'h.out b hb, fun h => h⟩)
    (ValI w RO w5.heap.size b7 (b7 + 1) (b7 + 1 + 1) l (cntL l f) key f t) noXm (ValI.stable _ _ _ _ _ _ _ _ _ _ _) noXm_stable hI0'h.out
    (MapA (fun bx v => { tmps := #[.slice sp n cap, .int .u64 (key : Int), .agg (tmA f t), undef, .pointer (some ⟨w.heap.size, 0, none⟩), .pointer (some ⟨w.heap.size + 1, 0, none⟩), .slice none 0 0, .pointer (some ⟨b7, 0, none⟩), .pointer (some ⟨b7 + 1, 0, none⟩), .pointer (some ⟨b7 + 1 + 1, 0, none⟩), .pointer (some ⟨bx, 0, none⟩), undef, undef, undef, undef, .slice sp n cap, .agg (tmA f t), .int .i64 0, .bool false, .func (.func 59) #[] #[.pointer (some ⟨b7, 0, none⟩)], .slice sp n cap, .agg (tmA f t), .func (.func 67) #[] #[.pointer (some ⟨W3.heap.size, 0, none⟩), .pointer (some ⟨W3.heap.size + 1, 0, none⟩)], v, undef, undef, undef, undef, undef, undef, undef, undef, undef, undef, undef, undef, undef, undef, undef, undef, undef, undef, undef, undef, undef, undef, undef, undef, undef, undef, undef, undef, undef, undef, undef], defers := [] }) (ValI w RO w5.heap.size b7 (b7 + 1) (b7 + 1 + 1) l (cntL l f) key f t)) (MapA.stable (ValI.stable _ _ _ _ _ _ _ _ _ _ _)) ?assign ?body ?done (by intro _ _ _ _ _ _ _ _ _ _ _ _ h; exact h.elim)
  case assign =>
    intro ly vs v S S1 W hk hl hs1 hro hSb hY hI
    obtain ⟨sp', n', cap', rfl, hS', hc', hle', hbS⟩ := hY.last
    have hbw : Below W.heap.size W (W.alloc (.cells #[.slice sp' n' cap'] 31)) := (Below.refl _ _).alloc (Nat.le_refl _) _
    have hns : ¬ S W.heap.size := fun h => by have := hSb _ h; omega
    have hY'h := Lib.hid hY
    have hI'h := Lib.hid hI
    have hro'h := Lib.hid hro
    have hSb'h := Lib.hid hSb
    have hS''h := Lib.hid hS'
    have hbS'h := Lib.hid hbS
    have hbw'h := Lib.hid hbw
    have hns'h := Lib.hid hns
    have hc''h := Lib.hid hc'
    clear hY hI hro hSb hS' hbS hbw hns hc'
    gi_wp2
    exact ⟨⟨ValI.stable _ _ _ _ _ _ _ _ _ _ _ _ _ _ _ _ hI'h.out (Foreign.of_below hbw'h.out), W.heap.size, sp', n', cap', rfl, rfl, World.alloc_heap_new _ _, hns'h.out⟩, Kept.of_below hbw'h.out⟩
  case body =>
    rintro ly vs v S S1 a₁ W r hk hl hs1 hlr hro hSb hY ⟨hI, bx, sp', n', cap', rfl, rfl, hbx, hbs⟩
    obtain ⟨sp2, n2, cap2, he2, hSl, hcc, hlen, hbS⟩ := hY.last
    simp only [Array.mk.injEq, List.cons.injEq, Value.agg.injEq, Value.slice.injEq, and_true] at he2
    obtain ⟨rfl, rfl, rfl⟩ := he2
    have q0 : W.cell? ⟨bx, 0, none⟩ = some (.slice sp' n' cap') := blk_cell hbx rfl
    clear hlr hs1 hl
    have hY'h := Lib.hid hY
    have hbx'h := Lib.hid hbx
    have hro'h := Lib.hid hro
    have hbS'h := Lib.hid hbS
    have hcc'h := Lib.hid hcc
    clear hY hbx hro hbS hcc
    have hcl := cntL_le l t
    have hkN : cntL l f + vs.length ≤ n := by have := hlen'h.out; have := cntL_le l f; omega
    have hn2 : n' ≤ 4096 := by have h1 := prs_len hSl; have h2 := len_mapL l (cntL l f + vs.length); omega
    have G := fun W' h => mGet_yes sp' n' cap' (mapL l (cntL l f + vs.length)) key W' h (up_mapL l _) hn2
    have hst : valsK l (cntL l f) key (vs.length + 1) = stepV (valsK l (cntL l f) key vs.length) (getS (mapL l (cntL l f + vs.length)) key) := rfl
    have hvle := valsK_le l (cntL l f) key vs.length
    have hhas : hasP (mapL l (cntL l f + vs.length)) key = (getS (mapL l (cntL l f + vs.length)) key).isSome := rfl
    obtain ⟨x, hH, hRow⟩ := hI
    have q4 : W.cell? ⟨w.heap.size, 0, none⟩ = some (.int .u64 (key : Int)) := blk_cell hH.hs.rows.2.2.2.2.1 rfl
    have K0 := hH.start hSb hRl'h.out
    obtain ⟨⟨out, had⟩, hvk⟩ : ∃ st, valsK l (cntL l f) key vs.length = st := ⟨_, rfl⟩
    rw [hvk] at hH hRow K0 hst hvle
    unfold stepV at hst
    dsimp only at hH hRow K0 hst hvle
    rw [hhas] at G
    generalize getS (mapL l (cntL l f + vs.length)) key = g at G hst
    generalize g.getD 0 = gv at G hst
    generalize g.isSome = has at G hst
    obtain ⟨s7, c7, rfl⟩ := row_slice' hRow.row
    have hvs9 : out.length ≤ 4000 := by omega
    clear hhas hcl hkN hn2 hk hvk
    have hH'h := Lib.hid hH
    have hRow'h := Lib.hid hRow
    have K0'h := Lib.hid K0
    have G'h := Lib.hid G
    have hst'h := Lib.hid hst
    have hSl'h := Lib.hid hSl
    have hSb'h := Lib.hid hSb
    clear hH hRow K0 G hst hSl hSb
    gi_upto_region 9 with (first | (gi_at_call 28; refine (CallsIn.inRound _ (callsIn_wide.2 (G'h.out _ hSl'h.out))).mono ?_; rintro e w6 ⟨rfl, hb6⟩))
    have K1 := K0'h.out.next hb6
    have hRow1 := ownsRow_next hRow'h.out.row hb6
    have V1 := vals1_any b7 s7 out.length c7 out w6 (blk_cell K1.hs.rows.2.2.1 rfl) (Sl.of_row hRow1 (by unfold maxLen; omega)) (by omega)
    have p8 : w6.cell? ⟨b7 + 1, 0, none⟩ = some (.func (.func 59) #[] #[.pointer (some ⟨b7, 0, none⟩)]) := blk_cell K1.hs.rows.2.1 rfl
    have p7 : w6.cell? ⟨b7, 0, none⟩ = some (.slice s7 out.length c7) := blk_cell K1.hs.rows.2.2.1 rfl
    have p9 : w6.cell? ⟨b7 + 1 + 1, 0, none⟩ = some (.bool had) := blk_cell K1.hs.rows.1 rfl
    have p9f := blk_free 0 K1.hs.rows.1
    have hbz := hb6.size
    clear q0 q4 hb6
    generalize lastN out = lst at V1 hst'h
    have hl0 : decide (0 < out.length) = !decide (out.length = 0) := by by_cases h : out.length = 0 <;> simp [h]; omega
    rw [hl0] at V1
    generalize decide (out.length = 0) = oz at V1 hst'h
    clear hl0
    have K1'h := Lib.hid K1
    have hRow1'h := Lib.hid hRow1
    have V1'h := Lib.hid V1
    clear K1 hRow1 V1
    gi_upto_region 10 with (first | (gi_at_call 59; refine (CallsIn.inRound _ (callsIn_wide.2 V1'h.out)).mono ?_; rintro e w7 ⟨rfl, hw7⟩; obtain rfl := hw7.symm))
    have hb72 : b7 + 1 + 1 < w5.heap.size := by have h1 := H3'h.out.lt _ (List.mem_cons_self ..); have h2 := hb5'h.out.size; simp only at h1; omega
    have hw1 : w.heap.size + 1 < b7 := by have hd := H3'h.out.desc; simp at hd; omega
    have hrowc : ∀ k, (Value.slice s7 out.length c7).ownBlock = some k → w.heap.size ≤ k ∧ (∀ x ∈ [((b7 + 1 + 1, #[.bool had], 4) : Blk3), (b7 + 1, #[.func (.func 59) #[] #[.pointer (some ⟨b7, 0, none⟩)]], 102), (b7, #[.slice s7 out.length c7], 57), (w.heap.size + 1, tmA f t, 43), (w.heap.size, #[.int .u64 (key : Int)], 36)], x.1 ≠ k) ∧ ¬ (RO k ∨ S k) := fun k hk => by
      have h1 := hRow'h.out.lo k hk
      refine ⟨by omega, fun x hx => ?_, fun h => ?_⟩
      · simp at hx
        rcases hx with rfl | rfl | rfl | rfl | rfl <;> simp only <;> omega
      · rcases h with h | h
        · have := hRl'h.out k h; omega
        · exact hRow'h.out.mine k hk h
    have hwz : w5.heap.size ≤ w6.heap.size := Nat.le_trans hH'h.out.sz K1'h.out.kept.size
    have hvl : (vs ++ [#[Value.agg #[Value.slice sp' n' cap']]]).length = vs.length + 1 := by simp
    have hrowc'h := Lib.hid hrowc
    have hvl'h := Lib.hid hvl
    clear hrowc hvl
    cases has with
    | false =>
      simp only [Bool.false_and, Bool.false_eq_true, if_false, List.append_nil] at hst'h
      have K2 := K1'h.out.put 0 rfl 0 (.bool false)
      have K2'h := Lib.hid K2
      clear K2
      gi_wp2
      refine ⟨K2'h.out.kept, ?_⟩
      unfold ValI
      rw [hvl'h.out, hst'h.out]
      exact ⟨_, K2'h.out.back hH'h.out, ⟨ownsRow_setCell_below hRow1'h.out (by simp only; omega) _, hRow'h.out.mine⟩⟩
    | true =>
      cases had with
      | false =>
        simp only [Bool.true_and, Bool.not_false, Bool.true_or, if_true] at hst'h
        have hba : ∀ o, Below w6.heap.size w6 (w6.alloc o) := fun o => (Below.refl _ _).alloc (Nat.le_refl _) _
        have hba'h := Lib.hid hba
        clear hba
        gi_upto_region 12 with (gi_at_builtin; refine wpListIn_append _ rfl (.tmp 49) (.tmp 51) 57 rfl w5.heap.size 36 i0 (.int .u64 0) 1 8 Try.underlying57 hi hz0 hz1 hz2 rfl (by decide) _ out.length _ rfl (ownsRow_next hRow1'h.out (hba'h.out _)) ⟨w6.heap.size, 0, none⟩ 1 1 [.int .u64 (gv : Int)] rfl rfl (cell_one_new _ _ _) (by simp [Value.oneCell']) (by unfold maxLen; omega) (by omega) (by rw [World.size_alloc]; omega) (by decide) ?_; intro v9 w9 hown9 hgrow9 hat9; obtain ⟨s9, c9, rfl⟩ := row_slice' hown9; have K3 := (K1'h.out.next (hba'h.out _)).grown hgrow9 hrowc'h.out; have p7' : w9.cell? ⟨b7, 0, none⟩ = some (.slice s7 out.length c7) := blk_cell K3.hs.rows.2.2.1 rfl; have p7f := blk_free 0 K3.hs.rows.2.2.1; have K3'h := Lib.hid K3; clear K3)
        have K4 := K3'h.out.put 2 rfl 0 (.slice s9 (out.length + 1) c9)
        have hown10 := ownsRow_setCell_below hown9 (a := ⟨b7, 0, none⟩) (by simp only; omega) (.slice s9 (out.length + 1) c9)
        clear p7' p7f
        generalize World.setCell _ _ _ = W10 at K4 hown10 ⊢
        have p9' : W10.cell? ⟨b7 + 1 + 1, 0, none⟩ = some (.bool _) := blk_cell K4.hs.rows.1 rfl
        have p9f' := blk_free 0 K4.hs.rows.1
        have K5 := K4.put 0 rfl 0 (.bool true)
        have hown11 := ownsRow_setCell_below hown10 (a := ⟨b7 + 1 + 1, 0, none⟩) (by simp only; omega) (.bool true)
        clear p9 p9f p7 p8
        have K4'h := Lib.hid K4
        have K5'h := Lib.hid K5
        have hown11'h := Lib.hid hown11
        have hown10'h := Lib.hid hown10
        have hown9'h := Lib.hid hown9
        clear K4 K5 hown11 hown10 hown9
        gi_wp2
        refine ⟨K5'h.out.kept, ?_⟩
        unfold ValI
        rw [hvl'h.out, hst'h.out]
        refine ⟨_, K5'h.out.back hH'h.out, ?_⟩
        simp only
        rw [u64s_snoc, List.length_append]
        exact hRow'h.out.appended hown11'h.out hat9 (by rw [World.size_alloc]; have := K1'h.out.kept.size; omega) hSb'h.out
      | true =>
        cases oz with
        | true =>
          simp only [Bool.true_and, Bool.not_true, Bool.false_or, Bool.true_or, if_true] at hst'h
          have hba : ∀ o, Below w6.heap.size w6 (w6.alloc o) := fun o => (Below.refl _ _).alloc (Nat.le_refl _) _
          have hba'h := Lib.hid hba
          clear hba
          gi_upto_region 12 with (gi_at_builtin; refine wpListIn_append _ rfl (.tmp 49) (.tmp 51) 57 rfl w5.heap.size 36 i0 (.int .u64 0) 1 8 Try.underlying57 hi hz0 hz1 hz2 rfl (by decide) _ out.length _ rfl (ownsRow_next hRow1'h.out (hba'h.out _)) ⟨w6.heap.size, 0, none⟩ 1 1 [.int .u64 (gv : Int)] rfl rfl (cell_one_new _ _ _) (by simp [Value.oneCell']) (by unfold maxLen; omega) (by omega) (by rw [World.size_alloc]; omega) (by decide) ?_; intro v9 w9 hown9 hgrow9 hat9; obtain ⟨s9, c9, rfl⟩ := row_slice' hown9; have K3 := (K1'h.out.next (hba'h.out _)).grown hgrow9 hrowc'h.out; have p7' : w9.cell? ⟨b7, 0, none⟩ = some (.slice s7 out.length c7) := blk_cell K3.hs.rows.2.2.1 rfl; have p7f := blk_free 0 K3.hs.rows.2.2.1; have K3'h := Lib.hid K3; clear K3)
          have K4 := K3'h.out.put 2 rfl 0 (.slice s9 (out.length + 1) c9)
          have hown10 := ownsRow_setCell_below hown9 (a := ⟨b7, 0, none⟩) (by simp only; omega) (.slice s9 (out.length + 1) c9)
          clear p7' p7f
          generalize World.setCell _ _ _ = W10 at K4 hown10 ⊢
          have p9' : W10.cell? ⟨b7 + 1 + 1, 0, none⟩ = some (.bool _) := blk_cell K4.hs.rows.1 rfl
          have p9f' := blk_free 0 K4.hs.rows.1
          have K5 := K4.put 0 rfl 0 (.bool true)
          have hown11 := ownsRow_setCell_below hown10 (a := ⟨b7 + 1 + 1, 0, none⟩) (by simp only; omega) (.bool true)
          clear p9 p9f p7 p8
          have K4'h := Lib.hid K4
          have K5'h := Lib.hid K5
          have hown11'h := Lib.hid hown11
          have hown10'h := Lib.hid hown10
          have hown9'h := Lib.hid hown9
          clear K4 K5 hown11 hown10 hown9
          gi_wp2
          refine ⟨K5'h.out.kept, ?_⟩
          unfold ValI
          rw [hvl'h.out, hst'h.out]
          refine ⟨_, K5'h.out.back hH'h.out, ?_⟩
          simp only
          rw [u64s_snoc, List.length_append]
          exact hRow'h.out.appended hown11'h.out hat9 (by rw [World.size_alloc]; have := K1'h.out.kept.size; omega) hSb'h.out
        | false =>
          by_cases hlg : lst = gv
          · have hne : ((lst : Int) != (gv : Int)) = false := by rw [hlg]; simp
            have hde : decide (lst ≠ gv) = false := by simp [hlg]
            rw [hde] at hst'h
            simp only [Bool.true_and, Bool.not_true, Bool.false_or, Bool.or_false, Bool.false_eq_true, if_false, List.append_nil] at hst'h
            clear hlg hde
            have K2 := K1'h.out.put 0 rfl 0 (.bool true)
            have K2'h := Lib.hid K2
            clear K2
            gi_wp2
            refine ⟨K2'h.out.kept, ?_⟩
            unfold ValI
            rw [hvl'h.out, hst'h.out]
            exact ⟨_, K2'h.out.back hH'h.out, ⟨ownsRow_setCell_below hRow1'h.out (by simp only; omega) _, hRow'h.out.mine⟩⟩
          · have hne : ((lst : Int) != (gv : Int)) = true := by simp; omega
            have hde : decide (lst ≠ gv) = true := by simp [hlg]
            rw [hde] at hst'h
            simp only [Bool.true_and, Bool.not_true, Bool.false_or, Bool.or_true, if_true] at hst'h
            clear hlg hde
            have hba : ∀ o, Below w6.heap.size w6 (w6.alloc o) := fun o => (Below.refl _ _).alloc (Nat.le_refl _) _
            have hba'h := Lib.hid hba
            clear hba
            gi_upto_region 12 with (gi_at_builtin; refine wpListIn_append _ rfl (.tmp 49) (.tmp 51) 57 rfl w5.heap.size 36 i0 (.int .u64 0) 1 8 Try.underlying57 hi hz0 hz1 hz2 rfl (by decide) _ out.length _ rfl (ownsRow_next hRow1'h.out (hba'h.out _)) ⟨w6.heap.size, 0, none⟩ 1 1 [.int .u64 (gv : Int)] rfl rfl (cell_one_new _ _ _) (by simp [Value.oneCell']) (by unfold maxLen; omega) (by omega) (by rw [World.size_alloc]; omega) (by decide) ?_; intro v9 w9 hown9 hgrow9 hat9; obtain ⟨s9, c9, rfl⟩ := row_slice' hown9; have K3 := (K1'h.out.next (hba'h.out _)).grown hgrow9 hrowc'h.out; have p7' : w9.cell? ⟨b7, 0, none⟩ = some (.slice s7 out.length c7) := blk_cell K3.hs.rows.2.2.1 rfl; have p7f := blk_free 0 K3.hs.rows.2.2.1; have K3'h := Lib.hid K3; clear K3)
            have K4 := K3'h.out.put 2 rfl 0 (.slice s9 (out.length + 1) c9)
            have hown10 := ownsRow_setCell_below hown9 (a := ⟨b7, 0, none⟩) (by simp only; omega) (.slice s9 (out.length + 1) c9)
            clear p7' p7f
            generalize World.setCell _ _ _ = W10 at K4 hown10 ⊢
            have p9' : W10.cell? ⟨b7 + 1 + 1, 0, none⟩ = some (.bool _) := blk_cell K4.hs.rows.1 rfl
            have p9f' := blk_free 0 K4.hs.rows.1
            have K5 := K4.put 0 rfl 0 (.bool true)
            have hown11 := ownsRow_setCell_below hown10 (a := ⟨b7 + 1 + 1, 0, none⟩) (by simp only; omega) (.bool true)
            clear p9 p9f p7 p8
            have K4'h := Lib.hid K4
            have K5'h := Lib.hid K5
            have hown11'h := Lib.hid hown11
            have hown10'h := Lib.hid hown10
            have hown9'h := Lib.hid hown9
            clear K4 K5 hown11 hown10 hown9
            gi_wp2
            refine ⟨K5'h.out.kept, ?_⟩
            unfold ValI
            rw [hvl'h.out, hst'h.out]
            refine ⟨_, K5'h.out.back hH'h.out, ?_⟩
            simp only
            rw [u64s_snoc, List.length_append]
            exact hRow'h.out.appended hown11'h.out hat9 (by rw [World.size_alloc]; have := K1'h.out.kept.size; omega) hSb'h.out
  case done =>
    rintro D S S1 vs W hD hSD hro hs1 hS1D hvs hY ⟨x, hH, hRow⟩ hK
    rw [hvs] at hRow
    change OwnR w5.heap.size 36 1 x (valsK l (cntL l f) key (numT l f t)).1.length (u64s (valsK l (cntL l f) key (numT l f t)).1) S W at hRow
    obtain ⟨out, hout⟩ : ∃ out, out = (valsK l (cntL l f) key (numT l f t)).1 := ⟨_, rfl⟩
    rw [← hout] at hRow
    obtain ⟨s7, c7, rfl⟩ := row_slice' hRow.row
    have p7 : W.cell? ⟨b7, 0, none⟩ = some (.slice s7 out.length c7) := blk_cell hH.hs.rows.2.2.1 rfl
    clear hvs
    have hY'h := Lib.hid hY
    have hH'h := Lib.hid hH
    have hK'h := Lib.hid hK
    have hRow'h := Lib.hid hRow
    have hout'h := Lib.hid hout
    clear hY hH hK hRow hout
    go_wp2
    have hD2 : w.heap.size ≤ D := by have := hb5'h.out.size; have := H3'h.out.old.size; omega
    refine post_mark (W := W) (.inl rfl) hK'h.out (results_tmp rfl _ _ _) ⟨s7, _, c7, rfl, below_putObj hH'h.out.hs.old hD2 (.deferred none), ?_⟩
    rw [← hout'h.out]
    refine ownsRow_mono (row_keep hRow'h.out.row fun j hj => World.putObj_heap_other (fun e => hRow'h.out.mine j hj (e ▸ hSD))) ?_
    have := hb5'h.out.size; have := H3'h.out.old.size; omega
end Go.Proofs.Ythfeiiibedmkiaa

/-
  The keys that are there all the time.
-/
set_option linter.unusedSimpArgs false
set_option linter.unusedVariables false
set_option maxRecDepth 100000
namespace Go.Proofs.Ythfeiiibedmkiaa
open Go.RowKit

theorem prs_snocV (l : Ps) (p : Nat × Nat) : prs l ++ [.int .u64 (p.1 : Int), .int .u64 (p.2 : Int)] = prs (l ++ [p]) := by rw [prs_append]; rfl
theorem must1_any (bx : Nat) (sp : Option Addr) (n cap : Nat) (ps : Ps) (k v : Nat) (w : World) (hc : w.cell? ⟨bx, 0, none⟩ = some (.slice sp n cap)) (hS : SlK w 2 sp n (prs ps)) (hup : upB ps = true) (hn : n ≤ 4096) :
    Calls Try.prog 56 #[.agg #[.int .u64 (k : Int), .int .u64 (v : Int)], .pointer (some ⟨bx, 0, none⟩)] w fun e w' => e = .returned (.bool (hasP ps k)) ∧ Below w.heap.size w w' := by
  have H0 := (Hs.nil w).new #[.int .u64 (k : Int), .int .u64 (v : Int)] 38
  have hc0 : (w.alloc (.cells #[.int .u64 (k : Int), .int .u64 (v : Int)] 38)).cell? ⟨bx, 0, none⟩ = some (.slice sp n cap) := keep_alloc _ _ _ _ hc
  have G := mGet_yes sp n cap ps k _ (hS.below H0.old) hup hn
  have q0 : (w.alloc (.cells #[.int .u64 (k : Int), .int .u64 (v : Int)] 38)).cell? ⟨w.heap.size, 0, none⟩ = some (.int .u64 (k : Int)) := blk_cell H0.rows.1 rfl
  generalize (getS ps k).getD 0 = gv at G
  generalize hasP ps k = has at *
  clear hc
  have H0'h := Lib.hid H0
  have G'h := Lib.hid G
  have hS'h := Lib.hid hS
  clear H0 G hS
  go_enter Try.func56, Try.ntmps56
  go_upto_region 1 with fail
  change Code.wp _ _ _ _ (w.alloc (.cells #[.int .u64 (k : Int), .int .u64 (v : Int)] 38))
  generalize w.alloc _ = W at *
  go_wp2_with (first | (go_at_call 28; refine G'h.out.mono ?_; rintro e w2 ⟨rfl, hb2⟩))
  go_ret
  exact ⟨rfl, below_next H0'h.out.old hb2⟩
set_option maxHeartbeats 2000000 in
theorem siftP_any (sp : Option Addr) (n cap : Nat) (l : Ps) (bx n1 c1 : Nat) (s1 : Option Addr) (ps : Ps) (w : World) (h : SlK w 2 sp n (prs l)) (hp : w.cell? ⟨bx, 0, none⟩ = some (.slice s1 n1 c1)) (hS1 : SlK w 2 s1 n1 (prs ps)) (hup : upB ps = true) (hn1 : n1 ≤ 4096) (hn : n ≤ 4096) :
    Calls Try.prog 55 #[.slice sp n cap, .func (.func 56) #[] #[.pointer (some ⟨bx, 0, none⟩)]] w fun e w' => ∃ sp' n' cap', e = .returned (.slice sp' n' cap') ∧ Below w.heap.size w w' ∧ w'.ownsRow w.heap.size 38 2 (.slice sp' n' cap') (l.filter fun p => hasP ps p.1).length (prs (l.filter fun p => hasP ps p.1)) := by
  obtain ⟨i0, hi, hz0, hz1, hz2⟩ := info_parts info_pair
  have hlen := prs_len h
  have h'h := Lib.hid h
  have hp'h := Lib.hid hp
  have hlen'h := Lib.hid hlen
  have hS1'h := Lib.hid hS1
  have hup'h := Lib.hid hup
  clear h hp hlen hS1 hup
  go_enter Try.func55, Try.ntmps55
  go_wp2
  go_loopg [5, 10] n (fun q v i wr => ∃ k : Nat, k + q = n ∧ i = .int .i64 k ∧ Below w.heap.size w wr ∧ wr.ownsRow w.heap.size 38 2 v ((l.take k).filter fun p => hasP ps p.1).length (prs ((l.take k).filter fun p => hasP ps p.1)))
  case atStart => exact ⟨0, by omega, rfl, Below.refl _ _, World.ownsRow_nil _ _ _ _⟩
  case round =>
    obtain ⟨k, hq, rfl, hB, hrow⟩ := hrel
    have hfl : ((l.take k).filter fun p => hasP ps p.1).length ≤ k := Nat.le_trans (List.length_filter_le _ _) (by rw [List.length_take]; omega)
    by_cases hlt : k < n
    · have hkl : k < l.length := by have := hlen'h.out; omega
      obtain ⟨b, off, rfl⟩ := prs_some h'h.out (by omega)
      obtain ⟨d1, d2⟩ := prs_cells (h'h.out.below hB) hkl
      have htf := take_filter (p := fun p : Nat × Nat => hasP ps p.1) hkl
      rw [nthP_eq hkl] at htf
      have C := fun W hW hS => must1_any bx s1 n1 c1 ps (nthP l k).1 (nthP l k).2 W hW hS hup'h.out hn1
      have H7 := (Hs.nil wr).new #[.int .u64 ((nthP l k).1 : Int), .int .u64 ((nthP l k).2 : Int)] 38
      have hone : ∀ u ∈ ([.int .u64 ((nthP l k).1 : Int), .int .u64 ((nthP l k).2 : Int)] : List Value), u.oneCell' = true := by
        intro u hu
        simp at hu
        rcases hu with rfl | rfl <;> rfl
      cases hv : hasP ps (nthP l k).1 with
      | true =>
        rw [hv] at C
        rw [hv, if_pos rfl] at htf
        have hsn := prs_snocV ((l.take k).filter fun p => hasP ps p.1) (nthP l k)
        rw [← htf] at hsn
        have hlen2 : ((l.take (k + 1)).filter fun p => hasP ps p.1).length = ((l.take k).filter fun p => hasP ps p.1).length + 1 := by rw [htf]; simp
        obtain ⟨F2, hF2⟩ : ∃ F2, F2 = (l.take (k + 1)).filter (fun p => hasP ps p.1) := ⟨_, rfl⟩
        simp only [← hF2] at htf hsn hlen2
        have hF2'h := Lib.hid hF2
        clear hF2
        generalize (l.take k).filter (fun p => hasP ps p.1) = F1 at *
        generalize (nthP l k).1 = y0 at *
        generalize (nthP l k).2 = y1 at *
        have hi1 : (k : Int) < (n : Int) := by omega
        have h0k : (0 : Int) ≤ (k : Int) := by omega
        clear htf
        have hq'h := Lib.hid hq
        have hB'h := Lib.hid hB
        have hrow'h := Lib.hid hrow
        have C'h := Lib.hid C
        have H7'h := Lib.hid H7
        have hone'h := Lib.hid hone
        have hsn'h := Lib.hid hsn
        have hlen2'h := Lib.hid hlen2
        have hkl'h := Lib.hid hkl
        clear hq hB hrow C H7 hone hsn hlen2 hkl
        go_upto_region 5 with fail
        change Code.wp _ _ _ _ (wr.alloc (.cells #[.int .u64 (y0 : Int), .int .u64 (y1 : Int)] 38))
        have H7 := H7'h.out
        clear d1 d2 H7'h
        have hp7 : (wr.alloc (.cells #[.int .u64 (y0 : Int), .int .u64 (y1 : Int)] 38)).cell? ⟨bx, 0, none⟩ = some (.slice s1 n1 c1) := keep_alloc _ _ _ _ ((hB'h.out.cell (lt_of_cell hp'h.out)).trans hp'h.out)
        have hS7 : SlK (wr.alloc (.cells #[.int .u64 (y0 : Int), .int .u64 (y1 : Int)] 38)) 2 s1 n1 (prs ps) := (hS1'h.out.below hB'h.out).below ((Below.refl _ _).alloc (Nat.le_refl _) _)
        generalize wr.alloc _ = W7 at H7 hp7 hS7 ⊢
        have q0 : W7.cell? ⟨wr.heap.size, 0, none⟩ = some (.int .u64 (y0 : Int)) := blk_cell H7.rows.1 rfl
        have q1 : W7.cell? ⟨wr.heap.size, 1, none⟩ = some (.int .u64 (y1 : Int)) := blk_cell H7.rows.1 rfl
        have H7'h := Lib.hid H7
        have hp7'h := Lib.hid hp7
        have hS7'h := Lib.hid hS7
        clear H7 hp7 hS7
        go_upto_region 6 with (first | (go_at_call 56; refine (C'h.out _ hp7'h.out hS7'h.out).mono ?_; rintro e w8 ⟨rfl, hb8⟩))
        have H8 := H7'h.out.next hb8
        have hrow8 := ownsRow_next hrow'h.out H8.old
        clear q0 q1
        have q0 : w8.cell? ⟨wr.heap.size, 0, none⟩ = some (.int .u64 (y0 : Int)) := blk_cell H8.rows.1 rfl
        have q1 : w8.cell? ⟨wr.heap.size, 1, none⟩ = some (.int .u64 (y1 : Int)) := blk_cell H8.rows.1 rfl
        have hws : w.heap.size ≤ w8.heap.size := Nat.le_trans hB'h.out.size H8.old.size
        have H8'h := Lib.hid H8
        have hrow8'h := Lib.hid hrow8
        have hb8'h := Lib.hid hb8
        clear H8 hrow8 hb8
        go_wp2_with (at_builtin; refine wpList_append_slk _ rfl (.tmp 17) (.tmp 19) 24 rfl w.heap.size 38 i0 _ 2 16 Try.underlying24 hi hz0 hz1 hz2 rfl (by decide) _ F1.length _ rfl (ownsRow_next hrow8'h.out ((Below.refl _ _).alloc (Nat.le_refl _) _)) (some ⟨w8.heap.size, 0, none⟩) 1 1 _ rfl (SlK.of_blk (k := 2) (n := 1) (World.alloc_heap_new w8 (.cells #[.int .u64 (y0 : Int), .int .u64 (y1 : Int)] 38)) rfl (by decide)) hone'h.out (by unfold maxLen; omega) (by omega) (by rw [World.size_alloc]; omega) ?_; intro v' w9 hown' hgrow hat)
        go_roundg (gk - 1)
        case measure => have := hq'h.out; omega
        case rel =>
          refine ⟨k + 1, by have := hq'h.out; omega, by go_num, ((below_next hB'h.out H8'h.out.old).trans ((Below.refl _ _).alloc hws _)).grown hgrow (by rw [World.size_alloc]; omega) (fun j hj => (hrow8'h.out.lt j hj).1), ?_⟩
          rw [← hF2'h.out, hlen2'h.out, ← hsn'h.out]; exact hown'
      | false =>
        rw [hv] at C
        rw [hv, if_neg (by decide), List.append_nil] at htf
        obtain ⟨F2, hF2⟩ : ∃ F2, F2 = (l.take (k + 1)).filter (fun p => hasP ps p.1) := ⟨_, rfl⟩
        rw [← hF2] at htf
        have hF2'h := Lib.hid hF2
        clear hF2
        generalize (l.take k).filter (fun p => hasP ps p.1) = F1 at *
        subst htf
        generalize (nthP l k).1 = y0 at *
        generalize (nthP l k).2 = y1 at *
        have hi1 : (k : Int) < (n : Int) := by omega
        have h0k : (0 : Int) ≤ (k : Int) := by omega
        have hq'h := Lib.hid hq
        have hB'h := Lib.hid hB
        have hrow'h := Lib.hid hrow
        have C'h := Lib.hid C
        have H7'h := Lib.hid H7
        have hone'h := Lib.hid hone
        have hkl'h := Lib.hid hkl
        clear hq hB hrow C H7 hone hkl
        go_upto_region 5 with fail
        change Code.wp _ _ _ _ (wr.alloc (.cells #[.int .u64 (y0 : Int), .int .u64 (y1 : Int)] 38))
        have H7 := H7'h.out
        clear d1 d2 H7'h
        have hp7 : (wr.alloc (.cells #[.int .u64 (y0 : Int), .int .u64 (y1 : Int)] 38)).cell? ⟨bx, 0, none⟩ = some (.slice s1 n1 c1) := keep_alloc _ _ _ _ ((hB'h.out.cell (lt_of_cell hp'h.out)).trans hp'h.out)
        have hS7 : SlK (wr.alloc (.cells #[.int .u64 (y0 : Int), .int .u64 (y1 : Int)] 38)) 2 s1 n1 (prs ps) := (hS1'h.out.below hB'h.out).below ((Below.refl _ _).alloc (Nat.le_refl _) _)
        generalize wr.alloc _ = W7 at H7 hp7 hS7 ⊢
        have q0 : W7.cell? ⟨wr.heap.size, 0, none⟩ = some (.int .u64 (y0 : Int)) := blk_cell H7.rows.1 rfl
        have q1 : W7.cell? ⟨wr.heap.size, 1, none⟩ = some (.int .u64 (y1 : Int)) := blk_cell H7.rows.1 rfl
        have H7'h := Lib.hid H7
        have hp7'h := Lib.hid hp7
        have hS7'h := Lib.hid hS7
        clear H7 hp7 hS7
        go_wp2_with (first | (go_at_call 56; refine (C'h.out _ hp7'h.out hS7'h.out).mono ?_; rintro e w8 ⟨rfl, hb8⟩))
        go_roundg (gk - 1)
        case measure => have := hq'h.out; omega
        case rel => exact ⟨k + 1, by have := hq'h.out; omega, by go_num, below_next hB'h.out (H7'h.out.next hb8).old, by rw [← hF2'h.out]; exact ownsRow_next hrow'h.out (H7'h.out.next hb8).old⟩
    · have hkn : k = l.length := by have := hlen'h.out; omega
      rw [hkn, List.take_length] at hrow
      obtain ⟨sp', cap', rfl⟩ := row_slice' hrow
      have hi1 : ¬ (k : Int) < (n : Int) := by omega
      clear hlt hfl hkn
      have hq'h := Lib.hid hq
      have hB'h := Lib.hid hB
      have hrow'h := Lib.hid hrow
      clear hq hB hrow
      go_wp2
      go_ret
      exact ⟨sp', _, cap', rfl, hB'h.out, hrow'h.out⟩
def leftK (l : List Ch) (k0 : Nat) : Nat → Ps
  | 0 => []
  | k + 1 => (if k = 0 then mapL l k0 else leftK l k0 k).filter fun p => hasP (mapL l (k0 + k)) p.1
theorem leftK_le (l : List Ch) (k0 : Nat) : ∀ k, (leftK l k0 k).length ≤ k0
  | 0 => Nat.zero_le _
  | k + 1 => by
    rw [leftK]
    refine Nat.le_trans (List.length_filter_le _ _) ?_
    split
    · exact len_mapL l k0
    · exact leftK_le l k0 k
def mustL (l : List Ch) (f t : Int) : List Nat := if failE l f t = 0 then (leftK l (cntL l f) (numT l f t)).map (·.1) else []
def MustI (w : World) (RO : Nat → Prop) (B b5 b6 : Nat) (l : List Ch) (k0 : Nat) (f t : Int) (vs : Vs) (S : Nat → Prop) (W : World) : Prop :=
  ∃ x : Value, HsS w RO B [(b6, #[.bool (decide (vs.length = 0))], 4), (b5, #[x], 24), (w.heap.size, tmA f t, 43)] S W ∧
    OwnR B 38 2 x (leftK l k0 vs.length).length (prs (leftK l k0 vs.length)) S W
theorem MustI.stable (w : World) (RO : Nat → Prop) (B b5 b6 : Nat) (l : List Ch) (k0 : Nat) (f t : Int) (vs : Vs) : Stable (MustI w RO B b5 b6 l k0 f t vs) := by
  rintro S S' W W' ⟨x, h1, h2⟩ hf
  exact ⟨x, HsS.stable _ _ _ _ _ _ _ _ h1 hf, OwnR.stable _ _ _ _ _ _ _ _ _ _ h2 hf⟩
theorem rMust_no (sp : Option Addr) (n cap : Nat) (l : List Ch) (f t : Int) (w : World) (h : SlK w 4 sp n (chs l)) (hs : ∀ a, sp = some a → a.block < w.heap.size) (hn : n ≤ 4000) (hf : failE l f t ≠ 0) :
    Calls Try.prog 26 #[.slice sp n cap, .agg (tmA f t)] w fun e w' => e = .returned (.slice none 0 0) ∧ Below w.heap.size w w' := by
  have H0 := (Hs.nil w).new (tmA f t) 43
  obtain ⟨W0, hW0⟩ : ∃ W0, W0 = w.alloc (.cells (tmA f t) 43) := ⟨_, rfl⟩
  rw [← hW0] at H0
  have F := rfails_any sp n cap l f t W0 (h.below H0.old) (fun a ha => by have := hs a ha; have := H0.old.size; omega) hn
  have hz : ((failE l f t : Int) != 0) = true := by simp; omega
  generalize failE l f t = z at *
  have H0'h := Lib.hid H0
  have F'h := Lib.hid F
  have h'h := Lib.hid h
  have hs'h := Lib.hid hs
  clear H0 F h hs
  refine (callsIn_wide (n := 0)).1 ?_
  refine callsIn_of_wp_marks Try.func26 rfl trivial ?_
  simp only [Try.ntmps26, List.size_toArray, List.length_cons, List.length_nil, Nat.reduceAdd, Nat.reduceSub, Array.replicate_succ, Array.replicate_zero, List.push_toArray, List.append_toArray, List.nil_append, List.cons_append]
  refine wpIn_wide.2 ?_
  go_upto_region 1 with fail
  rw [← hW0]
  clear hW0
  go_wp2_with (first | guard_target = wpList _ _ _ (Oper.mk _ (.load _ (.tmp 3)) _ _ _ _ :: _) _ _; refine wpList_load_row rfl 43 (.tmp 3) rfl (w.heap.size) rfl 43 (tmA f t) (0, 0) _ H0'h.out.rows.1 Try.underlying43 rfl info_tm ?_ | (go_at_call 45; refine F'h.out.mono ?_; rintro e w2 ⟨rfl, hb2⟩))
  exact post_plain (.inl rfl) (results_tmp rfl _ _ _) ⟨rfl, (H0'h.out.next hb2).old⟩
set_option maxHeartbeats 4000000 in
theorem rMust_yes (sp : Option Addr) (n cap : Nat) (l : List Ch) (f t : Int) (w : World) (h : SlK w 4 sp n (chs l)) (hs : ∀ a, sp = some a → a.block < w.heap.size) (hn : n ≤ 4000) (hnl : sp = none → cap = 0) (hle : n ≤ cap) (hf : failE l f t = 0) :
    Calls Try.prog 26 #[.slice sp n cap, .agg (tmA f t)] w fun e w' => ∃ sp' n' cap', e = .returned (.slice sp' n' cap') ∧ Below w.heap.size w w' ∧ w'.ownsRow w.heap.size 36 1 (.slice sp' n' cap') (mustL l f t).length (u64s (mustL l f t)) := by
  have hvl : mustL l f t = (leftK l (cntL l f) (numT l f t)).map (·.1) := by unfold mustL; rw [if_pos hf]
  rw [hvl]
  obtain ⟨hr, hft⟩ := fail_zero hf
  have H0 := (Hs.nil w).new (tmA f t) 43
  obtain ⟨W0, hW0⟩ : ∃ W0, W0 = w.alloc (.cells (tmA f t) 43) := ⟨_, rfl⟩
  rw [← hW0] at H0
  have F := rfails_any sp n cap l f t W0 (h.below H0.old) (fun a ha => by have := hs a ha; have := H0.old.size; omega) hn
  rw [hf] at F
  have hlen := chs_len h
  have H0'h := Lib.hid H0
  have F'h := Lib.hid F
  have h'h := Lib.hid h
  have hs'h := Lib.hid hs
  have hr'h := Lib.hid hr
  have hft'h := Lib.hid hft
  have hnl'h := Lib.hid hnl
  have hlen'h := Lib.hid hlen
  have hvl'h := Lib.hid hvl
  clear H0 F h hs hr hft hnl hlen hvl
  refine (callsIn_wide (n := 0)).1 ?_
  refine callsIn_of_wp_marks Try.func26 rfl trivial ?_
  simp only [Try.ntmps26, List.size_toArray, List.length_cons, List.length_nil, Nat.reduceAdd, Nat.reduceSub, Array.replicate_succ, Array.replicate_zero, List.push_toArray, List.append_toArray, List.nil_append, List.cons_append]
  refine wpIn_wide.2 ?_
  go_upto_region 1 with fail
  rw [← hW0]
  clear hW0
  go_upto_region 3 with (first | guard_target = wpList _ _ _ (Oper.mk _ (.load _ (.tmp 3)) _ _ _ _ :: _) _ _; refine wpList_load_row rfl 43 (.tmp 3) rfl (w.heap.size) rfl 43 (tmA f t) (0, 0) _ H0'h.out.rows.1 Try.underlying43 rfl info_tm ?_ | (go_at_call 45; refine F'h.out.mono ?_; rintro e w2 ⟨rfl, hb2⟩))
  have H3 := (H0'h.out.next hb2).new2 #[.slice none 0 0] #[.bool true] 24 4
  obtain ⟨W3, hW3⟩ : ∃ W3, W3 = (w2.alloc (.cells #[.slice none 0 0] 24)).alloc (.cells #[.bool true] 4) := ⟨_, rfl⟩
  rw [← hW3] at H3
  have H3'h := Lib.hid H3
  clear H3
  go_upto_region 5 with fail
  rw [← hW3]
  clear hW3 hb2
  generalize w2.heap.size = b5 at *
  have M := rmaps_any sp n cap f t W3
  obtain ⟨W5, hW5⟩ : ∃ W5, W5 = (W3.alloc (.cells #[.slice sp n cap] 22)).alloc (.cells (tmA f t) 43) := ⟨_, rfl⟩
  rw [← hW5] at M
  have M'h := Lib.hid M
  have hW5'h := Lib.hid hW5
  clear M hW5
  go_wp2_with (first | guard_target = wpList _ _ _ (Oper.mk _ (.load _ (.tmp 3)) _ _ _ _ :: _) _ _; refine wpList_load_row rfl 43 (.tmp 3) rfl (w.heap.size) rfl 43 (tmA f t) (0, 0) _ H3'h.out.rows.2.2.1 Try.underlying43 rfl info_tm ?_ | (go_at_call 46; refine M'h.out.mono ?_; rintro e w5 ⟨rfl, rfl⟩))
  obtain ⟨hR5, hb5⟩ := mapsR_new (l := l) (f := f) (t := t) hW5'h.out (h'h.out.below H3'h.out.old)
  have it := maps_it W3.heap.size (W3.heap.size + 1) sp n cap l f t w5 hR5 hr'h.out hft'h.out hn hnl'h.out hle
  have hS5 := HsS.first (n := n) H3'h.out hb5 hs'h.out
  have hRl := hR5.lt
  generalize mapsRO W3.heap.size (W3.heap.size + 1) sp n = RO at it hS5 hRl
  have hI0 : MustI w RO w5.heap.size b5 (b5 + 1) l (cntL l f) f t [] (fun _ => False) w5 := ⟨.slice none 0 0, hS5, ⟨World.ownsRow_nil _ _ _ _, fun k hk => by cases hk⟩⟩
  have it'h := Lib.hid it
  have hS5'h := Lib.hid hS5
  have hRl'h := Lib.hid hRl
  have hI0'h := Lib.hid hI0
  have hR5'h := Lib.hid hR5
  have hb5'h := Lib.hid hb5
  clear it hS5 hRl hI0 hR5 hb5
  refine (wpIn_wide (n := 0)).1 ?_
  refine' wpIn_rangeH rfl (fun h => by cases h) rfl trivial enters_maps it'h.out (MapsY.keeps _ _ _) (fun b h => h.elim) (fun vs v S W hy => hy.size) (fun b hb => ⟨hRl'h.out b hb, fun h => h⟩)
    (MustI w RO w5.heap.size b5 (b5 + 1) l (cntL l f) f t) noXm (MustI.stable _ _ _ _ _ _ _ _ _) noXm_stable hI0'h.out
    (MapA (fun bx v => { tmps := #[.slice sp n cap, .agg (tmA f t), undef, .pointer (some ⟨w.heap.size, 0, none⟩), .slice none 0 0, .pointer (some ⟨b5, 0, none⟩), .pointer (some ⟨b5 + 1, 0, none⟩), .pointer (some ⟨bx, 0, none⟩), undef, undef, undef, .slice sp n cap, .agg (tmA f t), .int .i64 0, .bool false, .slice sp n cap, .agg (tmA f t), .func (.func 67) #[] #[.pointer (some ⟨W3.heap.size, 0, none⟩), .pointer (some ⟨W3.heap.size + 1, 0, none⟩)], v, undef, undef, undef, undef, undef, undef, undef, undef, undef, undef, undef, undef, undef, undef, undef, undef, undef, undef, undef, undef], defers := [] }) (MustI w RO w5.heap.size b5 (b5 + 1) l (cntL l f) f t)) (MapA.stable (MustI.stable _ _ _ _ _ _ _ _ _)) ?assign ?body ?done (by intro _ _ _ _ _ _ _ _ _ _ _ _ h; exact h.elim)
  case assign =>
    intro ly vs v S S1 W hk hl hs1 hro hSb hY hI
    obtain ⟨sp', n', cap', rfl, hS', hc', hle', hbS⟩ := hY.last
    have hbw : Below W.heap.size W (W.alloc (.cells #[.slice sp' n' cap'] 31)) := (Below.refl _ _).alloc (Nat.le_refl _) _
    have hns : ¬ S W.heap.size := fun h => by have := hSb _ h; omega
    have hY'h := Lib.hid hY
    have hI'h := Lib.hid hI
    have hro'h := Lib.hid hro
    have hSb'h := Lib.hid hSb
    have hS''h := Lib.hid hS'
    have hbS'h := Lib.hid hbS
    have hbw'h := Lib.hid hbw
    have hns'h := Lib.hid hns
    have hc''h := Lib.hid hc'
    clear hY hI hro hSb hS' hbS hbw hns hc'
    gi_wp2
    exact ⟨⟨MustI.stable _ _ _ _ _ _ _ _ _ _ _ _ _ _ hI'h.out (Foreign.of_below hbw'h.out), W.heap.size, sp', n', cap', rfl, rfl, World.alloc_heap_new _ _, hns'h.out⟩, Kept.of_below hbw'h.out⟩
  case body =>
    rintro ly vs v S S1 a₁ W r hk hl hs1 hlr hro hSb hY ⟨hI, bx, sp', n', cap', rfl, rfl, hbx, hbs⟩
    obtain ⟨sp2, n2, cap2, he2, hSl, hcc, hlen, hbS⟩ := hY.last
    simp only [Array.mk.injEq, List.cons.injEq, Value.agg.injEq, Value.slice.injEq, and_true] at he2
    obtain ⟨rfl, rfl, rfl⟩ := he2
    have q0 : W.cell? ⟨bx, 0, none⟩ = some (.slice sp' n' cap') := blk_cell hbx rfl
    clear hlr hl
    have hY'h := Lib.hid hY
    have hbx'h := Lib.hid hbx
    have hro'h := Lib.hid hro
    have hbS'h := Lib.hid hbS
    have hcc'h := Lib.hid hcc
    have hs1'h := Lib.hid hs1
    clear hY hbx hro hbS hcc hs1
    have hcl := cntL_le l t
    have hkN : cntL l f + vs.length ≤ n := by have := hlen'h.out; have := cntL_le l f; omega
    have hn2 : n' ≤ 4000 := by have h1 := prs_len hSl; have h2 := len_mapL l (cntL l f + vs.length); omega
    have hup := up_mapL l (cntL l f + vs.length)
    obtain ⟨x, hH, hRow⟩ := hI
    have q6 : W.cell? ⟨b5 + 1, 0, none⟩ = some (.bool (decide (vs.length = 0))) := blk_cell hH.hs.rows.1 rfl
    have q5 : W.cell? ⟨b5, 0, none⟩ = some x := blk_cell hH.hs.rows.2.1 rfl
    have q5f := blk_free 0 hH.hs.rows.2.1
    have q6f := blk_free 0 hH.hs.rows.1
    have K0 := hH.start hSb hRl'h.out
    have hxb5 : bx ≠ b5 := fun e => by have := (e ▸ hbx'h.out).symm.trans hH.hs.rows.2.1; simp at this
    have hxb6 : bx ≠ b5 + 1 := fun e => by have := (e ▸ hbx'h.out).symm.trans hH.hs.rows.1; simp at this
    have hlk : (leftK l (cntL l f) vs.length).length ≤ 4000 := Nat.le_trans (leftK_le _ _ _) (by omega)
    have hst : leftK l (cntL l f) (vs.length + 1) = (if vs.length = 0 then mapL l (cntL l f) else leftK l (cntL l f) vs.length).filter fun p => hasP (mapL l (cntL l f + vs.length)) p.1 := rfl
    have hvl1 : (vs ++ [#[Value.agg #[Value.slice sp' n' cap']]]).length = vs.length + 1 := by simp
    have hb56 : b5 + 1 < w5.heap.size := by have h1 := H3'h.out.lt _ (List.mem_cons_self ..); have h2 := hb5'h.out.size; simp only at h1; omega
    have hsz := hH.sz
    clear hcl hkN hk
    by_cases h0 : vs.length = 0
    · rw [if_pos h0] at hst
      have hbase : mapL l (cntL l f) = mapL l (cntL l f + vs.length) := by rw [h0, Nat.add_zero]
      rw [hbase] at hst
      rw [decide_eq_true h0] at q6 hH K0
      have C := cloneP_any sp' n' cap' (prs (mapL l (cntL l f + vs.length))) W (by omega) (prs_one _) (hcc'h.out) hSl
      obtain ⟨base, hbs⟩ : ∃ base, base = mapL l (cntL l f + vs.length) := ⟨_, rfl⟩
      have hnb : n' = base.length := by rw [hbs]; exact prs_len hSl
      have hst : leftK l (cntL l f) (vs.length + 1) = base.filter fun p => hasP (mapL l (cntL l f + vs.length)) p.1 := by rw [hst, hbs]
      clear h0 hbase hlk
      subst hnb
      have hH'h := Lib.hid hH
      have hRow'h := Lib.hid hRow
      have K0'h := Lib.hid K0
      have hst'h := Lib.hid hst
      have hSl'h := Lib.hid hSl
      have hSb'h := Lib.hid hSb
      have hup'h := Lib.hid hup
      have C'h := Lib.hid C
      have hxb5'h := Lib.hid hxb5
      have hxb6'h := Lib.hid hxb6
      have hbs'h := Lib.hid hbs
      have hvl1'h := Lib.hid hvl1
      clear hH hRow K0 hst hSl hSb hup C hxb5 hxb6 hbs hvl1
      gi_upto_region 9 with (first | (gi_at_call 20; refine (CallsIn.inRound _ (callsIn_wide.2 C'h.out)).mono ?_; rintro e w6 ⟨s8, c8, rfl, hb6, hrow6⟩; have K1 := K0'h.out.next hb6; have q5' : w6.cell? ⟨b5, 0, none⟩ = some x := blk_cell K1.hs.rows.2.1 rfl; have q5f' := blk_free 0 K1.hs.rows.2.1; have K1'h := Lib.hid K1; clear K1))
      have K2 := K1'h.out.put 1 rfl 0 (.slice s8 base.length c8)
      have hrow7 := ownsRow_setCell_below hrow6 (a := ⟨b5, 0, none⟩) (show b5 < W.heap.size by omega) (.slice s8 base.length c8)
      have hbx7 : (w6.setCell ⟨b5, 0, none⟩ (.slice s8 base.length c8)).heap[bx]? = some (.cells #[.slice sp' base.length cap'] 31 (0, 0)) := (Below.heap_setCell w6 ⟨b5, 0, none⟩ _ bx hxb5'h.out).trans (heap_below hb6 hbx'h.out (lt_of_heap hbx'h.out))
      rw [← hbs'h.out] at hrow7
      generalize World.setCell _ _ _ = W7 at K2 hrow7 hbx7 ⊢
      clear q0 q5 q5f q6 q6f q5' q5f' hrow6 hb6
      have hbb : W.heap.size ≤ W.heap.size := Nat.le_refl _
      obtain ⟨BB, hBB⟩ : ∃ BB, BB = W.heap.size := ⟨_, rfl⟩
      rw [← hBB] at hrow7
      have hBs : w5.heap.size ≤ BB := by omega
      have hBl : base.length ≤ 4000 := hn2
      clear hBB
      have q6' : W7.cell? ⟨b5 + 1, 0, none⟩ = some (.bool _) := blk_cell K2.hs.rows.1 rfl
      have q6f' := blk_free 0 K2.hs.rows.1
      have K3 := K2.put 0 rfl 0 (.bool false)
      have hrow8 := ownsRow_setCell_below hrow7 (a := ⟨b5 + 1, 0, none⟩) (show b5 + 1 < BB by omega) (.bool false)
      have hbx8 := (Below.heap_setCell W7 ⟨b5 + 1, 0, none⟩ (.bool false) bx hxb6'h.out).trans hbx7
      have K2'h := Lib.hid K2
      have hrow7'h := Lib.hid hrow7
      have hbx7'h := Lib.hid hbx7
      have K3'h := Lib.hid K3
      have hrow8'h := Lib.hid hrow8
      have hbx8'h := Lib.hid hbx8
      clear K2 hrow7 hbx7 K3 hrow8 hbx8
      gi_upto_region 10 with fail
      have K3 := K3'h.out
      have hrow8 := hrow8'h.out
      have hbx8 := hbx8'h.out
      clear q6' q6f' K3'h hrow8'h hbx8'h K2'h hrow7'h hbx7'h
      generalize World.setCell _ _ _ = W8 at K3 hrow8 hbx8 ⊢
      have hS8 : SlK W8 2 sp' (base.length) (prs (mapL l (cntL l f + vs.length))) := hSl'h.out.keep fun b o hb hsp ho => (K3.kept.block b hb (.inr (hs1'h.out b (hbS'h.out b hsp)))).trans ho
      have SF := siftP_any s8 base.length c8 base bx (base.length) cap' sp' (mapL l (cntL l f + vs.length)) W8 (SlK.of_row hrow8 (by unfold maxLen; omega)) (blk_cell hbx8 rfl) hS8 hup'h.out (by omega) (by omega)
      have p5 : W8.cell? ⟨b5, 0, none⟩ = some (.slice s8 base.length c8) := blk_cell K3.hs.rows.2.1 rfl
      have K3'h := Lib.hid K3
      have hrow8'h := Lib.hid hrow8
      have hbx8'h := Lib.hid hbx8
      have hS8'h := Lib.hid hS8
      have SF'h := Lib.hid SF
      clear K3 hrow8 hbx8 hS8 SF
      gi_wp2_with (first | (gi_at_call 55; refine (CallsIn.inRound _ (callsIn_wide.2 SF'h.out)).mono ?_; rintro e w9 ⟨s9, n9, c9, rfl, hb9, hrow9⟩; have K4 := K3'h.out.next hb9; have p5' : w9.cell? ⟨b5, 0, none⟩ = some (.slice s8 base.length c8) := blk_cell K4.hs.rows.2.1 rfl; have p5f' := blk_free 0 K4.hs.rows.2.1; have K4'h := Lib.hid K4; clear K4))
      have K5 := K4'h.out.put 1 rfl 0 (.slice s9 n9 c9)
      have hWW := K3'h.out.kept.size
      refine ⟨K5.kept, ?_⟩
      unfold MustI
      rw [hvl1'h.out, hst'h.out, decide_eq_false (Nat.succ_ne_zero _)]
      refine ⟨_, K5.back hH'h.out, ownsRow_mono (ownsRow_setCell_below hrow9 (a := ⟨b5, 0, none⟩) (show b5 < W8.heap.size by omega) _) (by omega), fun j hj hSj => ?_⟩
      have h1 := (hrow9.lt j hj).1
      have h2 := hSb'h.out j hSj
      omega
    · rw [if_neg h0] at hst
      rw [decide_eq_false h0] at q6 hH K0
      obtain ⟨base, hbs⟩ : ∃ base, base = leftK l (cntL l f) vs.length := ⟨_, rfl⟩
      rw [← hbs] at hRow hlk hst
      obtain ⟨s8, c8, rfl⟩ := row_slice' hRow.row
      have K2 := K0
      have hrow7 := hRow.row
      have hbx7 := hbx'h.out
      have hBl := hlk
      clear h0
      have hH'h := Lib.hid hH
      have hRow'h := Lib.hid hRow
      have K0'h := Lib.hid K0
      have hst'h := Lib.hid hst
      have hSl'h := Lib.hid hSl
      have hSb'h := Lib.hid hSb
      have hup'h := Lib.hid hup
      have hxb5'h := Lib.hid hxb5
      have hxb6'h := Lib.hid hxb6
      have hbs'h := Lib.hid hbs
      have hvl1'h := Lib.hid hvl1
      have K2'h := Lib.hid K2
      have hrow7'h := Lib.hid hrow7
      have hbx7'h := Lib.hid hbx7
      clear hH hRow K0 hst hSl hSb hup hxb5 hxb6 hbs hvl1 K2 hrow7 hbx7
      gi_upto_region 9 with fail
      clear q0 q5 q5f q6 q6f
      have K2 := K2'h.out
      have hrow7 := hrow7'h.out
      have hbx7 := hbx7'h.out
      clear K2'h hrow7'h hbx7'h
      obtain ⟨BB, hBB⟩ : ∃ BB, BB = w5.heap.size := ⟨_, rfl⟩
      rw [← hBB] at hrow7
      have hBs : w5.heap.size ≤ BB := by omega
      clear hBB
      have q6' : W.cell? ⟨b5 + 1, 0, none⟩ = some (.bool _) := blk_cell K2.hs.rows.1 rfl
      have q6f' := blk_free 0 K2.hs.rows.1
      have K3 := K2.put 0 rfl 0 (.bool false)
      have hrow8 := ownsRow_setCell_below hrow7 (a := ⟨b5 + 1, 0, none⟩) (show b5 + 1 < BB by omega) (.bool false)
      have hbx8 := (Below.heap_setCell W ⟨b5 + 1, 0, none⟩ (.bool false) bx hxb6'h.out).trans hbx7
      have K2'h := Lib.hid K2
      have hrow7'h := Lib.hid hrow7
      have hbx7'h := Lib.hid hbx7
      have K3'h := Lib.hid K3
      have hrow8'h := Lib.hid hrow8
      have hbx8'h := Lib.hid hbx8
      clear K2 hrow7 hbx7 K3 hrow8 hbx8
      gi_upto_region 10 with fail
      have K3 := K3'h.out
      have hrow8 := hrow8'h.out
      have hbx8 := hbx8'h.out
      clear q6' q6f' K3'h hrow8'h hbx8'h K2'h hrow7'h hbx7'h
      generalize World.setCell _ _ _ = W8 at K3 hrow8 hbx8 ⊢
      have hS8 : SlK W8 2 sp' (n') (prs (mapL l (cntL l f + vs.length))) := hSl'h.out.keep fun b o hb hsp ho => (K3.kept.block b hb (.inr (hs1'h.out b (hbS'h.out b hsp)))).trans ho
      have SF := siftP_any s8 base.length c8 base bx (n') cap' sp' (mapL l (cntL l f + vs.length)) W8 (SlK.of_row hrow8 (by unfold maxLen; omega)) (blk_cell hbx8 rfl) hS8 hup'h.out (by omega) (by omega)
      have p5 : W8.cell? ⟨b5, 0, none⟩ = some (.slice s8 base.length c8) := blk_cell K3.hs.rows.2.1 rfl
      have K3'h := Lib.hid K3
      have hrow8'h := Lib.hid hrow8
      have hbx8'h := Lib.hid hbx8
      have hS8'h := Lib.hid hS8
      have SF'h := Lib.hid SF
      clear K3 hrow8 hbx8 hS8 SF
      gi_wp2_with (first | (gi_at_call 55; refine (CallsIn.inRound _ (callsIn_wide.2 SF'h.out)).mono ?_; rintro e w9 ⟨s9, n9, c9, rfl, hb9, hrow9⟩; have K4 := K3'h.out.next hb9; have p5' : w9.cell? ⟨b5, 0, none⟩ = some (.slice s8 base.length c8) := blk_cell K4.hs.rows.2.1 rfl; have p5f' := blk_free 0 K4.hs.rows.2.1; have K4'h := Lib.hid K4; clear K4))
      have K5 := K4'h.out.put 1 rfl 0 (.slice s9 n9 c9)
      have hWW := K3'h.out.kept.size
      refine ⟨K5.kept, ?_⟩
      unfold MustI
      rw [hvl1'h.out, hst'h.out, decide_eq_false (Nat.succ_ne_zero _)]
      refine ⟨_, K5.back hH'h.out, ownsRow_mono (ownsRow_setCell_below hrow9 (a := ⟨b5, 0, none⟩) (show b5 < W8.heap.size by omega) _) (by omega), fun j hj hSj => ?_⟩
      have h1 := (hrow9.lt j hj).1
      have h2 := hSb'h.out j hSj
      omega
  case done =>
    rintro D S S1 vs W hD hSD hro hs1 hS1D hvs hY ⟨x, hH, hRow⟩ hK
    rw [hvs] at hRow
    change OwnR w5.heap.size 38 2 x (leftK l (cntL l f) (numT l f t)).length (prs (leftK l (cntL l f) (numT l f t))) S W at hRow
    have hlk : (leftK l (cntL l f) (numT l f t)).length ≤ 4000 := Nat.le_trans (leftK_le _ _ _) (by have := cntL_le l f; have := hlen'h.out; omega)
    obtain ⟨left, hleft⟩ : ∃ left, left = leftK l (cntL l f) (numT l f t) := ⟨_, rfl⟩
    rw [← hleft] at hRow hlk
    obtain ⟨s7, c7, rfl⟩ := row_slice' hRow.row
    have p7 : W.cell? ⟨b5, 0, none⟩ = some (.slice s7 left.length c7) := blk_cell hH.hs.rows.2.1 rfl
    have hSL : SlK W 2 s7 left.length (prs left) := SlK.of_row hRow.row (by unfold maxLen; omega)
    obtain ⟨i0, hi, hz0, hz1, hz2⟩ := info_parts info_u64V
    have hD2 : w.heap.size ≤ D := by have := hb5'h.out.size; have := H3'h.out.old.size; omega
    have hDW := lt_of_heap hK
    clear hvs
    have hY'h := Lib.hid hY
    have hH'h := Lib.hid hH
    have hK'h := Lib.hid hK
    have hRow'h := Lib.hid hRow
    have hleft'h := Lib.hid hleft
    have hSL'h := Lib.hid hSL
    clear hY hH hK hRow hleft hSL
    go_wp2
    go_loopg [8, 28] left.length (fun q v8 i wr => ∃ k : Nat, k + q = left.length ∧ i = .int .i64 k ∧ Below W.heap.size W wr ∧ wr.ownsRow W.heap.size 36 1 v8 k (u64s ((left.map (·.1)).take k)))
    case atStart => exact ⟨0, by omega, rfl, Below.refl _ _, World.ownsRow_nil _ _ _ _⟩
    case round =>
      obtain ⟨k, hq, rfl, hB, hrow⟩ := hrel
      by_cases hlt : k < left.length
      · obtain ⟨b, off, rfl⟩ := prs_some hSL'h.out (by omega)
        obtain ⟨d1, d2⟩ := prs_cells (hSL'h.out.below hB) hlt
        have htk : (left.map (·.1)).take (k + 1) = (left.map (·.1)).take k ++ [(nthP left k).1] := by rw [List.take_succ_eq_append_getElem (by simpa using hlt), List.getElem_map, nthP_eq hlt]
        generalize (nthP left k).1 = y0 at *
        generalize (nthP left k).2 = y1 at *
        have hi1 : (k : Int) < (left.length : Int) := by omega
        have h0k : (0 : Int) ≤ (k : Int) := by omega
        have hk4 : k ≤ 4000 := by omega
        have hba : ∀ o, Below wr.heap.size wr (wr.alloc o) := fun o => (Below.refl _ _).alloc (Nat.le_refl _) _
        have hba2 : ∀ o o', Below wr.heap.size wr ((wr.alloc o).alloc o') := fun o o' => (hba o).alloc (by rw [World.size_alloc]; omega) _
        have hwr := hB.size
        have hN : ∀ o, ((wr.alloc o).alloc (.cells #[.int .u64 (y0 : Int)] 36)).heap[wr.heap.size + 1]? = some (.cells #[.int .u64 (y0 : Int)] 36 (0, 0)) := fun o => by have := World.alloc_heap_new (wr.alloc o) (.cells #[.int .u64 (y0 : Int)] 36); rwa [World.size_alloc] at this
        have hq'h := Lib.hid hq
        have hB'h := Lib.hid hB
        have hrow'h := Lib.hid hrow
        have htk'h := Lib.hid htk
        have hba'h := Lib.hid hba
        have hba2'h := Lib.hid hba2
        have hN'h := Lib.hid hN
        clear hq hB hrow htk hba hba2 hN
        go_upto_region 16 with (at_builtin; refine wpList_append_slk _ rfl (.tmp 32) (.tmp 35) 57 rfl W.heap.size 36 i0 (.int .u64 0) 1 8 Try.underlying57 hi hz0 hz1 hz2 rfl (by decide) _ k _ rfl (ownsRow_next hrow'h.out (hba2'h.out _ _)) (some ⟨wr.heap.size + 1, 0, none⟩) 1 1 _ rfl (SlK.of_blk (k := 1) (n := 1) (hN'h.out _) rfl (by decide)) (by simp [Value.oneCell']) (by unfold maxLen; omega) (by omega) (by simp; omega) ?_; intro v' w1 hown' hgrow hwh)
        go_wp2
        go_roundg (gk - 1)
        case measure => have := hq'h.out; omega
        case rel =>
          refine ⟨k + 1, by have := hq'h.out; omega, by go_num, (below_next hB'h.out (hba2'h.out _ _)).grown hgrow (by simp; omega) (fun j hj => (hrow'h.out.lt j hj).1), ?_⟩
          rw [htk'h.out, u64s_snoc]; exact hown'
      · have hkn : k = left.length := by omega
        rw [hkn, show (left.map (·.1)).take left.length = left.map (·.1) from List.take_of_length_le (by simp)] at hrow
        obtain ⟨s8, c8, rfl⟩ := row_slice' hrow
        have hi1 : ¬ (k : Int) < (left.length : Int) := by omega
        clear hlt hkn
        have hq'h := Lib.hid hq
        have hB'h := Lib.hid hB
        have hrow'h := Lib.hid hrow
        clear hq hB hrow
        go_wp2
        refine post_mark (W := wr) (.inl rfl) ((hB'h.out.block D hDW).trans hK'h.out) (results_tmp rfl _ _ _) ⟨s8, _, c8, rfl, below_putObj (below_next hH'h.out.hs.old hB'h.out) hD2 (.deferred none), ?_⟩
        rw [← hleft'h.out]
        try rw [List.length_map]
        refine ownsRow_mono (row_keep hrow'h.out fun j hj => World.putObj_heap_other (fun e => by have := (hrow'h.out.lt j hj).1; omega)) ?_
        have := hb5'h.out.size; have := H3'h.out.old.size; have := hH'h.out.sz; omega
end Go.Proofs.Ythfeiiibedmkiaa

/-
  Rows of numbers, and pairs, of which something holds.
-/
set_option linter.unusedSimpArgs false
set_option linter.unusedVariables false
set_option maxRecDepth 100000
namespace Go.Proofs.Ythfeiiibedmkiaa
open Go.RowKit

/-! ### Contains at []uint64 -/
def idxU (x : Nat) (l : List Nat) : Int := if l.contains x = true then (l.idxOf x : Int) else -1
theorem idxU_hit {x : Nat} {l : List Nat} {k : Nat} (hk : k < l.length) (hno : ∀ j, j < k → nthN l j ≠ x) (h : nthN l k = x) : idxU x l = (k : Int) := by
  have hm : x ∈ l := by rw [← h]; exact nthN_mem hk
  unfold idxU
  rw [if_pos (by simpa using hm)]
  congr 1
  have : l.findIdx (· == x) = k := by
    refine (List.findIdx_eq hk).2 ⟨by rw [nthN_eq hk]; simpa using h, fun j hj => ?_⟩
    rw [nthN_eq (by omega)]; have := hno j hj; simpa using this
  exact this
theorem idxU_none {x : Nat} {l : List Nat} (hno : ∀ j, j < l.length → nthN l j ≠ x) : idxU x l = -1 := by
  unfold idxU
  rw [if_neg]
  intro h
  have hm : x ∈ l := by simpa using h
  obtain ⟨j, hj, e⟩ := List.mem_iff_getElem.1 hm
  exact hno j hj (by rw [← nthN_eq hj]; exact e)
theorem idxU_geq (x : Nat) (l : List Nat) : decide ((0 : Int) ≤ idxU x l) = l.contains x := by
  unfold idxU
  cases h : l.contains x with
  | true => rw [if_pos rfl]; simp
  | false => rw [if_neg (by decide)]; decide
theorem indexU_any (sp : Option Addr) (n cap : Nat) (l : List Nat) (x : Nat) (w : World) (h : Sl w sp n (u64s l)) :
    Calls Try.prog 57 #[.slice sp n cap, .int .u64 x] w fun e w' => e = .returned (.int .i64 (idxU x l)) ∧ w' = w := by
  have hlen : n = l.length := by have := h.1; rw [u64s_length] at this; omega
  have hmax := h.2.1
  unfold maxLen at hmax
  have hlen'h := Lib.hid hlen
  have h'h := Lib.hid h
  clear hlen h
  go_enter Try.func57, Try.ntmps57
  go_wp2
  go_loopg [8] n (fun q i wr => ∃ k : Nat, k + q = n ∧ i = .int .i64 k ∧ (∀ j, j < k → nthN l j ≠ x) ∧ wr = w)
  case atStart => exact ⟨0, by omega, rfl, fun j hj => by omega, rfl⟩
  case round =>
    obtain ⟨k, hk, rfl, hall, rfl⟩ := hrel
    have hkn : k ≤ n := by omega
    by_cases hlt : k < n
    · have hkl : k < l.length := by have := hlen'h.out; omega
      obtain ⟨b, off, rfl, hcs⟩ := h'h.out.some' (by omega)
      have c1 : wr.cell? ⟨b, off + k, none⟩ = some (.int .u64 (nthN l k)) := hcs k _ (u64s_at hkl)
      have hi1 : (k : Int) < (n : Int) := by omega
      have h0k : (0 : Int) ≤ (k : Int) := by omega
      clear hcs
      by_cases hv : nthN l k = x
      · have hr := idxU_hit hkl hall hv
        have he : ((x : Int) == (nthN l k : Int)) = true := by rw [hv]; simp
        have hk'h := Lib.hid hk
        have hall'h := Lib.hid hall
        have hr'h := Lib.hid hr
        have hv'h := Lib.hid hv
        have hkl'h := Lib.hid hkl
        clear hk hall hr hv hkl
        go_wp2
        go_ret
        exact ⟨ret_i64 hr'h.out.symm, rfl⟩
      · have hall' : ∀ j, j < k + 1 → nthN l j ≠ x := fun j hj => by
          by_cases e : j = k
          · rw [e]; exact hv
          · exact hall j (by omega)
        have he : ((x : Int) == (nthN l k : Int)) = false := by simp; omega
        have hk'h := Lib.hid hk
        have hall'h := Lib.hid hall
        have hv'h := Lib.hid hv
        have hkl'h := Lib.hid hkl
        have hall''h := Lib.hid hall'
        clear hk hall hv hkl hall'
        go_wp2
        go_roundg (gk - 1)
        case measure => have := hk'h.out; omega
        case rel => exact ⟨k + 1, by have := hk'h.out; omega, by go_num, hall''h.out, rfl⟩
    · have hr := idxU_none (l := l) (x := x) (fun j hj => hall j (by have := hlen'h.out; omega))
      have hd : ¬ ((k : Int) < (n : Int)) := by omega
      have hk'h := Lib.hid hk
      have hall'h := Lib.hid hall
      have hr'h := Lib.hid hr
      clear hk hall hr
      go_wp2
      go_ret
      exact ⟨ret_i64 hr'h.out.symm, rfl⟩
theorem containsU_any (sp : Option Addr) (n cap : Nat) (l : List Nat) (x : Nat) (w : World) (h : Sl w sp n (u64s l)) :
    Calls Try.prog 27 #[.slice sp n cap, .int .u64 x] w fun e w' => e = .returned (.bool (l.contains x)) ∧ w' = w := by
  have I := indexU_any sp n cap l x w h
  have hr := idxU_geq x l
  generalize idxU x l = z at *
  generalize l.contains x = b at *
  have I'h := Lib.hid I
  have h'h := Lib.hid h
  have hr'h := Lib.hid hr
  clear I h hr
  go_enter Try.func27, Try.ntmps27
  go_wp2_with (first | (go_at_call 57; refine I'h.out.mono ?_; rintro e w2 ⟨rfl, hw2⟩; obtain rfl := hw2.symm))
  go_ret
  exact ⟨ret_bool hr'h.out, rfl⟩
/-! ### A value that a key never has -/
def neverB (l : List Ch) (f t : Int) (p : Nat × Nat) : Bool := !(valsL l p.1 f t).contains p.2
theorem valsL_le (l : List Ch) (key : Nat) (f t : Int) : (valsL l key f t).length ≤ cntL l t + 1 := by
  unfold valsL
  split
  · exact Nat.le_trans (valsK_le _ _ _ _) (by unfold numT; omega)
  · simp
set_option maxHeartbeats 1000000 in
theorem never_any (b3 b4 : Nat) (sp : Option Addr) (n cap : Nat) (l : List Ch) (f t : Int) (k v : Nat) (w : World) (h3 : w.cell? ⟨b3, 0, none⟩ = some (.slice sp n cap)) (h4 : w.heap[b4]? = some (.cells (tmA f t) 43 (0, 0))) (h : SlK w 4 sp n (chs l)) (hs : ∀ a, sp = some a → a.block < w.heap.size) (hn : n ≤ 4000) (hnl : sp = none → cap = 0) (hle : n ≤ cap) (hf : failE l f t = 0) :
    Calls Try.prog 51 #[.agg #[.int .u64 (k : Int), .int .u64 (v : Int)], .pointer (some ⟨b3, 0, none⟩), .pointer (some ⟨b4, 0, none⟩)] w fun e w' => e = .returned (.bool (neverB l f t (k, v))) ∧ Below w.heap.size w w' := by
  have H0 := (Hs.nil w).new #[.int .u64 (k : Int), .int .u64 (v : Int)] 38
  obtain ⟨W0, hW0⟩ : ∃ W0, W0 = w.alloc (.cells #[.int .u64 (k : Int), .int .u64 (v : Int)] 38) := ⟨_, rfl⟩
  rw [← hW0] at H0
  have V := fun W (hb : Below w.heap.size w W) => rValues_yes sp n cap l k f t W (h.below hb) (fun a ha => by have := hs a ha; have := hb.size; omega) hn hnl hle hf
  have hvl := valsL_le l k f t
  have hlen := chs_len h
  have hcl := cntL_le l t
  have en : neverB l f t (k, v) = !(valsL l k f t).contains v := rfl
  rw [en]
  generalize valsL l k f t = vl at *
  have h3W := (H0.old.cell (lt_of_cell h3)).trans h3
  have h4W := heap_below H0.old h4 (lt_of_heap h4)
  have hlt3 := lt_of_cell h3
  have hlt4 := lt_of_heap h4
  have CU := fun s5 c5 W h => containsU_any s5 vl.length c5 vl v W h
  clear en hle hnl
  generalize vl.contains v = r at CU ⊢
  have H0'h := Lib.hid H0
  have V'h := Lib.hid V
  have h'h := Lib.hid h
  have hs'h := Lib.hid hs
  have hlen'h := Lib.hid hlen
  have hcl'h := Lib.hid hcl
  have CU'h := Lib.hid CU
  clear H0 V h hs hlen hcl CU
  go_enter Try.func51, Try.ntmps51
  go_upto_region 1 with fail
  rw [← hW0]
  clear hW0
  have H1 := H0'h.out.drew
  refine wp_region_heldQ (fun w' => w'.cell? ⟨b3, 0, none⟩ = some (.slice sp n cap) ∧ w'.heap[b4]? = some (.cells (tmA f t) 43 (0, 0)) ∧ w'.cell? ⟨w.heap.size, 0, none⟩ = some (.int .u64 (k : Int)) ∧ w'.cell? ⟨w.heap.size, 1, none⟩ = some (.int .u64 (v : Int))) 99 (by kernel_rfl) ?_
  have q1 : W0.drew.cell? ⟨b3, 0, none⟩ = some (.slice sp n cap) ∧ W0.drew.heap[b4]? = some (.cells (tmA f t) 43 (0, 0)) ∧ W0.drew.cell? ⟨w.heap.size, 0, none⟩ = some (.int .u64 (k : Int)) ∧ W0.drew.cell? ⟨w.heap.size, 1, none⟩ = some (.int .u64 (v : Int)) := ⟨h3W, h4W, blk_cell H1.rows.1 rfl, blk_cell H1.rows.1 rfl⟩
  clear h3W h4W
  generalize W0.drew = V0 at H1 q1 ⊢
  refine wpAnyF_take (i := 0) (v := .slice sp n cap) rfl (by kernel_rfl) (by kernel_rfl) (by kernel_rfl) (by kernel_rfl) (fun _ _ _ h => h) (Or.inl ⟨by kernel_rfl, fun w hSw => by have hcc := hSw.1; (try dsimp only at hSw); go_simp⟩) q1 ?_; try simp only [Act.put, List.getElem_toArray, List.getElem_cons_succ, List.getElem_cons_zero, List.setIfInBounds_toArray, List.set_cons_zero, List.set_cons_succ]
  refine wpAnyF_take (i := 1) (v := .pointer (some ⟨w.heap.size, 0, none⟩)) rfl (by kernel_rfl) (by kernel_rfl) (by kernel_rfl) (by kernel_rfl) (fun _ _ _ h => h) (Or.inl ⟨by kernel_rfl, fun w hSw => by (try dsimp only at hSw); go_simp⟩) q1 ?_; try simp only [Act.put, List.getElem_toArray, List.getElem_cons_succ, List.getElem_cons_zero, List.setIfInBounds_toArray, List.set_cons_zero, List.set_cons_succ]
  refine wpAnyF_take (i := 2) (v := .int .u64 (k : Int)) rfl (by kernel_rfl) (by kernel_rfl) (by kernel_rfl) (by kernel_rfl) (fun _ _ _ h => h) (Or.inl ⟨by kernel_rfl, fun w hSw => by have hcc := hSw.2.2.1; (try dsimp only at hSw); go_simp⟩) q1 ?_; try simp only [Act.put, List.getElem_toArray, List.getElem_cons_succ, List.getElem_cons_zero, List.setIfInBounds_toArray, List.set_cons_zero, List.set_cons_succ]
  refine wpAnyF_take (i := 3) (v := .agg (tmA f t)) rfl (by kernel_rfl) (by kernel_rfl) (by kernel_rfl) (by kernel_rfl) (fun _ _ _ h => h) (Or.inl ⟨by kernel_rfl, fun w hSw => run_load_agg (by rfl) (by rfl) hSw.2.1 Try.underlying43 rfl info_tm⟩) q1 ?_; try simp only [Act.put, List.getElem_toArray, List.getElem_cons_succ, List.getElem_cons_zero, List.setIfInBounds_toArray, List.set_cons_zero, List.set_cons_succ]
  refine wpAnyF_take (i := 5) (v := .pointer (some ⟨w.heap.size, 1, none⟩)) rfl (by kernel_rfl) (by kernel_rfl) (by kernel_rfl) (by kernel_rfl) (fun _ _ _ h => h) (Or.inl ⟨by kernel_rfl, fun w hSw => by (try dsimp only at hSw); go_simp⟩) q1 ?_; try simp only [Act.put, List.getElem_toArray, List.getElem_cons_succ, List.getElem_cons_zero, List.setIfInBounds_toArray, List.set_cons_zero, List.set_cons_succ]
  refine wpAnyF_take (i := 6) (v := .int .u64 (v : Int)) rfl (by kernel_rfl) (by kernel_rfl) (by kernel_rfl) (by kernel_rfl) (fun _ _ _ h => h) (Or.inl ⟨by kernel_rfl, fun w hSw => by have hcc := hSw.2.2.2; (try dsimp only at hSw); go_simp⟩) q1 ?_; try simp only [Act.put, List.getElem_toArray, List.getElem_cons_succ, List.getElem_cons_zero, List.setIfInBounds_toArray, List.set_cons_zero, List.set_cons_succ]
  refine wpAnyF_one (i := 4) (by kernel_rfl) rfl (fun K hK => ?_); go_simp
  refine (V'h.out _ H1.old).mono ?_
  rintro e V1 ⟨s5, n5, c5, rfl, hv1, hrow5⟩
  obtain rfl := row_len9 hrow5
  dsimp only
  have H2 := H1.next hv1
  have q2 : V1.cell? ⟨b3, 0, none⟩ = some (.slice sp n cap) ∧ V1.heap[b4]? = some (.cells (tmA f t) 43 (0, 0)) ∧ V1.cell? ⟨w.heap.size, 0, none⟩ = some (.int .u64 (k : Int)) ∧ V1.cell? ⟨w.heap.size, 1, none⟩ = some (.int .u64 (v : Int)) := ⟨(hv1.cell (lt_of_cell q1.1)).trans q1.1, heap_below hv1 q1.2.1 (lt_of_heap q1.2.1), blk_cell H2.rows.1 rfl, blk_cell H2.rows.1 rfl⟩
  refine hK.out _ _ (fun _ => q2) ?_; clear hK K; try simp only [Act.put, List.getElem_toArray, List.getElem_cons_succ, List.getElem_cons_zero, List.setIfInBounds_toArray, List.set_cons_zero, List.set_cons_succ]
  refine wpAnyF_one (i := 7) (by kernel_rfl) rfl (fun K hK => ?_); go_simp
  refine (CU'h.out s5 c5 V1 (Sl.of_row hrow5 (by have := hlen'h.out; have := hcl'h.out; unfold maxLen; omega))).mono ?_
  rintro e V2 ⟨rfl, hV2⟩
  obtain rfl := hV2.symm
  dsimp only
  refine hK.out _ _ (fun _ => q2) ?_; clear hK K; try simp only [Act.put, List.getElem_toArray, List.getElem_cons_succ, List.getElem_cons_zero, List.setIfInBounds_toArray, List.set_cons_zero, List.set_cons_succ]
  refine wpAnyF_take (i := 8) (v := .bool (!r)) rfl (by kernel_rfl) (by kernel_rfl) (by kernel_rfl) (by kernel_rfl) (fun _ _ _ h => h) (Or.inl ⟨by kernel_rfl, fun w hSw => by (try dsimp only at hSw); go_simp⟩) q2 ?_; try simp only [Act.put, List.getElem_toArray, List.getElem_cons_succ, List.getElem_cons_zero, List.setIfInBounds_toArray, List.set_cons_zero, List.set_cons_succ]
  refine wpAnyF_take (i := 9) (v := .bool (!r)) rfl (by kernel_rfl) (by kernel_rfl) (by kernel_rfl) (by kernel_rfl) (fun _ _ _ h => h) (Or.inl ⟨by kernel_rfl, fun w hSw => by (try dsimp only at hSw); go_simp⟩) q2 ?_; try simp only [Act.put, List.getElem_toArray, List.getElem_cons_succ, List.getElem_cons_zero, List.setIfInBounds_toArray, List.set_cons_zero, List.set_cons_succ]
  refine wpAnyF_done (by kernel_rfl) ?_ _
  refine noPanic_normal ?_
  clear q1 q2 hv1 hrow5 H1
  have H2'h := Lib.hid H2
  clear H2
  go_wp2
  go_ret
  exact ⟨rfl, H2'h.out.old⟩
/-! ### Over rows -/
def idxP (q : Nat × Nat → Bool) (l : Ps) : Int := if l.any q = true then (l.findIdx q : Int) else -1
theorem idxP_hit {q : Nat × Nat → Bool} {l : Ps} {k : Nat} (hk : k < l.length) (hno : ∀ j, j < k → q (nthP l j) = false) (h : q (nthP l k) = true) : idxP q l = (k : Int) := by
  unfold idxP
  rw [if_pos (List.any_eq_true.2 ⟨_, nthP_mem hk, h⟩)]
  congr 1
  refine (List.findIdx_eq hk).2 ⟨by rw [nthP_eq hk]; exact h, fun j hj => ?_⟩
  rw [nthP_eq (by omega)]; exact hno j hj
theorem idxP_none {q : Nat × Nat → Bool} {l : Ps} (hno : ∀ j, j < l.length → q (nthP l j) = false) : idxP q l = -1 := by
  unfold idxP
  rw [if_neg]
  intro h
  obtain ⟨s, hs, hp⟩ := List.any_eq_true.1 h
  obtain ⟨j, hj, rfl⟩ := List.mem_iff_getElem.1 hs
  rw [nthP_eq hj, hno j hj] at hp; cases hp
theorem idxP_geq (q : Nat × Nat → Bool) (l : Ps) : decide ((0 : Int) ≤ idxP q l) = l.any q := by
  unfold idxP
  cases h : l.any q with
  | true => rw [if_pos rfl]; simp
  | false => rw [if_neg (by decide)]; decide
theorem idxNever_any (b3 b4 : Nat) (sp : Option Addr) (n cap : Nat) (l : List Ch) (f t : Int) (st : Option Addr) (nt ct : Nat) (told : Ps) (w : World) (h3 : w.cell? ⟨b3, 0, none⟩ = some (.slice sp n cap)) (h4 : w.heap[b4]? = some (.cells (tmA f t) 43 (0, 0))) (h : SlK w 4 sp n (chs l)) (hs : ∀ a, sp = some a → a.block < w.heap.size) (hn : n ≤ 4000) (hnl : sp = none → cap = 0) (hle : n ≤ cap) (hf : failE l f t = 0) (ht : SlK w 2 st nt (prs told)) :
    Calls Try.prog 68 #[.slice st nt ct, .func (.func 51) #[] #[.pointer (some ⟨b3, 0, none⟩), .pointer (some ⟨b4, 0, none⟩)]] w fun e w' => e = .returned (.int .i64 (idxP (neverB l f t) told)) ∧ Below w.heap.size w w' := by
  have hlen := prs_len ht
  have hmax := ht.2.1
  unfold maxLen at hmax
  have NV := fun k v W (hb : Below w.heap.size w W) => never_any b3 b4 sp n cap l f t k v W ((hb.cell (lt_of_cell h3)).trans h3) (heap_below hb h4 (lt_of_heap h4)) (h.below hb) (fun a ha => by have := hs a ha; have := hb.size; omega) hn hnl hle hf
  clear h3 h4 hnl hle hf hn
  have hlen'h := Lib.hid hlen
  have h'h := Lib.hid h
  have hs'h := Lib.hid hs
  have ht'h := Lib.hid ht
  have NV'h := Lib.hid NV
  clear hlen h hs ht NV
  go_enter Try.func68, Try.ntmps68
  go_wp2
  go_loopg [8] nt (fun q i wr => ∃ k : Nat, k + q = nt ∧ i = .int .i64 k ∧ (∀ j, j < k → neverB l f t (nthP told j) = false) ∧ Below w.heap.size w wr)
  case atStart => exact ⟨0, by omega, rfl, fun j hj => by omega, Below.refl _ _⟩
  case round =>
    obtain ⟨k, hk, rfl, hall, hB⟩ := hrel
    have hkn : k ≤ nt := by omega
    by_cases hlt : k < nt
    · have hkl : k < told.length := by have := hlen'h.out; omega
      obtain ⟨b, off, rfl⟩ := prs_some ht'h.out (by omega)
      obtain ⟨c1, c2⟩ := prs_cells (ht'h.out.below hB) hkl
      have C := NV'h.out (nthP told k).1 (nthP told k).2 wr hB
      have hi1 : (k : Int) < (nt : Int) := by omega
      have h0k : (0 : Int) ≤ (k : Int) := by omega
      have hpe : ((nthP told k).1, (nthP told k).2) = nthP told k := rfl
      rw [hpe] at C
      cases hv : neverB l f t (nthP told k) with
      | true =>
        have hr := idxP_hit (q := neverB l f t) hkl hall hv
        rw [hv] at C
        generalize (nthP told k).1 = x1 at *
        generalize (nthP told k).2 = x2 at *
        clear hpe
        have hk'h := Lib.hid hk
        have hall'h := Lib.hid hall
        have C'h := Lib.hid C
        have hr'h := Lib.hid hr
        have hv'h := Lib.hid hv
        have hkl'h := Lib.hid hkl
        have hB'h := Lib.hid hB
        clear hk hall C hr hv hkl hB
        go_wp2_with (first | (refine C'h.out.mono ?_; rintro e w5 ⟨rfl, hb5⟩))
        go_ret
        exact ⟨ret_i64 hr'h.out.symm, below_next hB'h.out hb5⟩
      | false =>
        have hall' : ∀ j, j < k + 1 → neverB l f t (nthP told j) = false := fun j hj => by
          by_cases e : j = k
          · rw [e]; exact hv
          · exact hall j (by omega)
        rw [hv] at C
        generalize (nthP told k).1 = x1 at *
        generalize (nthP told k).2 = x2 at *
        clear hpe
        have hk'h := Lib.hid hk
        have hall'h := Lib.hid hall
        have C'h := Lib.hid C
        have hv'h := Lib.hid hv
        have hkl'h := Lib.hid hkl
        have hall''h := Lib.hid hall'
        have hB'h := Lib.hid hB
        clear hk hall C hv hkl hall' hB
        go_wp2_with (first | (refine C'h.out.mono ?_; rintro e w5 ⟨rfl, hb5⟩))
        go_roundg (gk - 1)
        case measure => have := hk'h.out; omega
        case rel => exact ⟨k + 1, by have := hk'h.out; omega, by go_num, hall''h.out, below_next hB'h.out hb5⟩
    · have hr := idxP_none (l := told) (q := neverB l f t) (fun j hj => hall j (by have := hlen'h.out; omega))
      have hd : ¬ ((k : Int) < (nt : Int)) := by omega
      have hk'h := Lib.hid hk
      have hall'h := Lib.hid hall
      have hr'h := Lib.hid hr
      have hB'h := Lib.hid hB
      clear hk hall hr hB
      go_wp2
      go_ret
      exact ⟨ret_i64 hr'h.out.symm, hB'h.out⟩
theorem contNever_any (b3 b4 : Nat) (sp : Option Addr) (n cap : Nat) (l : List Ch) (f t : Int) (st : Option Addr) (nt ct : Nat) (told : Ps) (w : World) (h3 : w.cell? ⟨b3, 0, none⟩ = some (.slice sp n cap)) (h4 : w.heap[b4]? = some (.cells (tmA f t) 43 (0, 0))) (h : SlK w 4 sp n (chs l)) (hs : ∀ a, sp = some a → a.block < w.heap.size) (hn : n ≤ 4000) (hnl : sp = none → cap = 0) (hle : n ≤ cap) (hf : failE l f t = 0) (ht : SlK w 2 st nt (prs told)) :
    Calls Try.prog 53 #[.slice st nt ct, .func (.func 51) #[] #[.pointer (some ⟨b3, 0, none⟩), .pointer (some ⟨b4, 0, none⟩)]] w fun e w' => e = .returned (.bool (told.any (neverB l f t))) ∧ Below w.heap.size w w' := by
  have I := idxNever_any b3 b4 sp n cap l f t st nt ct told w h3 h4 h hs hn hnl hle hf ht
  have hr := idxP_geq (neverB l f t) told
  generalize idxP (neverB l f t) told = z at *
  generalize told.any (neverB l f t) = b at *
  clear hnl hle hf hn h3 h4
  have I'h := Lib.hid I
  have h'h := Lib.hid h
  have hr'h := Lib.hid hr
  have hs'h := Lib.hid hs
  have ht'h := Lib.hid ht
  clear I h hr hs ht
  go_enter Try.func53, Try.ntmps53
  go_wp2_with (first | (go_at_call 68; refine I'h.out.mono ?_; rintro e w2 ⟨rfl, hw2⟩))
  go_ret
  exact ⟨ret_bool hr'h.out, hw2⟩
end Go.Proofs.Ythfeiiibedmkiaa

/-
  Which pairs may be told in a time: Range.
-/
set_option linter.unusedSimpArgs false
set_option linter.unusedVariables false
set_option maxRecDepth 100000
namespace Go.Proofs.Ythfeiiibedmkiaa
open Go.RowKit

def mis0 (m : List (Nat × Int)) (k : Nat) : Bool := decide (mget m k = 0)
theorem missed_any (bv mb : Nat) (m : List (Nat × Int)) (k : Nat) (hk : k < 2 ^ 64) (w : World) (hv : w.cell? ⟨bv, 0, none⟩ = some (.map (some mb))) (hM : MapI w mb m) :
    Calls Try.prog 52 #[.int .u64 (k : Int), .pointer (some ⟨bv, 0, none⟩)] w fun e w' => e = .returned (.bool (mis0 m k)) ∧ w' = w := by
  have hlook := hM.look k hk
  have hr : ((mget m k : Int) == 0) = mis0 m k := rfl
  generalize mis0 m k = r at *
  generalize mget m k = g at *
  have hM'h := Lib.hid hM
  have hk'h := Lib.hid hk
  have hr'h := Lib.hid hr
  clear hM hk hr
  go_enter Try.func52, Try.ntmps52
  go_wp2
  go_ret
  exact ⟨ret_bool hr'h.out, rfl⟩
def idxM (q : Nat → Bool) (l : List Nat) : Int := if l.any q = true then (l.findIdx q : Int) else -1
theorem idxM_hit {q : Nat → Bool} {l : List Nat} {k : Nat} (hk : k < l.length) (hno : ∀ j, j < k → q (nthN l j) = false) (h : q (nthN l k) = true) : idxM q l = (k : Int) := by
  unfold idxM
  rw [if_pos (List.any_eq_true.2 ⟨_, nthN_mem hk, h⟩)]
  congr 1
  refine (List.findIdx_eq hk).2 ⟨by rw [nthN_eq hk]; exact h, fun j hj => ?_⟩
  rw [nthN_eq (by omega)]; exact hno j hj
theorem idxM_none {q : Nat → Bool} {l : List Nat} (hno : ∀ j, j < l.length → q (nthN l j) = false) : idxM q l = -1 := by
  unfold idxM
  rw [if_neg]
  intro h
  obtain ⟨s, hs, hp⟩ := List.any_eq_true.1 h
  obtain ⟨j, hj, rfl⟩ := List.mem_iff_getElem.1 hs
  rw [nthN_eq hj, hno j hj] at hp; cases hp
theorem idxM_geq (q : Nat → Bool) (l : List Nat) : decide ((0 : Int) ≤ idxM q l) = l.any q := by
  unfold idxM
  cases h : l.any q with
  | true => rw [if_pos rfl]; simp
  | false => rw [if_neg (by decide)]; decide
theorem idxMissed_any (bv mb : Nat) (m : List (Nat × Int)) (sp : Option Addr) (n cap : Nat) (l : List Nat) (hl : ∀ k ∈ l, k < 2 ^ 64) (w : World) (hv : w.cell? ⟨bv, 0, none⟩ = some (.map (some mb))) (hM : MapI w mb m) (h : Sl w sp n (u64s l)) :
    Calls Try.prog 69 #[.slice sp n cap, .func (.func 52) #[] #[.pointer (some ⟨bv, 0, none⟩)]] w fun e w' => e = .returned (.int .i64 (idxM (mis0 m) l)) ∧ w' = w := by
  have hlen : n = l.length := by have := h.1; rw [u64s_length] at this; omega
  have hmax := h.2.1
  unfold maxLen at hmax
  have NV := fun k hk => missed_any bv mb m k hk w hv hM
  clear hv hM
  have hlen'h := Lib.hid hlen
  have h'h := Lib.hid h
  have hl'h := Lib.hid hl
  have NV'h := Lib.hid NV
  clear hlen h hl NV
  go_enter Try.func69, Try.ntmps69
  go_wp2
  go_loopg [8] n (fun q i wr => ∃ k : Nat, k + q = n ∧ i = .int .i64 k ∧ (∀ j, j < k → mis0 m (nthN l j) = false) ∧ wr = w)
  case atStart => exact ⟨0, by omega, rfl, fun j hj => by omega, rfl⟩
  case round =>
    obtain ⟨k, hk, rfl, hall, rfl⟩ := hrel
    have hkn : k ≤ n := by omega
    by_cases hlt : k < n
    · have hkl : k < l.length := by have := hlen'h.out; omega
      obtain ⟨b, off, rfl, hcs⟩ := h'h.out.some' (by omega)
      have c1 : wr.cell? ⟨b, off + k, none⟩ = some (.int .u64 (nthN l k)) := hcs k _ (u64s_at hkl)
      have C := NV'h.out (nthN l k) (hl'h.out _ (nthN_mem hkl))
      have hi1 : (k : Int) < (n : Int) := by omega
      have h0k : (0 : Int) ≤ (k : Int) := by omega
      clear hcs
      cases hv : mis0 m (nthN l k) with
      | true =>
        have hr := idxM_hit (q := mis0 m) hkl hall hv
        rw [hv] at C
        generalize nthN l k = x at *
        have hk'h := Lib.hid hk
        have hall'h := Lib.hid hall
        have C'h := Lib.hid C
        have hr'h := Lib.hid hr
        have hv'h := Lib.hid hv
        have hkl'h := Lib.hid hkl
        clear hk hall C hr hv hkl
        go_wp2_with (first | (refine C'h.out.mono ?_; rintro e w2 ⟨rfl, hw2⟩; obtain rfl := hw2.symm))
        go_ret
        exact ⟨ret_i64 hr'h.out.symm, rfl⟩
      | false =>
        have hall' : ∀ j, j < k + 1 → mis0 m (nthN l j) = false := fun j hj => by
          by_cases e : j = k
          · rw [e]; exact hv
          · exact hall j (by omega)
        rw [hv] at C
        generalize nthN l k = x at *
        have hk'h := Lib.hid hk
        have hall'h := Lib.hid hall
        have C'h := Lib.hid C
        have hv'h := Lib.hid hv
        have hkl'h := Lib.hid hkl
        have hall''h := Lib.hid hall'
        clear hk hall C hv hkl hall'
        go_wp2_with (first | (refine C'h.out.mono ?_; rintro e w2 ⟨rfl, hw2⟩; obtain rfl := hw2.symm))
        go_roundg (gk - 1)
        case measure => have := hk'h.out; omega
        case rel => exact ⟨k + 1, by have := hk'h.out; omega, by go_num, hall''h.out, rfl⟩
    · have hr := idxM_none (l := l) (q := mis0 m) (fun j hj => hall j (by have := hlen'h.out; omega))
      have hd : ¬ ((k : Int) < (n : Int)) := by omega
      have hk'h := Lib.hid hk
      have hall'h := Lib.hid hall
      have hr'h := Lib.hid hr
      clear hk hall hr
      go_wp2
      go_ret
      exact ⟨ret_i64 hr'h.out.symm, rfl⟩
theorem contMissed_any (bv mb : Nat) (m : List (Nat × Int)) (sp : Option Addr) (n cap : Nat) (l : List Nat) (hl : ∀ k ∈ l, k < 2 ^ 64) (w : World) (hv : w.cell? ⟨bv, 0, none⟩ = some (.map (some mb))) (hM : MapI w mb m) (h : Sl w sp n (u64s l)) :
    Calls Try.prog 54 #[.slice sp n cap, .func (.func 52) #[] #[.pointer (some ⟨bv, 0, none⟩)]] w fun e w' => e = .returned (.bool (l.any (mis0 m))) ∧ w' = w := by
  have I := idxMissed_any bv mb m sp n cap l hl w hv hM h
  have hr := idxM_geq (mis0 m) l
  generalize idxM (mis0 m) l = z at *
  generalize l.any (mis0 m) = b at *
  clear hv hM hl
  have I'h := Lib.hid I
  have h'h := Lib.hid h
  have hr'h := Lib.hid hr
  clear I h hr
  go_enter Try.func54, Try.ntmps54
  go_wp2_with (first | (go_at_call 69; refine I'h.out.mono ?_; rintro e w2 ⟨rfl, hw2⟩; obtain rfl := hw2.symm))
  go_ret
  exact ⟨ret_bool hr'h.out, rfl⟩
/-! ### Which keys were told -/
def logP (l : Ps) : List (Nat × Int) := l.reverse.map fun p => (p.1, 1)
theorem mget_ones (x : Nat) : ∀ l : Ps, mget (l.map fun p => (p.1, 1)) x = if l.any (fun p => p.1 == x) = true then 1 else 0
  | [] => rfl
  | p :: l => by
    rw [List.map_cons, mget, mget_ones x l, List.any_cons]
    by_cases e : p.1 = x
    · simp [e]
    · rw [if_neg e]
      have : (p.1 == x) = false := by simp [e]
      rw [this, Bool.false_or]
theorem mget_logP (l : Ps) (x : Nat) : mget (logP l) x = if l.any (fun p => p.1 == x) = true then 1 else 0 := by
  unfold logP
  rw [mget_ones, List.any_reverse]
theorem logP_snoc (l : Ps) (p : Nat × Nat) : logP (l ++ [p]) = (p.1, 1) :: logP l := by unfold logP; simp
theorem logP_length (l : Ps) : (logP l).length = l.length := by unfold logP; simp
/-- Was the key of the k-th one told ahead of it? -/
def dupP (l : Ps) (k : Nat) : Bool := (l.take k).any fun p => p.1 == (nthP l k).1
def twiceB (l : Ps) : Bool := (List.range l.length).any (dupP l)
def missB (must : List Nat) (told : Ps) : Bool := must.any fun k => !told.any fun p => p.1 == k
theorem mis0_log (told : Ps) : mis0 (logP told) = fun k => !told.any fun p => p.1 == k := by
  funext k
  unfold mis0
  rw [mget_logP]
  cases told.any fun p => p.1 == k <;> rfl
def rangeE (l : List Ch) (f t : Int) (told : Ps) : Nat := if failE l f t ≠ 0 then failE l f t else if twiceB told = true then 381 else if told.any (neverB l f t) = true then 382 else if missB (mustL l f t) told = true then 383 else 0
theorem twice_no {l : Ps} (h : ∀ k, k < l.length → dupP l k = false) : twiceB l = false := by
  unfold twiceB
  rw [← Bool.not_eq_true, List.any_eq_true]
  rintro ⟨k, hk, e⟩
  rw [h k (by simpa using hk)] at e; cases e
theorem twice_yes {l : Ps} {k : Nat} (hk : k < l.length) (h : dupP l k = true) : twiceB l = true := List.any_eq_true.2 ⟨k, by simpa using hk, h⟩
theorem mapL_mem {l : List Ch} (hok : ∀ c ∈ l, ChOk c) : ∀ {k : Nat} {p : Nat × Nat}, p ∈ mapL l k → p.1 < 2 ^ 64 ∧ p.2 < 2 ^ 64
  | 0, p, h => by cases h
  | k + 1, p, h => by
    by_cases hk : k < l.length
    · rw [mapL_succ hk] at h
      unfold behP at h
      have hc := hok _ (nthC_mem hk)
      split at h
      · rcases mem_ins h with rfl | h
        · exact ⟨hc.key, hc.val⟩
        · exact mapL_mem hok h
      · exact mapL_mem hok (mem_del h)
    · rw [mapL, List.getElem?_eq_none (by omega)] at h
      exact mapL_mem hok h
theorem leftK_mem {l : List Ch} {k0 : Nat} : ∀ {k : Nat} {p : Nat × Nat}, p ∈ leftK l k0 k → p ∈ mapL l k0
  | 0, p, h => by cases h
  | k + 1, p, h => by
    rw [leftK] at h
    have h := (List.mem_filter.1 h).1
    split at h
    · exact h
    · exact leftK_mem h
theorem mustL_lt {l : List Ch} (hok : ∀ c ∈ l, ChOk c) (f t : Int) : ∀ k ∈ mustL l f t, k < 2 ^ 64 := by
  intro k hk
  unfold mustL at hk
  split at hk
  · obtain ⟨p, hp, rfl⟩ := List.mem_map.1 hk
    exact (mapL_mem hok (leftK_mem hp)).1
  · cases hk
theorem mustL_le (l : List Ch) (f t : Int) : (mustL l f t).length ≤ l.length := by
  unfold mustL
  split
  · rw [List.length_map]; exact Nat.le_trans (leftK_le _ _ _) (cntL_le _ _)
  · simp
theorem range_no (sp : Option Addr) (n cap : Nat) (l : List Ch) (f t : Int) (tv : Value) (w : World) (h : SlK w 4 sp n (chs l)) (hs : ∀ a, sp = some a → a.block < w.heap.size) (hn : n ≤ 4000) (hf : failE l f t ≠ 0) :
    Calls Try.prog 23 #[.slice sp n cap, .agg (tmA f t), tv] w fun e w' => e = .returned (.int .i64 (failE l f t)) ∧ Below w.heap.size w w' := by
  have H0 := (Hs.nil w).new2 #[.slice sp n cap] (tmA f t) 22 43
  obtain ⟨W0, hW0⟩ : ∃ W0, W0 = (w.alloc (.cells #[.slice sp n cap] 22)).alloc (.cells (tmA f t) 43) := ⟨_, rfl⟩
  rw [← hW0] at H0
  have F := rfails_any sp n cap l f t W0 (h.below H0.old) (fun a ha => by have := hs a ha; have := H0.old.size; omega) hn
  have hz : ((failE l f t : Int) != 0) = true := by simp; omega
  generalize failE l f t = z at *
  have q0 : W0.cell? ⟨w.heap.size, 0, none⟩ = some (.slice sp n cap) := blk_cell H0.rows.2.1 rfl
  have H0'h := Lib.hid H0
  have F'h := Lib.hid F
  have h'h := Lib.hid h
  have hs'h := Lib.hid hs
  clear H0 F h hs
  refine (callsIn_wide (n := 0)).1 ?_
  refine callsIn_of_wp_marks Try.func23 rfl trivial ?_
  simp only [Try.ntmps23, List.size_toArray, List.length_cons, List.length_nil, Nat.reduceAdd, Nat.reduceSub, Array.replicate_succ, Array.replicate_zero, List.push_toArray, List.append_toArray, List.nil_append, List.cons_append]
  refine wpIn_wide.2 ?_
  go_upto_region 1 with fail
  rw [← hW0]
  clear hW0
  go_wp2_with (first | guard_target = wpList _ _ _ (Oper.mk _ (.load _ (.tmp 4)) _ _ _ _ :: _) _ _; refine wpList_load_row rfl 43 (.tmp 4) rfl (w.heap.size + 1) rfl 43 (tmA f t) (0, 0) _ H0'h.out.rows.1 Try.underlying43 rfl info_tm ?_ | (go_at_call 45; refine F'h.out.mono ?_; rintro e w2 ⟨rfl, hb2⟩))
  exact post_plain (.inl rfl) (results_tmp rfl _ _ _) ⟨rfl, (H0'h.out.next hb2).old⟩
set_option maxHeartbeats 2000000 in
theorem range_yes (sp : Option Addr) (n cap : Nat) (l : List Ch) (f t : Int) (st : Option Addr) (nt ct : Nat) (told : Ps) (w : World) (h : SlK w 4 sp n (chs l)) (hs : ∀ a, sp = some a → a.block < w.heap.size) (hn : n ≤ 4000) (hnl : sp = none → cap = 0) (hle : n ≤ cap) (hok : ∀ c ∈ l, ChOk c) (hT : SlK w 2 st nt (prs told)) (hP : P64 told) (hnt : nt ≤ 4096) (hf : failE l f t = 0) :
    Calls Try.prog 23 #[.slice sp n cap, .agg (tmA f t), .slice st nt ct] w fun e w' => e = .returned (.int .i64 (rangeE l f t told)) ∧ Below w.heap.size w w' := by
  have hE : rangeE l f t told = if twiceB told = true then 381 else if told.any (neverB l f t) = true then 382 else if missB (mustL l f t) told = true then 383 else 0 := by unfold rangeE; rw [if_neg (by omega)]
  generalize rangeE l f t told = res at *
  have H0 := (Hs.nil w).new2 #[.slice sp n cap] (tmA f t) 22 43
  obtain ⟨W0, hW0⟩ : ∃ W0, W0 = (w.alloc (.cells #[.slice sp n cap] 22)).alloc (.cells (tmA f t) 43) := ⟨_, rfl⟩
  rw [← hW0] at H0
  have F := rfails_any sp n cap l f t W0 (h.below H0.old) (fun a ha => by have := hs a ha; have := H0.old.size; omega) hn
  rw [hf] at F
  have q0 : W0.cell? ⟨w.heap.size, 0, none⟩ = some (.slice sp n cap) := blk_cell H0.rows.2.1 rfl
  have hlen := prs_len hT
  have hmax := hT.2.1
  have hmm := @run_makeMap Try.prog
  have H0'h := Lib.hid H0
  have F'h := Lib.hid F
  have h'h := Lib.hid h
  have hs'h := Lib.hid hs
  have hT'h := Lib.hid hT
  have hP'h := Lib.hid hP
  have hok'h := Lib.hid hok
  have hnl'h := Lib.hid hnl
  have hle'h := Lib.hid hle
  have hf'h := Lib.hid hf
  have hlen'h := Lib.hid hlen
  have hE'h := Lib.hid hE
  have hmax'h := Lib.hid hmax
  clear H0 F h hs hT hP hok hnl hle hf hlen hE hmax
  refine (callsIn_wide (n := 0)).1 ?_
  refine callsIn_of_wp_marks Try.func23 rfl trivial ?_
  simp only [Try.ntmps23, List.size_toArray, List.length_cons, List.length_nil, Nat.reduceAdd, Nat.reduceSub, Array.replicate_succ, Array.replicate_zero, List.push_toArray, List.append_toArray, List.nil_append, List.cons_append]
  refine wpIn_wide.2 ?_
  go_upto_region 1 with fail
  rw [← hW0]
  clear hW0
  go_upto_region 4 with (first | guard_target = wpList _ _ _ (Oper.mk _ (.load _ (.tmp 4)) _ _ _ _ :: _) _ _; refine wpList_load_row rfl 43 (.tmp 4) rfl (w.heap.size + 1) rfl 43 (tmA f t) (0, 0) _ H0'h.out.rows.1 Try.underlying43 rfl info_tm ?_ | (go_at_call 45; refine F'h.out.mono ?_; rintro e w2 ⟨rfl, hb2⟩))
  have H2 := H0'h.out.next hb2
  have hmb : w.heap.size ≤ w2.heap.size := H2.old.size
  have H3 := (H2.next ((Below.refl w2.heap.size w2).alloc (Nat.le_refl _) (.map #[] 0))).new #[.map (some w2.heap.size)] 89
  have hM3 : MapI ((w2.alloc (.map #[] 0)).alloc (.cells #[.map (some w2.heap.size)] 89)) w2.heap.size [] := (MapI.made w2).heap (Below.heap_alloc _ _ _ (by simp))
  rw [World.size_alloc] at H3
  obtain ⟨V, hV⟩ : ∃ V, V = (w2.alloc (.map #[] 0)).alloc (.cells #[.map (some w2.heap.size)] 89) := ⟨_, rfl⟩
  rw [← hV] at H3 hM3
  have hmw : ∀ x ∈ ([(w2.heap.size + 1, #[.map (some w2.heap.size)], 89), (w.heap.size + 1, tmA f t, 43), (w.heap.size, #[.slice sp n cap], 22)] : List Blk3), x.1 ≠ w2.heap.size := by
    have hz0 := H0'h.out.lt
    have := hb2.size
    intro x hx
    have h1 := hz0 (w.heap.size + 1, tmA f t, 43) (List.mem_cons_self ..)
    have h2 := hz0 (w.heap.size, #[.slice sp n cap], 22) (List.mem_cons_of_mem _ (List.mem_cons_self ..))
    simp only at h1 h2
    rcases List.mem_cons.1 hx with rfl | hx
    · simp only; omega
    rcases List.mem_cons.1 hx with rfl | hx
    · simp only; omega
    rcases List.mem_cons.1 hx with rfl | hx
    · simp only; omega
    · cases hx
  have hV'h := Lib.hid hV
  have H3'h := Lib.hid H3
  have hM3'h := Lib.hid hM3
  have hmb'h := Lib.hid hmb
  have hb2'h := Lib.hid hb2
  have H2'h := Lib.hid H2
  have hmw'h := Lib.hid hmw
  clear hV H3 hM3 hmb hb2 H2 hmw
  go_upto_region 5 with fail
  rw [← hV'h.out]
  generalize w2.heap.size = mb at *
  clear hV'h H2'h
  go_wp2
  go_loopg [22] nt (fun q i wr => ∃ k : Nat, k + q = nt ∧ i = .int .i64 k ∧ Hs w [(mb + 1, #[.map (some mb)], 89), (w.heap.size + 1, tmA f t, 43), (w.heap.size, #[.slice sp n cap], 22)] wr ∧ MapI wr mb (logP (told.take k)) ∧ ∀ j, j < k → dupP told j = false)
  case atStart => exact ⟨0, by omega, rfl, H3'h.out, hM3'h.out, fun j hj => by omega⟩
  case round =>
    obtain ⟨k, hk, rfl, hH, hM, hall⟩ := hrel
    by_cases hlt : k < nt
    · have hkl : k < told.length := by have := hlen'h.out; omega
      obtain ⟨b, off, rfl⟩ := prs_some hT'h.out (by omega)
      obtain ⟨c1, c2⟩ := prs_cells (hT'h.out.below hH.old) hkl
      have hpk := hP'h.out _ (nthP_mem hkl)
      have hi1 : (k : Int) < (nt : Int) := by omega
      have h0k : (0 : Int) ≤ (k : Int) := by omega
      have hH4 := hH.new #[.int .u64 ((nthP told k).1 : Int), .int .u64 ((nthP told k).2 : Int)] 38
      obtain ⟨V4, hV4⟩ : ∃ V4, V4 = wr.alloc (.cells #[.int .u64 ((nthP told k).1 : Int), .int .u64 ((nthP told k).2 : Int)] 38) := ⟨_, rfl⟩
      have hM4 : MapI V4 mb (logP (told.take k)) := by rw [hV4]; exact hM.heap (Below.heap_alloc _ _ _ hM.lt)
      rw [← hV4] at hH4
      have hmw4 : ∀ x ∈ ((wr.heap.size, #[.int .u64 ((nthP told k).1 : Int), .int .u64 ((nthP told k).2 : Int)], 38) :: [(mb + 1, #[.map (some mb)], 89), (w.heap.size + 1, tmA f t, 43), (w.heap.size, #[.slice sp n cap], 22)] : List Blk3), x.1 ≠ mb := fun x hx => by
        rcases List.mem_cons.1 hx with rfl | hx
        · have := hM.lt; simp only; omega
        · exact hmw'h.out x hx
      have hlook := hM4.look (nthP told k).1 hpk.1
      rw [mget_logP] at hlook
      change (Instr.lookup 89 (.map (some mb)) (.int .u64 ((nthP told k).1 : Int)) false).run Try.prog V4 = .ok (.int .i64 (if dupP told k = true then 1 else 0)) V4 at hlook
      have hlm : (logP (told.take k)).length < maxLen := by rw [logP_length, List.length_take]; have := hmax'h.out; omega
      have e1 : V4.cell? ⟨mb + 1, 0, none⟩ = some (.map (some mb)) := blk_cell hH4.rows.2.1 rfl
      have e2 : V4.cell? ⟨wr.heap.size, 0, none⟩ = some (.int .u64 ((nthP told k).1 : Int)) := blk_cell hH4.rows.1 rfl
      have htk : told.take (k + 1) = told.take k ++ [nthP told k] := by rw [List.take_succ_eq_append_getElem hkl, nthP_eq hkl]
      cases hd : dupP told k with
      | true =>
        rw [hd] at hlook
        simp only [if_true] at hlook
        obtain ⟨w6, hput, hM6, hg6⟩ := hM4.put (nthP told k).1 2 hpk.1 (by decide) hlm
        have hH6 := hH4.grown' hg6 (fun q hq => by injection hq with hq; subst hq; exact ⟨hmb'h.out, hmw4⟩)
        have hlook6 := hM6.look (nthP told k).1 hpk.1
        rw [show mget (((nthP told k).1, 2) :: logP (told.take k)) (nthP told k).1 = 2 by simp [mget]] at hlook6
        have e3 : w6.cell? ⟨mb + 1, 0, none⟩ = some (.map (some mb)) := blk_cell hH6.rows.2.1 rfl
        have e4 : w6.cell? ⟨wr.heap.size, 0, none⟩ = some (.int .u64 ((nthP told k).1 : Int)) := blk_cell hH6.rows.1 rfl
        have htw := twice_yes hkl hd
        clear hM4 hM6 hg6 hH4 hlm hmw4
        have hk'h := Lib.hid hk
        have hH'h := Lib.hid hH
        have hM'h := Lib.hid hM
        have hall'h := Lib.hid hall
        have hpk'h := Lib.hid hpk
        have hV4'h := Lib.hid hV4
        have hH6'h := Lib.hid hH6
        have htk'h := Lib.hid htk
        have hd'h := Lib.hid hd
        have htw'h := Lib.hid htw
        have hkl'h := Lib.hid hkl
        clear hk hH hM hall hpk hV4 hH6 htk hd htw hkl
        go_upto_region 8 with fail
        rw [← hV4'h.out]
        go_wp2
        exact post_plain (.inl rfl) (results_tmp rfl _ _ _) ⟨by rw [hE'h.out, if_pos htw'h.out]; rfl, hH6'h.out.old⟩
      | false =>
        rw [hd] at hlook
        simp only [Bool.false_eq_true, if_false] at hlook
        obtain ⟨w6, hput, hM6, hg6⟩ := hM4.put (nthP told k).1 1 hpk.1 (by decide) hlm
        have hH6 := hH4.grown' hg6 (fun q hq => by injection hq with hq; subst hq; exact ⟨hmb'h.out, hmw4⟩)
        have hlook6 := hM6.look (nthP told k).1 hpk.1
        rw [show mget (((nthP told k).1, 1) :: logP (told.take k)) (nthP told k).1 = 1 by simp [mget]] at hlook6
        have e3 : w6.cell? ⟨mb + 1, 0, none⟩ = some (.map (some mb)) := blk_cell hH6.rows.2.1 rfl
        have e4 : w6.cell? ⟨wr.heap.size, 0, none⟩ = some (.int .u64 ((nthP told k).1 : Int)) := blk_cell hH6.rows.1 rfl
        have hM7 : MapI w6 mb (logP (told.take (k + 1))) := by rw [htk, logP_snoc]; exact hM6
        have hall' : ∀ j, j < k + 1 → dupP told j = false := fun j hj => by
          by_cases e : j = k
          · rw [e]; exact hd
          · exact hall j (by omega)
        clear hM4 hM6 hg6 hH4 hlm hmw4
        have hk'h := Lib.hid hk
        have hH'h := Lib.hid hH
        have hM'h := Lib.hid hM
        have hall'h := Lib.hid hall
        have hpk'h := Lib.hid hpk
        have hV4'h := Lib.hid hV4
        have hH6'h := Lib.hid hH6
        have htk'h := Lib.hid htk
        have hd'h := Lib.hid hd
        have hkl'h := Lib.hid hkl
        have hM7'h := Lib.hid hM7
        have hall''h := Lib.hid hall'
        clear hk hH hM hall hpk hV4 hH6 htk hd hkl hM7 hall'
        go_upto_region 8 with fail
        rw [← hV4'h.out]
        go_wp2
        go_roundg (gk - 1)
        case measure => have := hk'h.out; omega
        case rel => exact ⟨k + 1, by have := hk'h.out; omega, by go_num, hH6'h.out.tail, hM7'h.out, hall''h.out⟩
    · have hkn : k = told.length := by have := hlen'h.out; omega
      have hd : ¬ ((k : Int) < (nt : Int)) := by omega
      have htw := twice_no (l := told) (fun j hj => hall j (by omega))
      rw [hkn, List.take_of_length_le (Nat.le_refl _)] at hM
      clear hkn
      have q3 : wr.cell? ⟨w.heap.size, 0, none⟩ = some (.slice sp n cap) := blk_cell hH.rows.2.2.1 rfl
      have C := contNever_any w.heap.size (w.heap.size + 1) sp n cap l f t st nt ct told wr q3 hH.rows.2.1 (h'h.out.below hH.old) (fun a ha => by have := hs'h.out a ha; have := hH.old.size; omega) hn hnl'h.out hle'h.out hf'h.out (hT'h.out.below hH.old)
      cases hnv : told.any (neverB l f t) with
      | true =>
        rw [hnv] at C
        have hk'h := Lib.hid hk
        have hall'h := Lib.hid hall
        have hH'h := Lib.hid hH
        have hM'h := Lib.hid hM
        have htw'h := Lib.hid htw
        have C'h := Lib.hid C
        have hnv'h := Lib.hid hnv
        clear hk hall hH hM htw C hnv
        go_wp2_with (first | (go_at_call 53; refine C'h.out.mono ?_; rintro e w3 ⟨rfl, hb3⟩))
        exact post_plain (.inl rfl) (results_tmp rfl _ _ _) ⟨by rw [hE'h.out, if_neg (by rw [htw'h.out]; decide), if_pos hnv'h.out]; rfl, (hH'h.out.next hb3).old⟩
      | false =>
        rw [hnv] at C
        have hk'h := Lib.hid hk
        have hall'h := Lib.hid hall
        have hH'h := Lib.hid hH
        have hM'h := Lib.hid hM
        have htw'h := Lib.hid htw
        have C'h := Lib.hid C
        have hnv'h := Lib.hid hnv
        clear hk hall hH hM htw C hnv
        go_upto_region 16 with (first | (go_at_call 53; refine C'h.out.mono ?_; rintro e w3 ⟨rfl, hb3⟩))
        have hH4 := hH'h.out.next hb3
        have hM4 := hM'h.out.heap (hb3.block mb hM'h.out.lt)
        have hM := rMust_yes sp n cap l f t w3 (h'h.out.below hH4.old) (fun a ha => by have := hs'h.out a ha; have := hH4.old.size; omega) hn hnl'h.out hle'h.out hf'h.out
        have q4 : w3.cell? ⟨w.heap.size, 0, none⟩ = some (.slice sp n cap) := blk_cell hH4.rows.2.2.1 rfl
        clear q3
        have hM'h := Lib.hid hM
        have hH4'h := Lib.hid hH4
        have hM4'h := Lib.hid hM4
        have hb3'h := Lib.hid hb3
        clear hM hH4 hM4 hb3
        have CM := fun s5 c5 W hv hMM h => contMissed_any (mb + 1) mb (logP told) s5 (mustL l f t).length c5 (mustL l f t) (mustL_lt hok'h.out f t) W hv hMM h
        rw [show (mustL l f t).any (mis0 (logP told)) = missB (mustL l f t) told by unfold missB; rw [mis0_log]] at CM
        have hml := mustL_le l f t
        have hcl := chs_len h'h.out
        generalize mustL l f t = ml at *
        have hres := hE'h.out
        generalize missB ml told = r at *
        have CM'h := Lib.hid CM
        have hml'h := Lib.hid hml
        have hcl'h := Lib.hid hcl
        have hres'h := Lib.hid hres
        clear CM hml hcl hres
        go_wp2_with (first | guard_target = wpList _ _ _ (Oper.mk _ (.load _ (.tmp 4)) _ _ _ _ :: _) _ _; refine wpList_load_row rfl 43 (.tmp 4) rfl (w.heap.size + 1) rfl 43 (tmA f t) (0, 0) _ hH4'h.out.rows.2.1 Try.underlying43 rfl info_tm ?_ | (go_at_call 26; refine hM'h.out.mono ?_; rintro e w4 ⟨s5, n5, c5, rfl, hb4, hrow5⟩; obtain rfl := row_len9 hrow5; have hH5 := hH4'h.out.next hb4; have hM5 := hM4'h.out.heap (hb4.block mb hM4'h.out.lt); have q5 : w4.cell? ⟨mb + 1, 0, none⟩ = some (.map (some mb)) := blk_cell hH5.rows.1 rfl; have hS5 := Sl.of_row hrow5 (by have := hml'h.out; have := hcl'h.out; unfold maxLen; omega); have hH5'h := Lib.hid hH5; have hM5'h := Lib.hid hM5; have hS5'h := Lib.hid hS5; clear hH5 hM5 hS5 hb4 hrow5) | (go_at_call 54; refine (CM'h.out s5 c5 w4 q5 hM5'h.out hS5'h.out).mono ?_; rintro e w5 ⟨rfl, hw5⟩; obtain rfl := hw5.symm))
        · exact post_plain (.inl rfl) (results_tmp rfl _ _ _) ⟨by rw [hres'h.out, if_neg (by rw [htw'h.out]; decide), if_neg (by rw [hnv'h.out]; decide)]; (first | (rw [if_pos (by assumption)]; rfl) | (rw [if_neg (by assumption)]; rfl) | (rw [show r = false by assumption]; rfl)), hH5'h.out.old⟩
        · exact post_plain (.inl rfl) (results_tmp rfl _ _ _) ⟨by rw [hres'h.out, if_neg (by rw [htw'h.out]; decide), if_neg (by rw [hnv'h.out]; decide)]; (first | (rw [if_pos (by assumption)]; rfl) | (rw [if_neg (by assumption)]; rfl) | (rw [show r = false by assumption]; rfl)), hH5'h.out.old⟩
end Go.Proofs.Ythfeiiibedmkiaa

