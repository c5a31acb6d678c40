/-
  Package group: what full slots are; how many slots are free; the same groups.
-/
import Derived.Test.YtfoohdjgnphdgaaGroupD
import Derived.Test.YtfoohdjgnphdgaaRoundF
set_option linter.unusedSimpArgs false
set_option linter.unusedVariables false
set_option maxRecDepth 100000
namespace Go.Proofs.Ytfoohdjgnphdgaa
open Go.RowKit

theorem wp_region_heldF {P : Program} {id : Nat} {Q : Exit → Act → World → Prop} {a : Act} {w : World} {ol : List Oper} (S : World → Prop) (L : Nat) (hm : P.follows .mixedOrders = true)
    (h : wpAnyF P .any ol.toArray Q S L ol.toArray.size (Array.replicate ol.toArray.size false) a w.drew) :
    (Code.region id ol.toArray true).wp P Q a w := wp_region_any hm (wpAny_of_heldF _ _ _ _ h)
theorem run_load_agg {P : Program} {e : Operand → Value} {o : Oper} {w : World} {ty : TypeId} {x : Operand} (ho : o.op = .load ty x) {g : Nat} (hx : e x = .pointer (some ⟨g, 0, none⟩)) {t : TypeId} {cs : Array Value} {fr : Nat × Nat} {d : TypeDesc}
    (hg : w.heap[g]? = some (.cells cs t fr)) (hu : P.underlying ty = some d) (hd : (match d with | .struct _ | .array _ _ => true | _ => false) = true) (hi : (P.info? ty).map (·.size) = some cs.size) : (execOp e o).run P w = .ok (.value (.agg cs)) w := by
  unfold execOp
  simp only [ho, hx, Instr.loadAt, Instr.sureAddr, Sem.run_bind, Sem.run_pure, Result.andThen_ok, run_loadVar_row w g t ty cs fr d hg hu hd hi]
def sls (l : List Sl3) : List Value := l.flatMap slL
def liveR (g : Gp) : List Sl3 := if rightG g = true then liveG g else []
def SlRow (base : Nat) (l : List Sl3) (w : World) (e : Ending) (w' : World) : Prop :=
  ∃ sp n cap, e = .returned (.slice sp n cap) ∧ Below base w w' ∧ w'.ownsRow base 38 3 (.slice sp n cap) l.length (sls l)
theorem live_any (g : Gp) (w : World) (hg : GpOk g) : Calls Try.prog 19 #[.agg (gpA g)] w (SlRow w.heap.size (liveR g) w) := by
  have C := fun w => gcheck_any g w hg
  unfold gchkE at C
  obtain ⟨W, hW⟩ : ∃ W, W = w.alloc (.cells (gpA g) 25) := ⟨_, rfl⟩
  have hO := (Hs.nil w).new (gpA g) 25
  rw [← hW] at hO
  cases hr : rightG g with
  | false =>
    have e1 : liveR g = [] := by unfold liveR; rw [hr]; rfl
    rw [e1]
    rw [hr] at C
    simp only [Bool.false_eq_true, if_false] at C
    have C'h := Lib.hid C
    have hO'h := Lib.hid hO
    have e1'h := Lib.hid e1
    have hr'h := Lib.hid hr
    have hg'h := Lib.hid hg
    clear C hO e1 hr hg
    go_enter Try.func19, Try.ntmps19
    go_upto_region 1 with fail
    rw [← hW]
    clear hW
    go_wp2_with (first | (refine wpList_load_row rfl _ _ rfl w.heap.size rfl 25 (gpA g) (0, 0) _ hO'h.out.rows.1 Try.underlying25 rfl infoGp ?_) | (go_at_call 10; refine (C'h.out _).mono ?_; rintro e w2 ⟨rfl, hb2⟩))
    go_ret
    exact ⟨none, 0, 0, rfl, below_next hO'h.out.old hb2, World.ownsRow_nil _ _ _ _⟩
  | true =>
    have hrw := rightG_word hr
    have e1 : liveR g = liveG g := by unfold liveR; rw [hr]; rfl
    have hset : setM g.c 0 = belowM g.c 128 := by unfold setM; rw [if_pos hrw, if_pos rfl]
    have F := fun w => gfull_any g w hg
    have D := fun b w => madeSany (setM g.c 0) b g (by rw [hset]; exact belowM_lt' _ _) w
    have hl : lanesOf (setM g.c 0) = fullL g.c := by rw [hset, fullL_eq]
    have hs : (fullL g.c).flatMap (fun n => slL (slotAt g n)) = sls (liveG g) := by unfold sls liveG; rw [List.flatMap_map]
    have hn : (fullL g.c).length = (liveG g).length := by unfold liveG; rw [List.length_map]
    simp only [hl, hs, hn] at D
    rw [e1]
    rw [hr] at C
    simp only [if_true] at C
    have hmf : ∀ (fn : Fn) (first cap : Array Value) (w : World), (Instr.makeFunc fn first cap).run Try.prog w = .ok (.func fn first cap) w := fun _ _ _ _ => rfl
    generalize setM g.c 0 = m at *
    generalize liveG g = l at *
    have C'h := Lib.hid C
    have hO'h := Lib.hid hO
    have e1'h := Lib.hid e1
    have hr'h := Lib.hid hr
    have hg'h := Lib.hid hg
    have hrw'h := Lib.hid hrw
    have hset'h := Lib.hid hset
    have F'h := Lib.hid F
    have D'h := Lib.hid D
    have hl'h := Lib.hid hl
    have hs'h := Lib.hid hs
    have hn'h := Lib.hid hn
    clear C hO e1 hr hg hrw hset F D hl hs hn
    go_enter Try.func19, Try.ntmps19
    go_upto_region 1 with fail
    rw [← hW]
    clear hW
    go_upto_region 3 with (first | (refine wpList_load_row rfl _ _ rfl w.heap.size rfl 25 (gpA g) (0, 0) _ hO'h.out.rows.1 Try.underlying25 rfl infoGp ?_) | (go_at_call 10; refine (C'h.out _).mono ?_; rintro e w2 ⟨rfl, hb2⟩))
    have hO2 := hO'h.out.next hb2
    have hO3 := hO2.new (gpA gpZ) 77
    have hO4 := hO3.set 0 rfl (gpA g)
    clear hb2
    have hO2'h := Lib.hid hO2
    have hO3'h := Lib.hid hO3
    have hO4'h := Lib.hid hO4
    clear hO2 hO3 hO4
    go_wp2_with (first | (refine wpList_load_row rfl _ _ rfl w.heap.size rfl 25 (gpA g) (0, 0) _ hO2'h.out.rows.1 Try.underlying25 rfl infoGp ?_) | (refine wpList_build_agg rfl 77 #[(0, .tmp 7)] (by rfl) (gpA g) [(0, .agg (gpA g))] (by rfl) (built_ss g) ?_) | (refine wpList_store_row rfl _ _ _ rfl w2.heap.size (gpA g) rfl rfl 77 _ hO3'h.out.rows.1 infoSs rfl (gpA_one _) ?_))
    have hO5 := hO4'h.out
    change Code.wp _ _ _ _ ((w2.alloc (.cells (gpA gpZ) 77)).setRow w2.heap.size (gpA g))
    generalize World.setRow _ _ _ = W5 at hO5 ⊢
    have hO6 := hO5.drew
    refine wp_region_heldF (fun w' => w'.heap[w2.heap.size]? = some (.cells (gpA g) 77 (0, 0))) 99 (by kernel_rfl) ?_
    refine wpAnyF_take (i := 0) (v := .agg (gpA g)) rfl (by kernel_rfl) (by kernel_rfl) (by kernel_rfl) (by kernel_rfl) (fun _ _ _ h => h) (Or.inl ⟨by rfl, ?_⟩) hO6.rows.1 ?_
    · intro w hSw
      exact run_load_agg (by rfl) (by rfl) hSw Try.underlying77 rfl infoSs
    simp only [Act.put, List.setIfInBounds_toArray, List.set_cons_zero, List.set_cons_succ]
    refine wpAnyF_take (i := 2) (v := .agg (gpA g)) rfl (by kernel_rfl) (by kernel_rfl) (by kernel_rfl) (by kernel_rfl) (fun _ _ _ h => h) (Or.inl ⟨by rfl, ?_⟩) hO6.rows.1 ?_
    · intro w hSw
      exact run_load_agg (by rfl) (by rfl) hSw Try.underlying77 rfl infoSs
    simp only [Act.put, List.setIfInBounds_toArray, List.set_cons_zero, List.set_cons_succ]
    refine wpAnyF_take (i := 3) (v := .func (.func 44) #[.agg (gpA g)] #[]) rfl (by kernel_rfl) (by kernel_rfl) (by kernel_rfl) (by kernel_rfl) (fun _ _ _ h => h) (Or.inl ⟨by rfl, ?_⟩) hO6.rows.1 ?_
    · intro w hSw; go_simp
    simp only [Act.put, List.setIfInBounds_toArray, List.set_cons_zero, List.set_cons_succ]
    refine wpAnyF_one (i := 1) (by kernel_rfl) rfl (fun K hK => ?_)
    go_simp
    refine (F'h.out _).mono ?_
    rintro e w6 ⟨b, hbb, rfl, hb6, hmb⟩
    dsimp only
    refine hK.out _ _ (fun _ => heap_below hb6 hO6.rows.1 (lt_of_heap hO6.rows.1)) ?_
    clear hK K
    try simp only [Act.put, List.setIfInBounds_toArray, List.set_cons_zero, List.set_cons_succ]
    refine wpAnyF_one (i := 4) (by kernel_rfl) rfl (fun K hK => ?_)
    go_simp
    refine (D'h.out b _ hmb).mono ?_
    rintro e w7 ⟨sp, n, cap, rfl, hb7, hrow⟩
    dsimp only
    have hb8 := below_next hb6 hb7
    refine hK.out _ _ (fun _ => heap_below hb8 hO6.rows.1 (lt_of_heap hO6.rows.1)) ?_
    clear hK K
    try simp only [Act.put, List.setIfInBounds_toArray, List.set_cons_zero, List.set_cons_succ]
    refine wpAnyF_one (i := 5) (by kernel_rfl) rfl (fun K hK => ?_)
    go_simp
    refine hK.out _ _ (fun _ => heap_below hb8 hO6.rows.1 (lt_of_heap hO6.rows.1)) ?_
    clear hK K
    refine wpAnyF_done (by kernel_rfl) ?_ _
    have hO8 := hO6.next hb8
    have hsz := (hO6.next hb6).old.size
    have hrow'h := Lib.hid hrow
    have hO8'h := Lib.hid hO8
    have hsz'h := Lib.hid hsz
    clear hrow hO8 hsz
    go_wp2
    go_ret
    exact ⟨sp, n, cap, rfl, hO8'h.out.old, ownsRow_mono hrow'h.out hsz'h.out⟩
end Go.Proofs.Ytfoohdjgnphdgaa
