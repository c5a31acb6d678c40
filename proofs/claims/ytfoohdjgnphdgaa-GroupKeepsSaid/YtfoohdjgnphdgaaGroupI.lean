/-
  Package group: Put, Puts, Set, Drop.
-/
import Derived.Test.YtfoohdjgnphdgaaGroupH
set_option linter.unusedSimpArgs false
set_option linter.unusedVariables false
set_option maxRecDepth 100000
namespace Go.Proofs.Ytfoohdjgnphdgaa
open Go.RowKit

theorem results_row_tmp {P : Program} {fn : Func} {p u : Tmp} {ty : TypeId} (h : fn.results = #[.cell p ty, .tmp u]) (tmps : Array Value) (w : World) (g : Nat) (t : TypeId) (cs : Array Value) (fr : Nat × Nat) (d : TypeDesc)
    (hp : tmps.getD p undef = .pointer (some ⟨g, 0, none⟩)) (hg : w.heap[g]? = some (.cells cs t fr))
    (hu : P.underlying ty = some d) (hd : (match d with | .struct _ | .array _ _ => true | _ => false) = true) (hi : (P.info? ty).map (·.size) = some cs.size) :
    (results fn tmps).run P w = .ok (.tuple #[.agg cs, tmps.getD u undef]) w := by
  have hp' : tmps[p]?.getD undef = .pointer (some ⟨g, 0, none⟩) := by simpa using hp
  simp [results, h, hp', asAddr, run_loadVar_row w g t ty cs fr d hg hu hd hi, Sem.run_bind, Result.andThen]
theorem results_row_tmp2 {P : Program} {fn : Func} {p u v : Tmp} {ty : TypeId} (h : fn.results = #[.cell p ty, .tmp u, .tmp v]) (tmps : Array Value) (w : World) (g : Nat) (t : TypeId) (cs : Array Value) (fr : Nat × Nat) (d : TypeDesc)
    (hp : tmps.getD p undef = .pointer (some ⟨g, 0, none⟩)) (hg : w.heap[g]? = some (.cells cs t fr))
    (hu : P.underlying ty = some d) (hd : (match d with | .struct _ | .array _ _ => true | _ => false) = true) (hi : (P.info? ty).map (·.size) = some cs.size) :
    (results fn tmps).run P w = .ok (.tuple #[.agg cs, tmps.getD u undef, tmps.getD v undef]) w := by
  have hp' : tmps[p]?.getD undef = .pointer (some ⟨g, 0, none⟩) := by simpa using hp
  simp [results, h, hp', asAddr, run_loadVar_row w g t ty cs fr d hg hu hd hi, Sem.run_bind, Result.andThen]
theorem results_row_cell {P : Program} {fn : Func} {p q : Tmp} {ty ty' : TypeId} (h : fn.results = #[.cell p ty, .cell q ty']) (tmps : Array Value) (w : World) (g g' : Nat) (t : TypeId) (cs : Array Value) (fr : Nat × Nat) (d : TypeDesc) {v : Value}
    (hp : tmps.getD p undef = .pointer (some ⟨g, 0, none⟩)) (hq : tmps.getD q undef = .pointer (some ⟨g', 0, none⟩)) (hg : w.heap[g]? = some (.cells cs t fr))
    (hu : P.underlying ty = some d) (hd : (match d with | .struct _ | .array _ _ => true | _ => false) = true) (hi : (P.info? ty).map (·.size) = some cs.size) (hv : (loadVar ty' ⟨g', 0, none⟩).run P w = .ok v w) :
    (results fn tmps).run P w = .ok (.tuple #[.agg cs, v]) w := by
  have hp' : tmps[p]?.getD undef = .pointer (some ⟨g, 0, none⟩) := by simpa using hp
  have hq' : tmps[q]?.getD undef = .pointer (some ⟨g', 0, none⟩) := by simpa using hq
  simp [results, h, hp', hq', asAddr, run_loadVar_row w g t ty cs fr d hg hu hd hi, hv, Sem.run_bind, Result.andThen]
theorem Hs.only {w0 : World} {l : List Blk3} {W W' : World} (h : Hs w0 l W) (i : Nat) {b : Nat} {old new : Array Value} {t : TypeId} (hi : l[i]? = some (b, old, t)) (ho : Only b W W') (hg : W'.heap[b]? = some (.cells new t (0, 0))) : Hs w0 (l.set i (b, new, t)) W' := by
  have hil : i < l.length := (List.getElem?_eq_some_iff.1 hi).1
  have hib : l[i]'hil = (b, old, t) := (List.getElem?_eq_some_iff.1 hi).2
  have hm : (b, old, t) ∈ l := by rw [← hib]; exact List.getElem_mem _
  have hne : ∀ j (hj : j < l.length), j ≠ i → (l[j]'hj).1 ≠ b := by
    intro j hj hji
    have hp := List.pairwise_iff_getElem.1 h.desc
    rcases Nat.lt_or_gt_of_ne hji with hlt | hlt
    · have := hp j i hj hil hlt; rw [hib] at this; simp only at this; omega
    · have := hp i j hil hj hlt; rw [hib] at this; simp only at this; omega
  have hs := h.set i hi new
  refine ⟨HasL.of fun x hx => ?_, h.old.trans (ho.1 _ (h.low _ hm)), hs.low, hs.desc⟩
  obtain ⟨j, hj, rfl⟩ := List.mem_iff_getElem.1 hx
  rw [List.length_set] at hj
  rw [List.getElem_set]
  split
  · exact hg
  · rename_i hij
    exact (ho.2 _ (hne j hj (fun e => hij e.symm)) (h.lt _ (List.getElem_mem _))).trans (h.rows.mem _ (List.getElem_mem _))

def putZ (g : Gp) (s : Sl3) : Nat := if rightG g = true then putE g s else 200
def putRG (g : Gp) (s : Sl3) : Gp := if putZ g s = 0 then putTo g s else gpZ
def putRL (g : Gp) (s : Sl3) : Nat := if putZ g s = 0 then freeLane g else 0
theorem lput_any' (g : Gp) (s : Sl3) (G : Nat) (w : World) (hg : GpOk g) (hs : Sl3Ok s) (hr : rightW g.c = true) (hG : w.heap[G]? = some (.cells (gpA g) 77 (0, 0))) :
    Calls Try.prog 56 #[.pointer (some ⟨G, 0, none⟩), .agg (slA s)] w (PutEnd g s G w) := by
  by_cases hh : s.h2 ≤ 127
  · exact put_any' g s G w hg hs hr hh hG
  · refine (put_big g s G w (by omega) hG).mono ?_
    rintro e w' ⟨rfl, hb⟩
    exact PutEnd.no (by unfold putE; rw [if_pos (by omega)]) (by decide) hG hb
theorem gput_any (g : Gp) (s : Sl3) (w : World) (hg : GpOk g) (hs : Sl3Ok s) :
    Calls Try.prog 30 #[.agg (gpA g), .int .u64 s.key, .int .u64 s.val, .int .u8 s.h2] w fun e w' => e = .returned (.tuple #[.agg (gpA (putRG g s)), .int .i64 (putRL g s), .int .i64 (putZ g s)]) ∧ Below w.heap.size w w' := by
  have C := fun w => gcheck_any g w hg
  unfold gchkE at C
  obtain ⟨W, hW⟩ : ∃ W, W = (w.alloc (.cells (gpA g) 25)).alloc (.cells (gpA gpZ) 25) := ⟨_, rfl⟩
  have hO := (Hs.nil w).new2 (gpA g) (gpA gpZ) 25 25
  rw [← hW] at hO
  cases hr : rightG g with
  | false =>
    have z1 : putZ g s = 200 := by unfold putZ; rw [hr]; rfl
    have z2 : putRG g s = gpZ := by unfold putRG; rw [z1]; rfl
    have z3 : putRL g s = 0 := by unfold putRL; rw [z1]; rfl
    rw [z1, z2, z3]
    rw [hr] at C
    simp only [Bool.false_eq_true, if_false] at C
    have C'h := Lib.hid C
    have hO'h := Lib.hid hO
    have hr'h := Lib.hid hr
    have hg'h := Lib.hid hg
    have hs'h := Lib.hid hs
    have z1'h := Lib.hid z1
    have z2'h := Lib.hid z2
    have z3'h := Lib.hid z3
    clear C hO hr hg hs z1 z2 z3
    go_enter Try.func30, Try.ntmps30
    go_upto_region 1 with fail
    change Code.wp _ _ _ _ ((w.alloc (.cells (gpA g) 25)).alloc (.cells (gpA gpZ) 25))
    rw [← hW]
    clear hW
    go_wp2_with (first | (refine wpList_load_row rfl _ _ rfl w.heap.size rfl 25 (gpA g) (0, 0) _ hO'h.out.rows.2.1 Try.underlying25 rfl infoGp ?_) | (go_at_call 10; refine (C'h.out _).mono ?_; rintro e w2 ⟨rfl, hb2⟩; have hO2 := hO'h.out.next hb2; have hO2'h := Lib.hid hO2; clear hO2 hb2) | (refine wpList_store_row rfl _ _ _ rfl (w.heap.size + 1) (gpA gpZ) rfl rfl 25 _ hO2'h.out.rows.1 infoGp rfl (gpA_one _) ?_))
    have hO3 := hO2'h.out.set 0 rfl (gpA gpZ)
    change bodyPost _ _ _ _ _ (w2.setRow (w.heap.size + 1) (gpA gpZ))
    generalize World.setRow _ _ _ = W3 at hO3 ⊢
    exact bodyPost_ret (results_row_tmp2 rfl _ _ (w.heap.size + 1) 25 (gpA gpZ) (0, 0) _ rfl hO3.rows.1 Try.underlying25 rfl infoGp) rfl ⟨rfl, hO3.old⟩
  | true =>
    have hrw := rightG_word hr
    rw [hr] at C
    simp only [if_true] at C
    have PT := fun G w h => lput_any' g s G w hg hs hrw h
    have z1 : putZ g s = putE g s := by unfold putZ; rw [hr]; rfl
    have zl : putRL g s = putLane g s := by unfold putRL putLane; rw [z1]
    have C'h := Lib.hid C
    have hO'h := Lib.hid hO
    have hr'h := Lib.hid hr
    have hg'h := Lib.hid hg
    have hs'h := Lib.hid hs
    have z1'h := Lib.hid z1
    have zl'h := Lib.hid zl
    have PT'h := Lib.hid PT
    have hrw'h := Lib.hid hrw
    clear C hO hr hg hs z1 zl PT hrw
    go_enter Try.func30, Try.ntmps30
    go_upto_region 1 with fail
    change Code.wp _ _ _ _ ((w.alloc (.cells (gpA g) 25)).alloc (.cells (gpA gpZ) 25))
    rw [← hW]
    clear hW
    go_upto_region 4 with (first | (refine wpList_load_row rfl _ _ rfl w.heap.size rfl 25 (gpA g) (0, 0) _ hO'h.out.rows.2.1 Try.underlying25 rfl infoGp ?_) | (go_at_call 10; refine (C'h.out _).mono ?_; rintro e w2 ⟨rfl, hb2⟩; have hO2 := hO'h.out.next hb2; have hO2'h := Lib.hid hO2; clear hO2 hb2))
    have hO3 := hO2'h.out.new (gpA g) 77
    have hG3 := hO3.rows.1
    have hO3'h := Lib.hid hO3
    have hG3'h := Lib.hid hG3
    clear hO3 hG3
    by_cases h0 : putE g s = 0
    · have hz : ((putE g s : Int) != 0) = false := by simp [h0]
      have hw : putW g s = putRG g s := by unfold putW putRG; rw [z1'h.out]; simp [h0]
      have hz0 : (putE g s : Int) = 0 := by simp [h0]
      clear h0
      have zE : putZ g s = 0 := by have := z1'h.out; omega
      have hw'h := Lib.hid hw
      have hz0'h := Lib.hid hz0
      have zE'h := Lib.hid zE
      clear hw hz0 zE
      go_wp2_with (first | (refine wpList_load_row rfl _ _ rfl w.heap.size rfl 25 (gpA g) (0, 0) _ hO2'h.out.rows.2.1 Try.underlying25 rfl infoGp ?_) | (refine wpList_build_agg rfl 77 #[(0, .tmp 21)] (by rfl) (gpA g) [(0, .agg (gpA g))] (by rfl) (built_ss g) ?_) | (go_at_call 56; refine (PT'h.out _ _ hG3'h.out).mono ?_; rintro e w4 ⟨rfl, hG4, ho4⟩; have hO4 := hO3'h.out.only 0 rfl ho4 hG4; have hO4'h := Lib.hid hO4; clear hO4 hG4 ho4) | (refine wpList_load_row rfl _ _ rfl w2.heap.size rfl 77 (gpA (putW g s)) (0, 0) _ hO4'h.out.rows.1 Try.underlying25 rfl infoGp ?_) | (refine wpList_store_row rfl _ _ _ rfl (w.heap.size + 1) (gpA (putW g s)) rfl rfl 25 _ hO4'h.out.rows.2.1 infoGp rfl (gpA_one _) ?_))
      have hO5 := hO4'h.out.set 1 rfl (gpA (putW g s))
      change bodyPost _ _ _ _ _ (w4.setRow (w.heap.size + 1) (gpA (putW g s)))
      generalize World.setRow _ _ _ = W5 at hO5 ⊢
      rw [hw'h.out] at hO5
      refine bodyPost_ret (results_row_tmp2 rfl _ _ (w.heap.size + 1) 25 (gpA (putRG g s)) (0, 0) _ rfl hO5.rows.2.1 Try.underlying25 rfl infoGp) rfl ⟨?_, hO5.old⟩
      rw [zE'h.out, zl'h.out]; rfl
    · have hz : ((putE g s : Int) != 0) = true := by simp; omega
      have zG : putRG g s = gpZ := by unfold putRG; rw [z1'h.out]; simp [h0]
      have zL : putRL g s = 0 := by unfold putRL; rw [z1'h.out]; simp [h0]
      clear h0
      have zG'h := Lib.hid zG
      have zL'h := Lib.hid zL
      clear zG zL
      go_wp2_with (first | (refine wpList_load_row rfl _ _ rfl w.heap.size rfl 25 (gpA g) (0, 0) _ hO2'h.out.rows.2.1 Try.underlying25 rfl infoGp ?_) | (refine wpList_build_agg rfl 77 #[(0, .tmp 21)] (by rfl) (gpA g) [(0, .agg (gpA g))] (by rfl) (built_ss g) ?_) | (go_at_call 56; refine (PT'h.out _ _ hG3'h.out).mono ?_; rintro e w4 ⟨rfl, hG4, ho4⟩; have hO4 := hO3'h.out.only 0 rfl ho4 hG4; have hO4'h := Lib.hid hO4; clear hO4 hG4 ho4) | (refine wpList_store_row rfl _ _ _ rfl (w.heap.size + 1) (gpA gpZ) rfl rfl 25 _ hO4'h.out.rows.2.1 infoGp rfl (gpA_one _) ?_))
      have hO5 := hO4'h.out.set 1 rfl (gpA gpZ)
      change bodyPost _ _ _ _ _ (w4.setRow (w.heap.size + 1) (gpA gpZ))
      generalize World.setRow _ _ _ = W5 at hO5 ⊢
      refine bodyPost_ret (results_row_tmp2 rfl _ _ (w.heap.size + 1) 25 (gpA gpZ) (0, 0) _ rfl hO5.rows.2.1 Try.underlying25 rfl infoGp) rfl ⟨?_, hO5.old⟩
      rw [zG'h.out, zL'h.out, z1'h.out]; rfl

/-! ### Puts -/
def putStep (st : Gp × Nat) (s : Sl3) : Gp × Nat := if st.2 ≠ 0 then st else if putE st.1 s = 0 then (putTo st.1 s, 0) else (gpZ, putE st.1 s)
def putsK (g : Gp) (l : List Sl3) : Gp × Nat := l.foldl putStep (g, 0)
def putsR (g : Gp) (l : List Sl3) : Gp × Nat := if rightG g = true then putsK g l else (gpZ, 200)
theorem putsK_stuck (l : List Sl3) (st : Gp × Nat) (h : st.2 ≠ 0) : l.foldl putStep st = st := by
  induction l with
  | nil => rfl
  | cons a r ih =>
    rw [List.foldl_cons]
    have : putStep st a = st := by unfold putStep; rw [if_pos h]
    rw [this]; exact ih
def nthS (l : List Sl3) (k : Nat) : Sl3 := l.getD k ⟨0, 0, 0⟩
theorem nthS_eq {l : List Sl3} {k : Nat} (h : k < l.length) : l[k] = nthS l k := by unfold nthS; rw [List.getD_eq_getElem?_getD, List.getElem?_eq_getElem h]; rfl
theorem nthS_mem {l : List Sl3} {k : Nat} (h : k < l.length) : nthS l k ∈ l := by rw [← nthS_eq h]; exact List.getElem_mem h
theorem sls_length (l : List Sl3) : (sls l).length = l.length * 3 := by
  unfold sls
  induction l with
  | nil => rfl
  | cons a r ih => rw [List.flatMap_cons, List.length_append, ih, List.length_cons]; simp [slL]; omega
theorem sls_cell {l : List Sl3} : ∀ {k j : Nat}, k < l.length → j < 3 → (sls l)[k * 3 + j]? = (slL (nthS l k))[j]? := by
  induction l with
  | nil => intro k j hk; simp at hk
  | cons a r ih =>
    intro k j hk hj
    have e : sls (a :: r) = slL a ++ sls r := rfl
    rw [e]
    cases k with
    | zero =>
      rw [Nat.zero_mul, Nat.zero_add, List.getElem?_append_left (by simpa [slL] using hj)]; rfl
    | succ k =>
      rw [List.getElem?_append_right (by simp [slL]; omega)]
      have : (k + 1) * 3 + j - (slL a).length = k * 3 + j := by simp [slL]; omega
      rw [this]
      simp at hk
      rw [ih (by omega) hj]; rfl
theorem sls_cells {w : World} {b off n : Nat} {l : List Sl3} (h : SlK w 3 (some ⟨b, off, none⟩) n (sls l)) {k : Nat} (hk : k < l.length) :
    w.cell? ⟨b, off + k * 3, none⟩ = some (.int .u64 ((nthS l k).key : Int)) ∧ w.cell? ⟨b, off + k * 3 + 1, none⟩ = some (.int .u64 ((nthS l k).val : Int)) ∧ w.cell? ⟨b, off + k * 3 + 2, none⟩ = some (.int .u8 ((nthS l k).h2 : Int)) := by
  refine ⟨?_, ?_, ?_⟩
  · have := h.cell (j := k * 3 + 0) (u := .int .u64 ((nthS l k).key : Int)) (by rw [sls_cell hk (by decide)]; rfl)
    simpa using this
  · have := h.cell (j := k * 3 + 1) (u := .int .u64 ((nthS l k).val : Int)) (by rw [sls_cell hk (by decide)]; rfl)
    rw [← Nat.add_assoc] at this; exact this
  · have := h.cell (j := k * 3 + 2) (u := .int .u8 ((nthS l k).h2 : Int)) (by rw [sls_cell hk (by decide)]; rfl)
    rw [← Nat.add_assoc] at this; exact this
theorem putTo_word {g : Gp} {s : Sl3} (hr : rightW g.c = true) (h : putE g s = 0) : rightW (putTo g s).c = true := by
  have hh : ¬ 127 < s.h2 := fun h1 => by unfold putE at h; rw [if_pos h1] at h; omega
  have h8 : freeLane g ≠ 8 := fun h8 => by
    unfold putE at h
    rw [if_neg hh] at h
    split at h
    · omega
    · first | omega | (rw [if_pos h8] at h; omega)
  have := freeLane_le g
  exact set_right hr (by unfold okB; simp; omega) (by omega) (by omega)
theorem puts_any (g : Gp) (sp : Option Addr) (n cap : Nat) (l : List Sl3) (w : World) (hg : GpOk g) (hl : ∀ s ∈ l, Sl3Ok s) (hS : SlK w 3 sp n (sls l)) (hn : n ≤ 4096) :
    Calls Try.prog 32 #[.agg (gpA g), .slice sp n cap] w fun e w' => e = .returned (.tuple #[.agg (gpA (putsR g l).1), .int .i64 (putsR g l).2]) ∧ Below w.heap.size w w' := by
  have C := fun w => gcheck_any g w hg
  unfold gchkE at C
  have hlen : n = l.length := by have := hS.1; rw [sls_length] at this; omega
  obtain ⟨W, hW⟩ : ∃ W, W = (w.alloc (.cells (gpA g) 25)).alloc (.cells (gpA gpZ) 25) := ⟨_, rfl⟩
  have hO := (Hs.nil w).new2 (gpA g) (gpA gpZ) 25 25
  rw [← hW] at hO
  cases hr : rightG g with
  | false =>
    have z1 : putsR g l = (gpZ, 200) := by unfold putsR; rw [hr]; rfl
    rw [z1]
    rw [hr] at C
    simp only [Bool.false_eq_true, if_false] at C
    have C'h := Lib.hid C
    have hO'h := Lib.hid hO
    have hr'h := Lib.hid hr
    have hg'h := Lib.hid hg
    have hl'h := Lib.hid hl
    have z1'h := Lib.hid z1
    have hS'h := Lib.hid hS
    have hlen'h := Lib.hid hlen
    clear C hO hr hg hl z1 hS hlen
    go_enter Try.func32, Try.ntmps32
    go_upto_region 1 with fail
    change Code.wp _ _ _ _ ((w.alloc (.cells (gpA g) 25)).alloc (.cells (gpA gpZ) 25))
    rw [← hW]
    clear hW
    go_wp2_with (first | (refine wpList_load_row rfl _ _ rfl w.heap.size rfl 25 (gpA g) (0, 0) _ hO'h.out.rows.2.1 Try.underlying25 rfl infoGp ?_) | (go_at_call 10; refine (C'h.out _).mono ?_; rintro e w2 ⟨rfl, hb2⟩; have hO2 := hO'h.out.next hb2; have hO2'h := Lib.hid hO2; clear hO2 hb2) | (refine wpList_store_row rfl _ _ _ rfl (w.heap.size + 1) (gpA gpZ) rfl rfl 25 _ hO2'h.out.rows.1 infoGp rfl (gpA_one _) ?_))
    have hO3 := hO2'h.out.set 0 rfl (gpA gpZ)
    change bodyPost _ _ _ _ _ (w2.setRow (w.heap.size + 1) (gpA gpZ))
    generalize World.setRow _ _ _ = W3 at hO3 ⊢
    exact bodyPost_ret (results_row_tmp rfl _ _ (w.heap.size + 1) 25 (gpA gpZ) (0, 0) _ rfl hO3.rows.1 Try.underlying25 rfl infoGp) rfl ⟨rfl, hO3.old⟩
  | true =>
    have hrw := rightG_word hr
    rw [hr] at C
    simp only [if_true] at C
    have z1 : putsR g l = putsK g l := by unfold putsR; rw [hr]; rfl
    rw [z1]
    have hmf : ∀ (fn : Fn) (first cap : Array Value) (w : World), (Instr.makeFunc fn first cap).run Try.prog w = .ok (.func fn first cap) w := fun _ _ _ _ => rfl
    obtain ⟨rg, hrg⟩ : ∃ rg, rg = putsK g l := ⟨_, rfl⟩
    rw [← hrg]
    have C'h := Lib.hid C
    have hO'h := Lib.hid hO
    have hr'h := Lib.hid hr
    have hg'h := Lib.hid hg
    have hl'h := Lib.hid hl
    have z1'h := Lib.hid z1
    have hS'h := Lib.hid hS
    have hlen'h := Lib.hid hlen
    have hrw'h := Lib.hid hrw
    have hrg'h := Lib.hid hrg
    clear C hO hr hg hl z1 hS hlen hrw hrg
    go_enter Try.func32, Try.ntmps32
    go_upto_region 1 with fail
    change Code.wp _ _ _ _ ((w.alloc (.cells (gpA g) 25)).alloc (.cells (gpA gpZ) 25))
    rw [← hW]
    clear hW
    go_upto_region 4 with (first | (refine wpList_load_row rfl _ _ rfl w.heap.size rfl 25 (gpA g) (0, 0) _ hO'h.out.rows.2.1 Try.underlying25 rfl infoGp ?_) | (go_at_call 10; refine (C'h.out _).mono ?_; rintro e w2 ⟨rfl, hb2⟩; have hO2 := hO'h.out.next hb2; have hO2'h := Lib.hid hO2; clear hO2 hb2))
    have hO3 := hO2'h.out.new (gpA g) 77
    have hO3'h := Lib.hid hO3
    clear hO3
    go_wp2_with (first | (refine wpList_load_row rfl _ _ rfl w.heap.size rfl 25 (gpA g) (0, 0) _ hO2'h.out.rows.2.1 Try.underlying25 rfl infoGp ?_) | (refine wpList_build_agg rfl 77 #[(0, .tmp 19)] (by rfl) (gpA g) [(0, .agg (gpA g))] (by rfl) (built_ss g) ?_))
    have hO3 := hO3'h.out
    generalize w2.alloc _ = W3 at hO3 ⊢
    have hO3'h := Lib.hid hO3
    clear hO3
    go_loopg [26] n (fun q i wr => ∃ (k : Nat) (gr : Gp), k + q = n ∧ i = .int .i64 k ∧ GpOk gr ∧ rightW gr.c = true ∧ (l.take k).foldl putStep (g, 0) = (gr, 0) ∧ Hs w [(w2.heap.size, gpA gr, 77), (w.heap.size + 1, gpA gpZ, 25), (w.heap.size, gpA g, 25)] wr)
    case atStart => exact ⟨0, g, by omega, rfl, hg'h.out, hrw'h.out, rfl, hO3'h.out⟩
    case round =>
      obtain ⟨k, gr, hq, rfl, hgk, hrk, hfk, hH⟩ := hrel
      by_cases hlt : k < n
      · have hkl : k < l.length := by have := hlen'h.out; omega
        have hSr := hS'h.out.below hH.old
        obtain ⟨rb, ro, rfl, -⟩ := hSr.some' (by omega)
        obtain ⟨c0, c1, c2⟩ := sls_cells hSr hkl
        obtain ⟨s, hs⟩ : ∃ s, s = nthS l k := ⟨_, rfl⟩
        have hsok := hl'h.out _ (nthS_mem hkl)
        have hnx : (l.take (k + 1)).foldl putStep (g, 0) = putStep (gr, 0) s := by rw [List.take_succ_eq_append_getElem hkl, List.foldl_append, hfk, nthS_eq hkl, hs]; rfl
        rw [← hs] at c0 c1 c2 hsok
        have P := fun W h => lput_any' gr s w2.heap.size W hgk hsok hrk h
        have hH1 := hH.new (slA s) 38
        have hi1 : (k : Int) < (n : Int) := by omega
        have hk9 : k ≤ 4096 := by omega
        clear hlt
        by_cases h0 : putE gr s = 0
        · have hz : ((putE gr s : Int) != 0) = false := by simp [h0]
          have hw : putW gr s = putTo gr s := by unfold putW; rw [if_pos h0]
          have hst : putStep (gr, 0) s = (putTo gr s, 0) := by unfold putStep; simp [h0]
          have hwr := putTo_word hrk h0
          have hok := putTo_ok hgk hsok
          clear h0
          have hq'h := Lib.hid hq
          have hgk'h := Lib.hid hgk
          have hrk'h := Lib.hid hrk
          have hfk'h := Lib.hid hfk
          have hH'h := Lib.hid hH
          have hkl'h := Lib.hid hkl
          have hSr'h := Lib.hid hSr
          have hs'h := Lib.hid hs
          have hsok'h := Lib.hid hsok
          have hnx'h := Lib.hid hnx
          have P'h := Lib.hid P
          have hH1'h := Lib.hid hH1
          have hw'h := Lib.hid hw
          have hst'h := Lib.hid hst
          have hwr'h := Lib.hid hwr
          have hok'h := Lib.hid hok
          clear hq hgk hrk hfk hH hkl hSr hs hsok hnx P hH1 hw hst hwr hok
          go_wp2_with (first | (go_at_call 56; refine (P'h.out _ hH1'h.out.rows.2.1).mono ?_; rintro e w4 ⟨rfl, hG4, ho4⟩; have hH4 := (hH1'h.out.only 1 rfl ho4 hG4).tail; have hH4'h := Lib.hid hH4; clear hH4 hG4 ho4))
          go_roundg (gk - 1)
          case measure => have := hq'h.out; omega
          case rel =>
            have hH4 := hH4'h.out
            rw [hw'h.out] at hH4
            exact ⟨k + 1, putTo gr s, by have := hq'h.out; omega, by go_num, hok'h.out, hwr'h.out, by rw [hnx'h.out, hst'h.out], hH4⟩
        · have hz : ((putE gr s : Int) != 0) = true := by simp; omega
          have hst : putStep (gr, 0) s = (gpZ, putE gr s) := by unfold putStep; simp [h0]
          have hend : putsK g l = (gpZ, putE gr s) := by
            unfold putsK
            rw [← List.take_append_drop (k + 1) l, List.foldl_append, hnx, hst]
            exact putsK_stuck _ _ (by simpa using h0)
          clear h0
          have hq'h := Lib.hid hq
          have hgk'h := Lib.hid hgk
          have hrk'h := Lib.hid hrk
          have hfk'h := Lib.hid hfk
          have hH'h := Lib.hid hH
          have hkl'h := Lib.hid hkl
          have hSr'h := Lib.hid hSr
          have hs'h := Lib.hid hs
          have hsok'h := Lib.hid hsok
          have hnx'h := Lib.hid hnx
          have P'h := Lib.hid P
          have hH1'h := Lib.hid hH1
          have hst'h := Lib.hid hst
          have hend'h := Lib.hid hend
          clear hq hgk hrk hfk hH hkl hSr hs hsok hnx P hH1 hst hend
          go_wp2_with (first | (go_at_call 56; refine (P'h.out _ hH1'h.out.rows.2.1).mono ?_; rintro e w4 ⟨rfl, hG4, ho4⟩; have hH4 := (hH1'h.out.only 1 rfl ho4 hG4).tail; have hH4'h := Lib.hid hH4; clear hH4 hG4 ho4) | (refine wpList_store_row rfl _ _ _ rfl (w.heap.size + 1) (gpA gpZ) rfl rfl 25 _ hH4'h.out.rows.2.1 infoGp rfl (gpA_one _) ?_))
          have hO5 := hH4'h.out.set 1 rfl (gpA gpZ)
          change bodyPost _ _ _ _ _ (w4.setRow (w.heap.size + 1) (gpA gpZ))
          generalize World.setRow _ _ _ = W5 at hO5 ⊢
          refine bodyPost_ret (results_row_tmp rfl _ _ (w.heap.size + 1) 25 (gpA gpZ) (0, 0) _ rfl hO5.rows.2.1 Try.underlying25 rfl infoGp) rfl ⟨?_, hO5.old⟩
          rw [hrg'h.out, hend'h.out]; rfl
      · have hkk : k = n := by omega
        have hend : putsK g l = (gr, 0) := by
          unfold putsK
          rw [← hfk, hkk, hlen'h.out, List.take_length]
        subst hkk
        have hH'h := Lib.hid hH
        have hend'h := Lib.hid hend
        have hgk'h := Lib.hid hgk
        have hrk'h := Lib.hid hrk
        have hfk'h := Lib.hid hfk
        have hq'h := Lib.hid hq
        clear hH hend hgk hrk hfk hq
        clear hlt
        go_wp2_with (first | (refine wpList_load_row rfl _ _ rfl w2.heap.size rfl 77 (gpA gr) (0, 0) _ hH'h.out.rows.1 Try.underlying25 rfl infoGp ?_) | (refine wpList_store_row rfl _ _ _ rfl (w.heap.size + 1) (gpA gr) rfl rfl 25 _ hH'h.out.rows.2.1 infoGp rfl (gpA_one _) ?_))
        have hO5 := hH'h.out.set 1 rfl (gpA gr)
        change bodyPost _ _ _ _ _ (wr.setRow (w.heap.size + 1) (gpA gr))
        generalize World.setRow _ _ _ = W5 at hO5 ⊢
        refine bodyPost_ret (results_row_tmp rfl _ _ (w.heap.size + 1) 25 (gpA gr) (0, 0) _ rfl hO5.rows.2.1 Try.underlying25 rfl infoGp) rfl ⟨?_, hO5.old⟩
        rw [hrg'h.out, hend'h.out]; rfl
end Go.Proofs.Ytfoohdjgnphdgaa
