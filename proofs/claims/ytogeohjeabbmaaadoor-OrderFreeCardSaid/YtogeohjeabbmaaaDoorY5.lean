/-
  Several texts of mine in one: ModelPure Model ModelB ModelC ModelD.
-/
import Derived.Test.YtogeohjeabbmaaaDoorY1
import Derived.Laws.StructEq
import Derived.Deep.QuietTactic
import Derived.BigQuiet
import Derived.Deep.LoopGhost
import Derived.Deep.Cut
import Derived.IntWalk
/-
  The map of layer 24, in plain Lean: rows of pairs by rising keys.
-/
set_option linter.unusedSimpArgs false
set_option linter.unusedVariables false
namespace Go.Proofs.YtogeohjeabbmaaaDoor
open Go.RowKit

abbrev Ps := List (Nat × Nat)
/-- The keys rise. -/
def upB : Ps → Bool
  | [] => true
  | [_] => true
  | a :: b :: l => decide (a.1 < b.1) && upB (b :: l)
/-- Where a key stands, or would. -/
def posP (ps : Ps) (k : Nat) : Nat := (ps.takeWhile fun p => decide (p.1 < k)).length
def getS : Ps → Nat → Option Nat
  | [], _ => none
  | p :: l, k => if p.1 < k then getS l k else if p.1 = k then some p.2 else none
def insP : Ps → Nat → Nat → Ps
  | [], k, v => [(k, v)]
  | p :: l, k, v => if p.1 < k then p :: insP l k v else if p.1 = k then (k, v) :: l else (k, v) :: p :: l
def delP : Ps → Nat → Ps
  | [], _ => []
  | p :: l, k => if p.1 < k then p :: delP l k else if p.1 = k then l else p :: l
def hasP (ps : Ps) (k : Nat) : Bool := (getS ps k).isSome

theorem posP_le (ps : Ps) (k : Nat) : posP ps k ≤ ps.length := (List.takeWhile_sublist _).length_le
theorem posP_nil (k : Nat) : posP [] k = 0 := rfl
theorem posP_cons (p : Nat × Nat) (l : Ps) (k : Nat) : posP (p :: l) k = if p.1 < k then posP l k + 1 else 0 := by
  unfold posP
  rw [List.takeWhile_cons]
  split <;> simp_all
theorem nthP_cons_zero (p : Nat × Nat) (l : Ps) : nthP (p :: l) 0 = p := rfl
theorem nthP_cons_succ (p : Nat × Nat) (l : Ps) (k : Nat) : nthP (p :: l) (k + 1) = nthP l k := rfl
theorem posP_lt {ps : Ps} {k t : Nat} (h : t < posP ps k) : (nthP ps t).1 < k := by
  induction ps generalizing t with
  | nil => simp [posP_nil] at h
  | cons p l ih =>
    rw [posP_cons] at h
    split at h
    · cases t with
      | zero => assumption
      | succ t => exact ih (by omega)
    · omega
theorem posP_at {ps : Ps} {k : Nat} (h : posP ps k < ps.length) : k ≤ (nthP ps (posP ps k)).1 := by
  induction ps with
  | nil => simp at h
  | cons p l ih =>
    rw [posP_cons] at h ⊢
    split
    · rename_i hp
      rw [if_pos hp] at h
      exact ih (by simpa using h)
    · rw [nthP_cons_zero]; omega
theorem posP_eq {ps : Ps} {k i : Nat} (hi : i ≤ ps.length) (h1 : ∀ t, t < i → (nthP ps t).1 < k) (h2 : i < ps.length → k ≤ (nthP ps i).1) : posP ps k = i := by
  rcases Nat.lt_trichotomy (posP ps k) i with h | h | h
  · have := posP_at (ps := ps) (k := k) (by omega)
    have := h1 _ h
    omega
  · exact h
  · have := posP_lt h
    have hle := posP_le ps k
    have := h2 (by omega)
    omega
theorem getS_pos (ps : Ps) (k : Nat) : getS ps k = if posP ps k < ps.length ∧ (nthP ps (posP ps k)).1 = k then some (nthP ps (posP ps k)).2 else none := by
  induction ps with
  | nil => simp [getS]
  | cons p l ih =>
    rw [getS, posP_cons]
    by_cases hp : p.1 < k
    · rw [if_pos hp, if_pos hp, ih, nthP_cons_succ]
      simp
    · rw [if_neg hp, if_neg hp, nthP_cons_zero]
      simp
theorem hasP_pos (ps : Ps) (k : Nat) : hasP ps k = (decide (posP ps k < ps.length) && decide ((nthP ps (posP ps k)).1 = k)) := by
  unfold hasP
  rw [getS_pos]
  by_cases h : posP ps k < ps.length ∧ (nthP ps (posP ps k)).1 = k
  · rw [if_pos h]; simp [h.1, h.2]
  · rw [if_neg h]
    symm
    simp only [Option.isSome_none, Bool.and_eq_false_iff, decide_eq_false_iff_not]
    by_cases h1 : posP ps k < ps.length
    · exact .inr fun e => h ⟨h1, e⟩
    · exact .inl h1
theorem insP_pos (ps : Ps) (k v : Nat) : insP ps k v = if hasP ps k then ps.set (posP ps k) (k, v) else ps.take (posP ps k) ++ (k, v) :: ps.drop (posP ps k) := by
  induction ps with
  | nil => simp [insP, hasP, getS, posP_nil]
  | cons p l ih =>
    rw [insP, posP_cons]
    have hh : hasP (p :: l) k = if p.1 < k then hasP l k else decide (p.1 = k) := by
      unfold hasP; rw [getS]; split
      · rfl
      · split <;> simp_all
    rw [hh]
    by_cases hp : p.1 < k
    · simp only [if_pos hp]
      rw [ih]
      split <;> simp
    · simp only [if_neg hp]
      by_cases he : p.1 = k <;> simp [he]
theorem delP_pos (ps : Ps) (k : Nat) : delP ps k = if hasP ps k then ps.take (posP ps k) ++ ps.drop (posP ps k + 1) else ps := by
  induction ps with
  | nil => simp [delP]
  | cons p l ih =>
    rw [delP, posP_cons]
    have hh : hasP (p :: l) k = if p.1 < k then hasP l k else decide (p.1 = k) := by
      unfold hasP; rw [getS]; split
      · rfl
      · split <;> simp_all
    rw [hh]
    by_cases hp : p.1 < k
    · simp only [if_pos hp]
      rw [ih]
      split <;> simp
    · simp only [if_neg hp]
      by_cases he : p.1 = k <;> simp [he]
/-! ### rows that rise -/
theorem up_tail {p : Nat × Nat} {l : Ps} (h : upB (p :: l) = true) : upB l = true := by
  cases l with
  | nil => rfl
  | cons q l => rw [upB, Bool.and_eq_true] at h; exact h.2
theorem up_head {p : Nat × Nat} {l : Ps} (h : upB (p :: l) = true) : ∀ q ∈ l, p.1 < q.1 := by
  induction l generalizing p with
  | nil => intro q hq; cases hq
  | cons q l ih =>
    rw [upB, Bool.and_eq_true] at h
    have h1 : p.1 < q.1 := by simpa using h.1
    intro r hr
    rcases List.mem_cons.1 hr with e | hr
    · rw [e]; exact h1
    · have := ih h.2 r hr; omega
theorem up_cons {p : Nat × Nat} {l : Ps} (h1 : ∀ q ∈ l, p.1 < q.1) (h2 : upB l = true) : upB (p :: l) = true := by
  cases l with
  | nil => rfl
  | cons q l => rw [upB, Bool.and_eq_true]; exact ⟨by simpa using h1 q (List.mem_cons_self ..), h2⟩
theorem up_iff (ps : Ps) : upB ps = true ↔ ∀ i, i + 1 < ps.length → (nthP ps i).1 < (nthP ps (i + 1)).1 := by
  induction ps with
  | nil => simp [upB]
  | cons p l ih =>
    cases l with
    | nil => simp [upB]
    | cons q l =>
      rw [upB, Bool.and_eq_true, ih]
      constructor
      · rintro ⟨h1, h2⟩ i hi
        cases i with
        | zero => exact of_decide_eq_true h1
        | succ i => exact h2 i (by simpa using hi)
      · intro h
        exact ⟨decide_eq_true (h 0 (by simp)), fun i hi => h (i + 1) (by simpa using hi)⟩
theorem up_lt {ps : Ps} (h : upB ps = true) : ∀ {i j : Nat}, i < j → j < ps.length → (nthP ps i).1 < (nthP ps j).1 := by
  intro i j hij hj
  induction j with
  | zero => omega
  | succ j ih =>
    have := (up_iff ps).1 h j hj
    by_cases e : i = j
    · rw [e]; exact this
    · have := ih (by omega) (by omega); omega
theorem get_none {ps : Ps} {k : Nat} (h : ∀ p ∈ ps, k < p.1) : getS ps k = none := by
  cases ps with
  | nil => rfl
  | cons p l =>
    have := h p (List.mem_cons_self ..)
    rw [getS, if_neg (by omega), if_neg (by omega)]
theorem get_ins {ps : Ps} (h : upB ps = true) (k v q : Nat) : getS (insP ps k v) q = if q = k then some v else getS ps q := by
  induction ps with
  | nil =>
    simp only [insP, getS]
    by_cases e : q = k
    · subst e; simp
    · rw [if_neg e]
      split
      · rfl
      · rw [if_neg (by omega)]
  | cons p l ih =>
    have ht := up_tail h
    have hh := up_head h
    rw [insP]
    split
    · rename_i hp
      rw [getS, ih ht]
      rw [getS]
      by_cases e : q = k
      · subst e; simp [hp]
      · rw [if_neg e, if_neg e]
    · rename_i hp
      split
      · rename_i he
        rw [getS, getS]
        by_cases e : q = k
        · subst e; rw [if_neg (by simp), if_pos rfl, if_pos rfl]
        · by_cases hlt : k < q
          · rw [if_pos hlt, if_neg e, if_pos (by omega)]
          · rw [if_neg hlt, if_neg (by simp; omega), if_neg e, if_neg (by omega), if_neg (by omega)]
      · rename_i he
        rw [getS]
        by_cases e : q = k
        · subst e; rw [if_neg (by simp), if_pos rfl, if_pos rfl]
        · by_cases hlt : k < q
          · rw [if_pos hlt, if_neg e]
          · rw [if_neg hlt, if_neg (by simp; omega), if_neg e]
            rw [getS, if_neg (by omega), if_neg (by omega)]
theorem get_del {ps : Ps} (h : upB ps = true) (k q : Nat) : getS (delP ps k) q = if q = k then none else getS ps q := by
  induction ps with
  | nil => simp [delP, getS]
  | cons p l ih =>
    have ht := up_tail h
    have hh := up_head h
    rw [delP]
    split
    · rename_i hp
      rw [getS, ih ht, getS]
      by_cases e : q = k
      · subst e; simp [hp]
      · rw [if_neg e, if_neg e]
    · rename_i hp
      split
      · rename_i he
        rw [getS]
        by_cases e : q = k
        · rw [if_pos e]
          exact get_none fun r hr => by have := hh r hr; omega
        · rw [if_neg e]
          by_cases hlt : p.1 < q
          · rw [if_pos hlt]
          · rw [if_neg hlt, if_neg (by omega)]
            exact get_none fun r hr => by have := hh r hr; omega
      · rename_i he
        by_cases e : q = k
        · rw [if_pos e, getS, if_neg (by omega), if_neg (by omega)]
        · rw [if_neg e]
theorem mem_ins {ps : Ps} {k v : Nat} {q : Nat × Nat} (h : q ∈ insP ps k v) : q = (k, v) ∨ q ∈ ps := by
  induction ps with
  | nil => rw [insP] at h; simpa using h
  | cons p l ih =>
    rw [insP] at h
    split at h
    · rcases List.mem_cons.1 h with e | h
      · exact .inr (by rw [e]; exact List.mem_cons_self ..)
      · exact (ih h).imp id (List.mem_cons_of_mem _)
    · split at h
      · rcases List.mem_cons.1 h with e | h
        · exact .inl e
        · exact .inr (List.mem_cons_of_mem _ h)
      · rcases List.mem_cons.1 h with e | h
        · exact .inl e
        · exact .inr h
theorem mem_del {ps : Ps} {k : Nat} {q : Nat × Nat} (h : q ∈ delP ps k) : q ∈ ps := by
  induction ps with
  | nil => simp [delP] at h
  | cons p l ih =>
    rw [delP] at h
    split at h
    · rcases List.mem_cons.1 h with e | h
      · rw [e]; exact List.mem_cons_self ..
      · exact List.mem_cons_of_mem _ (ih h)
    · split at h
      · exact List.mem_cons_of_mem _ h
      · exact h
theorem up_ins {ps : Ps} (h : upB ps = true) (k v : Nat) : upB (insP ps k v) = true := by
  induction ps with
  | nil => rfl
  | cons p l ih =>
    have ht := up_tail h
    have hh := up_head h
    rw [insP]
    split
    · refine up_cons (fun q hq => ?_) (ih ht)
      rcases mem_ins hq with e | hq
      · rw [e]; assumption
      · exact hh q hq
    · split
      · rename_i he
        exact up_cons (fun q hq => by have := hh q hq; simp only; omega) ht
      · refine up_cons (fun q hq => ?_) h
        rcases List.mem_cons.1 hq with e | hq
        · rw [e]; simp only; omega
        · have := hh q hq; simp only; omega
theorem up_del {ps : Ps} (h : upB ps = true) (k : Nat) : upB (delP ps k) = true := by
  induction ps with
  | nil => rfl
  | cons p l ih =>
    have ht := up_tail h
    have hh := up_head h
    rw [delP]
    split
    · exact up_cons (fun q hq => hh q (mem_del hq)) (ih ht)
    · split
      · exact ht
      · exact h
theorem len_ins (ps : Ps) (k v : Nat) : (insP ps k v).length = ps.length + if hasP ps k then 0 else 1 := by
  have hle := posP_le ps k
  rw [insP_pos]
  split
  · simp
  · simp; omega
theorem len_del (ps : Ps) (k : Nat) : (delP ps k).length = ps.length - if hasP ps k then 1 else 0 := by
  have hp := hasP_pos ps k
  rw [delP_pos]
  split
  · rename_i h
    rw [h] at hp
    have : posP ps k < ps.length := by simp at hp; exact hp.1
    simp; omega
  · simp
/-- Rows that rise are the same, if all keys have the same. -/
theorem up_ext {a b : Ps} (ha : upB a = true) (hb : upB b = true) (h : ∀ q, getS a q = getS b q) : a = b := by
  induction a generalizing b with
  | nil =>
    cases b with
    | nil => rfl
    | cons p l => have := h p.1; rw [getS, getS, if_neg (by omega), if_pos rfl] at this; cases this
  | cons p l ih =>
    cases b with
    | nil => have := h p.1; rw [getS, getS, if_neg (by omega), if_pos rfl] at this; cases this
    | cons q m =>
      have h1 := h p.1
      have h2 := h q.1
      rw [getS, getS, if_neg (by omega), if_pos rfl] at h1
      rw [getS, getS, if_neg (show ¬ q.1 < q.1 by omega), if_pos rfl] at h2
      have hpq : p.1 = q.1 := by
        rcases Nat.lt_trichotomy p.1 q.1 with hlt | e | hlt
        · rw [if_neg (by omega), if_neg (by omega)] at h1; cases h1
        · exact e
        · rw [if_neg (by omega), if_neg (by omega)] at h2; cases h2
      rw [if_neg (by omega), if_pos hpq.symm] at h1
      have e : p = q := Prod.ext hpq (by simpa using h1)
      subst e
      refine congrArg (p :: ·) (ih (up_tail ha) (up_tail hb) fun r => ?_)
      by_cases hr : p.1 < r
      · have := h r; rwa [getS, getS, if_pos hr, if_pos hr] at this
      · rw [get_none fun s hs => by have := up_head ha s hs; omega, get_none fun s hs => by have := up_head hb s hs; omega]
/-- Its first pair of a key, wherever: the document's Get. -/
def findP (ps : Ps) (k : Nat) : Option Nat := (ps.find? fun p => decide (p.1 = k)).map (·.2)
theorem findP_up {ps : Ps} (h : upB ps = true) (k : Nat) : findP ps k = getS ps k := by
  unfold findP
  induction ps with
  | nil => rfl
  | cons p l ih =>
    rw [getS, List.find?_cons]
    by_cases e : p.1 = k
    · rw [if_neg (by omega), if_pos e]; simp [e]
    · have e' : decide (p.1 = k) = false := by simpa using e
      rw [e', if_neg e]
      simp only
      rw [ih (up_tail h)]
      split
      · rfl
      · exact get_none fun r hr => by have := up_head h r hr; omega
end Go.Proofs.YtogeohjeabbmaaaDoor

/-
  Package model: rows of pairs compared; which maps there are.
-/
set_option linter.unusedSimpArgs false
set_option linter.unusedVariables false
set_option maxRecDepth 100000
namespace Go.Proofs.YtogeohjeabbmaaaDoor
open Go.RowKit

theorem eqi_pair (a b c d : Nat) (w : World) : (Op.equalIn 10000 72 (.agg #[.int .u64 (a : Int), .int .u64 (b : Int)]) (.agg #[.int .u64 (c : Int), .int .u64 (d : Int)])).run Tryd.prog w = .ok (decide ((a, b) = (c, d))) w := by
  have u3 := Tryd.underlying29
  have a3 := Tryd.isAgg29
  have z3 := Tryd.sizeOf29
  rw [show (10000 : Nat) = 9999 + 1 from rfl, run_equalIn_struct w 9999 72 _ _ (by kernel_rfl) (by kernel_rfl)]
  simp only [Program.fieldsOf, Tryd.underlying72]
  go_simp
  by_cases h1 : a = c <;> by_cases h2 : b = d <;> simp [h1, h2] <;> omega
theorem eql_pair (a b c d : Nat) (w : World) : (binOp .eql 72 (.agg #[.int .u64 (a : Int), .int .u64 (b : Int)]) (.agg #[.int .u64 (c : Int), .int .u64 (d : Int)])).run Tryd.prog w = .ok (.bool (decide ((a, b) = (c, d)))) w := by
  rw [run_eql_struct, eqi_pair]; rfl
theorem neq_pair (a b c d : Nat) (w : World) : (binOp .neq 72 (.agg #[.int .u64 (a : Int), .int .u64 (b : Int)]) (.agg #[.int .u64 (c : Int), .int .u64 (d : Int)])).run Tryd.prog w = .ok (.bool (!decide ((a, b) = (c, d)))) w := by
  rw [run_neq_struct, eqi_pair]; rfl
/-- The cells of an element. -/
theorem prs_cells {w : World} {b off n : Nat} {ps : Ps} (h : SlK w 2 (some ⟨b, off, none⟩) n (prs ps)) {k : Nat} (hk : k < ps.length) :
    w.cell? ⟨b, off + k * 2, none⟩ = some (.int .u64 ((nthP ps k).1 : Int)) ∧ w.cell? ⟨b, off + k * 2 + 1, none⟩ = some (.int .u64 ((nthP ps k).2 : Int)) := by
  obtain ⟨h1, h2⟩ := prs_at hk
  exact ⟨h.cell h1, by have := h.cell h2; rwa [← Nat.add_assoc] at this⟩
theorem prs_len {w : World} {sp : Option Addr} {n : Nat} {ps : Ps} (h : SlK w 2 sp n (prs ps)) : n = ps.length := by
  have := h.1; rw [prs_length] at this; omega
theorem prs_some {w : World} {sp : Option Addr} {n : Nat} {ps : Ps} (h : SlK w 2 sp n (prs ps)) (hn : 0 < n) : ∃ b off, sp = some ⟨b, off, none⟩ := by
  obtain ⟨b, off, e, _⟩ := h.some' hn; exact ⟨b, off, e⟩
set_option maxHeartbeats 1000000 in
theorem equalP_any (sp sp' : Option Addr) (n n' cap cap' : Nat) (l l' : Ps) (w : World) (h : SlK w 2 sp n (prs l)) (h' : SlK w 2 sp' n' (prs l')) :
    Calls Tryd.prog 32 #[.slice sp n cap, .slice sp' n' cap'] w fun e w' => e = .returned (.bool (decide (l = l'))) ∧ ∃ d, w' = w.drewN d := by
  have hlen := prs_len h
  have hlen' := prs_len h'
  have hmax := h.2.1
  unfold maxLen at hmax
  by_cases hnn : n = n'
  · subst hnn
    have hne : ((n : Int) != (n : Int)) = false := by simp
    have hlen'h := Lib.hid hlen
    have hlen''h := Lib.hid hlen'
    have h'h := Lib.hid h
    have h''h := Lib.hid h'
    clear hlen hlen' h h'
    go_enter Tryd.func32, Tryd.ntmps32
    go_wp2
    go_loopg [13] n (fun q i wr => ∃ k : Nat, k + q = n ∧ i = .int .i64 k ∧ (∀ j, j < k → nthP l j = nthP l' j) ∧ ∃ d, wr = w.drewN d)
    case atStart => exact ⟨0, by omega, rfl, fun j hj => by omega, 0, rfl⟩
    case round =>
      obtain ⟨k, hk, rfl, hall, d, rfl⟩ := hrel
      have hkn : k ≤ n := by omega
      have hk'h := Lib.hid hk
      have hall'h := Lib.hid hall
      clear hk hall
      by_cases hlt : k < n
      · obtain ⟨b, off, rfl⟩ := prs_some h'h.out (by omega)
        obtain ⟨b', off', rfl⟩ := prs_some h''h.out (by omega)
        have hkl : k < l.length := by have := hlen'h.out; omega
        have hkl' : k < l'.length := by have := hlen''h.out; omega
        obtain ⟨c1, c2⟩ := prs_cells h'h.out hkl
        obtain ⟨d1, d2⟩ := prs_cells h''h.out hkl'
        have c1' : ∀ q, (w.drewN q).cell? ⟨b, off + k * 2, none⟩ = some (.int .u64 ((nthP l k).1 : Int)) := fun q => c1
        have c2' : ∀ q, (w.drewN q).cell? ⟨b, off + k * 2 + 1, none⟩ = some (.int .u64 ((nthP l k).2 : Int)) := fun q => c2
        have d1' : ∀ q, (w.drewN q).cell? ⟨b', off' + k * 2, none⟩ = some (.int .u64 ((nthP l' k).1 : Int)) := fun q => d1
        have d2' : ∀ q, (w.drewN q).cell? ⟨b', off' + k * 2 + 1, none⟩ = some (.int .u64 ((nthP l' k).2 : Int)) := fun q => d2
        have i1 : (k : Int) < (n : Int) := by omega
        have i2 : (0 : Int) ≤ (k : Int) := by omega
        have hq := fun w => neq_pair (nthP l k).1 (nthP l k).2 (nthP l' k).1 (nthP l' k).2 w
        clear c1 c2 d1 d2
        by_cases he : nthP l k = nthP l' k
        · have hx : (!decide (((nthP l k).1, (nthP l k).2) = ((nthP l' k).1, (nthP l' k).2))) = false := by rw [he]; simp
          rw [hx] at hq
          generalize (nthP l k).1 = x1 at *
          generalize (nthP l k).2 = x2 at *
          generalize (nthP l' k).1 = y1 at *
          generalize (nthP l' k).2 = y2 at *
          have he'h := Lib.hid he
          clear he
          clear hx
          go_wp2_with fail
          go_quiet (fail)
          go_wp2
          go_roundg (gk - 1)
          case measure => have := hk'h.out; omega
          case rel =>
            refine ⟨k + 1, by have := hk'h.out; omega, by go_num, fun j hj => ?_, d + nq, rfl⟩
            by_cases e : j = k
            · rw [e]; exact he'h.out
            · exact hall'h.out j (by omega)
        · have hx : (!decide (((nthP l k).1, (nthP l k).2) = ((nthP l' k).1, (nthP l' k).2))) = true := by
            simp only [Bool.not_eq_true', decide_eq_false_iff_not]
            intro e; exact he (Prod.ext (congrArg Prod.fst e) (congrArg Prod.snd e))
          rw [hx] at hq
          have hf : decide (l = l') = false := by
            rw [decide_eq_false_iff_not]; intro e; exact he (by rw [e])
          generalize (nthP l k).1 = x1 at *
          generalize (nthP l k).2 = x2 at *
          generalize (nthP l' k).1 = y1 at *
          generalize (nthP l' k).2 = y2 at *
          have he'h := Lib.hid he
          have hf'h := Lib.hid hf
          clear he hf
          clear hx
          go_wp2_with fail
          go_quiet (fail)
          go_wp2
          go_ret
          exact ⟨ret_bool hf'h.out.symm, d + nq, by first | rfl | exact World.drewN_drewN ..⟩
      · have hn : ¬ (k : Int) < (n : Int) := by omega
        have ht : decide (l = l') = true := by
          rw [decide_eq_true_eq]
          refine List.ext_getElem (by have := hlen'h.out; have := hlen''h.out; omega) fun j h1 h2 => ?_
          rw [nthP_eq h1, nthP_eq h2]
          exact hall'h.out j (by have := hlen'h.out; omega)
        have ht'h := Lib.hid ht
        clear ht
        go_wp2
        go_ret
        exact ⟨ret_bool ht'h.out.symm, d, rfl⟩
  · have hne : ((n : Int) != (n' : Int)) = true := by simp; omega
    have hf : decide (l = l') = false := by
      rw [decide_eq_false_iff_not]; intro e; subst e; omega
    have hlen'h := Lib.hid hlen
    have hlen''h := Lib.hid hlen'
    have h'h := Lib.hid h
    have h''h := Lib.hid h'
    have hnn'h := Lib.hid hnn
    have hf'h := Lib.hid hf
    clear hlen hlen' h h' hnn hf
    go_enter Tryd.func32, Tryd.ntmps32
    go_wp2
    go_ret
    exact ⟨ret_bool hf'h.out.symm, 0, rfl⟩
end Go.Proofs.YtogeohjeabbmaaaDoor

/-
  Package model and the document: which maps there are; copies.
-/
set_option linter.unusedSimpArgs false
set_option linter.unusedVariables false
set_option maxRecDepth 100000
namespace Go.Proofs.YtogeohjeabbmaaaDoor
open Go.RowKit

/-! ### slices.Clone at []api.Pair: 2 cells an element -/
theorem info_cloneP : (Tryd.prog.info? 72).map (fun i => (i.zero, i.size, i.bytes)) = some (some (.agg #[.int .u64 0, .int .u64 0]), 2, 16) := by kernel_rfl
theorem cloneP_nil (w : World) : Calls Tryd.prog 36 #[.slice none 0 0] w fun e w' => e = .returned (.slice none 0 0) ∧ w' = w := by
  have hnil := Lib.run_eql_slice_nil (P := Tryd.prog)
  go_enter Tryd.func36, Tryd.ntmps36
  go_wp2
  go_ret
  exact ⟨rfl, rfl⟩
theorem cloneP_some (ad : Addr) (n cap : Nat) (vs : List Value) (w : World) (hn : n ≤ 4096) (hone : ∀ v ∈ vs, v.oneCell' = true) (h : SlK w 2 (some ad) n vs) :
    Calls Tryd.prog 36 #[.slice (some ad) n cap] w fun e w' => ∃ sp' cap', e = .returned (.slice sp' n cap') ∧ Below w.heap.size w w' ∧ w'.ownsRow w.heap.size 72 2 (.slice sp' n cap') n vs := by
  have hnil := Lib.run_eql_slice_nil (P := Tryd.prog)
  obtain ⟨i0, hi, hz0, hz1, hz2⟩ := info_parts info_cloneP
  have hown0 : (w.alloc (.cells #[] 72)).ownsRow w.heap.size 72 2 (.slice (some ⟨w.heap.size, 0, none⟩) 0 0) 0 [] :=
    ⟨by simp, .inr ⟨w.heap.size, 0, #[], rfl, Nat.le_refl _, World.alloc_heap_new _ _, Nat.le_refl _, Nat.zero_le _, by simp, by simp⟩⟩
  have hS2 : SlK (w.alloc (.cells #[] 72)) 2 (some ad) n vs := h.below ((Below.refl _ w).alloc (Nat.le_refl _) _)
  have hS2'h := Lib.hid hS2
  have hone'h := Lib.hid hone
  clear hS2 hone
  clear h
  go_enter Tryd.func36, Tryd.ntmps36
  go_wp2_with (at_builtin; refine wpList_append_slk _ rfl (.tmp 5) (.tmp 6) 26 rfl w.heap.size 72 i0 (.agg #[.int .u64 0, .int .u64 0]) 2 16 Tryd.underlying26 hi hz0 hz1 hz2 rfl (by decide) _ 0 [] rfl hown0 (some ad) n cap vs rfl hS2'h.out hone'h.out (by unfold maxLen; omega) (by omega) (by simp) ?_; intro v' w1 hown' hgrow hwh)
  rw [Nat.zero_add, List.nil_append] at hown'
  obtain ⟨sp', cap', rfl⟩ := row_slice' hown'
  have hown''h := Lib.hid hown'
  have hwh'h := Lib.hid hwh
  clear hown' hwh
  go_wp2
  go_ret
  exact ⟨sp', cap', rfl, ((Below.refl _ w).alloc (Nat.le_refl _) _).grown hgrow (by simp) (fun j hj => by cases hj; exact Nat.le_refl _), hown''h.out⟩
theorem cloneP_any (sp : Option Addr) (n cap : Nat) (vs : List Value) (w : World) (hn : n ≤ 4096) (hone : ∀ v ∈ vs, v.oneCell' = true) (hc : sp = none → cap = 0) (h : SlK w 2 sp n vs) :
    Calls Tryd.prog 36 #[.slice sp n cap] w fun e w' => ∃ sp' cap', e = .returned (.slice sp' n cap') ∧ Below w.heap.size w w' ∧ w'.ownsRow w.heap.size 72 2 (.slice sp' n cap') n vs := by
  cases sp with
  | some ad => exact cloneP_some ad n cap vs w hn hone h
  | none =>
    obtain rfl : cap = 0 := hc rfl
    have h0 : n = 0 := by
      rcases h.2.2 with h0 | ⟨b, off, he, _⟩
      · exact h0
      · cases he
    subst h0
    have hl : vs = [] := List.eq_nil_of_length_eq_zero (by have := h.1; simpa using this)
    refine (cloneP_nil w).mono ?_
    rintro e w' ⟨rfl, rfl⟩
    exact ⟨none, 0, rfl, Below.refl _ _, by rw [hl]; exact World.ownsRow_nil _ _ _ _⟩
def errUp (b : Bool) : Value := .int .i64 (if b then 0 else 340)
set_option maxHeartbeats 1000000 in
theorem mcheck_any (sp : Option Addr) (n cap : Nat) (ps : Ps) (w : World) (h : SlK w 2 sp n (prs ps)) :
    Calls Tryd.prog 25 #[.agg #[.slice sp n cap]] w fun e w' => e = .returned (errUp (upB ps)) ∧ Below w.heap.size w w' := by
  have hlen := prs_len h
  have hmax := h.2.1
  unfold maxLen at hmax
  have H0 := (Hs.nil w).new #[.slice sp n cap] 28
  have c0 : (w.alloc (.cells #[.slice sp n cap] 28)).cell? ⟨w.heap.size, 0, none⟩ = some (.slice sp n cap) := blk_cell H0.rows.1 rfl
  have hlen'h := Lib.hid hlen
  have h'h := Lib.hid h
  clear hlen h
  go_enter Tryd.func25, Tryd.ntmps25
  go_upto_region 2 with fail
  clear c0
  have H0'h := Lib.hid H0
  clear H0
  go_wp2
  go_loopg [8] n (fun q i wr => ∃ k : Nat, k + q = n ∧ i = .int .i64 k ∧ (∀ j, j + 1 < k → (nthP ps j).1 < (nthP ps (j + 1)).1) ∧ Hs w [(w.heap.size, #[.slice sp n cap], 28)] wr)
  case atStart => exact ⟨0, by omega, rfl, fun j hj => by omega, H0'h.out⟩
  case round =>
    obtain ⟨k, hk, rfl, hall, hH⟩ := hrel
    have hkn : k ≤ n := by omega
    by_cases hlt : k < n
    · have hS := h'h.out.below hH.old
      obtain ⟨b, off, rfl⟩ := prs_some hS (by omega)
      have hkl : k < ps.length := by have := hlen'h.out; omega
      obtain ⟨c1, c2⟩ := prs_cells hS hkl
      have i1 : (k : Int) < (n : Int) := by omega
      have i2 : (0 : Int) ≤ (k : Int) := by omega
      have hk'h := Lib.hid hk
      have hall'h := Lib.hid hall
      have hH'h := Lib.hid hH
      have hS'h := Lib.hid hS
      clear hk hall hH hS
      go_upto_region 4 with fail
      clear c1 c2
      have hH4 := hH'h.out.new #[.int .u64 ((nthP ps k).1 : Int), .int .u64 ((nthP ps k).2 : Int)] 72
      generalize World.alloc _ _ = W4 at hH4 ⊢
      have hS4 := h'h.out.below hH4.old
      have x0 : W4.cell? ⟨w.heap.size, 0, none⟩ = some (.slice (some ⟨b, off, none⟩) n cap) := blk_cell hH4.rows.2.1 rfl
      have x1 : W4.cell? ⟨wr.heap.size, 0, none⟩ = some (.int .u64 ((nthP ps k).1 : Int)) := blk_cell hH4.rows.1 rfl
      have x0' : ∀ q, (W4.drewN q).cell? ⟨w.heap.size, 0, none⟩ = some (.slice (some ⟨b, off, none⟩) n cap) := fun q => x0
      have x1' : ∀ q, (W4.drewN q).cell? ⟨wr.heap.size, 0, none⟩ = some (.int .u64 ((nthP ps k).1 : Int)) := fun q => x1
      cases k with
      | zero =>
        have z0 : decide ((0 : Int) < ((0 : Nat) : Int)) = false := by decide
        generalize (nthP ps 0).1 = y at *
        clear x0 x1
        have hH4'h := Lib.hid hH4
        have hS4'h := Lib.hid hS4
        clear hH4 hS4
        go_wp2_with fail
        go_quiet (fail)
        go_wp2
        go_roundg (gk - 1)
        case measure => have := hk'h.out; omega
        case rel => exact ⟨1, by have := hk'h.out; omega, by go_num, fun j hj => by omega, hH4'h.out.tail.drewN nq⟩
      | succ k =>
        obtain ⟨d1, d2⟩ := prs_cells hS4 (k := k) (by omega)
        have d1' : ∀ q, (W4.drewN q).cell? ⟨b, off + k * 2, none⟩ = some (.int .u64 ((nthP ps k).1 : Int)) := fun q => d1
        have j1 : (k : Int) < (n : Int) := by omega
        have j2 : (0 : Int) ≤ (k : Int) := by omega
        have j3 : ((k + 1 : Nat) : Int) - 1 = (k : Int) := by omega
        have j4 : IntKind.i64.wrap (((k : Int) + 1) - 1) = (k : Int) := by rw [show ((k : Int) + 1) - 1 = (k : Int) by omega]; exact IntWalk.i64_in _ (by omega)
        have z0 : decide ((0 : Int) < ((k + 1 : Nat) : Int)) = true := by rw [decide_eq_true_eq]; omega
        clear x0 x1 d1 d2
        by_cases hc : (nthP ps k).1 < (nthP ps (k + 1)).1
        · have t0 : decide ((((nthP ps (k + 1)).1 : Nat) : Int) ≤ (((nthP ps k).1 : Nat) : Int)) = false := by simp; omega
          have t1 : decide ((nthP ps (k + 1)).1 ≤ (nthP ps k).1) = false := by simp; omega
          generalize hy : (nthP ps (k + 1)).1 = y at *
          generalize hz : (nthP ps k).1 = z at *
          have hH4'h := Lib.hid hH4
          have hS4'h := Lib.hid hS4
          have hc'h := Lib.hid hc
          have hy'h := Lib.hid hy
          have hz'h := Lib.hid hz
          clear hH4 hS4 hc hy hz
          go_wp2_with fail
          go_quiet (fail)
          go_wp2
          go_roundg (gk - 1)
          case measure => have := hk'h.out; omega
          case rel =>
            refine ⟨k + 2, by have := hk'h.out; omega, by go_num, fun j hj => ?_, hH4'h.out.tail.drewN nq⟩
            by_cases e : j = k
            · subst e; rw [hy'h.out, hz'h.out]; exact hc'h.out
            · exact hall'h.out j (by omega)
        · have t0 : decide ((((nthP ps (k + 1)).1 : Nat) : Int) ≤ (((nthP ps k).1 : Nat) : Int)) = true := by simp; omega
          have t1 : decide ((nthP ps (k + 1)).1 ≤ (nthP ps k).1) = true := by simp; omega
          have hf : upB ps = false := by
            rw [Bool.eq_false_iff, ne_eq, up_iff]
            intro hh; exact hc (hh k (by omega))
          generalize (nthP ps (k + 1)).1 = y at *
          generalize (nthP ps k).1 = z at *
          have hH4'h := Lib.hid hH4
          have hS4'h := Lib.hid hS4
          have hc'h := Lib.hid hc
          have hf'h := Lib.hid hf
          clear hH4 hS4 hc hf
          go_wp2_with fail
          go_quiet (fail)
          go_wp2
          go_ret
          exact ⟨by rw [hf'h.out]; rfl, (hH4'h.out.drewN nq).old⟩
    · obtain rfl : k = n := by omega
      have ht : upB ps = true := (up_iff ps).2 fun i hi => hall i (by have := hlen'h.out; omega)
      clear hall
      have hH'h := Lib.hid hH
      have hk'h := Lib.hid hk
      have ht'h := Lib.hid ht
      clear hH hk ht
      go_wp2
      go_ret
      exact ⟨by rw [ht'h.out]; rfl, hH'h.out.old⟩
end Go.Proofs.YtogeohjeabbmaaaDoor

/-
  Package model and the document: maps, and answers, compared; the document's Get.
-/
set_option linter.unusedSimpArgs false
set_option linter.unusedVariables false
set_option maxRecDepth 100000
namespace Go.Proofs.YtogeohjeabbmaaaDoor
open Go.RowKit

theorem msame_any (sp sp' : Option Addr) (n n' cap cap' : Nat) (a b : Ps) (w : World) (ha : SlK w 2 sp n (prs a)) (hb : SlK w 2 sp' n' (prs b)) :
    Calls Tryd.prog 11 #[.agg #[.slice sp n cap], .agg #[.slice sp' n' cap']] w fun e w' => e = .returned (.bool (decide (a = b))) ∧ Below w.heap.size w w' := by
  have hB : Below w.heap.size w ((w.alloc (.cells #[.slice sp n cap] 28)).alloc (.cells #[.slice sp' n' cap'] 28)) := ((Below.refl _ _).alloc (Nat.le_refl _) _).alloc (by simp) _
  have ha'h := Lib.hid ha
  have hb'h := Lib.hid hb
  have hB'h := Lib.hid hB
  clear ha hb hB
  go_enter Tryd.func11, Tryd.ntmps11
  go_wp2_with (go_at_call 32; refine (equalP_any _ _ _ _ _ _ a b _ (ha'h.out.below (by first | assumption | exact hB'h.out)) (hb'h.out.below (by first | assumption | exact hB'h.out))).mono ?_; rintro e w2 ⟨rfl, d, rfl⟩)
  go_ret
  exact ⟨rfl, hB'h.out.trans (below_drewN' _ _)⟩
/-- The document's comparison of pairs: the same walk, with a block a round. -/
theorem rpairs_any (sp sp' : Option Addr) (n n' cap cap' : Nat) (l l' : Ps) (w : World) (h : SlK w 2 sp n (prs l)) (h' : SlK w 2 sp' n' (prs l')) :
    Calls Tryd.prog 67 #[.slice sp n cap, .slice sp' n' cap'] w fun e w' => e = .returned (.bool (decide (l = l'))) ∧ Below w.heap.size w w' := by
  have hlen := prs_len h
  have hlen' := prs_len h'
  have hmax := h.2.1
  unfold maxLen at hmax
  by_cases hnn : n = n'
  · subst hnn
    have hne : ((n : Int) != (n : Int)) = false := by simp
    have hlen'h := Lib.hid hlen
    have hlen''h := Lib.hid hlen'
    have h'h := Lib.hid h
    have h''h := Lib.hid h'
    clear hlen hlen' h h'
    go_enter Tryd.func67, Tryd.ntmps67
    go_wp2
    go_loopg [14] n (fun q i wr => ∃ k : Nat, k + q = n ∧ i = .int .i64 k ∧ (∀ j, j < k → nthP l j = nthP l' j) ∧ Below w.heap.size w wr)
    case atStart => exact ⟨0, by omega, rfl, fun j hj => by omega, Below.refl _ _⟩
    case round =>
      obtain ⟨k, hk, rfl, hall, hbr⟩ := hrel
      have hkn : k ≤ n := by omega
      by_cases hlt : k < n
      · have hSr := h'h.out.below hbr
        obtain ⟨b, off, rfl⟩ := prs_some h'h.out (by omega)
        obtain ⟨b', off', rfl⟩ := prs_some h''h.out (by omega)
        have hkl : k < l.length := by have := hlen'h.out; omega
        have hkl' : k < l'.length := by have := hlen''h.out; omega
        obtain ⟨c1, c2⟩ := prs_cells hSr hkl
        have i1 : (k : Int) < (n : Int) := by omega
        have i2 : (0 : Int) ≤ (k : Int) := by omega
        have hk'h := Lib.hid hk
        have hall'h := Lib.hid hall
        have hbr'h := Lib.hid hbr
        have hSr'h := Lib.hid hSr
        clear hk hall hbr hSr
        go_upto_region 6 with fail
        clear c1 c2
        have H6 := (Hs.nil wr).new #[.int .u64 ((nthP l k).1 : Int), .int .u64 ((nthP l k).2 : Int)] 72
        generalize World.alloc _ _ = W6 at H6 ⊢
        obtain ⟨d1, d2⟩ := prs_cells ((h''h.out.below hbr'h.out).below H6.old) hkl'
        have e1 : W6.cell? ⟨wr.heap.size, 0, none⟩ = some (.int .u64 ((nthP l k).1 : Int)) := blk_cell H6.rows.1 rfl
        have e2 : W6.cell? ⟨wr.heap.size, 1, none⟩ = some (.int .u64 ((nthP l k).2 : Int)) := blk_cell H6.rows.1 rfl
        have c1' : ∀ q, (W6.drewN q).cell? ⟨wr.heap.size, 0, none⟩ = some (.int .u64 ((nthP l k).1 : Int)) := fun q => e1
        have c2' : ∀ q, (W6.drewN q).cell? ⟨wr.heap.size, 1, none⟩ = some (.int .u64 ((nthP l k).2 : Int)) := fun q => e2
        have d1' : ∀ q, (W6.drewN q).cell? ⟨b', off' + k * 2, none⟩ = some (.int .u64 ((nthP l' k).1 : Int)) := fun q => d1
        have d2' : ∀ q, (W6.drewN q).cell? ⟨b', off' + k * 2 + 1, none⟩ = some (.int .u64 ((nthP l' k).2 : Int)) := fun q => d2
        have hq := fun w => neq_pair (nthP l k).1 (nthP l k).2 (nthP l' k).1 (nthP l' k).2 w
        clear d1 d2 e1 e2
        by_cases he : nthP l k = nthP l' k
        · have hx : (!decide (((nthP l k).1, (nthP l k).2) = ((nthP l' k).1, (nthP l' k).2))) = false := by rw [he]; simp
          rw [hx] at hq
          generalize (nthP l k).1 = x1 at *
          generalize (nthP l k).2 = x2 at *
          generalize (nthP l' k).1 = y1 at *
          generalize (nthP l' k).2 = y2 at *
          have he'h := Lib.hid he
          have H6'h := Lib.hid H6
          clear he H6
          clear hx
          go_wp2_with fail
          go_quiet (fail)
          go_wp2
          go_roundg (gk - 1)
          case measure => have := hk'h.out; omega
          case rel =>
            refine ⟨k + 1, by have := hk'h.out; omega, by go_num, fun j hj => ?_, below_next hbr'h.out (H6'h.out.drewN nq).old⟩
            by_cases e : j = k
            · rw [e]; exact he'h.out
            · exact hall'h.out j (by omega)
        · have hx : (!decide (((nthP l k).1, (nthP l k).2) = ((nthP l' k).1, (nthP l' k).2))) = true := by
            simp only [Bool.not_eq_true', decide_eq_false_iff_not]
            intro e; exact he (Prod.ext (congrArg Prod.fst e) (congrArg Prod.snd e))
          rw [hx] at hq
          have hf : decide (l = l') = false := by
            rw [decide_eq_false_iff_not]; intro e; exact he (by rw [e])
          generalize (nthP l k).1 = x1 at *
          generalize (nthP l k).2 = x2 at *
          generalize (nthP l' k).1 = y1 at *
          generalize (nthP l' k).2 = y2 at *
          have he'h := Lib.hid he
          have hf'h := Lib.hid hf
          have H6'h := Lib.hid H6
          clear he hf H6
          clear hx
          go_wp2_with fail
          go_quiet (fail)
          go_wp2
          go_ret
          exact ⟨ret_bool hf'h.out.symm, below_next hbr'h.out (H6'h.out.drewN nq).old⟩
      · have hn : ¬ (k : Int) < (n : Int) := by omega
        have ht : decide (l = l') = true := by
          rw [decide_eq_true_eq]
          refine List.ext_getElem (by have := hlen'h.out; have := hlen''h.out; omega) fun j h1 h2 => ?_
          rw [nthP_eq h1, nthP_eq h2]
          exact hall j (by have := hlen'h.out; omega)
        have ht'h := Lib.hid ht
        have hbr'h := Lib.hid hbr
        have hall'h := Lib.hid hall
        have hk'h := Lib.hid hk
        clear ht hbr hall hk
        go_wp2
        go_ret
        exact ⟨ret_bool ht'h.out.symm, hbr'h.out⟩
  · have hne : ((n : Int) != (n' : Int)) = true := by simp; omega
    have hf : decide (l = l') = false := by
      rw [decide_eq_false_iff_not]; intro e; subst e; omega
    have hlen'h := Lib.hid hlen
    have hlen''h := Lib.hid hlen'
    have h'h := Lib.hid h
    have h''h := Lib.hid h'
    have hnn'h := Lib.hid hnn
    have hf'h := Lib.hid hf
    clear hlen hlen' h h' hnn hf
    go_enter Tryd.func67, Tryd.ntmps67
    go_wp2
    go_ret
    exact ⟨ret_bool hf'h.out.symm, Below.refl _ _⟩
/-- An answer, but for its pairs. -/
structure An where
  err : Int
  val : Nat
  done : Bool
deriving DecidableEq
def anA (a : An) (sp : Option Addr) (n cap : Nat) : Array Value := #[.int .i64 a.err, .int .u64 (a.val : Int), .bool a.done, .slice sp n cap]
def alikeB (x y : An) (a b : Ps) : Bool := decide (x = y ∧ a = b)
end Go.Proofs.YtogeohjeabbmaaaDoor

/-
  Package model and the document: answers compared; the document's Get.
-/
set_option linter.unusedSimpArgs false
set_option linter.unusedVariables false
set_option maxRecDepth 100000
namespace Go.Proofs.YtogeohjeabbmaaaDoor
open Go.RowKit

theorem malike_any (x y : An) (sp sp' : Option Addr) (n n' cap cap' : Nat) (a b : Ps) (w : World) (ha : SlK w 2 sp n (prs a)) (hb : SlK w 2 sp' n' (prs b)) :
    Calls Tryd.prog 78 #[.agg (anA x sp n cap), .agg (anA y sp' n' cap')] w fun e w' => e = .returned (.bool (alikeB x y a b)) ∧ Below w.heap.size w w' := by
  obtain ⟨e1, v1, d1⟩ := x
  obtain ⟨e2, v2, d2⟩ := y
  have hB : Below w.heap.size w ((w.alloc (.cells (anA ⟨e1, v1, d1⟩ sp n cap) 34)).alloc (.cells (anA ⟨e2, v2, d2⟩ sp' n' cap') 34)) := ((Below.refl _ _).alloc (Nat.le_refl _) _).alloc (by simp) _
  simp only [anA] at hB ⊢
  have ha'h := Lib.hid ha
  have hb'h := Lib.hid hb
  have hB'h := Lib.hid hB
  clear ha hb hB
  by_cases h1 : e1 = e2
  · subst h1
    by_cases h2 : v1 = v2
    · subst h2
      by_cases h3 : d1 = d2
      · subst h3
        have hr : alikeB ⟨e1, v1, d1⟩ ⟨e1, v1, d1⟩ a b = decide (a = b) := by unfold alikeB; simp
        rw [hr]
        clear hr
        have t1 : (e1 == e1) = true := by simp
        have t2 := show (((v1 : Int)) == (v1 : Int)) = true by simp
        have t3 : (d1 == d1) = true := by simp
        go_enter Tryd.func78, Tryd.ntmps78
        go_wp2_with (go_at_call 32; refine (equalP_any _ _ _ _ _ _ a b _ (ha'h.out.below hB'h.out) (hb'h.out.below hB'h.out)).mono ?_; rintro e w2 ⟨rfl, d, rfl⟩)
        go_ret
        exact ⟨rfl, hB'h.out.trans (below_drewN' _ _)⟩
      · have hr : alikeB ⟨e1, v1, d1⟩ ⟨e1, v1, d2⟩ a b = false := by unfold alikeB; simp [h3]
        rw [hr]
        clear hr
        have t1 : (e1 == e1) = true := by simp
        have t2 := show (((v1 : Int)) == (v1 : Int)) = true by simp
        have t3 : (d1 == d2) = false := by simpa using h3
        have h3'h := Lib.hid h3
        clear h3
        go_enter Tryd.func78, Tryd.ntmps78
        go_wp2
        go_ret
        exact ⟨rfl, hB'h.out⟩
    · have hr : alikeB ⟨e1, v1, d1⟩ ⟨e1, v2, d2⟩ a b = false := by unfold alikeB; simp [h2]
      rw [hr]
      clear hr
      have t1 : (e1 == e1) = true := by simp
      have t2 := show (((v1 : Int)) == (v2 : Int)) = false by simp; omega
      have h2'h := Lib.hid h2
      clear h2
      go_enter Tryd.func78, Tryd.ntmps78
      go_wp2
      go_ret
      exact ⟨rfl, hB'h.out⟩
  · have hr : alikeB ⟨e1, v1, d1⟩ ⟨e2, v2, d2⟩ a b = false := by unfold alikeB; simp [h1]
    rw [hr]
    clear hr
    have t1 : (e1 == e2) = false := by simpa using h1
    have h1'h := Lib.hid h1
    clear h1
    go_enter Tryd.func78, Tryd.ntmps78
    go_wp2
    go_ret
    exact ⟨rfl, hB'h.out⟩
theorem ralike_any (x y : An) (sp sp' : Option Addr) (n n' cap cap' : Nat) (a b : Ps) (w : World) (ha : SlK w 2 sp n (prs a)) (hb : SlK w 2 sp' n' (prs b)) :
    Calls Tryd.prog 43 #[.agg (anA x sp n cap), .agg (anA y sp' n' cap')] w fun e w' => e = .returned (.bool (alikeB x y a b)) ∧ Below w.heap.size w w' := by
  obtain ⟨e1, v1, d1⟩ := x
  obtain ⟨e2, v2, d2⟩ := y
  have hB : Below w.heap.size w ((w.alloc (.cells (anA ⟨e1, v1, d1⟩ sp n cap) 34)).alloc (.cells (anA ⟨e2, v2, d2⟩ sp' n' cap') 34)) := ((Below.refl _ _).alloc (Nat.le_refl _) _).alloc (by simp) _
  simp only [anA] at hB ⊢
  have ha'h := Lib.hid ha
  have hb'h := Lib.hid hb
  have hB'h := Lib.hid hB
  clear ha hb hB
  by_cases h1 : e1 = e2
  · subst h1
    by_cases h2 : v1 = v2
    · subst h2
      by_cases h3 : d1 = d2
      · subst h3
        have hr : alikeB ⟨e1, v1, d1⟩ ⟨e1, v1, d1⟩ a b = decide (a = b) := by unfold alikeB; simp
        rw [hr]
        clear hr
        have t1 : (e1 == e1) = true := by simp
        have t2 := show (((v1 : Int)) == (v1 : Int)) = true by simp
        have t3 : (d1 == d1) = true := by simp
        go_enter Tryd.func43, Tryd.ntmps43
        go_wp2_with (go_at_call 67; refine (rpairs_any _ _ _ _ _ _ a b _ (ha'h.out.below hB'h.out) (hb'h.out.below hB'h.out)).mono ?_; rintro e w2 ⟨rfl, hb2⟩)
        go_ret
        exact ⟨rfl, below_next hB'h.out hb2⟩
      · have hr : alikeB ⟨e1, v1, d1⟩ ⟨e1, v1, d2⟩ a b = false := by unfold alikeB; simp [h3]
        rw [hr]
        clear hr
        have t1 : (e1 == e1) = true := by simp
        have t2 := show (((v1 : Int)) == (v1 : Int)) = true by simp
        have t3 : (d1 == d2) = false := by simpa using h3
        have h3'h := Lib.hid h3
        clear h3
        go_enter Tryd.func43, Tryd.ntmps43
        go_wp2
        go_ret
        exact ⟨rfl, hB'h.out⟩
    · have hr : alikeB ⟨e1, v1, d1⟩ ⟨e1, v2, d2⟩ a b = false := by unfold alikeB; simp [h2]
      rw [hr]
      clear hr
      have t1 : (e1 == e1) = true := by simp
      have t2 := show (((v1 : Int)) == (v2 : Int)) = false by simp; omega
      have h2'h := Lib.hid h2
      clear h2
      go_enter Tryd.func43, Tryd.ntmps43
      go_wp2
      go_ret
      exact ⟨rfl, hB'h.out⟩
  · have hr : alikeB ⟨e1, v1, d1⟩ ⟨e2, v2, d2⟩ a b = false := by unfold alikeB; simp [h1]
    rw [hr]
    clear hr
    have t1 : (e1 == e2) = false := by simpa using h1
    have h1'h := Lib.hid h1
    clear h1
    go_enter Tryd.func43, Tryd.ntmps43
    go_wp2
    go_ret
    exact ⟨rfl, hB'h.out⟩
theorem findP_at {ps : Ps} {k q : Nat} (hk : k < ps.length) (hno : ∀ j, j < k → (nthP ps j).1 ≠ q) (h : (nthP ps k).1 = q) : findP ps q = some (nthP ps k).2 := by
  unfold findP
  induction ps generalizing k with
  | nil => simp at hk
  | cons p l ih =>
    rw [List.find?_cons]
    cases k with
    | zero =>
      have e : decide (p.1 = q) = true := decide_eq_true h
      rw [e]; rfl
    | succ k =>
      have e : decide (p.1 = q) = false := decide_eq_false (hno 0 (by omega))
      rw [e]
      exact ih (by simpa using hk) (fun j hj => hno (j + 1) (by omega)) h
theorem findP_none {ps : Ps} {q : Nat} (hno : ∀ j, j < ps.length → (nthP ps j).1 ≠ q) : findP ps q = none := by
  unfold findP
  rw [List.find?_eq_none.2, Option.map_none]
  intro p hp
  obtain ⟨j, hj, rfl⟩ := List.mem_iff_getElem.1 hp
  rw [nthP_eq hj]
  simpa using hno j hj
end Go.Proofs.YtogeohjeabbmaaaDoor

