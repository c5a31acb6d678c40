/-
  Groups of eight slots, in plain Lean.
-/
import Derived.Test.YtfoohdjgnphdgaaCtrlPure
import Derived.Test.YtfoohdjgnphdgaaLanesT
set_option linter.unusedSimpArgs false
set_option linter.unusedVariables false
namespace Go.Proofs.Ytfoohdjgnphdgaa
open Go.RowKit

/-- A group: its control word, keys and values by lane. -/
structure Gp where
  c : Nat
  k : Nat → Nat
  v : Nat → Nat
structure GpOk (g : Gp) : Prop where
  c : g.c < 2 ^ 64
  k : ∀ i, g.k i < 2 ^ 64
  v : ∀ i, g.v i < 2 ^ 64
def gpA (g : Gp) : Array Value := #[.int .u64 (g.c : Int), .int .u64 (g.k 0 : Int), .int .u64 (g.k 1 : Int), .int .u64 (g.k 2 : Int), .int .u64 (g.k 3 : Int), .int .u64 (g.k 4 : Int), .int .u64 (g.k 5 : Int), .int .u64 (g.k 6 : Int), .int .u64 (g.k 7 : Int),
  .int .u64 (g.v 0 : Int), .int .u64 (g.v 1 : Int), .int .u64 (g.v 2 : Int), .int .u64 (g.v 3 : Int), .int .u64 (g.v 4 : Int), .int .u64 (g.v 5 : Int), .int .u64 (g.v 6 : Int), .int .u64 (g.v 7 : Int)]
theorem lane8 {i : Nat} (h : i < 8) : i = 0 ∨ i = 1 ∨ i = 2 ∨ i = 3 ∨ i = 4 ∨ i = 5 ∨ i = 6 ∨ i = 7 := by omega
theorem gpA_size (g : Gp) : (gpA g).size = 17 := rfl
theorem gpA_one (g : Gp) : (gpA g).all (·.oneCell') = true := by kernel_rfl
theorem gpA_k (g : Gp) {i : Nat} (h : i < 8) : (gpA g)[1 + i]? = some (.int .u64 (g.k i : Int)) := by
  rcases lane8 h with rfl | rfl | rfl | rfl | rfl | rfl | rfl | rfl <;> rfl
theorem gpA_v (g : Gp) {i : Nat} (h : i < 8) : (gpA g)[9 + i]? = some (.int .u64 (g.v i : Int)) := by
  rcases lane8 h with rfl | rfl | rfl | rfl | rfl | rfl | rfl | rfl <;> rfl
/-- One lane turned. -/
def upd (f : Nat → Nat) (i x : Nat) : Nat → Nat := fun j => if j = i then x else f j
theorem upd_same (f : Nat → Nat) (i x : Nat) : upd f i x i = x := by simp [upd]
theorem upd_other (f : Nat → Nat) {i j : Nat} (x : Nat) (h : j ≠ i) : upd f i x j = f j := by simp [upd, h]
theorem gpA_setC (g : Gp) (x : Nat) : (gpA g).setIfInBounds 0 (.int .u64 (x : Int)) = gpA { g with c := x } := rfl
theorem gpA_setK (g : Gp) {i : Nat} (h : i < 8) (x : Nat) : (gpA g).setIfInBounds (1 + i) (.int .u64 (x : Int)) = gpA { g with k := upd g.k i x } := by
  rcases lane8 h with rfl | rfl | rfl | rfl | rfl | rfl | rfl | rfl <;> rfl
theorem gpA_setV (g : Gp) {i : Nat} (h : i < 8) (x : Nat) : (gpA g).setIfInBounds (9 + i) (.int .u64 (x : Int)) = gpA { g with v := upd g.v i x } := by
  rcases lane8 h with rfl | rfl | rfl | rfl | rfl | rfl | rfl | rfl <;> rfl
def gpZ : Gp := ⟨0, fun _ => 0, fun _ => 0⟩
def gpNew : Gp := ⟨fillW 128, fun _ => 0, fun _ => 0⟩
/-- Do they hold the same? -/
def sameA (a b : Gp) : Bool := a.c == b.c && (List.range 8).all (fun i => a.k i == b.k i) && (List.range 8).all (fun i => a.v i == b.v i)
theorem sameA_iff (a b : Gp) : sameA a b = true ↔ a.c = b.c ∧ (∀ i, i < 8 → a.k i = b.k i) ∧ (∀ i, i < 8 → a.v i = b.v i) := by
  unfold sameA
  simp only [Bool.and_eq_true, List.all_eq_true, List.mem_range, beq_iff_eq, and_assoc]
theorem gpA_eq (a b : Gp) : gpA a = gpA b ↔ sameA a b = true := by
  rw [sameA_iff]
  constructor
  · intro h
    refine ⟨?_, fun i hi => ?_, fun i hi => ?_⟩
    · have := congrArg (·[0]?) h
      simp [gpA] at this; omega
    · have := congrArg (·[1 + i]?) h
      simp only [gpA_k _ hi] at this
      simp at this; omega
    · have := congrArg (·[9 + i]?) h
      simp only [gpA_v _ hi] at this
      simp at this; omega
  · rintro ⟨h0, h1, h2⟩
    unfold gpA
    rw [h0, h1 0 (by omega), h1 1 (by omega), h1 2 (by omega), h1 3 (by omega), h1 4 (by omega), h1 5 (by omega), h1 6 (by omega), h1 7 (by omega), h2 0 (by omega), h2 1 (by omega), h2 2 (by omega), h2 3 (by omega), h2 4 (by omega), h2 5 (by omega), h2 6 (by omega), h2 7 (by omega)]

/-- What a slot is. -/
structure Sl3 where
  key : Nat
  val : Nat
  h2 : Nat
deriving DecidableEq
structure Sl3Ok (s : Sl3) : Prop where
  key : s.key < 2 ^ 64
  val : s.val < 2 ^ 64
  h2 : s.h2 < 256
def slL (s : Sl3) : List Value := [.int .u64 (s.key : Int), .int .u64 (s.val : Int), .int .u8 (s.h2 : Int)]
def slA (s : Sl3) : Array Value := #[.int .u64 (s.key : Int), .int .u64 (s.val : Int), .int .u8 (s.h2 : Int)]
def slotAt (g : Gp) (i : Nat) : Sl3 := ⟨g.k i, g.v i, byteAt g.c i⟩
theorem slotAt_ok {g : Gp} (h : GpOk g) (i : Nat) : Sl3Ok (slotAt g i) := ⟨h.k i, h.v i, byteAt_lt _ _⟩
theorem slA_one (s : Sl3) : (slA s).all (·.oneCell') = true := by kernel_rfl
theorem slA_inj {a b : Sl3} : slA a = slA b ↔ a = b := by
  constructor
  · intro h
    have h0 := congrArg (·[0]?) h
    have h1 := congrArg (·[1]?) h
    have h2 := congrArg (·[2]?) h
    simp [slA] at h0 h1 h2
    cases a; cases b; simp at h0 h1 h2 ⊢; omega
  · rintro rfl; rfl

/-! ### The lanes of full slots -/
def fullL (x : Nat) : List Nat := (List.range 8).filter fun i => fullAt x i
theorem lanes_mask (f : Nat → Bool) : lanesOf (maskOf ((List.range 8).map f)) = (List.range 8).filter f := by
  unfold lanesOf
  refine List.filter_congr fun i hi => ?_
  have h := tb_range' f i
  rw [Nat.testBit_eq_decide_div_mod_eq] at h
  have h8 : i < 8 := List.mem_range.1 hi
  rw [decide_eq_true h8, Bool.true_and] at h
  rw [← h]
  rw [Bool.eq_iff_iff]; simp
theorem fullL_eq (x : Nat) : lanesOf (belowM x 128) = fullL x := by rw [fullM_def, lanes_mask]; rfl
theorem equalL_eq (x b : Nat) : lanesOf (equalM x b) = (List.range 8).filter fun i => byteAt x i == b := by rw [equalM_def, lanes_mask]
theorem freeL_eq {x : Nat} : lanesOf (equalM x 128 ||| equalM x 254) = (List.range 8).filter fun i => byteAt x i == 128 || byteAt x i == 254 := by
  rw [equalM_def, equalM_def, mask_or, lanes_mask]

theorem filt_split (p : Nat → Bool) {i n : Nat} (hi : i < n) : ∃ l, (List.range n).filter p = (List.range i).filter p ++ (if p i = true then [i] else []) ++ l := by
  obtain ⟨m, rfl⟩ : ∃ m, n = i + (m + 1) := ⟨n - i - 1, by omega⟩
  refine ⟨((List.range m).map (i + 1 + ·)).filter p, ?_⟩
  rw [List.range_add, List.range_succ_eq_map, List.filter_append, List.map_cons, List.map_map, List.append_assoc]
  congr 1
  rw [List.filter_cons, Nat.add_zero]
  have e : ((fun x => i + x) ∘ Nat.succ) = (fun x => i + 1 + x) := by funext x; simp only [Function.comp]; omega
  rw [e]
  split <;> simp
theorem filt_at (p : Nat → Bool) {i n : Nat} (hi : i < n) (hp : p i = true) : ((List.range n).filter p)[((List.range i).filter p).length]? = some i := by
  obtain ⟨l, hl⟩ := filt_split p hi
  rw [hl, if_pos hp, List.append_assoc, List.getElem?_append_right (Nat.le_refl _), Nat.sub_self]; rfl
theorem filt_succ (p : Nat → Bool) (i : Nat) : ((List.range (i + 1)).filter p).length = ((List.range i).filter p).length + (if p i = true then 1 else 0) := by
  rw [List.range_succ, List.filter_append, List.length_append, List.filter_cons]
  split <;> simp
def bitM (m i : Nat) : Bool := m / 2 ^ i % 2 == 1
theorem bitM_and {m k : Nat} (hm : m < 256) : bits .and .u8 ((m : Int) / 2 ^ k) 1 = if bitM m k = true then 1 else 0 := by
  have h1 : (m : Int) / 2 ^ k = ((m / 2 ^ k : Nat) : Int) := by simp
  have hlt : m / 2 ^ k < 256 := Nat.lt_of_le_of_lt (Nat.div_le_self _ _) hm
  rw [h1, show (1 : Int) = ((1 : Nat) : Int) by rfl, u8_and_nat _ _ hlt (by decide), Nat.and_one_is_mod]
  unfold bitM
  by_cases h : m / 2 ^ k % 2 = 1
  · rw [h]; simp
  · have h0 : m / 2 ^ k % 2 = 0 := by omega
    rw [h0]; simp
def toldM (m i : Nat) : Nat := ((List.range i).filter (bitM m)).length
theorem lanesOf_def (m : Nat) : lanesOf m = (List.range 8).filter (bitM m) := rfl
theorem told_yes {m i : Nat} (hi : i < 8) (h : bitM m i = true) : toldM m (i + 1) = toldM m i + 1 ∧ ∃ hk : toldM m i < (lanesOf m).length, (lanesOf m)[toldM m i] = i := by
  refine ⟨by unfold toldM; rw [filt_succ, if_pos h], ?_⟩
  have := filt_at (bitM m) hi h
  rw [← lanesOf_def] at this
  exact ⟨(List.getElem?_eq_some_iff.1 this).1, (List.getElem?_eq_some_iff.1 this).2⟩
theorem told_no {m i : Nat} (h : bitM m i = false) : toldM m (i + 1) = toldM m i := by unfold toldM; rw [filt_succ, if_neg (by rw [h]; decide)]; rfl
theorem told_all (m : Nat) : toldM m 8 = (lanesOf m).length := rfl

/-! ### What the document says -/
def distinctG (g : Gp) : Bool := (List.range 8).all fun i => (List.range i).all fun j => !(fullAt g.c i && fullAt g.c j && g.k i == g.k j)
def rightG (g : Gp) : Bool := distinctG g && rightW g.c
theorem distinctG_iff (g : Gp) : distinctG g = true ↔ ∀ i, i < 8 → ∀ j, j < i → fullAt g.c i = true → fullAt g.c j = true → g.k i ≠ g.k j := by
  unfold distinctG
  simp only [List.all_eq_true, List.mem_range, Bool.not_eq_true', Bool.and_eq_false_iff, beq_eq_false_iff_ne]
  constructor
  · intro h i hi j hj f1 f2 e
    rcases h i hi j hj with (h | h) | h
    · rw [f1] at h; cases h
    · rw [f2] at h; cases h
    · exact h e
  · intro h i hi j hj
    cases f1 : fullAt g.c i with
    | false => exact .inl (.inl rfl)
    | true =>
      cases f2 : fullAt g.c j with
      | false => exact .inl (.inr rfl)
      | true => exact .inr (h i hi j hj f1 f2)
def sameG (a b : Gp) : Bool := (List.range 8).all (fun i => !(fullAt a.c i && (a.k i != b.k i || a.v i != b.v i))) && a.c == b.c
def looksG (g : Gp) (h : Nat) : List Nat := (List.range 8).filter fun i => byteAt g.c i == h
/-- The place among the lanes that are looked at; as many as there are: none. -/
def placeG (g : Gp) (key h : Nat) : Nat := (looksG g h).findIdx fun i => g.k i == key
def foundG (g : Gp) (key h : Nat) : Bool := decide (placeG g key h < (looksG g h).length)
def laneG (g : Gp) (key h : Nat) : Nat := nthN (looksG g h) (placeG g key h)
def freeLane (g : Gp) : Nat := (List.range 8).findIdx fun i => !fullAt g.c i
def thereG (g : Gp) (key : Nat) : Bool := (List.range 8).any fun i => fullAt g.c i && g.k i == key
def putE (g : Gp) (s : Sl3) : Nat := if 127 < s.h2 then 2 else if thereG g s.key = true then 5 else if freeLane g = 8 then 6 else 0
def putTo (g : Gp) (s : Sl3) : Gp := ⟨setLane g.c (freeLane g) s.h2, upd g.k (freeLane g) s.key, upd g.v (freeLane g) s.val⟩
def putG (g : Gp) (s : Sl3) : Gp := if putE g s = 0 then putTo g s else gpZ
def putLane (g : Gp) (s : Sl3) : Nat := if putE g s = 0 then freeLane g else 0
def dropTo (g : Gp) (i : Nat) : Gp := { g with c := setLane g.c i (eraseB g.c) }
def setTo (g : Gp) (i x : Nat) : Gp := { g with v := upd g.v i x }
def liveG (g : Gp) : List Sl3 := (fullL g.c).map (slotAt g)
def emptyN (g : Gp) : Nat := ((List.range 8).filter fun i => byteAt g.c i == 128).length
def deadN (g : Gp) : Nat := ((List.range 8).filter fun i => byteAt g.c i == 254).length
theorem gpZ_ok : GpOk gpZ := ⟨by decide, fun _ => show 0 < 2 ^ 64 by decide, fun _ => show 0 < 2 ^ 64 by decide⟩
theorem gpNew_ok : GpOk gpNew := ⟨fillW_lt _ (by decide), fun _ => show 0 < 2 ^ 64 by decide, fun _ => show 0 < 2 ^ 64 by decide⟩
theorem putTo_ok {g : Gp} {s : Sl3} (h : GpOk g) (hs : Sl3Ok s) : GpOk (putTo g s) :=
  ⟨setLane_lt _ _ _ hs.h2, fun i => by unfold putTo upd; simp only; split; exact hs.key; exact h.k i, fun i => by unfold putTo upd; simp only; split; exact hs.val; exact h.v i⟩
theorem putG_ok {g : Gp} {s : Sl3} (h : GpOk g) (hs : Sl3Ok s) : GpOk (putG g s) := by
  unfold putG; split
  · exact putTo_ok h hs
  · exact gpZ_ok
theorem eraseB_lt (x : Nat) : eraseB x < 256 := by unfold eraseB; split <;> decide
theorem dropTo_ok {g : Gp} (h : GpOk g) (i : Nat) : GpOk (dropTo g i) := ⟨setLane_lt _ _ _ (eraseB_lt _), h.k, h.v⟩
theorem setTo_ok {g : Gp} (h : GpOk g) (i : Nat) {x : Nat} (hx : x < 2 ^ 64) : GpOk (setTo g i x) := ⟨h.c, h.k, fun j => by unfold setTo upd; simp only; split; exact hx; exact h.v j⟩
end Go.Proofs.Ytfoohdjgnphdgaa
