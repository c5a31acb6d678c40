/-
  The map of layer 24 in plain Lean: what calls make of rows of pairs.
-/
import Derived.Test.YtogeohjeabbmaaaDoorModelK
set_option linter.unusedSimpArgs false
set_option linter.unusedVariables false
namespace Go.Proofs.YtogeohjeabbmaaaDoor
open Go.RowKit

def effV (c : Cl) (old : Option Nat) : Option Nat :=
  if c.op = 2 then some c.a else if c.op = 3 then none else if c.op = 4 then (if old = some c.a then some c.b else old) else if c.op = 5 then (if old.isSome then old else some c.a) else old
def nextP (c : Cl) (ps : Ps) : Ps :=
  if c.op = 2 then insP ps c.key c.a else if c.op = 3 then delP ps c.key else if c.op = 4 then (if getS ps c.key = some c.a then insP ps c.key c.b else ps) else if c.op = 5 then (if hasP ps c.key then ps else insP ps c.key c.a) else ps
def tellA (c : Cl) (ps : Ps) : An :=
  if c.op = 4 then { anK ps c.key with done := decide (getS ps c.key = some c.a) } else if c.op = 5 then (if hasP ps c.key then anK ps c.key else ⟨0, c.a, false⟩) else if c.op = 6 then ⟨0, 0, false⟩ else if c.op = 7 then ⟨0, ps.length, false⟩ else anK ps c.key
def tellQ (c : Cl) (ps : Ps) : Ps := if c.op = 6 then ps else []
def isOp (c : Cl) : Bool := decide (1 ≤ c.op ∧ c.op ≤ 7)
theorem up_next {ps : Ps} (h : upB ps = true) (c : Cl) : upB (nextP c ps) = true := by
  unfold nextP
  split
  · exact up_ins h _ _
  · split
    · exact up_del h _
    · split
      · split
        · exact up_ins h _ _
        · exact h
      · split
        · split
          · exact h
          · exact up_ins h _ _
        · exact h
theorem get_same (ps : Ps) (k q : Nat) : getS ps q = if q = k then getS ps k else getS ps q := by
  split
  · rename_i e; rw [e]
  · rfl
theorem get_next {ps : Ps} (h : upB ps = true) (c : Cl) (q : Nat) : getS (nextP c ps) q = if q = c.key then effV c (getS ps c.key) else getS ps q := by
  unfold nextP effV
  by_cases h2 : c.op = 2
  · rw [if_pos h2, if_pos h2, get_ins h]
  rw [if_neg h2, if_neg h2]
  by_cases h3 : c.op = 3
  · rw [if_pos h3, if_pos h3, get_del h]
  rw [if_neg h3, if_neg h3]
  by_cases h4 : c.op = 4
  · rw [if_pos h4, if_pos h4]
    by_cases hs : getS ps c.key = some c.a
    · rw [if_pos hs, if_pos hs, get_ins h]
    · rw [if_neg hs, if_neg hs]; exact get_same ps c.key q
  rw [if_neg h4, if_neg h4]
  by_cases h5 : c.op = 5
  · rw [if_pos h5, if_pos h5]
    unfold hasP
    by_cases hs : (getS ps c.key).isSome = true
    · rw [if_pos hs, if_pos hs]; exact get_same ps c.key q
    · rw [if_neg hs, if_neg hs, get_ins h]
  rw [if_neg h5, if_neg h5]; exact get_same ps c.key q
theorem get_next_other {ps : Ps} (h : upB ps = true) (c : Cl) {q : Nat} (hq : q ≠ c.key) : getS (nextP c ps) q = getS ps q := by rw [get_next h, if_neg hq]
theorem len_next_le (c : Cl) (ps : Ps) : (nextP c ps).length ≤ ps.length + 1 := by
  have hi : ∀ k v, (insP ps k v).length ≤ ps.length + 1 := fun k v => by rw [len_ins]; split <;> omega
  unfold nextP
  split
  · exact hi _ _
  · split
    · rw [len_del]; omega
    · split
      · split
        · exact hi _ _
        · omega
      · split
        · split
          · omega
          · exact hi _ _
        · omega
/-- What a call of a key is told rests on what the key has alone. -/
theorem tell_of_get {c : Cl} {a b : Ps} (hc : c.op ≤ 5) (h : getS a c.key = getS b c.key) : tellA c a = tellA c b := by
  have hk : anK a c.key = anK b c.key := by unfold anK hasP; rw [h]
  have hh : hasP a c.key = hasP b c.key := by unfold hasP; rw [h]
  unfold tellA
  rw [hk, hh, h, if_neg (show ¬ c.op = 6 by omega), if_neg (show ¬ c.op = 7 by omega), if_neg (show ¬ c.op = 6 by omega), if_neg (show ¬ c.op = 7 by omega)]
theorem tellQ_none {c : Cl} (hc : c.op ≠ 6) (ps : Ps) : tellQ c ps = [] := by unfold tellQ; rw [if_neg hc]
theorem turns_next {ps : Ps} (h : upB ps = true) {c d : Cl} (hk : c.key ≠ d.key) : nextP d (nextP c ps) = nextP c (nextP d ps) := by
  refine up_ext (up_next (up_next h c) d) (up_next (up_next h d) c) fun q => ?_
  rw [get_next (up_next h c), get_next h, get_next (up_next h d), get_next h, get_next h, get_next h]
  by_cases h1 : q = d.key
  · rw [if_pos h1, if_neg (Ne.symm hk), if_neg (fun e => hk (e.symm.trans h1)), if_pos h1]
  · rw [if_neg h1]
    by_cases h2 : q = c.key
    · rw [if_pos h2, if_pos h2, if_neg hk]
    · rw [if_neg h2, if_neg h2, if_neg h1]
theorem turns_tell {ps : Ps} (h : upB ps = true) {c d : Cl} (hk : c.key ≠ d.key) (hd : d.op ≤ 5) : tellA d (nextP c ps) = tellA d ps :=
  tell_of_get hd (get_next_other h c (Ne.symm hk))
/-! ### calls, one behind the other -/
def runP : List Cl → Ps → Option (Ps × List An)
  | [], ps => some (ps, [])
  | c :: l, ps => if isOp c then (runP l (nextP c ps)).map fun r => (r.1, tellA c ps :: r.2) else none
/-- The map behind k calls. -/
def mapP (l : List Cl) (ps : Ps) : Nat → Ps
  | 0 => ps
  | k + 1 => match l[k]? with
    | some c => nextP c (mapP l ps k)
    | none => mapP l ps k
theorem mapP_succ {l : List Cl} {ps : Ps} {k : Nat} {c : Cl} (h : l[k]? = some c) : mapP l ps (k + 1) = nextP c (mapP l ps k) := by rw [mapP, h]
theorem up_mapP {l : List Cl} {ps : Ps} (h : upB ps = true) : ∀ k, upB (mapP l ps k) = true
  | 0 => h
  | k + 1 => by
    rw [mapP]
    split
    · exact up_next (up_mapP h k) _
    · exact up_mapP h k
theorem len_mapP (l : List Cl) (ps : Ps) : ∀ k, (mapP l ps k).length ≤ ps.length + k
  | 0 => Nat.le_refl _
  | k + 1 => by
    have := len_mapP l ps k
    rw [mapP]
    split
    · have := len_next_le (‹Cl›) (mapP l ps k); omega
    · omega
def ansP (l : List Cl) (ps : Ps) (k : Nat) : An := match l[k]? with
  | some c => tellA c (mapP l ps k)
  | none => ⟨0, 0, false⟩
theorem ansP_at {l : List Cl} {ps : Ps} {k : Nat} {c : Cl} (h : l[k]? = some c) : ansP l ps k = tellA c (mapP l ps k) := by unfold ansP; rw [h]
end Go.Proofs.YtogeohjeabbmaaaDoor
