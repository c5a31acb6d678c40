/-
  Layer 27 (order), plain: calls that were made, as they read in memory.
-/
import Derived.Test.YtogeohjeabbmaaaDoorModelD
import Derived.Test.YtogeohjeabbmaaaDoorScrD
import Derived.Test.YtogeohjeabbmaaaDoorY1
set_option linter.unusedSimpArgs false
set_option linter.unusedVariables false
set_option maxRecDepth 100000
namespace Go.Proofs.YtogeohjeabbmaaaDoor
open Go.RowKit

/-- A call that was made. -/
structure Md where
  goer : Int
  call : Cal
  ans : An
  prs : Ps
  began : Int
  at' : Int
  over : Int
  told : List Int
deriving DecidableEq
/-- A call that was made, as it lies in memory. -/
structure Mm where
  md : Md
  pp : Option Addr
  pn : Nat
  pc : Nat
  tp : Option Addr
  tn : Nat
  tc : Nat
def mmA (m : Mm) : Array Value := #[.int .i64 m.md.goer, .int .i64 m.md.call.op, .int .u64 (m.md.call.key : Int), .int .u64 (m.md.call.a : Int), .int .u64 (m.md.call.b : Int), .int .i64 m.md.ans.err, .int .u64 (m.md.ans.val : Int), .bool m.md.ans.done, .slice m.pp m.pn m.pc, .int .i64 m.md.began, .int .i64 m.md.at', .int .i64 m.md.over, .slice m.tp m.tn m.tc]
def mmL (m : Mm) : List Value := [.int .i64 m.md.goer, .int .i64 m.md.call.op, .int .u64 (m.md.call.key : Int), .int .u64 (m.md.call.a : Int), .int .u64 (m.md.call.b : Int), .int .i64 m.md.ans.err, .int .u64 (m.md.ans.val : Int), .bool m.md.ans.done, .slice m.pp m.pn m.pc, .int .i64 m.md.began, .int .i64 m.md.at', .int .i64 m.md.over, .slice m.tp m.tn m.tc]
theorem mmL_len (m : Mm) : (mmL m).length = 13 := rfl
def mms (l : List Mm) : List Value := l.flatMap mmL
def I64 (x : Int) : Prop := -9223372036854775808 ≤ x ∧ x ≤ 9223372036854775807
structure MdOk (m : Md) : Prop where
  goer : I64 m.goer
  call : CalOk m.call
  err : I64 m.ans.err
  val : m.ans.val < 2 ^ 64
  began : I64 m.began
  at' : I64 m.at'
  over : I64 m.over
  told : ∀ x ∈ m.told, I64 x
  prs : ∀ p ∈ m.prs, p.1 < 2 ^ 64 ∧ p.2 < 2 ^ 64
structure MmIn (w : World) (m : Mm) : Prop where
  prs : SlK w 2 m.pp m.pn (prs m.md.prs)
  told : Sl w m.tp m.tn (m.md.told.map (Value.int .i64))
  pnil : m.pp = none → m.pc = 0
  ple : m.pn ≤ m.pc
  tnil : m.tp = none → m.tc = 0
  tle : m.tn ≤ m.tc
  ok : MdOk m.md
theorem MmIn.below {w w' : World} {m : Mm} (h : MmIn w m) (hb : Below w.heap.size w w') : MmIn w' m := ⟨h.prs.below hb, h.told.below hb, h.pnil, h.ple, h.tnil, h.tle, h.ok⟩
theorem MmIn.pn {w : World} {m : Mm} (h : MmIn w m) : m.pn = m.md.prs.length := by have := h.prs.1; rw [prs_length] at this; omega
theorem MmIn.tn {w : World} {m : Mm} (h : MmIn w m) : m.tn = m.md.told.length := by have := h.told.1; simpa using this
def nthM (l : List Mm) (k : Nat) : Mm := l.getD k ⟨⟨0, ⟨0, 0, 0, 0⟩, ⟨0, 0, false⟩, [], 0, 0, 0, []⟩, none, 0, 0, none, 0, 0⟩
theorem nthM_eq {l : List Mm} {k : Nat} (h : k < l.length) : l[k] = nthM l k := by unfold nthM; rw [List.getD_eq_getElem?_getD, List.getElem?_eq_getElem h]; rfl
theorem nthM_at {l : List Mm} {k : Nat} (h : k < l.length) : l[k]? = some (nthM l k) := by rw [List.getElem?_eq_getElem h, nthM_eq h]
theorem nthM_mem {l : List Mm} {k : Nat} (h : k < l.length) : nthM l k ∈ l := List.mem_of_getElem? (nthM_at h)
/-- Calls that lie in a row. -/
structure MsIn (w : World) (sp : Option Addr) (n : Nat) (l : List Mm) : Prop where
  sl : SlK w 13 sp n (mms l)
  each : ∀ m ∈ l, MmIn w m
theorem MsIn.below {w w' : World} {sp : Option Addr} {n : Nat} {l : List Mm} (h : MsIn w sp n l) (hb : Below w.heap.size w w') : MsIn w' sp n l := ⟨h.sl.below hb, fun m hm => (h.each m hm).below hb⟩
theorem MsIn.len {w : World} {sp : Option Addr} {n : Nat} {l : List Mm} (h : MsIn w sp n l) : n = l.length := slk_len mmL_len (by decide) h.sl
theorem MsIn.cells {w : World} {b off n : Nat} {l : List Mm} (h : MsIn w (some ⟨b, off, none⟩) n l) {k : Nat} (hk : k < l.length) {i : Nat} {v : Value} (hi : i < 13) (hv : (mmL (nthM l k))[i]? = some v) : w.cell? ⟨b, off + k * 13 + i, none⟩ = some v :=
  slk_cell mmL_len h.sl (nthM_at hk) hi hv
/-! ### What the layer says, plain -/
def aheadM (a b : Md) : Bool := decide (a.over ≠ 0) && decide (a.over < b.began)
def emptyM (m : Md) : Bool := decide (m.ans.err = 0) && decide (m.ans.val = 0) && !m.ans.done && decide (m.prs.length = 0)
def lastM (m : Md) : Int := if m.over = 0 then 1073741824 else m.over
def flatM (m : Md) : Bool := decide (0 ≤ m.goer) && decide (m.goer < 8) && rightC m.call && decide (1 ≤ m.began) && decide (m.began ≤ 1073741824)
def stepsM (m : Md) : Bool := decide (m.over ≤ 1073741824) && decide (lastM m ≥ m.began) && (decide (m.at' = 0) || (decide (m.at' ≥ m.began) && (decide (m.over = 0) || decide (m.at' ≤ m.over))))
def withinM (m : Md) : Bool := m.told.all fun x => decide (x ≥ m.began) && decide (x ≤ lastM m)
def toldM (m : Md) : Bool := decide (m.told.length = m.prs.length) && (decide (m.told.length = 0) || decide (m.call.op = 6))
def rightM (m : Md) : Bool := flatM m && stepsM m && withinM m && toldM m && (decide (m.over ≠ 0) || emptyM m)
def apartM (a b : Md) : Bool := decide (a.goer ≠ b.goer) || aheadM a b || aheadM b a
def rangesM (m : Md) : Bool := decide (m.call.op = 6)
end Go.Proofs.YtogeohjeabbmaaaDoor
