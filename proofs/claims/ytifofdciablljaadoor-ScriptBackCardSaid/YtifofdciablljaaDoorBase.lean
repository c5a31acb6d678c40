/-
  Small words for walks.
-/
import Derived.Test.YtifofdciablljaaDoorRows
import Derived.Test.YtifofdciablljaaDoorKit
import Derived.WalkKit
import Derived.Deep.QuietTactic
import Derived.BigQuiet
import Derived.Lib.Hide
import Derived.Lib.BitFns
set_option linter.unusedSimpArgs false
set_option linter.unusedVariables false
namespace Go.Proofs.YtifofdciablljaaDoor
open Go.RowKit

theorem ret_u64 {a b : Int} (h : a = b) : Ending.returned (.int .u64 a) = .returned (.int .u64 b) := by rw [h]
theorem ret_u8 {a b : Int} (h : a = b) : Ending.returned (.int .u8 a) = .returned (.int .u8 b) := by rw [h]
theorem ret_i64 {a b : Int} (h : a = b) : Ending.returned (.int .i64 a) = .returned (.int .i64 b) := by rw [h]
theorem ret_bool {a b : Bool} (h : a = b) : Ending.returned (.bool a) = .returned (.bool b) := by rw [h]
theorem wrap_u64_nat (x : Nat) (h : x < 2 ^ 64) : IntKind.u64.wrap (x : Int) = (x : Int) := by rw [IntKind.wrap_u64]; omega
theorem and_u64_lit (x c : Nat) (hx : x < 2 ^ 64) (hc : c < 2 ^ 64) : bits .and .u64 (x : Int) (c : Int) = ((x &&& c : Nat) : Int) := u64_and_nat _ _ (by simpa using hx) (by simpa using hc)
theorem or_u64_lit (x c : Nat) (hx : x < 2 ^ 64) (hc : c < 2 ^ 64) : bits .or .u64 (x : Int) (c : Int) = ((x ||| c : Nat) : Int) := u64_or_nat _ _ (by simpa using hx) (by simpa using hc)
theorem xor_u64_lit (x c : Nat) (hx : x < 2 ^ 64) (hc : c < 2 ^ 64) : bits .xor .u64 (x : Int) (c : Int) = ((x ^^^ c : Nat) : Int) := u64_xor_nat _ _ (by simpa using hx) (by simpa using hc)
end Go.Proofs.YtifofdciablljaaDoor
