/-
  Contracts of math/bits from the kit's shelf, laid at this program (lines as the kit's lay-shelf writes them).
-/
import Derived.Shelf.Lay
import Derived.Shelf.Small.Bits
import Derived.Test.YtpfpgjfcomkdgaaRows
namespace Go.Proofs
open Go.Shelf
shelf_lay Lays.n134 Nm 134 at Try as Try.lays134
theorem Try.bits_LeadingZeros64 (x : Int) (w : World) (h0 : 0 ≤ x) (h1 : x ≤ 18446744073709551615) :
    Calls Try.prog 42 #[.int .u64 x] w fun e w' => e = .returned (.int .i64 (64 - (Lib.bitLen x.toNat : Int))) ∧ w' = w := Any.bits_LeadingZeros64 Try.lays134 x w h0 h1
end Go.Proofs
