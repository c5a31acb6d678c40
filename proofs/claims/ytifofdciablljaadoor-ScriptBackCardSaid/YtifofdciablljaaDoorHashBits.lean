/-
  math/bits.Len64 and LeadingZeros64, walked in place.
-/
import Derived.Test.YtifofdciablljaaDoorBase
set_option linter.unusedSimpArgs false
set_option linter.unusedVariables false
namespace Go.Proofs.YtifofdciablljaaDoor
open Go.RowKit

/-- A word's length by the byte that holds its highest bit. -/
theorem len_by_byte (k x : Nat) (hx : x < 2 ^ 64) (hl : x / 2 ^ k < 256) (hk : k = 0 ∨ 2 ^ k ≤ x) : (k : Int) + Lib.len8 ((x / 2 ^ k : Nat) : Int) = (Lib.bitLen x : Int) := by
  have e : Lib.bitLen x = k + Lib.bitLen (x / 2 ^ k) := by
    rcases hk with rfl | hk
    · simp
    · exact Lib.bitLen_shift k x hk hx
  generalize x / 2 ^ k = y at *
  rw [Lib.len8_of _ (by omega) (by omega), Int.toNat_natCast, e]; omega

theorem len8_size : ((Lib.len8tab.size : Nat) : Int) = 256 := by rw [Lib.len8tab_size]; rfl
theorem len8_at (i : Nat) (h : i < Lib.len8tab.size) : ((Lib.len8tab[i].toNat : Nat) : Int) = Lib.len8 (i : Int) := by
  unfold Lib.len8
  rw [Int.toNat_natCast]
  simp [h]
theorem len_close (k : Nat) (x i : Int) (h0 : 0 ≤ x) (h1 : x ≤ 18446744073709551615) (hi : i.toNat = x.toNat / 2 ^ k) (hlt : x.toNat / 2 ^ k < 256) (hk : k = 0 ∨ 2 ^ k ≤ x.toNat) (hb : i.toNat < Lib.len8tab.size) :
    (k : Int) + wrap64 ((Lib.len8tab[i.toNat].toNat : Nat) : Int) = (Lib.bitLen x.toNat : Int) ∧ (Lib.bitLen x.toNat : Int) ≤ 64 := by
  have h := len_by_byte k x.toNat (by omega) hlt hk
  have hl := Lib.bitLen_le x.toNat 64 (by omega) (by omega)
  rw [← hi, ← len8_at i.toNat hb] at h
  have e : wrap64 ((Lib.len8tab[i.toNat].toNat : Nat) : Int) = ((Lib.len8tab[i.toNat].toNat : Nat) : Int) := by unfold wrap64; omega
  rw [e]
  exact ⟨h, by omega⟩
theorem wrap_close {a b : Int} (h : a = b ∧ b ≤ 64) (h0 : 0 ≤ b) : wrap64 a = b := by unfold wrap64; omega
set_option maxHeartbeats 4000000 in
set_option maxRecDepth 100000 in
theorem len64_any (x : Int) (w : World) (h0 : 0 ≤ x) (h1 : x ≤ 18446744073709551615) : Calls Tryd.prog 80 #[.int .u64 x] w fun e w' => e = .returned (.int .i64 (Lib.bitLen x.toNat)) ∧ w' = w := by
  go_enter Tryd.func80, Tryd.ntmps80
  have hsz := len8_size
  go_wp2
  all_goals (go_ret; refine ⟨ret_i64 ?_, rfl⟩)
  all_goals first
    | (refine wrap_close (len_close 56 x _ h0 h1 (by omega) (by omega) (by omega) _) (by omega); done)
    | (refine wrap_close (len_close 48 x _ h0 h1 (by omega) (by omega) (by omega) _) (by omega); done)
    | (refine wrap_close (len_close 40 x _ h0 h1 (by omega) (by omega) (by omega) _) (by omega); done)
    | (refine wrap_close (len_close 32 x _ h0 h1 (by omega) (by omega) (by omega) _) (by omega); done)
    | (refine wrap_close (len_close 24 x _ h0 h1 (by omega) (by omega) (by omega) _) (by omega); done)
    | (refine wrap_close (len_close 16 x _ h0 h1 (by omega) (by omega) (by omega) _) (by omega); done)
    | (refine wrap_close (len_close 8 x _ h0 h1 (by omega) (by omega) (by omega) _) (by omega); done)
    | (have h := len_close 0 x x h0 h1 (by omega) (by omega) (.inl rfl) (by omega)
       rw [show ((0 : Nat) : Int) = 0 from rfl, Int.zero_add] at h
       exact wrap_close h (by omega))

end Go.Proofs.YtifofdciablljaaDoor
