/-
  The library's sort at rows of uint64: breaking patterns up.
-/
import Derived.Test.YtifofdciablljaaDoorSrtF
import Derived.Sort.Walk7
set_option linter.unusedSimpArgs false
set_option linter.unusedVariables false
namespace Go.Proofs.YtifofdciablljaaDoor
open Go.RowKit Go.Sort

/-- The row reads d, and one new block behind the heap holds the little generator's state r. -/
def Brk (w : World) (blk off : Nat) (d : Array Nat) (r : UInt64) (W : World) : Prop := ∃ n, W = grow (putRow e64 (Sort.ahead w n) blk off d) #[Obj.cells #[.int .u64 (r.toNat : Int)] 120]
theorem Brk.cell {w W : World} {blk off : Nat} {d dk : Array Nat} {r : UInt64} (h : Brk w blk off dk r W) (h0 : Holds e64 w blk off d) (hb : blk < w.heap.size) (hs : dk.size = d.size) {G : Nat → Nat} (hG : ∀ t, G t = dk[t]!) : ∀ t, t < d.size → W.cell? ⟨blk, off + t, none⟩ = some (.int .u64 (G t : Nat)) := fun t ht => by
  obtain ⟨n, rfl⟩ := h
  rw [cell?_grow _ _ _ (by simpa using hb), hG]
  exact cell?_putRow _ _ _ _ d dk (holds_ahead _ _ _ _ _ _ h0) hs t (by omega)
theorem Brk.free {w W : World} {blk off : Nat} {d dk : Array Nat} {r : UInt64} (h : Brk w blk off dk r W) (h0 : Holds e64 w blk off d) (hb : blk < w.heap.size) : ∀ t, t < d.size → W.frozen? ⟨blk, off + t, none⟩ = false := fun t ht => by
  obtain ⟨n, rfl⟩ := h
  rw [frozen?_grow _ _ _ (by simpa using hb), frozen?_putRow]
  exact ((holds_ahead _ _ n _ _ _ h0) t ht).2
theorem Brk.state {w W : World} {blk off : Nat} {dk : Array Nat} {r : UInt64} (h : Brk w blk off dk r W) : W.cell? ⟨w.heap.size, 0, none⟩ = some (.int .u64 (r.toNat : Nat)) ∧ W.frozen? ⟨w.heap.size, 0, none⟩ = false := by
  obtain ⟨n, rfl⟩ := h
  have hz : (putRow e64 (Sort.ahead w n) blk off dk).heap.size = w.heap.size := by simp
  rw [← hz]
  exact ⟨grow_one_cell _ _ _, grow_one_frozen _ _ _⟩
theorem Brk.step {w W : World} {blk off : Nat} {dk : Array Nat} {r r' : UInt64} (h : Brk w blk off dk r W) (hb : blk < w.heap.size) (q j k : Nat) (hj : j < dk.size) (hk : k < dk.size) :
    Brk w blk off (swp dk j k) r' ((((W.setCell ⟨w.heap.size, 0, none⟩ (.int .u64 (r'.toNat : Int))).drewN q).setCell ⟨blk, off + j, none⟩ (e64 dk[k]!)).setCell ⟨blk, off + k, none⟩ (e64 dk[j]!)) := by
  obtain ⟨n, rfl⟩ := h
  exact ⟨n + q, step_world e64 w n q blk off dk j k hb hj hk _ _ _⟩
theorem Brk.start {w : World} {blk off L : Nat} {d : Array Nat} (h : Holds e64 w blk off d) (hL : L < 18446744073709551616) : Brk w blk off d (UInt64.ofNat L) (w.alloc (Obj.cells #[.int .u64 (L : Int)] 120)) :=
  ⟨0, by rw [show Sort.ahead w 0 = w from rfl, putRow_self _ _ _ _ _ h, alloc_eq_grow, show (UInt64.ofNat L).toNat = L from by simp; omega]⟩

set_option maxHeartbeats 1600000 in
set_option maxRecDepth 100000 in
theorem break64 (blk off cap a L : Nat) (d : Array Nat) (w : World) (hH : Holds e64 w blk off d) (hblk : blk < w.heap.size) (hb : a + L ≤ d.size) (hsz : d.size < 4611686018427387904) (h8 : 8 ≤ L) :
    Calls Tryd.prog 73 #[.slice (some ⟨blk, off, none⟩) d.size cap, .int .i64 a, .int .i64 ((a + L : Nat) : Int)] w fun e w' =>
      e = .returned (.tuple #[]) ∧ ∃ r, Brk w blk off (breakPatterns d a (a + L)) r w' := by
  rw [breakPatterns_eq d a L h8]
  have np := fun w => pow64 L (by omega) w
  obtain ⟨M, hM⟩ : ∃ M : Nat, M = 1 <<< bitsLen L := ⟨_, rfl⟩
  have hM1 : 1 ≤ M := by rw [hM, Nat.one_shiftLeft]; exact Nat.two_pow_pos _
  have hM2 : M ≤ 2 * L := by rw [hM, Nat.one_shiftLeft]; exact two_pow_bitsLen_le (by omega)
  rw [← hM] at np ⊢
  clear hM
  have HH := Lib.hid hH
  have B0 := Lib.hid (Brk.start (L := L) hH (by omega))
  have NP := Lib.hid np
  clear hH np
  go_enter Tryd.func73, Tryd.ntmps73
  go_wp2_with (first | (go_at_call 83; rw [show ((a : Int) + (L : Int) - (a : Int)) = (L : Int) by omega]; refine (NP.out _).mono ?_; rintro e w' ⟨rfl, rfl⟩))
  go_loopw [9] (fun vi wr => ∃ (t : Nat) (r : UInt64) (dk : Array Nat), vi = .int .i64 ((a + L / 4 * 2 - 1 + t : Nat) : Int) ∧ t ≤ 3 ∧ dk.size = d.size ∧ Brk w blk off dk r wr ∧
      Hid (bpRest a L M (a + L / 4 * 2 - 1) (3 - t) t (r, dk) = bpRest a L M (a + L / 4 * 2 - 1) 3 0 (UInt64.ofNat L, d))) (fun vi _ => a + L / 4 * 2 + 3 - (intOf vi).toNat)
  case atStart => exact ⟨0, UInt64.ofNat L, d, by congr 1; omega, by omega, rfl, B0.out, rfl⟩
  case round =>
    obtain ⟨t, r, dk, rfl, ht, hs, hB, hR⟩ := hrel
    obtain ⟨G, hG⟩ : ∃ G : Nat → Nat, ∀ t, G t = dk[t]! := ⟨fun t => dk[t]!, fun _ => rfl⟩
    have hc := hB.cell HH.out hblk hs hG
    have hf := hB.free HH.out hblk
    obtain ⟨N, hN⟩ : ∃ N : Nat, N = (xorNext r).toNat := ⟨_, rfl⟩
    have lN : N < 18446744073709551616 := by rw [hN]; exact (xorNext r).toNat_lt
    obtain ⟨O, hO⟩ : ∃ O : Nat, O = N &&& (M - 1) := ⟨_, rfl⟩
    have lO : O ≤ M - 1 := by rw [hO]; exact Nat.and_le_right
    have eA : bits .and .u64 (N : Int) ((M : Int) - 1) = (O : Int) := by
      rw [show ((M : Int) - 1) = ((M - 1 : Nat) : Int) by omega, bits_and_u64_nat _ _ lN (by omega), hO]
    have nx := next64 w.heap.size 0 r.toNat r.toNat_lt wr hB.state.1 hB.state.2
    rw [← xorNext_toNat, ← hN] at nx
    have NX := Lib.hid nx
    have HG := Lib.hid hG
    have HB := Lib.hid hB
    have HN : Hid (N = (xorNext r).toNat ∧ O = (xorNext r).toNat &&& (M - 1)) := ⟨hN, by rw [hO, hN]⟩
    clear hG hB nx hN hO
    go_wp2_with (first | (go_at_call 84; refine NX.out.mono ?_; rintro e w' ⟨rfl, rfl⟩))
    · have hLO : L ≤ O := by omega
      by_cases hEq : a + L / 4 * 2 - 1 + t = a + (O - L)
      all_goals
        go_region
        all_goals go_wp2
        go_roundw
        case rel =>
          refine ⟨t + 1, xorNext r, swp dk (a + L / 4 * 2 - 1 + t) (a + (O - L)), by first | rfl | (congr 1 <;> omega), by omega, by rw [size_swp]; exact hs, ?_, ?_⟩
          · (try rw [hEq])
            have st := HB.out.step (r' := xorNext r) hblk 4 (a + L / 4 * 2 - 1 + t) (a + (O - L)) (by omega) (by omega)
            rw [← HG.out, ← HG.out, ← HN.out.1] at st
            (try rw [hEq] at st)
            exact st
          · show _ = _
            rw [← hR.out, bp_step a L M _ t r dk (O - L) (by omega) (by rw [← HN.out.2, if_pos (by omega)])]
        case measure => simp [intOf]; omega
    · have hLO : ¬ L ≤ O := by omega
      by_cases hEq : a + L / 4 * 2 - 1 + t = a + (O)
      all_goals
        go_region
        all_goals go_wp2
        go_roundw
        case rel =>
          refine ⟨t + 1, xorNext r, swp dk (a + L / 4 * 2 - 1 + t) (a + (O)), by first | rfl | (congr 1 <;> omega), by omega, by rw [size_swp]; exact hs, ?_, ?_⟩
          · (try rw [hEq])
            have st := HB.out.step (r' := xorNext r) hblk 4 (a + L / 4 * 2 - 1 + t) (a + (O)) (by omega) (by omega)
            rw [← HG.out, ← HG.out, ← HN.out.1] at st
            (try rw [hEq] at st)
            exact st
          · show _ = _
            rw [← hR.out, bp_step a L M _ t r dk (O) (by omega) (by rw [← HN.out.2, if_neg (by omega)])]
        case measure => simp [intOf]; omega
    · obtain rfl : t = 3 := by omega
      go_end0
      exact ⟨rfl, r, by rw [← hR.out]; exact HB.out⟩

set_option maxHeartbeats 1000000 in
theorem breaks64 (blk off cap a b : Nat) (d : Array Nat) (w : World) (hH : Holds e64 w blk off d) (hblk : blk < w.heap.size) (hab : a ≤ b) (hb : b ≤ d.size) (hsz : d.size < 4611686018427387904) :
    Calls Tryd.prog 73 #[.slice (some ⟨blk, off, none⟩) d.size cap, .int .i64 a, .int .i64 b] w fun e w' =>
      e = .returned (.tuple #[]) ∧ ∃ n os, w' = grow (putRow e64 (Sort.ahead w n) blk off (breakPatterns d a b)) os := by
  by_cases h8 : 8 ≤ b - a
  · obtain ⟨L, rfl⟩ : ∃ L, b = a + L := ⟨b - a, by omega⟩
    refine (break64 blk off cap a L d w hH hblk hb hsz (by omega)).mono ?_
    rintro e w' ⟨he, r, n, hw⟩
    exact ⟨he, n, _, hw⟩
  · have e : breakPatterns d a b = d := by unfold breakPatterns; simp only []; rw [if_neg (by omega)]
    rw [e]
    have HH := Lib.hid hH
    clear hH e
    go_enter Tryd.func73, Tryd.ntmps73
    go_wp2
    go_end0
    exact ⟨rfl, 0, #[], by rw [show Sort.ahead w 0 = w from rfl, putRow_self _ _ _ _ _ HH.out, grow_empty]⟩
end Go.Proofs.YtifofdciablljaaDoor
