/-
  The library's sort at rows of uint64: the comparison, and the sort by insertion.
-/
import Derived.Test.YtifofdciablljaaDoorCommon
import Derived.Sort.WalkA
import Derived.Sort.LotA
import Derived.RegionTactic
import Derived.CellFam
set_option linter.unusedSimpArgs false
set_option linter.unusedVariables false
namespace Go.Proofs.YtifofdciablljaaDoor
open Go.RowKit Go.Sort

/-- A number as a value of uint64. -/
def e64 (x : Nat) : Value := .int .u64 (x : Int)
def lt64 (x y : Nat) : Bool := decide (x < y)
/-- After some draws the row reads d; all else as in w. -/
def Left (w : World) (blk off : Nat) (d : Array Nat) (W : World) : Prop := ∃ n, W = putRow e64 (Sort.ahead w n) blk off d

theorem Left.self {w : World} {blk off : Nat} {d : Array Nat} (h : Holds e64 w blk off d) : Left w blk off d w := ⟨0, (putRow_self _ _ _ _ _ h).symm⟩
theorem Left.on {w W : World} {blk off : Nat} {d : Array Nat} (h : Left w blk off d W) (q : Nat) : Left w blk off d (W.drewN q) := by
  obtain ⟨n, rfl⟩ := h
  exact ⟨n + q, putRow_drewN _ _ _ _ _ _ _⟩
theorem Left.holds {w W : World} {blk off : Nat} {d dk : Array Nat} (h : Left w blk off dk W) (h0 : Holds e64 w blk off d) (hs : dk.size = d.size) : Holds e64 W blk off dk := by
  obtain ⟨n, rfl⟩ := h
  exact holds_putRow _ _ _ _ d dk (holds_ahead _ _ _ _ _ _ h0) hs
theorem Left.cell {w W : World} {blk off : Nat} {d dk : Array Nat} (h : Left w blk off dk W) (h0 : Holds e64 w blk off d) (hs : dk.size = d.size) {G : Nat → Nat} (hG : ∀ t, G t = dk[t]!) : ∀ t, t < d.size → W.cell? ⟨blk, off + t, none⟩ = some (.int .u64 (G t : Nat)) := fun t ht => by
  rw [hG]; exact (h.holds h0 hs t (by omega)).1
theorem Left.free {w W : World} {blk off : Nat} {d dk : Array Nat} (h : Left w blk off dk W) (h0 : Holds e64 w blk off d) (hs : dk.size = d.size) : ∀ t, t < d.size → W.frozen? ⟨blk, off + t, none⟩ = false := fun t ht => (h.holds h0 hs t (by omega)).2
/-- An exchange, as the walk leaves it. -/
theorem Left.swap {w W : World} {blk off : Nat} {d : Array Nat} (h : Left w blk off d W) (q j k : Nat) (hj : j < d.size) (hk : k < d.size) {a b : Int} (ha : a = (d[k]! : Nat)) (hb : b = (d[j]! : Nat)) :
    Left w blk off (swp d j k) (((W.drewN q).setCell ⟨blk, off + j, none⟩ (.int .u64 a)).setCell ⟨blk, off + k, none⟩ (.int .u64 b)) := by
  obtain ⟨n, rfl⟩ := h
  subst ha hb
  exact ⟨n + q, swap_worldA e64 w n q blk off d j k hj hk⟩

set_option maxHeartbeats 1000000 in
theorem nan64 (x : Nat) (w : World) : Calls Tryd.prog 67 #[.int .u64 (x : Int)] w fun e w' => e = .returned (.bool false) ∧ w' = w := by
  go_enter Tryd.func67, Tryd.ntmps67
  go_wp2
  go_ret
  exact ⟨by simp, rfl⟩
set_option maxHeartbeats 1000000 in
theorem less64 (x y : Nat) (w : World) : Calls Tryd.prog 52 #[.int .u64 (x : Int), .int .u64 (y : Int)] w fun e w' => e = .returned (.bool (lt64 x y)) ∧ w' = w := by
  go_enter Tryd.func52, Tryd.ntmps52
  go_wp2_with (go_at_call 67; refine (nan64 _ _).mono ?_; rintro e w' ⟨rfl, rfl⟩)
  go_ret
  refine ⟨?_, rfl⟩
  simp [lt64]

set_option maxHeartbeats 6400000 in
set_option maxRecDepth 100000 in
theorem insertion64 (blk off cap a b : Nat) (d : Array Nat) (w : World) (hH : Holds e64 w blk off d) (hab : a ≤ b) (hb : b ≤ d.size) (hsz : d.size < 4611686018427387904) :
    Calls Tryd.prog 71 #[.slice (some ⟨blk, off, none⟩) d.size cap, .int .i64 a, .int .i64 b] w fun e w' =>
      e = .returned (.tuple #[]) ∧ Left w blk off (Sort.insertionSort lt64 d a b) w' := by
  go_enter Tryd.func71, Tryd.ntmps71
  go_wp2
  go_loopw [6] (fun vi wr => ∃ (i : Nat) (dk : Array Nat), vi = .int .i64 (i : Int) ∧ a < i ∧ i ≤ b + 1 ∧ dk.size = d.size ∧ Left w blk off dk wr ∧ Hid (insOuter lt64 a b i dk = insOuter lt64 a b (a + 1) d)) (fun vi _ => b + 1 - (intOf vi).toNat)
  case atStart => exact ⟨a + 1, d, by go_num, by omega, by omega, rfl, Left.self hH, rfl⟩
  case round =>
    obtain ⟨i, dk, rfl, hai, hib, hsk, hL, hO⟩ := hrel
    by_cases hlt : i < b
    · go_wp2
      go_loopw [7] (fun vj wq => ∃ (j : Nat) (dj : Array Nat), vj = .int .i64 (j : Int) ∧ a ≤ j ∧ j ≤ i ∧ dj.size = d.size ∧ Left w blk off dj wq ∧ Hid (insInner lt64 a j dj = insInner lt64 a i dk)) (fun vj _ => (intOf vj).toNat)
      case atStart => exact ⟨i, dk, rfl, by omega, Nat.le_refl _, hsk, hL, rfl⟩
      case round =>
        obtain ⟨j, dj, rfl, haj, hji, hsj, hM, hI⟩ := hrel
        obtain ⟨G, hG⟩ : ∃ G : Nat → Nat, ∀ t, G t = dj[t]! := ⟨fun t => dj[t]!, fun _ => rfl⟩
        have hc := hM.cell hH hsj hG
        have hf := hM.free hH hsj
        have over : (j ≤ a ∨ lt64 dj[j]! dj[j - 1]! = false) → Hid (insOuter lt64 a b (i + 1) dj = insOuter lt64 a b (a + 1) d) := fun h =>
          show _ = _ by rw [← hO.out, insOuter_go _ _ _ _ _ hlt, ← hI.out, insInner_stop _ _ _ _ h]
        have HG : Hid (∀ t, G t = dj[t]!) := hG
        have HM : Hid (Left w blk off dj wr) := hM
        have HV : Hid _ := over
        clear hG hM over hL hO
        by_cases hja : a < j
        · go_wp2_with fail
          go_big_quiet (first | (go_at_call 52; refine Calls.quiet_of_same (less64 _ _ _)))
          go_wp2
          · have hl : lt64 (G j) (G (j - 1)) = true := by assumption
            go_region
            all_goals go_wp2
            go_roundw
            case rel =>
              refine ⟨j - 1, swp dj j (j - 1), by congr 1; omega, by omega, by omega, by rw [size_swp]; exact hsj, ?_, ?_⟩
              · exact HM.out.swap (nq + 1) j (j - 1) (by omega) (by omega) (by rw [HG.out]) (by rw [HG.out])
              · show _ = _
                rw [← hI.out, insInner_go lt64 a j dj hja (by rw [← HG.out, ← HG.out]; exact hl)]
            case measure => simp [intOf]; omega
          · have hl : lt64 (G j) (G (j - 1)) = false := by assumption
            go_roundw
            case rel => exact ⟨i + 1, dj, by go_num, by omega, by omega, hsj, HM.out.on nq, HV.out (Or.inr (by rw [← HG.out, ← HG.out]; exact hl))⟩
            case measure => simp [intOf]; omega
        · go_wp2_with fail
          go_big_quiet (first | (go_at_call 52; refine Calls.quiet_of_same (less64 _ _ _)))
          go_wp2
          go_roundw
          case rel => exact ⟨i + 1, dj, by go_num, by omega, by omega, hsj, HM.out.on nq, HV.out (Or.inl (by omega))⟩
          case measure => simp [intOf]; omega
    · go_wp2
      go_end0
      refine ⟨rfl, ?_⟩
      have e : insertionSort lt64 d a b = dk := by unfold insertionSort; rw [← hO.out, insOuter_stop _ _ _ _ _ hlt]
      rw [e]
      exact hL
end Go.Proofs.YtifofdciablljaaDoor
