/-
  Several texts of mine in one: SrtA SrtB SrtC SrtD SrtE SrtF SrtG SrtH SrtI SrtJ SrtK Cmp64 SrtL.
-/
import Derived.Test.YtifofdciablljaaDoorQ1
import Derived.Sort.WalkA
import Derived.Sort.LotA
import Derived.RegionTactic
import Derived.CellFam
import Derived.Sort.WalkB3
import Derived.Sort.WalkC
import Derived.Sort.LotC
import Derived.Deep.CutRange
import Derived.Sort.WalkC4
import Derived.Sort.WalkD1
import Derived.Deep.RegionWith
import Derived.Deep.LoopGhost
import Derived.Sort.Walk7a
import Derived.Sort.Walk11
import Derived.Sort.Walk7
import Derived.Sort.WalkA6
import Derived.Sort.Walk13a
import Derived.Sort.LotD4
import Derived.Sort.LotB
import Derived.Deep.Cut
import Derived.Sort.LotD1
import Derived.Lib.SlicesCompact
import Derived.Lib.SliceRun
/-
  The library's sort at rows of uint64: the comparison, and the sort by insertion.
-/
set_option linter.unusedSimpArgs false
set_option linter.unusedVariables false
namespace Go.Proofs.YtifofdciablljaaDoor
open Go.RowKit Go.Sort

/-- A number as a value of uint64. -/
def e64 (x : Nat) : Value := .int .u64 (x : Int)
def lt64 (x y : Nat) : Bool := decide (x < y)
/-- After some draws the row reads d; all else as in w. -/
def Left (w : World) (blk off : Nat) (d : Array Nat) (W : World) : Prop := ∃ n, W = putRow e64 (Sort.ahead w n) blk off d

theorem Left.self {w : World} {blk off : Nat} {d : Array Nat} (h : Holds e64 w blk off d) : Left w blk off d w := ⟨0, (putRow_self _ _ _ _ _ h).symm⟩
theorem Left.on {w W : World} {blk off : Nat} {d : Array Nat} (h : Left w blk off d W) (q : Nat) : Left w blk off d (W.drewN q) := by
  obtain ⟨n, rfl⟩ := h
  exact ⟨n + q, putRow_drewN _ _ _ _ _ _ _⟩
theorem Left.holds {w W : World} {blk off : Nat} {d dk : Array Nat} (h : Left w blk off dk W) (h0 : Holds e64 w blk off d) (hs : dk.size = d.size) : Holds e64 W blk off dk := by
  obtain ⟨n, rfl⟩ := h
  exact holds_putRow _ _ _ _ d dk (holds_ahead _ _ _ _ _ _ h0) hs
theorem Left.cell {w W : World} {blk off : Nat} {d dk : Array Nat} (h : Left w blk off dk W) (h0 : Holds e64 w blk off d) (hs : dk.size = d.size) {G : Nat → Nat} (hG : ∀ t, G t = dk[t]!) : ∀ t, t < d.size → W.cell? ⟨blk, off + t, none⟩ = some (.int .u64 (G t : Nat)) := fun t ht => by
  rw [hG]; exact (h.holds h0 hs t (by omega)).1
theorem Left.free {w W : World} {blk off : Nat} {d dk : Array Nat} (h : Left w blk off dk W) (h0 : Holds e64 w blk off d) (hs : dk.size = d.size) : ∀ t, t < d.size → W.frozen? ⟨blk, off + t, none⟩ = false := fun t ht => (h.holds h0 hs t (by omega)).2
/-- An exchange, as the walk leaves it. -/
theorem Left.swap {w W : World} {blk off : Nat} {d : Array Nat} (h : Left w blk off d W) (q j k : Nat) (hj : j < d.size) (hk : k < d.size) {a b : Int} (ha : a = (d[k]! : Nat)) (hb : b = (d[j]! : Nat)) :
    Left w blk off (swp d j k) (((W.drewN q).setCell ⟨blk, off + j, none⟩ (.int .u64 a)).setCell ⟨blk, off + k, none⟩ (.int .u64 b)) := by
  obtain ⟨n, rfl⟩ := h
  subst ha hb
  exact ⟨n + q, swap_worldA e64 w n q blk off d j k hj hk⟩

set_option maxHeartbeats 1000000 in
theorem nan64 (x : Nat) (w : World) : Calls Tryd.prog 67 #[.int .u64 (x : Int)] w fun e w' => e = .returned (.bool false) ∧ w' = w := by
  go_enter Tryd.func67, Tryd.ntmps67
  go_wp2
  go_ret
  exact ⟨by simp, rfl⟩
set_option maxHeartbeats 1000000 in
theorem less64 (x y : Nat) (w : World) : Calls Tryd.prog 52 #[.int .u64 (x : Int), .int .u64 (y : Int)] w fun e w' => e = .returned (.bool (lt64 x y)) ∧ w' = w := by
  go_enter Tryd.func52, Tryd.ntmps52
  go_wp2_with (go_at_call 67; refine (nan64 _ _).mono ?_; rintro e w' ⟨rfl, rfl⟩)
  go_ret
  refine ⟨?_, rfl⟩
  simp [lt64]

set_option maxHeartbeats 6400000 in
set_option maxRecDepth 100000 in
theorem insertion64 (blk off cap a b : Nat) (d : Array Nat) (w : World) (hH : Holds e64 w blk off d) (hab : a ≤ b) (hb : b ≤ d.size) (hsz : d.size < 4611686018427387904) :
    Calls Tryd.prog 71 #[.slice (some ⟨blk, off, none⟩) d.size cap, .int .i64 a, .int .i64 b] w fun e w' =>
      e = .returned (.tuple #[]) ∧ Left w blk off (Sort.insertionSort lt64 d a b) w' := by
  go_enter Tryd.func71, Tryd.ntmps71
  go_wp2
  go_loopw [6] (fun vi wr => ∃ (i : Nat) (dk : Array Nat), vi = .int .i64 (i : Int) ∧ a < i ∧ i ≤ b + 1 ∧ dk.size = d.size ∧ Left w blk off dk wr ∧ Hid (insOuter lt64 a b i dk = insOuter lt64 a b (a + 1) d)) (fun vi _ => b + 1 - (intOf vi).toNat)
  case atStart => exact ⟨a + 1, d, by go_num, by omega, by omega, rfl, Left.self hH, rfl⟩
  case round =>
    obtain ⟨i, dk, rfl, hai, hib, hsk, hL, hO⟩ := hrel
    by_cases hlt : i < b
    · go_wp2
      go_loopw [7] (fun vj wq => ∃ (j : Nat) (dj : Array Nat), vj = .int .i64 (j : Int) ∧ a ≤ j ∧ j ≤ i ∧ dj.size = d.size ∧ Left w blk off dj wq ∧ Hid (insInner lt64 a j dj = insInner lt64 a i dk)) (fun vj _ => (intOf vj).toNat)
      case atStart => exact ⟨i, dk, rfl, by omega, Nat.le_refl _, hsk, hL, rfl⟩
      case round =>
        obtain ⟨j, dj, rfl, haj, hji, hsj, hM, hI⟩ := hrel
        obtain ⟨G, hG⟩ : ∃ G : Nat → Nat, ∀ t, G t = dj[t]! := ⟨fun t => dj[t]!, fun _ => rfl⟩
        have hc := hM.cell hH hsj hG
        have hf := hM.free hH hsj
        have over : (j ≤ a ∨ lt64 dj[j]! dj[j - 1]! = false) → Hid (insOuter lt64 a b (i + 1) dj = insOuter lt64 a b (a + 1) d) := fun h =>
          show _ = _ by rw [← hO.out, insOuter_go _ _ _ _ _ hlt, ← hI.out, insInner_stop _ _ _ _ h]
        have HG : Hid (∀ t, G t = dj[t]!) := hG
        have HM : Hid (Left w blk off dj wr) := hM
        have HV : Hid _ := over
        clear hG hM over hL hO
        by_cases hja : a < j
        · go_wp2_with fail
          go_big_quiet (first | (go_at_call 52; refine Calls.quiet_of_same (less64 _ _ _)))
          go_wp2
          · have hl : lt64 (G j) (G (j - 1)) = true := by assumption
            go_region
            all_goals go_wp2
            go_roundw
            case rel =>
              refine ⟨j - 1, swp dj j (j - 1), by congr 1; omega, by omega, by omega, by rw [size_swp]; exact hsj, ?_, ?_⟩
              · exact HM.out.swap (nq + 1) j (j - 1) (by omega) (by omega) (by rw [HG.out]) (by rw [HG.out])
              · show _ = _
                rw [← hI.out, insInner_go lt64 a j dj hja (by rw [← HG.out, ← HG.out]; exact hl)]
            case measure => simp [intOf]; omega
          · have hl : lt64 (G j) (G (j - 1)) = false := by assumption
            go_roundw
            case rel => exact ⟨i + 1, dj, by go_num, by omega, by omega, hsj, HM.out.on nq, HV.out (Or.inr (by rw [← HG.out, ← HG.out]; exact hl))⟩
            case measure => simp [intOf]; omega
        · go_wp2_with fail
          go_big_quiet (first | (go_at_call 52; refine Calls.quiet_of_same (less64 _ _ _)))
          go_wp2
          go_roundw
          case rel => exact ⟨i + 1, dj, by go_num, by omega, by omega, hsj, HM.out.on nq, HV.out (Or.inl (by omega))⟩
          case measure => simp [intOf]; omega
    · go_wp2
      go_end0
      refine ⟨rfl, ?_⟩
      have e : insertionSort lt64 d a b = dk := by unfold insertionSort; rw [← hO.out, insOuter_stop _ _ _ _ _ hlt]
      rw [e]
      exact hL
end Go.Proofs.YtifofdciablljaaDoor

/-
  The library's sort at rows of uint64: the heap.
-/
set_option linter.unusedSimpArgs false
set_option linter.unusedVariables false
namespace Go.Proofs.YtifofdciablljaaDoor
open Go.RowKit Go.Sort

theorem Left.swapd {w W : World} {blk off : Nat} {d : Array Nat} (h : Left w blk off d W) (j k : Nat) (hj : j < d.size) (hk : k < d.size) {a b : Int} (ha : a = (d[k]! : Nat)) (hb : b = (d[j]! : Nat)) :
    Left w blk off (swp d j k) ((W.setCell ⟨blk, off + j, none⟩ (.int .u64 a)).setCell ⟨blk, off + k, none⟩ (.int .u64 b)).drew := (h.swap 0 j k hj hk ha hb).on 1

/-- One contract behind another. -/
theorem Left.then {w W W' : World} {blk off : Nat} {d d' : Array Nat} (h : Left w blk off d W) (h' : Left W blk off d' W') (hs : d'.size = d.size) : Left w blk off d' W' := by
  obtain ⟨n, rfl⟩ := h
  obtain ⟨m, rfl⟩ := h'
  exact ⟨n + m, putRow_ahead_putRow e64 w n m blk off d d' hs⟩

set_option maxHeartbeats 6400000 in
set_option maxRecDepth 100000 in
theorem sift64 (blk off len cap : Nat) (d : Array Nat) (hlen : d.size = len) (lo hi first : Nat) (w : World) (hH : Holds e64 w blk off d) (hlo : lo ≤ hi) (hb : first + hi ≤ d.size) (hsz : d.size < 4611686018427387904) :
    Calls Tryd.prog 82 #[.slice (some ⟨blk, off, none⟩) len cap, .int .i64 lo, .int .i64 hi, .int .i64 first] w fun e w' =>
      e = .returned (.tuple #[]) ∧ Left w blk off (siftDown lt64 hi first lo d) w' := by
  subst hlen
  go_enter Tryd.func82, Tryd.ntmps82
  go_wp2
  go_loopg [8] (hi - lo) (fun k v wr => ∃ (r : Nat) (dk : Array Nat), v = .int .i64 (r : Int) ∧ r ≤ hi ∧ hi - r ≤ k ∧ dk.size = d.size ∧ Left w blk off dk wr ∧ Hid (siftDown lt64 hi first r dk = siftDown lt64 hi first lo d))
  case atStart => exact ⟨lo, d, rfl, hlo, Nat.le_refl _, rfl, Left.self hH, rfl⟩
  case round =>
    obtain ⟨r, dk, rfl, hr, hk, hs, hL, hE⟩ := hrel
    obtain ⟨G, hG⟩ : ∃ G : Nat → Nat, ∀ t, G t = dk[t]! := ⟨fun t => dk[t]!, fun _ => rfl⟩
    have hc := hL.cell hH hs hG
    have hf := hL.free hH hs
    have HG : Hid (∀ t, G t = dk[t]!) := hG
    have HL : Hid (Left w blk off dk wr) := hL
    clear hG hL hH
    by_cases h0 : hi ≤ 2 * r + 1
    · have h0z : (hi : Int) ≤ 2 * (r : Int) + 1 := by omega
      go_wp2
      go_end0
      exact ⟨rfl, by rw [← hE.out, sd_end lt64 dk h0]; exact HL.out⟩
    · have h0z : ¬ (hi : Int) ≤ 2 * (r : Int) + 1 := by omega
      have step : ∀ q, Hid (Left w blk off dk (wr.drewN q)) := fun q => HL.out.on q
      by_cases h1 : 2 * r + 2 < hi
      · have h1z : 2 * (r : Int) + 1 + 1 < (hi : Int) := by omega
        go_wp2_with fail
        go_big_quiet (first | (go_at_call 52; refine Calls.quiet_of_same (less64 _ _ _)))
        go_wp2_with fail
        · have hA : lt64 (G (first + 2 * r + 1)) (G (first + 2 * r + 2)) = true := by assumption
          have hA' : lt64 dk[first + (2 * r + 1)]! dk[first + (2 * r + 2)]! = true := by rw [← HG.out, ← HG.out]; exact hA
          revert nq; intro n1
          have L2 := step n1
          have hc2 : ∀ t, t < d.size → (wr.drewN n1).cell? ⟨blk, off + t, none⟩ = some (.int .u64 (G t : Nat)) := hc
          have hf2 : ∀ t, t < d.size → (wr.drewN n1).frozen? ⟨blk, off + t, none⟩ = false := hf
          clear hc hf HL step
          generalize wr.drewN n1 = w2 at hc2 hf2 L2 ⊢
          go_big_quiet (first | (go_at_call 52; refine Calls.quiet_of_same (less64 _ _ _)))
          go_wp2_with fail
          · have hB : (!lt64 (G (first + r)) (G (first + 2 * r + 2))) = true := by assumption
            (try simp only [Exit.inBlock, Exit.then]); refine bodyPost_ret (results_none rfl _ _ _) rfl ?_
            refine ⟨rfl, ?_⟩
            have hB' : lt64 dk[first + r]! dk[first + (2 * r + 2)]! = false := by
              rw [← HG.out, ← HG.out]
              have q : lt64 (G (first + r)) (G (first + 2 * r + 2)) = false := by simpa using hB
              exact q
            rw [← hE.out, sd_right_stop lt64 dk h1 hA' hB']
            exact L2.out.on nq
          · have hB : (!lt64 (G (first + r)) (G (first + 2 * r + 2))) = false := by assumption
            have hB' : lt64 dk[first + r]! dk[first + (2 * r + 2)]! = true := by
              rw [← HG.out, ← HG.out]
              have q : lt64 (G (first + r)) (G (first + 2 * r + 2)) = true := by simpa using hB
              exact q
            have L3 : Hid (Left w blk off dk (w2.drewN nq)) := L2.out.on nq
            have hc3 : ∀ t, t < d.size → (w2.drewN nq).cell? ⟨blk, off + t, none⟩ = some (.int .u64 (G t : Nat)) := hc2
            have hf3 : ∀ t, t < d.size → (w2.drewN nq).frozen? ⟨blk, off + t, none⟩ = false := hf2
            clear hc2 hf2 L2
            generalize w2.drewN nq = w3 at hc3 hf3 L3 ⊢
            go_region
            go_wp2
            go_roundg (hi - (2 * r + 2))
            case measure => omega
            case rel =>
              refine ⟨2 * r + 2, swp dk (first + r) (first + (2 * r + 2)), by simp <;> omega, by omega, Nat.le_refl _, by rw [size_swp]; exact hs, L3.out.swapd (first + r) (first + (2 * r + 2)) (by omega) (by omega) (by rw [HG.out]; rfl) (by rw [HG.out]), ?_⟩
              show _ = _
              rw [← hE.out, sd_right_go lt64 dk h1 hA' hB']
        · have hA : lt64 (G (first + 2 * r + 1)) (G (first + 2 * r + 2)) = false := by assumption
          have hA' : lt64 dk[first + (2 * r + 1)]! dk[first + (2 * r + 2)]! = false := by rw [← HG.out, ← HG.out]; exact hA
          revert nq; intro n1
          have L2 := step n1
          have hc2 : ∀ t, t < d.size → (wr.drewN n1).cell? ⟨blk, off + t, none⟩ = some (.int .u64 (G t : Nat)) := hc
          have hf2 : ∀ t, t < d.size → (wr.drewN n1).frozen? ⟨blk, off + t, none⟩ = false := hf
          clear hc hf HL step
          generalize wr.drewN n1 = w2 at hc2 hf2 L2 ⊢
          go_big_quiet (first | (go_at_call 52; refine Calls.quiet_of_same (less64 _ _ _)))
          go_wp2_with fail
          · have hB : (!lt64 (G (first + r)) (G (first + 2 * r + 1))) = true := by assumption
            (try simp only [Exit.inBlock, Exit.then]); refine bodyPost_ret (results_none rfl _ _ _) rfl ?_
            refine ⟨rfl, ?_⟩
            have hB' : lt64 dk[first + r]! dk[first + (2 * r + 1)]! = false := by
              rw [← HG.out, ← HG.out]
              have q : lt64 (G (first + r)) (G (first + 2 * r + 1)) = false := by simpa using hB
              exact q
            rw [← hE.out, sd_left_stop lt64 dk (by omega) (fun _ => hA') hB']
            exact L2.out.on nq
          · have hB : (!lt64 (G (first + r)) (G (first + 2 * r + 1))) = false := by assumption
            have hB' : lt64 dk[first + r]! dk[first + (2 * r + 1)]! = true := by
              rw [← HG.out, ← HG.out]
              have q : lt64 (G (first + r)) (G (first + 2 * r + 1)) = true := by simpa using hB
              exact q
            have L3 : Hid (Left w blk off dk (w2.drewN nq)) := L2.out.on nq
            have hc3 : ∀ t, t < d.size → (w2.drewN nq).cell? ⟨blk, off + t, none⟩ = some (.int .u64 (G t : Nat)) := hc2
            have hf3 : ∀ t, t < d.size → (w2.drewN nq).frozen? ⟨blk, off + t, none⟩ = false := hf2
            clear hc2 hf2 L2
            generalize w2.drewN nq = w3 at hc3 hf3 L3 ⊢
            go_region
            go_wp2
            go_roundg (hi - (2 * r + 1))
            case measure => omega
            case rel =>
              refine ⟨2 * r + 1, swp dk (first + r) (first + (2 * r + 1)), by simp <;> omega, by omega, Nat.le_refl _, by rw [size_swp]; exact hs, L3.out.swapd (first + r) (first + (2 * r + 1)) (by omega) (by omega) (by rw [HG.out]; rfl) (by rw [HG.out]), ?_⟩
              show _ = _
              rw [← hE.out, sd_left_go lt64 dk (by omega) (fun _ => hA') hB']
      · have h1z : decide (2 * (r : Int) + 1 + 1 < (hi : Int)) = false := decide_eq_false (by omega)
        go_wp2_with fail
        go_big_quiet (first | (go_at_call 52; refine Calls.quiet_of_same (less64 _ _ _)))
        go_wp2_with fail
        revert nq; intro n1
        have L2 := step n1
        have hc2 : ∀ t, t < d.size → (wr.drewN n1).cell? ⟨blk, off + t, none⟩ = some (.int .u64 (G t : Nat)) := hc
        have hf2 : ∀ t, t < d.size → (wr.drewN n1).frozen? ⟨blk, off + t, none⟩ = false := hf
        clear hc hf HL step
        generalize wr.drewN n1 = w2 at hc2 hf2 L2 ⊢
        go_big_quiet (first | (go_at_call 52; refine Calls.quiet_of_same (less64 _ _ _)))
        go_wp2_with fail
        · have hB : (!lt64 (G (first + r)) (G (first + 2 * r + 1))) = true := by assumption
          (try simp only [Exit.inBlock, Exit.then]); refine bodyPost_ret (results_none rfl _ _ _) rfl ?_
          refine ⟨rfl, ?_⟩
          have hB' : lt64 dk[first + r]! dk[first + (2 * r + 1)]! = false := by
            rw [← HG.out, ← HG.out]
            have q : lt64 (G (first + r)) (G (first + 2 * r + 1)) = false := by simpa using hB
            exact q
          rw [← hE.out, sd_left_stop lt64 dk (by omega) (fun h => absurd h h1) hB']
          exact L2.out.on nq
        · have hB : (!lt64 (G (first + r)) (G (first + 2 * r + 1))) = false := by assumption
          have hB' : lt64 dk[first + r]! dk[first + (2 * r + 1)]! = true := by
            rw [← HG.out, ← HG.out]
            have q : lt64 (G (first + r)) (G (first + 2 * r + 1)) = true := by simpa using hB
            exact q
          have L3 : Hid (Left w blk off dk (w2.drewN nq)) := L2.out.on nq
          have hc3 : ∀ t, t < d.size → (w2.drewN nq).cell? ⟨blk, off + t, none⟩ = some (.int .u64 (G t : Nat)) := hc2
          have hf3 : ∀ t, t < d.size → (w2.drewN nq).frozen? ⟨blk, off + t, none⟩ = false := hf2
          clear hc2 hf2 L2
          generalize w2.drewN nq = w3 at hc3 hf3 L3 ⊢
          go_region
          go_wp2
          go_roundg (hi - (2 * r + 1))
          case measure => omega
          case rel =>
            refine ⟨2 * r + 1, swp dk (first + r) (first + (2 * r + 1)), by simp <;> omega, by omega, Nat.le_refl _, by rw [size_swp]; exact hs, L3.out.swapd (first + r) (first + (2 * r + 1)) (by omega) (by omega) (by rw [HG.out]; rfl) (by rw [HG.out]), ?_⟩
            show _ = _
            rw [← hE.out, sd_left_go lt64 dk (by omega) (fun h => absurd h h1) hB']

set_option maxHeartbeats 6400000 in
set_option maxRecDepth 100000 in
theorem heap64 (blk off len cap : Nat) (d : Array Nat) (hlen : d.size = len) (a b : Nat) (w : World) (hH : Holds e64 w blk off d) (hab : a ≤ b) (hb : b ≤ d.size) (hsz : d.size < 4611686018427387904) :
    Calls Tryd.prog 72 #[.slice (some ⟨blk, off, none⟩) len cap, .int .i64 a, .int .i64 b] w fun e w' =>
      e = .returned (.tuple #[]) ∧ Left w blk off (heapSort lt64 d a b) w' := by
  subst hlen
  have ec : ((b - a : Nat) : Int) = (b : Int) - (a : Int) := by omega
  go_enter Tryd.func72, Tryd.ntmps72
  go_wp2
  go_loopg [9] ((b - a - 1) / 2 + 1) (fun k v wr => v = .int .i64 ((k : Int) - 1) ∧ k ≤ (b - a - 1) / 2 + 1 ∧ ∃ (dk : Array Nat), dk.size = d.size ∧ Left w blk off dk wr ∧ Hid (heapBuild lt64 (b - a) a k dk = heapBuild lt64 (b - a) a ((b - a - 1) / 2 + 1) d))
  case atStart => exact ⟨by rw [half_start hab], Nat.le_refl _, d, rfl, Left.self hH, rfl⟩
  case round =>
    obtain ⟨rfl, hkk, dk, hs, hL, hE⟩ := hrel
    have hHk := hL.holds hH hs
    have HL : Hid (Left w blk off dk wr) := hL
    clear hL
    cases gk with
    | zero =>
      clear hHk
      go_wp2
      go_loopg [10] (b - a) (fun k v wq => v = .int .i64 ((k : Int) - 1) ∧ k ≤ b - a ∧ ∃ (dj : Array Nat), dj.size = d.size ∧ Left w blk off dj wq ∧ Hid (heapPop lt64 a k dj = heapPop lt64 a (b - a) dk))
      case atStart => exact ⟨by rw [ec], Nat.le_refl _, dk, hs, HL.out, rfl⟩
      case round =>
        obtain ⟨rfl, hkj, dj, hj, hM, hP⟩ := hrel
        cases gk with
        | zero =>
          go_wp2
          go_end0
          refine ⟨rfl, ?_⟩
          have e : heapSort lt64 d a b = dj := by rw [heapSort, ← hE.out]; exact hP.out.symm
          rw [e]
          exact hM
        | succ k =>
          obtain ⟨G, hG⟩ : ∃ G : Nat → Nat, ∀ t, G t = dj[t]! := ⟨fun t => dj[t]!, fun _ => rfl⟩
          have hc := hM.cell hH hj hG
          have hf := hM.free hH hj
          have HG : Hid (∀ t, G t = dj[t]!) := hG
          have HM : Hid (Left w blk off dj wr) := hM
          clear hG hM
          rcases Nat.eq_zero_or_pos k with hk0 | hkp
          · subst hk0
            go_wp2_with fail
            go_region
            go_wp2_with fail
            have hS := HM.out.swapd a (a) (by omega) (by omega) (a := (G (a) : Int)) (b := (G a : Int)) (by rw [HG.out]) (by rw [HG.out])
            generalize World.drew _ = w5 at hS ⊢
            refine (sift64 blk off d.size cap (swp dj a (a)) (by rw [size_swp]; exact hj) 0 0 a w5 (hS.holds hH (by rw [size_swp]; exact hj)) (Nat.zero_le _) (by rw [size_swp]; omega) (by rw [size_swp]; omega)).mono ?_
            rintro e w1 ⟨rfl, hQ⟩
            go_wp2
            go_roundg 0
            case measure => omega
            case rel => exact ⟨by simp, by omega, siftDown lt64 0 a 0 (swp dj a (a)), by rw [size_siftDown lt64 _ _ _ _ _ (Nat.le_refl _), size_swp]; exact hj, hS.then hQ (size_siftDown lt64 _ _ _ _ _ (Nat.le_refl _)), hP⟩
          · go_wp2_with fail
            go_region
            go_wp2_with fail
            have hS := HM.out.swapd a (a + k) (by omega) (by omega) (a := (G (a + k) : Int)) (b := (G a : Int)) (by rw [HG.out]) (by rw [HG.out])
            generalize World.drew _ = w5 at hS ⊢
            refine (sift64 blk off d.size cap (swp dj a (a + k)) (by rw [size_swp]; exact hj) 0 k a w5 (hS.holds hH (by rw [size_swp]; exact hj)) (Nat.zero_le _) (by rw [size_swp]; omega) (by rw [size_swp]; omega)).mono ?_
            rintro e w1 ⟨rfl, hQ⟩
            go_wp2
            go_roundg k
            case measure => omega
            case rel => exact ⟨by simp, by omega, siftDown lt64 k a 0 (swp dj a (a + k)), by rw [size_siftDown lt64 _ _ _ _ _ (Nat.le_refl _), size_swp]; exact hj, hS.then hQ (size_siftDown lt64 _ _ _ _ _ (Nat.le_refl _)), hP⟩
    | succ k =>
      have hcall := sift64 blk off d.size cap dk hs k (b - a) a wr hHk (by omega) (by omega) (by omega)
      rw [ec] at hcall
      go_wp2_with (go_at_call 82; refine hcall.mono ?_; rintro e w1 ⟨rfl, hQ⟩)
      go_roundg k
      case measure => omega
      case rel =>
        exact ⟨by simp, by omega, siftDown lt64 (b - a) a k dk, by rw [size_siftDown lt64 _ _ _ _ _ (Nat.le_refl _)]; exact hs, HL.out.then hQ (size_siftDown lt64 _ _ _ _ _ (Nat.le_refl _)), hE⟩
end Go.Proofs.YtifofdciablljaaDoor

/-
  The library's sort at rows of uint64: the two partitions.
-/
set_option linter.unusedSimpArgs false
set_option linter.unusedVariables false
namespace Go.Proofs.YtifofdciablljaaDoor
open Go.RowKit Go.Sort

set_option maxHeartbeats 6400000 in
set_option maxRecDepth 100000 in
theorem parteq64 (blk off cap a b pivot : Nat) (d : Array Nat) (w : World) (hH : Holds e64 w blk off d) (hap : a ≤ pivot) (hpb : pivot < b) (hb : b ≤ d.size) (hsz : d.size < 4611686018427387904) :
    Calls Tryd.prog 77 #[.slice (some ⟨blk, off, none⟩) d.size cap, .int .i64 a, .int .i64 b, .int .i64 pivot] w fun e w' =>
      e = .returned (.int .i64 (Sort.partitionEqual lt64 d a b pivot).1) ∧ Left w blk off (Sort.partitionEqual lt64 d a b pivot).2 w' := by
  obtain ⟨G, hG⟩ : ∃ G : Nat → Nat, ∀ t, G t = d[t]! := ⟨fun t => d[t]!, fun _ => rfl⟩
  have hc := (Left.self hH).cell hH rfl hG
  have hf := (Left.self hH).free hH rfl
  have hS := (Left.self hH).swapd a pivot (by omega) (by omega) (a := (G pivot : Int)) (b := (G a : Int)) (by rw [hG]) (by rw [hG])
  obtain ⟨v', hy'⟩ := cell?_setCell_some (w := w) (p := ⟨blk, off + a, none⟩) (x := .int .u64 (G pivot)) (q := ⟨blk, off + pivot, none⟩) (hc pivot (by omega))
  have HS := Lib.hid hS
  have HH := Lib.hid hH
  clear hG hS hH
  go_enter Tryd.func77, Tryd.ntmps77
  go_wp2
  go_region
  go_wp2
  go_loopw [9, 10] (fun vi vj wr => ∃ (i j : Nat) (dk : Array Nat), vi = .int .i64 (i : Int) ∧ vj = .int .i64 (j : Int) ∧ a < i ∧ i ≤ j + 1 ∧ j < b ∧ dk.size = d.size ∧ Left w blk off dk wr ∧
      Hid (Sort.partEqLoop lt64 a i j dk = Sort.partEqLoop lt64 a (a + 1) (b - 1) (Sort.swp d a pivot))) (fun vi vj _ => (intOf vj).toNat + 1 - (intOf vi).toNat)
  case atStart => exact ⟨a + 1, b - 1, swp d a pivot, by go_num, by go_num, by omega, by omega, by omega, size_swp _ _ _, HS.out, rfl⟩
  case round =>
    obtain ⟨i, j, dk, rfl, rfl, hai, hij, hjb, hs, hL, hE⟩ := hrel
    clear hc hf hy' v' HS
    obtain ⟨G, hG⟩ : ∃ G : Nat → Nat, ∀ t, G t = dk[t]! := ⟨fun t => dk[t]!, fun _ => rfl⟩
    have hc := hL.cell HH.out hs hG
    have hf := hL.free HH.out hs
    have HG := Lib.hid hG
    have HL := Lib.hid hL
    rename World => W1
    clear hG hL
    go_step
    go_step
    refine wp_seq_k fun K1 hK1 => ?_
    go_cut [9] from 29 to 82 (fun v wz => ∃ (i2 : Nat), v = .int .i64 (i2 : Int) ∧ i ≤ i2 ∧ i2 ≤ j + 1 ∧ Hid (i2 = Sort.scanUp (fun x => !lt64 dk[a]! x) dk j i) ∧ ∃ n, wz = W1.drewN n)
    case first =>
      go_wp2
      go_loopw [9] (fun v wz => ∃ (i2 n : Nat), v = .int .i64 (i2 : Int) ∧ i ≤ i2 ∧ i2 ≤ j + 1 ∧ wz = W1.drewN n ∧ Hid (Sort.scanUp (fun x => !lt64 dk[a]! x) dk j i2 = Sort.scanUp (fun x => !lt64 dk[a]! x) dk j i)) (fun v _ => j + 1 - (intOf v).toNat)
      case atStart => exact ⟨i, 0, rfl, Nat.le_refl _, hij, rfl, rfl⟩
      case round =>
        obtain ⟨i2, n, rfl, hi1, hi2, hw, hsc⟩ := hrel
        have hc1 : ∀ t, t < d.size → wr.cell? ⟨blk, off + t, none⟩ = some (.int .u64 (G t : Nat)) := fun t ht => by rw [hw]; exact hc t ht
        have HW := Lib.hid hw
        clear hw hc
        by_cases hle : i2 ≤ j
        · go_wp2_with fail
          go_big_quiet (first | (go_at_call 52; refine Calls.quiet_of_same (less64 _ _ _)))
          go_wp2
          · have ht : (!lt64 (G a) (G i2)) = true := by assumption
            go_roundw
            case rel => exact ⟨i2 + 1, n + nq, by go_num, by omega, by omega, by rw [HW.out, World.drewN_drewN], (scanUp_go (fun x => !lt64 dk[a]! x) dk j i2 hle (by rw [← HG.out a, ← HG.out i2]; exact ht)).symm.trans hsc.out⟩
            case measure => simp [intOf]; omega
          · have ht : (!lt64 (G a) (G i2)) = false := by assumption
            go_meet
            case rel => exact ⟨i2, rfl, hi1, hi2, (scanUp_end (fun x => !lt64 dk[a]! x) dk j i2 (Or.inr (by rw [← HG.out a, ← HG.out i2]; exact ht))).symm.trans hsc.out, n + nq, by rw [HW.out, World.drewN_drewN]⟩
        · go_wp2_with fail
          go_big_quiet (first | (go_at_call 52; refine Calls.quiet_of_same (less64 _ _ _)))
          go_wp2
          go_meet
          case rel => exact ⟨i2, rfl, hi1, hi2, (scanUp_end (fun x => !lt64 dk[a]! x) dk j i2 (Or.inl hle)).symm.trans hsc.out, n + nq, by rw [HW.out, World.drewN_drewN]⟩
    case rest =>
      obtain ⟨i2, rfl, hi1, hi2, hI, n1, hw1⟩ := hcut
      have hc1 : ∀ t, t < d.size → wc.cell? ⟨blk, off + t, none⟩ = some (.int .u64 (G t : Nat)) := fun t ht => by rw [hw1]; exact hc t ht
      have hf1 : ∀ t, t < d.size → wc.frozen? ⟨blk, off + t, none⟩ = false := fun t ht => by rw [hw1]; exact hf t ht
      have L1 : Hid (Left w blk off dk wc) := by rw [hw1]; exact HL.out.on n1
      clear hw1 hc hf HL
      rename World => W2
      refine hK1 _ _ ?_
      refine wp_seq_k fun K2 hK2 => ?_
      go_cut [10] from 29 to 82 (fun v wz => ∃ (j2 : Nat), v = .int .i64 (j2 : Int) ∧ j2 ≤ j ∧ i2 ≤ j2 + 1 ∧ Hid (j2 = Sort.scanDown (fun x => lt64 dk[a]! x) dk i2 j) ∧ ∃ n, wz = W2.drewN n)
      case first =>
        go_wp2
        go_loopw [10] (fun v wz => ∃ (j2 n : Nat), v = .int .i64 (j2 : Int) ∧ j2 ≤ j ∧ i2 ≤ j2 + 1 ∧ wz = W2.drewN n ∧ Hid (Sort.scanDown (fun x => lt64 dk[a]! x) dk i2 j2 = Sort.scanDown (fun x => lt64 dk[a]! x) dk i2 j)) (fun v _ => (intOf v).toNat)
        case atStart => exact ⟨j, 0, rfl, Nat.le_refl _, hi2, rfl, rfl⟩
        case round =>
          obtain ⟨j2, n, rfl, hj1, hj2, hw, hsc⟩ := hrel
          have hc2 : ∀ t, t < d.size → wr.cell? ⟨blk, off + t, none⟩ = some (.int .u64 (G t : Nat)) := fun t ht => by rw [hw]; exact hc1 t ht
          have HW := Lib.hid hw
          clear hw hc1
          by_cases hle : i2 ≤ j2
          · go_wp2_with fail
            go_big_quiet (first | (go_at_call 52; refine Calls.quiet_of_same (less64 _ _ _)))
            go_wp2
            · have ht : lt64 (G a) (G j2) = true := by assumption
              go_roundw
              case rel => exact ⟨j2 - 1, n + nq, by go_num, by omega, by omega, by rw [HW.out, World.drewN_drewN], (scanDown_go (fun x => lt64 dk[a]! x) dk i2 j2 hle (by omega) (by rw [← HG.out a, ← HG.out j2]; exact ht)).symm.trans hsc.out⟩
              case measure => simp [intOf]; omega
            · have ht : lt64 (G a) (G j2) = false := by assumption
              go_meet
              case rel => exact ⟨j2, rfl, hj1, hj2, (scanDown_end (fun x => lt64 dk[a]! x) dk i2 j2 (Or.inr (by rw [← HG.out a, ← HG.out j2]; exact ht))).symm.trans hsc.out, n + nq, by rw [HW.out, World.drewN_drewN]⟩
          · go_wp2_with fail
            go_big_quiet (first | (go_at_call 52; refine Calls.quiet_of_same (less64 _ _ _)))
            go_wp2
            go_meet
            case rel => exact ⟨j2, rfl, hj1, hj2, (scanDown_end (fun x => lt64 dk[a]! x) dk i2 j2 (Or.inl hle)).symm.trans hsc.out, n + nq, by rw [HW.out, World.drewN_drewN]⟩
      case rest =>
        obtain ⟨j2, rfl, hj1, hj2, hJ, n2, hw2⟩ := hcut
        have hc2 : ∀ t, t < d.size → wc.cell? ⟨blk, off + t, none⟩ = some (.int .u64 (G t : Nat)) := fun t ht => by rw [hw2]; exact hc1 t ht
        have hf2 : ∀ t, t < d.size → wc.frozen? ⟨blk, off + t, none⟩ = false := fun t ht => by rw [hw2]; exact hf1 t ht
        have L2 : Hid (Left w blk off dk wc) := by rw [hw2]; exact L1.out.on n2
        clear hw2 hc1 hf1 L1
        refine hK2 _ _ ?_
        by_cases hgt : j2 < i2
        · go_wp2
          go_ret
          have e := partEq_break lt64 a i j dk hI.out hJ.out hgt
          refine ⟨?_, ?_⟩
          · unfold Sort.partitionEqual; rw [← hE.out, e]; rfl
          · unfold Sort.partitionEqual; rw [← hE.out, e]; exact L2.out
        · have hlt := scans_lt lt64 a i j dk (by omega) hI.out hJ.out (by omega)
          obtain ⟨v3, hy3⟩ := cell?_setCell_some (w := wc) (p := ⟨blk, off + i2, none⟩) (x := .int .u64 (G j2)) (q := ⟨blk, off + j2, none⟩) (hc2 j2 (by omega))
          go_wp2
          go_region
          all_goals go_wp2
          go_roundw
          case rel =>
            refine ⟨i2 + 1, j2 - 1, swp dk i2 j2, by go_num, by go_num, by omega, by omega, by omega, by rw [size_swp]; exact hs, ?_, ?_⟩
            · exact L2.out.swapd i2 j2 (by omega) (by omega) (by rw [HG.out]) (by rw [HG.out])
            · exact (partEq_go lt64 a i j dk hI.out hJ.out (by omega)).symm.trans hE.out
          case measure => simp [intOf]; omega
end Go.Proofs.YtifofdciablljaaDoor

/-
  The library's sort at rows of uint64: the partition.
-/
set_option linter.unusedSimpArgs false
set_option linter.unusedVariables false
namespace Go.Proofs.YtifofdciablljaaDoor
open Go.RowKit Go.Sort

set_option maxHeartbeats 6400000 in
set_option maxRecDepth 100000 in
theorem part64 (blk off cap a b pivot : Nat) (d : Array Nat) (w : World) (hH : Holds e64 w blk off d) (hap : a ≤ pivot) (hpb : pivot < b) (hb : b ≤ d.size) (hsz : d.size < 4611686018427387904) :
    Calls Tryd.prog 78 #[.slice (some ⟨blk, off, none⟩) d.size cap, .int .i64 a, .int .i64 b, .int .i64 pivot] w fun e w' =>
      e = .returned (.tuple #[.int .i64 (Sort.partition lt64 d a b pivot).1, .bool (Sort.partition lt64 d a b pivot).2.1]) ∧ Left w blk off (Sort.partition lt64 d a b pivot).2.2 w' := by
  obtain ⟨G, hG⟩ : ∃ G : Nat → Nat, ∀ t, G t = d[t]! := ⟨fun t => d[t]!, fun _ => rfl⟩
  have hc := (Left.self hH).cell hH rfl hG
  have hf := (Left.self hH).free hH rfl
  have hS := (Left.self hH).swapd a pivot (by omega) (by omega) (a := (G pivot : Int)) (b := (G a : Int)) (by rw [hG]) (by rw [hG])
  obtain ⟨v', hy'⟩ := cell?_setCell_some (w := w) (p := ⟨blk, off + a, none⟩) (x := .int .u64 (G pivot)) (q := ⟨blk, off + pivot, none⟩) (hc pivot (by omega))
  have HS := Lib.hid hS
  have HH := Lib.hid hH
  clear hG hS hH
  go_enter Tryd.func78, Tryd.ntmps78
  refine wp_seq_k fun Ka hKa => ?_
  have HKa := Lib.hid hKa
  clear hKa
  go_wp2
  refine HKa.out _ _ ?_
  refine wp_seq_k fun Kb hKb => ?_
  have HKb := Lib.hid hKb
  clear hKb HKa
  go_wp2
  go_region
  all_goals go_wp2
  refine HKb.out _ _ ?_
  refine wp_seq_k fun Kc hKc => ?_
  have HKc := Lib.hid hKc
  clear hKc HKb
  go_wp2
  refine HKc.out _ _ ?_
  clear HKc hy' v' hc hf
  generalize World.drew _ = W1 at HS ⊢
  obtain ⟨dk, hdk⟩ : ∃ dk, dk = swp d a pivot := ⟨_, rfl⟩
  obtain ⟨i, hi0⟩ : ∃ i : Nat, i = a + 1 := ⟨_, rfl⟩
  obtain ⟨j, hj0⟩ : ∃ j : Nat, j = b - 1 := ⟨_, rfl⟩
  have ei : (a : Int) + 1 = (i : Int) := by omega
  have ej : (b : Int) - 1 = (j : Int) := by omega
  rw [ei, ej]
  have hij : i ≤ j + 1 := by omega
  have hjb : j < b := by omega
  have hai : a < i := by omega
  have hs : dk.size = d.size := by rw [hdk]; exact size_swp _ _ _
  have HL : Hid (Left w blk off dk W1) := by rw [hdk]; exact HS.out
  have HI0 := Lib.hid hi0
  have HJ0 := Lib.hid hj0
  have HDK := Lib.hid hdk
  clear HS ei ej hi0 hj0 hdk
  obtain ⟨G, hG⟩ : ∃ G : Nat → Nat, ∀ t, G t = dk[t]! := ⟨fun t => dk[t]!, fun _ => rfl⟩
  have hc := HL.out.cell HH.out hs hG
  have hf := HL.out.free HH.out hs
  have HG := Lib.hid hG
  clear hG
  refine wp_seq_k fun K1 hK1 => ?_
  go_cut [10] from 30 (fun v wz => ∃ (i2 : Nat), v = .int .i64 (i2 : Int) ∧ i ≤ i2 ∧ i2 ≤ j + 1 ∧ Hid (i2 = Sort.scanUp (fun x => lt64 x dk[a]!) dk j i) ∧ ∃ n, wz = W1.drewN n)
  case first =>
    go_wp2
    go_loopw [10] (fun v wz => ∃ (i2 n : Nat), v = .int .i64 (i2 : Int) ∧ i ≤ i2 ∧ i2 ≤ j + 1 ∧ wz = W1.drewN n ∧ Hid (Sort.scanUp (fun x => lt64 x dk[a]!) dk j i2 = Sort.scanUp (fun x => lt64 x dk[a]!) dk j i)) (fun v _ => j + 1 - (intOf v).toNat)
    case atStart => exact ⟨i, 0, rfl, Nat.le_refl _, hij, rfl, rfl⟩
    case round =>
      obtain ⟨i2, n, rfl, hi1, hi2, hw, hsc⟩ := hrel
      have hc1 : ∀ t, t < d.size → wr.cell? ⟨blk, off + t, none⟩ = some (.int .u64 (G t : Nat)) := fun t ht => by rw [hw]; exact hc t ht
      have HW := Lib.hid hw
      clear hw hc
      by_cases hle : i2 ≤ j
      · go_wp2_with fail
        go_big_quiet (first | (go_at_call 52; refine Calls.quiet_of_same (less64 _ _ _)))
        go_wp2
        · have ht : lt64 (G i2) (G a) = true := by assumption
          go_roundw
          case rel => exact ⟨i2 + 1, n + nq, by go_num, by omega, by omega, by rw [HW.out, World.drewN_drewN], (scanUp_go (fun x => lt64 x dk[a]!) dk j i2 hle (by rw [← HG.out a, ← HG.out i2]; exact ht)).symm.trans hsc.out⟩
          case measure => simp [intOf]; omega
        · have ht : lt64 (G i2) (G a) = false := by assumption
          go_meet
          case rel => exact ⟨i2, rfl, hi1, hi2, (scanUp_end (fun x => lt64 x dk[a]!) dk j i2 (Or.inr (by rw [← HG.out a, ← HG.out i2]; exact ht))).symm.trans hsc.out, n + nq, by rw [HW.out, World.drewN_drewN]⟩
      · go_wp2_with fail
        go_big_quiet (first | (go_at_call 52; refine Calls.quiet_of_same (less64 _ _ _)))
        go_wp2
        go_meet
        case rel => exact ⟨i2, rfl, hi1, hi2, (scanUp_end (fun x => lt64 x dk[a]!) dk j i2 (Or.inl hle)).symm.trans hsc.out, n + nq, by rw [HW.out, World.drewN_drewN]⟩
  case rest =>
    obtain ⟨i2, rfl, hi1, hi2, hI, n1, hw1⟩ := hcut
    have hc1 : ∀ t, t < d.size → wc.cell? ⟨blk, off + t, none⟩ = some (.int .u64 (G t : Nat)) := fun t ht => by rw [hw1]; exact hc t ht
    have hf1 : ∀ t, t < d.size → wc.frozen? ⟨blk, off + t, none⟩ = false := fun t ht => by rw [hw1]; exact hf t ht
    have L1 : Hid (Left w blk off dk wc) := by rw [hw1]; exact HL.out.on n1
    clear hw1 hc hf HL
    rename World => W2
    refine hK1 _ _ ?_
    refine wp_seq_k fun K2 hK2 => ?_
    go_cut [11] from 30 (fun v wz => ∃ (j2 : Nat), v = .int .i64 (j2 : Int) ∧ j2 ≤ j ∧ i2 ≤ j2 + 1 ∧ Hid (j2 = Sort.scanDown (fun x => !lt64 x dk[a]!) dk i2 j) ∧ ∃ n, wz = W2.drewN n)
    case first =>
      go_wp2
      go_loopw [11] (fun v wz => ∃ (j2 n : Nat), v = .int .i64 (j2 : Int) ∧ j2 ≤ j ∧ i2 ≤ j2 + 1 ∧ wz = W2.drewN n ∧ Hid (Sort.scanDown (fun x => !lt64 x dk[a]!) dk i2 j2 = Sort.scanDown (fun x => !lt64 x dk[a]!) dk i2 j)) (fun v _ => (intOf v).toNat)
      case atStart => exact ⟨j, 0, rfl, Nat.le_refl _, hi2, rfl, rfl⟩
      case round =>
        obtain ⟨j2, n, rfl, hj1, hj2, hw, hsc⟩ := hrel
        have hc2 : ∀ t, t < d.size → wr.cell? ⟨blk, off + t, none⟩ = some (.int .u64 (G t : Nat)) := fun t ht => by rw [hw]; exact hc1 t ht
        have HW := Lib.hid hw
        clear hw hc1
        by_cases hle : i2 ≤ j2
        · go_wp2_with fail
          go_big_quiet (first | (go_at_call 52; refine Calls.quiet_of_same (less64 _ _ _)))
          go_wp2
          · have ht : (!lt64 (G j2) (G a)) = true := by assumption
            go_roundw
            case rel => exact ⟨j2 - 1, n + nq, by go_num, by omega, by omega, by rw [HW.out, World.drewN_drewN], (scanDown_go (fun x => !lt64 x dk[a]!) dk i2 j2 hle (by omega) (by rw [← HG.out a, ← HG.out j2]; exact ht)).symm.trans hsc.out⟩
            case measure => simp [intOf]; omega
          · have ht : (!lt64 (G j2) (G a)) = false := by assumption
            go_meet
            case rel => exact ⟨j2, rfl, hj1, hj2, (scanDown_end (fun x => !lt64 x dk[a]!) dk i2 j2 (Or.inr (by rw [← HG.out a, ← HG.out j2]; exact ht))).symm.trans hsc.out, n + nq, by rw [HW.out, World.drewN_drewN]⟩
        · go_wp2_with fail
          go_big_quiet (first | (go_at_call 52; refine Calls.quiet_of_same (less64 _ _ _)))
          go_wp2
          go_meet
          case rel => exact ⟨j2, rfl, hj1, hj2, (scanDown_end (fun x => !lt64 x dk[a]!) dk i2 j2 (Or.inl hle)).symm.trans hsc.out, n + nq, by rw [HW.out, World.drewN_drewN]⟩
    case rest =>
      obtain ⟨j2, rfl, hj1, hj2, hJ, n2, hw2⟩ := hcut
      have hc2 : ∀ t, t < d.size → wc.cell? ⟨blk, off + t, none⟩ = some (.int .u64 (G t : Nat)) := fun t ht => by rw [hw2]; exact hc1 t ht
      have hf2 : ∀ t, t < d.size → wc.frozen? ⟨blk, off + t, none⟩ = false := fun t ht => by rw [hw2]; exact hf1 t ht
      have L2 : Hid (Left w blk off dk wc) := by rw [hw2]; exact L1.out.on n2
      clear hw2 hc1 hf1 L1
      refine hK2 _ _ ?_
      by_cases hgt : j2 < i2
      · have HE := Lib.hid (part_first_break lt64 d a b pivot HI0.out HJ0.out HDK.out hI.out hJ.out hgt)
        obtain ⟨v3, hy3⟩ := cell?_setCell_some (w := wc) (p := ⟨blk, off + j2, none⟩) (x := .int .u64 (G a)) (q := ⟨blk, off + a, none⟩) (hc2 a (by omega))
        go_wp2
        go_region
        all_goals go_wp2
        go_ret2
        rw [HE.out]
        exact ⟨rfl, L2.out.swapd j2 a (by omega) (by omega) (by rw [HG.out]) (by rw [HG.out])⟩
      · have hlt := part_scans_lt lt64 a i j dk (by omega) hI.out hJ.out (by omega)
        obtain ⟨r, HR, hP⟩ : ∃ r, Hid (partLoop lt64 a (i2 + 1) (j2 - 1) (swp dk i2 j2) = r) ∧ Hid (partition lt64 d a b pivot = (r.1, false, swp r.2 r.1 a)) := ⟨_, rfl, part_first_go lt64 d a b pivot HI0.out HJ0.out HDK.out hI.out hJ.out (by omega)⟩
        obtain ⟨v3, hy3⟩ := cell?_setCell_some (w := wc) (p := ⟨blk, off + i2, none⟩) (x := .int .u64 (G j2)) (q := ⟨blk, off + j2, none⟩) (hc2 j2 (by omega))
        have HS := L2.out.swapd i2 j2 (by omega) (by omega) (a := (G j2 : Int)) (b := (G i2 : Int)) (by rw [HG.out]) (by rw [HG.out])
        have HS' := Lib.hid HS
        clear HS
        go_wp2
        go_region
        all_goals go_wp2
        go_loopw [10, 11] (fun vi vj wr => ∃ (i j : Nat) (dk : Array Nat), vi = .int .i64 (i : Int) ∧ vj = .int .i64 (j : Int) ∧ a < i ∧ i ≤ j + 1 ∧ j < b ∧ dk.size = d.size ∧ Left w blk off dk wr ∧
            Hid (partLoop lt64 a i j dk = r)) (fun vi vj _ => (intOf vj).toNat + 1 - (intOf vi).toNat)
        case atStart => exact ⟨i2 + 1, j2 - 1, swp dk i2 j2, by go_num, by go_num, by omega, by omega, by omega, by rw [size_swp]; exact hs, HS'.out, HR⟩
        case round =>
          clear hy3 v3 HS' HR hlt hc2 hf2 L2 hJ hI hgt hj1 hj2 hi1 hi2 HG hs hij hjb hai HI0 HJ0 HDK hK1 hK2
          obtain ⟨i, j, dk, rfl, rfl, hai, hij, hjb, hs, hL, hE⟩ := hrel
          obtain ⟨G, hG⟩ : ∃ G : Nat → Nat, ∀ t, G t = dk[t]! := ⟨fun t => dk[t]!, fun _ => rfl⟩
          have hc := hL.cell HH.out hs hG
          have hf := hL.free HH.out hs
          have HG := Lib.hid hG
          have HL := Lib.hid hL
          rename World => W1
          clear hG hL
          go_step
          go_step
          refine wp_seq_k fun K1 hK1 => ?_
          go_cut [10] from 99 to 152 (fun v wz => ∃ (i2 : Nat), v = .int .i64 (i2 : Int) ∧ i ≤ i2 ∧ i2 ≤ j + 1 ∧ Hid (i2 = Sort.scanUp (fun x => lt64 x dk[a]!) dk j i) ∧ ∃ n, wz = W1.drewN n)
          case first =>
            go_wp2
            go_loopw [10] (fun v wz => ∃ (i2 n : Nat), v = .int .i64 (i2 : Int) ∧ i ≤ i2 ∧ i2 ≤ j + 1 ∧ wz = W1.drewN n ∧ Hid (Sort.scanUp (fun x => lt64 x dk[a]!) dk j i2 = Sort.scanUp (fun x => lt64 x dk[a]!) dk j i)) (fun v _ => j + 1 - (intOf v).toNat)
            case atStart => exact ⟨i, 0, rfl, Nat.le_refl _, hij, rfl, rfl⟩
            case round =>
              obtain ⟨i2, n, rfl, hi1, hi2, hw, hsc⟩ := hrel
              have hc1 : ∀ t, t < d.size → wr.cell? ⟨blk, off + t, none⟩ = some (.int .u64 (G t : Nat)) := fun t ht => by rw [hw]; exact hc t ht
              have HW := Lib.hid hw
              clear hw hc
              by_cases hle : i2 ≤ j
              · go_wp2_with fail
                go_big_quiet (first | (go_at_call 52; refine Calls.quiet_of_same (less64 _ _ _)))
                go_wp2
                · have ht : lt64 (G i2) (G a) = true := by assumption
                  go_roundw
                  case rel => exact ⟨i2 + 1, n + nq, by go_num, by omega, by omega, by rw [HW.out, World.drewN_drewN], (scanUp_go (fun x => lt64 x dk[a]!) dk j i2 hle (by rw [← HG.out a, ← HG.out i2]; exact ht)).symm.trans hsc.out⟩
                  case measure => simp [intOf]; omega
                · have ht : lt64 (G i2) (G a) = false := by assumption
                  go_meet
                  case rel => exact ⟨i2, rfl, hi1, hi2, (scanUp_end (fun x => lt64 x dk[a]!) dk j i2 (Or.inr (by rw [← HG.out a, ← HG.out i2]; exact ht))).symm.trans hsc.out, n + nq, by rw [HW.out, World.drewN_drewN]⟩
              · go_wp2_with fail
                go_big_quiet (first | (go_at_call 52; refine Calls.quiet_of_same (less64 _ _ _)))
                go_wp2
                go_meet
                case rel => exact ⟨i2, rfl, hi1, hi2, (scanUp_end (fun x => lt64 x dk[a]!) dk j i2 (Or.inl hle)).symm.trans hsc.out, n + nq, by rw [HW.out, World.drewN_drewN]⟩
          case rest =>
            obtain ⟨i2, rfl, hi1, hi2, hI, n1, hw1⟩ := hcut
            have hc1 : ∀ t, t < d.size → wc.cell? ⟨blk, off + t, none⟩ = some (.int .u64 (G t : Nat)) := fun t ht => by rw [hw1]; exact hc t ht
            have hf1 : ∀ t, t < d.size → wc.frozen? ⟨blk, off + t, none⟩ = false := fun t ht => by rw [hw1]; exact hf t ht
            have L1 : Hid (Left w blk off dk wc) := by rw [hw1]; exact HL.out.on n1
            clear hw1 hc hf HL
            rename World => W2
            refine hK1 _ _ ?_
            refine wp_seq_k fun K2 hK2 => ?_
            go_cut [11] from 99 to 152 (fun v wz => ∃ (j2 : Nat), v = .int .i64 (j2 : Int) ∧ j2 ≤ j ∧ i2 ≤ j2 + 1 ∧ Hid (j2 = Sort.scanDown (fun x => !lt64 x dk[a]!) dk i2 j) ∧ ∃ n, wz = W2.drewN n)
            case first =>
              go_wp2
              go_loopw [11] (fun v wz => ∃ (j2 n : Nat), v = .int .i64 (j2 : Int) ∧ j2 ≤ j ∧ i2 ≤ j2 + 1 ∧ wz = W2.drewN n ∧ Hid (Sort.scanDown (fun x => !lt64 x dk[a]!) dk i2 j2 = Sort.scanDown (fun x => !lt64 x dk[a]!) dk i2 j)) (fun v _ => (intOf v).toNat)
              case atStart => exact ⟨j, 0, rfl, Nat.le_refl _, hi2, rfl, rfl⟩
              case round =>
                obtain ⟨j2, n, rfl, hj1, hj2, hw, hsc⟩ := hrel
                have hc2 : ∀ t, t < d.size → wr.cell? ⟨blk, off + t, none⟩ = some (.int .u64 (G t : Nat)) := fun t ht => by rw [hw]; exact hc1 t ht
                have HW := Lib.hid hw
                clear hw hc1
                by_cases hle : i2 ≤ j2
                · go_wp2_with fail
                  go_big_quiet (first | (go_at_call 52; refine Calls.quiet_of_same (less64 _ _ _)))
                  go_wp2
                  · have ht : (!lt64 (G j2) (G a)) = true := by assumption
                    go_roundw
                    case rel => exact ⟨j2 - 1, n + nq, by go_num, by omega, by omega, by rw [HW.out, World.drewN_drewN], (scanDown_go (fun x => !lt64 x dk[a]!) dk i2 j2 hle (by omega) (by rw [← HG.out a, ← HG.out j2]; exact ht)).symm.trans hsc.out⟩
                    case measure => simp [intOf]; omega
                  · have ht : (!lt64 (G j2) (G a)) = false := by assumption
                    go_meet
                    case rel => exact ⟨j2, rfl, hj1, hj2, (scanDown_end (fun x => !lt64 x dk[a]!) dk i2 j2 (Or.inr (by rw [← HG.out a, ← HG.out j2]; exact ht))).symm.trans hsc.out, n + nq, by rw [HW.out, World.drewN_drewN]⟩
                · go_wp2_with fail
                  go_big_quiet (first | (go_at_call 52; refine Calls.quiet_of_same (less64 _ _ _)))
                  go_wp2
                  go_meet
                  case rel => exact ⟨j2, rfl, hj1, hj2, (scanDown_end (fun x => !lt64 x dk[a]!) dk i2 j2 (Or.inl hle)).symm.trans hsc.out, n + nq, by rw [HW.out, World.drewN_drewN]⟩
            case rest =>
              obtain ⟨j2, rfl, hj1, hj2, hJ, n2, hw2⟩ := hcut
              have hc2 : ∀ t, t < d.size → wc.cell? ⟨blk, off + t, none⟩ = some (.int .u64 (G t : Nat)) := fun t ht => by rw [hw2]; exact hc1 t ht
              have hf2 : ∀ t, t < d.size → wc.frozen? ⟨blk, off + t, none⟩ = false := fun t ht => by rw [hw2]; exact hf1 t ht
              have L2 : Hid (Left w blk off dk wc) := by rw [hw2]; exact L1.out.on n2
              clear hw2 hc1 hf1 L1
              refine hK2 _ _ ?_
              by_cases hgt : j2 < i2
              · have e := part_break lt64 a i j dk hI.out hJ.out hgt
                have HE := Lib.hid e
                clear e
                obtain ⟨v3, hy3⟩ := cell?_setCell_some (w := wc) (p := ⟨blk, off + j2, none⟩) (x := .int .u64 (G a)) (q := ⟨blk, off + a, none⟩) (hc2 a (by omega))
                go_wp2
                go_region
                all_goals go_wp2
                go_ret2
                rw [hP.out, ← hE.out, HE.out]
                exact ⟨rfl, L2.out.swapd j2 a (by omega) (by omega) (by rw [HG.out]) (by rw [HG.out])⟩
              · have hlt := part_scans_lt lt64 a i j dk (by omega) hI.out hJ.out (by omega)
                obtain ⟨v3, hy3⟩ := cell?_setCell_some (w := wc) (p := ⟨blk, off + i2, none⟩) (x := .int .u64 (G j2)) (q := ⟨blk, off + j2, none⟩) (hc2 j2 (by omega))
                go_wp2
                go_region
                all_goals go_wp2
                go_roundw
                case rel =>
                  refine ⟨i2 + 1, j2 - 1, swp dk i2 j2, by go_num, by go_num, by omega, by omega, by omega, by rw [size_swp]; exact hs, ?_, ?_⟩
                  · exact L2.out.swapd i2 j2 (by omega) (by omega) (by rw [HG.out]) (by rw [HG.out])
                  · exact (part_go lt64 a i j dk hI.out hJ.out (by omega)).symm.trans hE.out
                case measure => simp [intOf]; omega
end Go.Proofs.YtifofdciablljaaDoor

/-
  The library's sort at rows of uint64: turning a range round; the medians.
-/
set_option linter.unusedSimpArgs false
set_option linter.unusedVariables false
namespace Go.Proofs.YtifofdciablljaaDoor
open Go.RowKit Go.Sort

theorem Left.swapE {w W : World} {blk off : Nat} {d : Array Nat} (h : Left w blk off d W) (j k : Nat) (hj : j < d.size) (hk : k < d.size) {a b : Int} (ha : a = (d[k]! : Nat)) (hb : b = (d[j]! : Nat)) :
    Left w blk off (swp d j k) ((W.setCell ⟨blk, off + j, none⟩ (.int .u64 a)).setCell ⟨blk, off + k, none⟩ (.int .u64 b)).drew := (h.swap 0 j k hj hk ha hb).on 1

set_option maxHeartbeats 1600000 in
set_option maxRecDepth 100000 in
theorem reverse64 (blk off cap a b : Nat) (d : Array Nat) (w : World) (hH : Holds e64 w blk off d) (hab : a ≤ b) (hb : b ≤ d.size) (hsz : d.size < 4611686018427387904) :
    Calls Tryd.prog 75 #[.slice (some ⟨blk, off, none⟩) d.size cap, .int .i64 a, .int .i64 b] w fun e w' =>
      e = .returned (.tuple #[]) ∧ Left w blk off (reverseRange d a b) w' := by
  go_enter Tryd.func75, Tryd.ntmps75
  go_wp2
  go_loopg [6, 7] (b - a) (fun k vi vj wr => ∃ (i m : Nat) (dk : Array Nat), vi = .int .i64 (i : Int) ∧ vj = .int .i64 ((m : Int) - 1) ∧ m ≤ d.size ∧ m - i ≤ k ∧ dk.size = d.size ∧ Left w blk off dk wr ∧
    Hid (reverseLoop i (m - 1) dk = reverseLoop a (b - 1) d))
  case atStart => exact ⟨a, b, d, rfl, rfl, hb, Nat.le_refl _, rfl, Left.self hH, rfl⟩
  case round =>
    obtain ⟨i, m, dk, rfl, rfl, hm, hk, hs, hL, hE⟩ := hrel
    by_cases hlt : (i : Int) < (m : Int) - 1
    · obtain ⟨j, rfl⟩ : ∃ j, m = j + 1 := ⟨m - 1, by omega⟩
      have ej : (((j + 1 : Nat) : Int) - 1) = (j : Int) := by omega
      rw [ej] at hlt ⊢
      obtain ⟨G, hG⟩ : ∃ G : Nat → Nat, ∀ t, G t = dk[t]! := ⟨fun t => dk[t]!, fun _ => rfl⟩
      have hc := hL.cell hH hs hG
      have hf := hL.free hH hs
      have HG := Lib.hid hG
      have HL := Lib.hid hL
      have HS := Lib.hid (HL.out.swapE i j (by omega) (by omega) (a := (G j : Int)) (b := (G i : Int)) (by rw [hG]) (by rw [hG]))
      clear hG hL hH
      go_wp2_with fail
      go_region
      go_wp2
      go_roundg (j - (i + 1))
      case measure => omega
      case rel =>
        refine ⟨i + 1, j, swp dk i j, by simp, rfl, by omega, by omega, by rw [size_swp]; exact hs, HS.out, ?_⟩
        have e := hE.out
        rw [Nat.add_sub_cancel, reverseLoop, if_pos (by omega)] at e
        exact e
    · go_wp2
      go_end0
      refine ⟨rfl, ?_⟩
      have e := hE.out
      rw [reverseLoop, if_neg (by omega)] at e
      rw [reverseRange, ← e]
      exact hL

/-- After some draws the counter (a row of one int) reads t; all else as in w. -/
def Cnt (w : World) (sb so t : Nat) (W : World) : Prop := ∃ n, W = putRow (Value.int .i64) (Sort.ahead w n) sb so (one t)
abbrev HasCnt (w : World) (sb so t : Nat) : Prop := Holds (Value.int .i64) w sb so (one t)
theorem Cnt.row {w W : World} {blk off sb so t : Nat} {d : Array Nat} (h : Cnt w sb so t W) (h0 : Holds e64 w blk off d) (hne : sb ≠ blk) : Holds e64 W blk off d := by
  obtain ⟨n, rfl⟩ := h
  intro j hj
  refine ⟨?_, ?_⟩
  · rw [cell?_putRow_other _ _ _ _ _ _ (Or.inl (Ne.symm hne))]; exact (h0 j hj).1
  · rw [frozen?_putRow]; exact (h0 j hj).2
theorem Cnt.has {w W : World} {sb so s t : Nat} (h : Cnt w sb so t W) (h0 : HasCnt w sb so s) : HasCnt W sb so t := by
  obtain ⟨n, rfl⟩ := h
  exact holds_one h0
theorem Cnt.then {w W W' : World} {sb so s t : Nat} (h : Cnt w sb so s W) (h' : Cnt W sb so t W') : Cnt w sb so t W' := by
  obtain ⟨n, rfl⟩ := h
  obtain ⟨m, rfl⟩ := h'
  exact ⟨n + m, one_one w n m sb so s t⟩

set_option maxHeartbeats 1000000 in
set_option maxRecDepth 100000 in
theorem order64 (d : Array Nat) (len : Nat) (hlen : d.size = len) (blk off cap a b sb so s : Nat) (w : World) (hH : Holds e64 w blk off d) (ha : a < d.size) (hb : b < d.size) (hS : HasCnt w sb so s) (hs : s < 4611686018427387904) :
    Calls Tryd.prog 87 #[.slice (some ⟨blk, off, none⟩) len cap, .int .i64 a, .int .i64 b, .pointer (some ⟨sb, so, none⟩)] w fun e w' =>
      e = .returned (.tuple #[.int .i64 (order2 lt64 d a b s).1, .int .i64 (order2 lt64 d a b s).2.1]) ∧ Cnt w sb so (order2 lt64 d a b s).2.2 w' := by
  subst hlen
  obtain ⟨x, hx⟩ : ∃ x, x = d[a]! := ⟨_, rfl⟩
  obtain ⟨y, hy⟩ : ∃ y, y = d[b]! := ⟨_, rfl⟩
  have ca : w.cell? ⟨blk, off + a, none⟩ = some (.int .u64 (x : Nat)) := by rw [hx]; exact (hH a ha).1
  have cb : w.cell? ⟨blk, off + b, none⟩ = some (.int .u64 (y : Nat)) := by rw [hy]; exact (hH b hb).1
  obtain ⟨cs, fs⟩ := one_cell hS
  have o2 : order2 lt64 d a b s = if lt64 y x then (b, a, s + 1) else (a, b, s) := by rw [hx, hy]; rfl
  have HO := Lib.hid o2
  clear o2 hx hy
  go_enter Tryd.func87, Tryd.ntmps87
  go_wp2
  go_region_with (go_at_call 52; refine (less64 _ _ _).mono ?_; rintro e w' ⟨rfl, rfl⟩)
  all_goals (try go_wp2)
  all_goals first
    | (have hlt : lt64 y x = true := by assumption
       go_ret2
       rw [HO.out, hlt]
       refine ⟨rfl, 1, ?_⟩
       rw [if_pos rfl, putRow_ahead, ← one_set hS (s + 1)]
       simp [drew_eq_ahead])
    | (have hlt : lt64 y x = false := by assumption
       go_ret2
       rw [HO.out, hlt]
       refine ⟨rfl, 1, ?_⟩
       rw [if_neg (by decide), putRow_ahead, putRow_self _ _ _ _ _ hS]
       rfl)

theorem order_lt (d : Array Nat) {a b n : Nat} (s : Nat) (ha : a < n) (hb : b < n) : (order2 lt64 d a b s).1 < n ∧ (order2 lt64 d a b s).2.1 < n := by
  unfold order2
  split <;> exact ⟨by assumption, by assumption⟩
theorem order_le (d : Array Nat) (a b s : Nat) : (order2 lt64 d a b s).2.2 ≤ s + 1 := by
  unfold order2
  split <;> simp

set_option maxHeartbeats 1000000 in
set_option maxRecDepth 100000 in
theorem median64 (d : Array Nat) (len : Nat) (hlen : d.size = len) (blk off cap a b c sb so s : Nat) (w : World) (hH : Holds e64 w blk off d) (ha : a < d.size) (hb : b < d.size) (hc : c < d.size) (hne : sb ≠ blk) (hS : HasCnt w sb so s) (hs : s + 3 < 4611686018427387904) :
    Calls Tryd.prog 86 #[.slice (some ⟨blk, off, none⟩) len cap, .int .i64 a, .int .i64 b, .int .i64 c, .pointer (some ⟨sb, so, none⟩)] w fun e w' =>
      e = .returned (.int .i64 (median lt64 d a b c s).1) ∧ Cnt w sb so (median lt64 d a b c s).2 w' := by
  subst hlen
  obtain ⟨r1, hr1⟩ : ∃ r, r = order2 lt64 d a b s := ⟨_, rfl⟩
  obtain ⟨r2, hr2⟩ : ∃ r, r = order2 lt64 d r1.2.1 c r1.2.2 := ⟨_, rfl⟩
  obtain ⟨r3, hr3⟩ : ∃ r, r = order2 lt64 d r1.1 r2.1 r2.2.2 := ⟨_, rfl⟩
  have em : median lt64 d a b c s = (r3.2.1, r3.2.2) := by rw [hr3, hr2, hr1]; rfl
  have l1 : r1.1 < d.size ∧ r1.2.1 < d.size := by rw [hr1]; exact order_lt d s ha hb
  have s1 : r1.2.2 ≤ s + 1 := by rw [hr1]; exact order_le ..
  have l2 : r2.1 < d.size ∧ r2.2.1 < d.size := by rw [hr2]; exact order_lt d _ l1.2 hc
  have s2 : r2.2.2 ≤ s + 2 := by have := order_le d r1.2.1 c r1.2.2; rw [← hr2] at this; omega
  have c1 := Lib.hid (order64 d _ rfl blk off cap a b sb so s w hH ha hb hS (by omega))
  have H1 := Lib.hid hH
  have S1 := Lib.hid hS
  have R1 := Lib.hid hr1
  have R2 := Lib.hid hr2
  have R3 := Lib.hid hr3
  have EM := Lib.hid em
  clear hH hS hr1 hr2 hr3 em
  go_enter Tryd.func86, Tryd.ntmps86
  go_wp2_with (go_at_call_of 87 (Value.int .i64 (b : Int)); refine c1.out.mono ?_; rw [← R1.out]; rintro e w1 ⟨rfl, h1⟩)
  refine (order64 d _ rfl blk off cap r1.2.1 c sb so r1.2.2 w1 (h1.row H1.out hne) l1.2 hc (h1.has S1.out) (by omega)).mono ?_
  rw [← R2.out]
  rintro e w2 ⟨rfl, h2⟩
  have h12 := h1.then h2
  go_wp2_with fail
  refine (order64 d _ rfl blk off cap r1.1 r2.1 sb so r2.2.2 w2 (h12.row H1.out hne) l1.1 l2.1 (h12.has S1.out) (by omega)).mono ?_
  rw [← R3.out]
  rintro e w3 ⟨rfl, h3⟩
  go_wp2
  go_ret
  rw [EM.out]
  exact ⟨rfl, h12.then h3⟩

set_option maxHeartbeats 1000000 in
set_option maxRecDepth 100000 in
theorem adjacent64 (d : Array Nat) (len : Nat) (hlen : d.size = len) (blk off cap a sb so s : Nat) (w : World) (hH : Holds e64 w blk off d) (ha0 : 1 ≤ a) (ha : a + 1 < d.size) (hsz : d.size < 4611686018427387904) (hne : sb ≠ blk) (hS : HasCnt w sb so s) (hs : s + 3 < 4611686018427387904) :
    Calls Tryd.prog 85 #[.slice (some ⟨blk, off, none⟩) len cap, .int .i64 a, .pointer (some ⟨sb, so, none⟩)] w fun e w' =>
      e = .returned (.int .i64 (medianAdjacent lt64 d a s).1) ∧ Cnt w sb so (medianAdjacent lt64 d a s).2 w' := by
  subst hlen
  have c1 := median64 d _ rfl blk off cap (a - 1) a (a + 1) sb so s w hH (by omega) (by omega) ha hne hS hs
  have e1 : ((a - 1 : Nat) : Int) = (a : Int) - 1 := by omega
  have e2 : ((a + 1 : Nat) : Int) = (a : Int) + 1 := by omega
  rw [e1, e2] at c1
  go_enter Tryd.func85, Tryd.ntmps85
  go_wp2_with (go_at_call 86; refine c1.mono ?_; rintro e w1 ⟨rfl, h1⟩)
  go_ret
  exact ⟨rfl, h1⟩
end Go.Proofs.YtifofdciablljaaDoor

/-
  The library's sort at rows of uint64: the little random numbers.
-/
set_option linter.unusedSimpArgs false
set_option linter.unusedVariables false
namespace Go.Proofs.YtifofdciablljaaDoor
open Go.RowKit Go.Sort

set_option maxHeartbeats 1600000 in
set_option maxRecDepth 100000 in
theorem next64 (rb ro X : Nat) (hX : X < 18446744073709551616) (w : World) (hc : w.cell? ⟨rb, ro, none⟩ = some (.int .u64 (X : Nat))) (hf : w.frozen? ⟨rb, ro, none⟩ = false) :
    Calls Tryd.prog 84 #[.pointer (some ⟨rb, ro, none⟩)] w fun e w' => e = .returned (.int .u64 (xorNextN X : Nat)) ∧ w' = (w.setCell ⟨rb, ro, none⟩ (.int .u64 (xorNextN X : Nat))).drewN 3 := by
  obtain ⟨p, q, r, hp, hq, hr, h1, h2, h3⟩ : ∃ p q r : Nat, p < 18446744073709551616 ∧ q < 18446744073709551616 ∧ r = xorNextN X ∧
      bits .xor .u64 (X : Int) (IntKind.u64.wrap ((X : Int) * 8192)) = (p : Int) ∧ bits .xor .u64 (p : Int) ((p : Int) / 128) = (q : Int) ∧ bits .xor .u64 (q : Int) (IntKind.u64.wrap ((q : Int) * 131072)) = (r : Int) := by
    have k1 : X * 8192 % 18446744073709551616 < 18446744073709551616 := Nat.mod_lt _ (by decide)
    have b1 : X ^^^ (X * 8192 % 18446744073709551616) < 18446744073709551616 := Nat.xor_lt_two_pow (n := 64) hX k1
    have b2 : (X ^^^ (X * 8192 % 18446744073709551616)) ^^^ ((X ^^^ (X * 8192 % 18446744073709551616)) / 128) < 18446744073709551616 := Nat.xor_lt_two_pow (n := 64) b1 (by omega)
    refine ⟨_, _, _, b1, b2, rfl, ?_, ?_, ?_⟩
    · rw [IntKind.wrap_u64, show ((X : Int) * 8192 % 18446744073709551616) = ((X * 8192 % 18446744073709551616 : Nat) : Int) by omega, bits_xor_u64_nat _ _ hX k1]
    · generalize X ^^^ (X * 8192 % 18446744073709551616) = P at b1 ⊢
      rw [show ((P : Int) / 128) = ((P / 128 : Nat) : Int) by omega, bits_xor_u64_nat _ _ b1 (by omega)]
    · unfold xorNextN
      simp only []
      generalize (X ^^^ (X * 8192 % 18446744073709551616)) ^^^ ((X ^^^ (X * 8192 % 18446744073709551616)) / 128) = Q at b2 ⊢
      rw [IntKind.wrap_u64, show ((Q : Int) * 131072 % 18446744073709551616) = ((Q * 131072 % 18446744073709551616 : Nat) : Int) by omega, bits_xor_u64_nat _ _ b2 (by omega)]
  rw [← hr]
  clear hr
  have again : ∀ v v', (w.setCell ⟨rb, ro, none⟩ v).setCell ⟨rb, ro, none⟩ v' = w.setCell ⟨rb, ro, none⟩ v' := setCell_setCell w rb ro
  go_enter Tryd.func84, Tryd.ntmps84
  go_wp2
  go_region
  all_goals go_wp2
  all_goals go_region
  all_goals go_wp2
  all_goals go_region
  all_goals go_wp2
  go_ret
  exact ⟨rfl, rfl⟩

set_option maxHeartbeats 1000000 in
theorem len_any (x : Nat) (w : World) (hx : x < 18446744073709551616) : Calls Tryd.prog 60 #[.int .u64 (x : Int)] w fun e w' => e = .returned (.int .i64 (bitsLen x : Nat)) ∧ w' = w := by
  have c := len64_any (x : Int) w (by omega) (by omega)
  rw [Int.toNat_natCast, bitLen_eq _ (by omega)] at c
  go_enter Tryd.func60, Tryd.ntmps60
  go_wp2_with (go_at_call 80; refine c.mono ?_; rintro e w' ⟨rfl, rfl⟩)
  go_ret
  exact ⟨rfl, rfl⟩
set_option maxHeartbeats 1000000 in
/-- 1 << bits.Len(uint(n)). -/
theorem pow64 (n : Nat) (hn : n < 4611686018427387904) (w : World) : Calls Tryd.prog 83 #[.int .i64 (n : Int)] w fun e w' => e = .returned (.int .u64 ((1 <<< bitsLen n : Nat) : Int)) ∧ w' = w := by
  have hk : bitsLen n ≤ 62 := (bitsLen_le_iff n 62).2 (by omega)
  have hp := wrap_two_pow (bitsLen n) hk
  go_enter Tryd.func83, Tryd.ntmps83
  go_wp2_with (go_at_call 60; refine (len_any n _ (by omega)).mono ?_; rintro e w' ⟨rfl, rfl⟩)
  go_ret
  exact ⟨rfl, rfl⟩
end Go.Proofs.YtifofdciablljaaDoor

/-
  The library's sort at rows of uint64: the choice of the pivot.
-/
set_option linter.unusedSimpArgs false
set_option linter.unusedVariables false
namespace Go.Proofs.YtifofdciablljaaDoor
open Go.RowKit Go.Sort

theorem swo64 : SWO lt64 := ⟨fun x => by simp [lt64], fun x y z h1 h2 => by simp only [lt64, decide_eq_true_eq] at *; omega, fun x y z h1 h2 => by simp only [lt64, decide_eq_false_iff_not] at *; omega⟩

/-- What hangs on the counter behind the heap is the old world, grown. -/
theorem Cnt.grown {w W : World} {t : Nat} (h : Cnt (w.alloc (.cells #[.int .i64 0] 3)) w.heap.size 0 t W) : ∃ n os, W = grow (Sort.ahead w n) os := by
  obtain ⟨n, rfl⟩ := h
  obtain ⟨os, e⟩ := counter_grow w n t
  exact ⟨n, os, e⟩

set_option maxHeartbeats 3200000 in
set_option maxRecDepth 100000 in
theorem pivot64 (blk off cap a b : Nat) (d : Array Nat) (w : World) (hH : Holds e64 w blk off d) (hblk : blk < w.heap.size) (hab : a < b) (hb : b ≤ d.size) (hsz : d.size < 4611686018427387904) :
    Calls Tryd.prog 74 #[.slice (some ⟨blk, off, none⟩) d.size cap, .int .i64 a, .int .i64 b] w fun e w' =>
      e = .returned (.tuple #[.int .i64 (choosePivot lt64 d a b).1, .int .i64 (hintCode (choosePivot lt64 d a b).2)]) ∧ ∃ n os, w' = grow (Sort.ahead w n) os := by
  have hne : w.heap.size ≠ blk := by omega
  have hH0 : Holds e64 (w.alloc (.cells #[.int .i64 0] 3)) blk off d := by rw [alloc_eq_grow]; exact holds_grow _ _ _ _ _ _ hblk hH
  have hS0 : HasCnt (w.alloc (.cells #[.int .i64 0] 3)) w.heap.size 0 0 := fun j hj => by
    obtain rfl : j = 0 := by simpa using hj
    simp
  rw [choosePivot_eq]
  have HH := Lib.hid hH0
  have HS := Lib.hid hS0
  clear hH hH0 hS0
  obtain ⟨I, hI⟩ : ∃ I : Nat, I = a + (b - a) / 4 * 1 := ⟨_, rfl⟩
  obtain ⟨J, hJ⟩ : ∃ J : Nat, J = a + (b - a) / 4 * 2 := ⟨_, rfl⟩
  obtain ⟨K, hK⟩ : ∃ K : Nat, K = a + (b - a) / 4 * 3 := ⟨_, rfl⟩
  have eI : ((a : Int) + ((b : Int) - (a : Int)) / 4) = (I : Int) := by omega
  have eJ : ((a : Int) + ((b : Int) - (a : Int)) / 4 * 2) = (J : Int) := by omega
  have eK : ((a : Int) + ((b : Int) - (a : Int)) / 4 * 3) = (K : Int) := by omega
  by_cases h8 : b - a ≥ 8
  · by_cases h50 : b - a ≥ 50
    · obtain ⟨i1, s1, h1⟩ : ∃ i1 s1, medianAdjacent lt64 d I 0 = (i1, s1) := ⟨_, _, rfl⟩
      obtain ⟨j1, s2, h2⟩ : ∃ j1 s2, medianAdjacent lt64 d J s1 = (j1, s2) := ⟨_, _, rfl⟩
      obtain ⟨k1, s3, h3⟩ : ∃ k1 s3, medianAdjacent lt64 d K s2 = (k1, s3) := ⟨_, _, rfl⟩
      obtain ⟨p, s, h4⟩ : ∃ p s, median lt64 d i1 j1 k1 s3 = (p, s) := ⟨_, _, rfl⟩
      have hraw : rawPivot lt64 d a b = (p, s) := by simp only [rawPivot, if_pos h8, if_pos h50, ← hI, ← hJ, ← hK, h1, h2, h3, h4]
      have m1 := medianAdjacent_mem lt64 d I 0; rw [h1] at m1
      have m2 := medianAdjacent_mem lt64 d J s1; rw [h2] at m2
      have m3 := medianAdjacent_mem lt64 d K s2; rw [h3] at m3
      have n1 := medianAdjacent_count lt64 d I 0; rw [h1] at n1
      have n2 := medianAdjacent_count lt64 d J s1; rw [h2] at n2
      have n3 := medianAdjacent_count lt64 d K s2; rw [h3] at n3
      simp only [] at m1 m2 m3 n1 n2 n3
      have c1 := Lib.hid (adjacent64 d _ rfl blk off cap I w.heap.size 0 0 _ HH.out (by omega) (by omega) hsz hne HS.out (by omega))
      rw [hraw]
      have B : Hid (2 ≤ I ∧ I + 3 < d.size ∧ 2 ≤ J ∧ J + 3 < d.size ∧ 2 ≤ K ∧ K + 3 < d.size ∧ i1 < d.size ∧ j1 < d.size ∧ k1 < d.size ∧ s1 ≤ 3 ∧ s2 ≤ 6 ∧ s3 ≤ 9) := by
        refine ⟨?_, ?_, ?_, ?_, ?_, ?_, ?_, ?_, ?_, ?_, ?_, ?_⟩ <;> omega
      have H1 := Lib.hid h1
      have H2 := Lib.hid h2
      have H3 := Lib.hid h3
      have H4 := Lib.hid h4
      clear h1 h2 h3 h4 hI hJ hK hraw m1 m2 m3 n1 n2 n3
      go_enter Tryd.func74, Tryd.ntmps74
      go_wp2_with fail
      refine c1.out.mono ?_
      rw [H1.out]
      rintro e w1 ⟨rfl, g1⟩
      go_wp2_with fail
      refine (adjacent64 d _ rfl blk off cap J w.heap.size 0 s1 w1 (g1.row HH.out hne) (by have := B.out; omega) (by have := B.out; omega) hsz hne (g1.has HS.out) (by have := B.out; omega)).mono ?_
      rw [H2.out]
      rintro e w2 ⟨rfl, g2⟩
      have g12 := g1.then g2
      go_wp2_with fail
      refine (adjacent64 d _ rfl blk off cap K w.heap.size 0 s2 w2 (g12.row HH.out hne) (by have := B.out; omega) (by have := B.out; omega) hsz hne (g12.has HS.out) (by have := B.out; omega)).mono ?_
      rw [H3.out]
      rintro e w3 ⟨rfl, g3⟩
      have g13 := g12.then g3
      go_wp2_with fail
      refine (median64 d _ rfl blk off cap i1 j1 k1 w.heap.size 0 s3 w3 (g13.row HH.out hne) (by have := B.out; omega) (by have := B.out; omega) (by have := B.out; omega) hne (g13.has HS.out) (by have := B.out; omega)).mono ?_
      rw [H4.out]
      rintro e w4 ⟨rfl, g4⟩
      have G4 := Lib.hid (g13.then g4)
      have cs := (one_cell (G4.out.has HS.out)).1
      clear g1 g2 g3 g4 g12 g13
      go_wp2
      all_goals
        go_ret2
        refine ⟨?_, G4.out.grown⟩
        first
          | (have e0 : (s : Int) = 0 := of_beq_int (by assumption)
             obtain rfl : s = 0 := by omega
             rfl)
          | (have e1 : (s : Int) = 12 := of_beq_int (by assumption)
             obtain rfl : s = 12 := by omega
             rfl)
          | (have e0 : (s : Int) ≠ 0 := of_bne_int (by assumption)
             have e1 : (s : Int) ≠ 12 := of_bne_int (by assumption)
             have e : hintCode (hintOf s) = 0 := by unfold hintOf; rw [if_neg (by omega), if_neg (by omega)]; rfl
             rw [e]
             rfl)
    · obtain ⟨p, s, h4⟩ : ∃ p s, median lt64 d I J K 0 = (p, s) := ⟨_, _, rfl⟩
      have hraw : rawPivot lt64 d a b = (p, s) := by simp only [rawPivot, if_pos h8, if_neg h50, ← hI, ← hJ, ← hK, h4]
      have c1 := Lib.hid (median64 d _ rfl blk off cap I J K w.heap.size 0 0 _ HH.out (by omega) (by omega) (by omega) hne HS.out (by omega))
      rw [hraw]
      have H4 := Lib.hid h4
      clear h4 hI hJ hK hraw
      go_enter Tryd.func74, Tryd.ntmps74
      go_wp2_with fail
      refine c1.out.mono ?_
      rw [H4.out]
      rintro e w4 ⟨rfl, g4⟩
      have G4 := Lib.hid g4
      have cs := (one_cell (G4.out.has HS.out)).1
      clear g4
      go_wp2
      all_goals
        go_ret2
        refine ⟨?_, G4.out.grown⟩
        first
          | (have e0 : (s : Int) = 0 := of_beq_int (by assumption)
             obtain rfl : s = 0 := by omega
             rfl)
          | (have e1 : (s : Int) = 12 := of_beq_int (by assumption)
             obtain rfl : s = 12 := by omega
             rfl)
          | (have e0 : (s : Int) ≠ 0 := of_bne_int (by assumption)
             have e1 : (s : Int) ≠ 12 := of_bne_int (by assumption)
             have e : hintCode (hintOf s) = 0 := by unfold hintOf; rw [if_neg (by omega), if_neg (by omega)]; rfl
             rw [e]
             rfl)
  · have hraw : rawPivot lt64 d a b = (J, 0) := by simp only [rawPivot, if_neg h8, ← hJ]
    rw [hraw]
    clear hraw hI hJ hK
    go_enter Tryd.func74, Tryd.ntmps74
    go_wp2_with fail
    go_ret2
    exact ⟨rfl, (show Cnt _ _ 0 0 _ from ⟨0, (putRow_self _ _ _ _ _ HS.out).symm⟩).grown⟩
end Go.Proofs.YtifofdciablljaaDoor

/-
  The library's sort at rows of uint64: breaking patterns up.
-/
set_option linter.unusedSimpArgs false
set_option linter.unusedVariables false
namespace Go.Proofs.YtifofdciablljaaDoor
open Go.RowKit Go.Sort

/-- The row reads d, and one new block behind the heap holds the little generator's state r. -/
def Brk (w : World) (blk off : Nat) (d : Array Nat) (r : UInt64) (W : World) : Prop := ∃ n, W = grow (putRow e64 (Sort.ahead w n) blk off d) #[Obj.cells #[.int .u64 (r.toNat : Int)] 120]
theorem Brk.cell {w W : World} {blk off : Nat} {d dk : Array Nat} {r : UInt64} (h : Brk w blk off dk r W) (h0 : Holds e64 w blk off d) (hb : blk < w.heap.size) (hs : dk.size = d.size) {G : Nat → Nat} (hG : ∀ t, G t = dk[t]!) : ∀ t, t < d.size → W.cell? ⟨blk, off + t, none⟩ = some (.int .u64 (G t : Nat)) := fun t ht => by
  obtain ⟨n, rfl⟩ := h
  rw [cell?_grow _ _ _ (by simpa using hb), hG]
  exact cell?_putRow _ _ _ _ d dk (holds_ahead _ _ _ _ _ _ h0) hs t (by omega)
theorem Brk.free {w W : World} {blk off : Nat} {d dk : Array Nat} {r : UInt64} (h : Brk w blk off dk r W) (h0 : Holds e64 w blk off d) (hb : blk < w.heap.size) : ∀ t, t < d.size → W.frozen? ⟨blk, off + t, none⟩ = false := fun t ht => by
  obtain ⟨n, rfl⟩ := h
  rw [frozen?_grow _ _ _ (by simpa using hb), frozen?_putRow]
  exact ((holds_ahead _ _ n _ _ _ h0) t ht).2
theorem Brk.state {w W : World} {blk off : Nat} {dk : Array Nat} {r : UInt64} (h : Brk w blk off dk r W) : W.cell? ⟨w.heap.size, 0, none⟩ = some (.int .u64 (r.toNat : Nat)) ∧ W.frozen? ⟨w.heap.size, 0, none⟩ = false := by
  obtain ⟨n, rfl⟩ := h
  have hz : (putRow e64 (Sort.ahead w n) blk off dk).heap.size = w.heap.size := by simp
  rw [← hz]
  exact ⟨grow_one_cell _ _ _, grow_one_frozen _ _ _⟩
theorem Brk.step {w W : World} {blk off : Nat} {dk : Array Nat} {r r' : UInt64} (h : Brk w blk off dk r W) (hb : blk < w.heap.size) (q j k : Nat) (hj : j < dk.size) (hk : k < dk.size) :
    Brk w blk off (swp dk j k) r' ((((W.setCell ⟨w.heap.size, 0, none⟩ (.int .u64 (r'.toNat : Int))).drewN q).setCell ⟨blk, off + j, none⟩ (e64 dk[k]!)).setCell ⟨blk, off + k, none⟩ (e64 dk[j]!)) := by
  obtain ⟨n, rfl⟩ := h
  exact ⟨n + q, step_world e64 w n q blk off dk j k hb hj hk _ _ _⟩
theorem Brk.start {w : World} {blk off L : Nat} {d : Array Nat} (h : Holds e64 w blk off d) (hL : L < 18446744073709551616) : Brk w blk off d (UInt64.ofNat L) (w.alloc (Obj.cells #[.int .u64 (L : Int)] 120)) :=
  ⟨0, by rw [show Sort.ahead w 0 = w from rfl, putRow_self _ _ _ _ _ h, alloc_eq_grow, show (UInt64.ofNat L).toNat = L from by simp; omega]⟩

set_option maxHeartbeats 1600000 in
set_option maxRecDepth 100000 in
theorem break64 (blk off cap a L : Nat) (d : Array Nat) (w : World) (hH : Holds e64 w blk off d) (hblk : blk < w.heap.size) (hb : a + L ≤ d.size) (hsz : d.size < 4611686018427387904) (h8 : 8 ≤ L) :
    Calls Tryd.prog 73 #[.slice (some ⟨blk, off, none⟩) d.size cap, .int .i64 a, .int .i64 ((a + L : Nat) : Int)] w fun e w' =>
      e = .returned (.tuple #[]) ∧ ∃ r, Brk w blk off (breakPatterns d a (a + L)) r w' := by
  rw [breakPatterns_eq d a L h8]
  have np := fun w => pow64 L (by omega) w
  obtain ⟨M, hM⟩ : ∃ M : Nat, M = 1 <<< bitsLen L := ⟨_, rfl⟩
  have hM1 : 1 ≤ M := by rw [hM, Nat.one_shiftLeft]; exact Nat.two_pow_pos _
  have hM2 : M ≤ 2 * L := by rw [hM, Nat.one_shiftLeft]; exact two_pow_bitsLen_le (by omega)
  rw [← hM] at np ⊢
  clear hM
  have HH := Lib.hid hH
  have B0 := Lib.hid (Brk.start (L := L) hH (by omega))
  have NP := Lib.hid np
  clear hH np
  go_enter Tryd.func73, Tryd.ntmps73
  go_wp2_with (first | (go_at_call 83; rw [show ((a : Int) + (L : Int) - (a : Int)) = (L : Int) by omega]; refine (NP.out _).mono ?_; rintro e w' ⟨rfl, rfl⟩))
  go_loopw [9] (fun vi wr => ∃ (t : Nat) (r : UInt64) (dk : Array Nat), vi = .int .i64 ((a + L / 4 * 2 - 1 + t : Nat) : Int) ∧ t ≤ 3 ∧ dk.size = d.size ∧ Brk w blk off dk r wr ∧
      Hid (bpRest a L M (a + L / 4 * 2 - 1) (3 - t) t (r, dk) = bpRest a L M (a + L / 4 * 2 - 1) 3 0 (UInt64.ofNat L, d))) (fun vi _ => a + L / 4 * 2 + 3 - (intOf vi).toNat)
  case atStart => exact ⟨0, UInt64.ofNat L, d, by congr 1; omega, by omega, rfl, B0.out, rfl⟩
  case round =>
    obtain ⟨t, r, dk, rfl, ht, hs, hB, hR⟩ := hrel
    obtain ⟨G, hG⟩ : ∃ G : Nat → Nat, ∀ t, G t = dk[t]! := ⟨fun t => dk[t]!, fun _ => rfl⟩
    have hc := hB.cell HH.out hblk hs hG
    have hf := hB.free HH.out hblk
    obtain ⟨N, hN⟩ : ∃ N : Nat, N = (xorNext r).toNat := ⟨_, rfl⟩
    have lN : N < 18446744073709551616 := by rw [hN]; exact (xorNext r).toNat_lt
    obtain ⟨O, hO⟩ : ∃ O : Nat, O = N &&& (M - 1) := ⟨_, rfl⟩
    have lO : O ≤ M - 1 := by rw [hO]; exact Nat.and_le_right
    have eA : bits .and .u64 (N : Int) ((M : Int) - 1) = (O : Int) := by
      rw [show ((M : Int) - 1) = ((M - 1 : Nat) : Int) by omega, bits_and_u64_nat _ _ lN (by omega), hO]
    have nx := next64 w.heap.size 0 r.toNat r.toNat_lt wr hB.state.1 hB.state.2
    rw [← xorNext_toNat, ← hN] at nx
    have NX := Lib.hid nx
    have HG := Lib.hid hG
    have HB := Lib.hid hB
    have HN : Hid (N = (xorNext r).toNat ∧ O = (xorNext r).toNat &&& (M - 1)) := ⟨hN, by rw [hO, hN]⟩
    clear hG hB nx hN hO
    go_wp2_with (first | (go_at_call 84; refine NX.out.mono ?_; rintro e w' ⟨rfl, rfl⟩))
    · have hLO : L ≤ O := by omega
      by_cases hEq : a + L / 4 * 2 - 1 + t = a + (O - L)
      all_goals
        go_region
        all_goals go_wp2
        go_roundw
        case rel =>
          refine ⟨t + 1, xorNext r, swp dk (a + L / 4 * 2 - 1 + t) (a + (O - L)), by first | rfl | (congr 1 <;> omega), by omega, by rw [size_swp]; exact hs, ?_, ?_⟩
          · (try rw [hEq])
            have st := HB.out.step (r' := xorNext r) hblk 4 (a + L / 4 * 2 - 1 + t) (a + (O - L)) (by omega) (by omega)
            rw [← HG.out, ← HG.out, ← HN.out.1] at st
            (try rw [hEq] at st)
            exact st
          · show _ = _
            rw [← hR.out, bp_step a L M _ t r dk (O - L) (by omega) (by rw [← HN.out.2, if_pos (by omega)])]
        case measure => simp [intOf]; omega
    · have hLO : ¬ L ≤ O := by omega
      by_cases hEq : a + L / 4 * 2 - 1 + t = a + (O)
      all_goals
        go_region
        all_goals go_wp2
        go_roundw
        case rel =>
          refine ⟨t + 1, xorNext r, swp dk (a + L / 4 * 2 - 1 + t) (a + (O)), by first | rfl | (congr 1 <;> omega), by omega, by rw [size_swp]; exact hs, ?_, ?_⟩
          · (try rw [hEq])
            have st := HB.out.step (r' := xorNext r) hblk 4 (a + L / 4 * 2 - 1 + t) (a + (O)) (by omega) (by omega)
            rw [← HG.out, ← HG.out, ← HN.out.1] at st
            (try rw [hEq] at st)
            exact st
          · show _ = _
            rw [← hR.out, bp_step a L M _ t r dk (O) (by omega) (by rw [← HN.out.2, if_neg (by omega)])]
        case measure => simp [intOf]; omega
    · obtain rfl : t = 3 := by omega
      go_end0
      exact ⟨rfl, r, by rw [← hR.out]; exact HB.out⟩

set_option maxHeartbeats 1000000 in
theorem breaks64 (blk off cap a b : Nat) (d : Array Nat) (w : World) (hH : Holds e64 w blk off d) (hblk : blk < w.heap.size) (hab : a ≤ b) (hb : b ≤ d.size) (hsz : d.size < 4611686018427387904) :
    Calls Tryd.prog 73 #[.slice (some ⟨blk, off, none⟩) d.size cap, .int .i64 a, .int .i64 b] w fun e w' =>
      e = .returned (.tuple #[]) ∧ ∃ n os, w' = grow (putRow e64 (Sort.ahead w n) blk off (breakPatterns d a b)) os := by
  by_cases h8 : 8 ≤ b - a
  · obtain ⟨L, rfl⟩ : ∃ L, b = a + L := ⟨b - a, by omega⟩
    refine (break64 blk off cap a L d w hH hblk hb hsz (by omega)).mono ?_
    rintro e w' ⟨he, r, n, hw⟩
    exact ⟨he, n, _, hw⟩
  · have e : breakPatterns d a b = d := by unfold breakPatterns; simp only []; rw [if_neg (by omega)]
    rw [e]
    have HH := Lib.hid hH
    clear hH e
    go_enter Tryd.func73, Tryd.ntmps73
    go_wp2
    go_end0
    exact ⟨rfl, 0, #[], by rw [show Sort.ahead w 0 = w from rfl, putRow_self _ _ _ _ _ HH.out, grow_empty]⟩
end Go.Proofs.YtifofdciablljaaDoor

/-
  The library's sort at rows of uint64: the partial sort by insertion.
-/
set_option linter.unusedSimpArgs false
set_option linter.unusedVariables false
namespace Go.Proofs.YtifofdciablljaaDoor
open Go.RowKit Go.Sort

set_option maxHeartbeats 6400000 in
set_option maxRecDepth 100000 in
theorem partial64 (blk off cap a b : Nat) (d : Array Nat) (w : World) (hH : Holds e64 w blk off d) (hab : a < b) (hb : b ≤ d.size) (hsz : d.size < 4611686018427387904) :
    Calls Tryd.prog 76 #[.slice (some ⟨blk, off, none⟩) d.size cap, .int .i64 a, .int .i64 b] w fun e w' =>
      e = .returned (.bool (Sort.partialInsertionSort lt64 d a b).2) ∧ Left w blk off (Sort.partialInsertionSort lt64 d a b).1 w' := by
  have HH := Lib.hid hH
  have HS := Lib.hid (Left.self hH)
  clear hH
  go_enter Tryd.func76, Tryd.ntmps76
  go_wp2
  go_loopw [7, 8] (fun vi vs wr => ∃ (i s : Nat) (dk : Array Nat), vi = .int .i64 (i : Int) ∧ vs = .int .i64 (s : Int) ∧ s ≤ 5 ∧ a < i ∧ i ≤ b ∧ dk.size = d.size ∧ Left w blk off dk wr ∧
      Hid (partialIns lt64 a b (5 - s) i dk = partialIns lt64 a b 5 (a + 1) d)) (fun _ vs _ => 5 - (intOf vs).toNat)
  case atStart => exact ⟨a + 1, 0, d, by go_num, rfl, by omega, by omega, by omega, rfl, HS.out, rfl⟩
  case round =>
    obtain ⟨i, s, dk, rfl, rfl, hs5, hai, hib, hs, hL, hE⟩ := hrel
    obtain ⟨G, hG⟩ : ∃ G : Nat → Nat, ∀ t, G t = dk[t]! := ⟨fun t => dk[t]!, fun _ => rfl⟩
    have hc := hL.cell HH.out hs hG
    have hf := hL.free HH.out hs
    have HG := Lib.hid hG
    have HL := Lib.hid hL
    clear hG hL HS
    refine wp_seq_k fun K0 hK0 => ?_
    have HK0 := Lib.hid hK0
    clear hK0
    by_cases hs4 : s < 5
    · go_wp2
      refine HK0.out _ _ ?_
      rename World => W1
      refine wp_seq_k fun Ks hKs => ?_
      have HKs := Lib.hid hKs
      clear hKs HK0
      refine wp_block ?_
      refine wp_seq_k fun K1 hK1 => ?_
      have HK1 := Lib.hid hK1
      clear hK1
      go_cut [7] from 13 to 132 (fun v wz => ∃ (k : Nat), v = .int .i64 (k : Int) ∧ i ≤ k ∧ k ≤ b ∧ Hid (scanSorted lt64 dk b i = k) ∧ ∃ n, wz = W1.drewN n)
      case first =>
        go_wp2
        go_loopw [7] (fun v wz => ∃ (k n : Nat), v = .int .i64 (k : Int) ∧ i ≤ k ∧ k ≤ b ∧ wz = W1.drewN n ∧ Hid (scanSorted lt64 dk b i = scanSorted lt64 dk b k)) (fun v _ => b - (intOf v).toNat)
        case atStart => exact ⟨i, 0, rfl, Nat.le_refl _, hib, rfl, rfl⟩
        case round =>
          obtain ⟨k, n, rfl, hik, hkb, hw, hsc⟩ := hrel
          have hc1 : ∀ t, t < d.size → wr.cell? ⟨blk, off + t, none⟩ = some (.int .u64 (G t : Nat)) := fun t ht => by rw [hw]; exact hc t ht
          have HW := Lib.hid hw
          clear hw hc
          by_cases hle : k < b
          · go_wp2_with fail
            go_big_quiet (first | (go_at_call 52; refine Calls.quiet_of_same (less64 _ _ _)))
            go_wp2
            · have ht : lt64 (G k) (G (k - 1)) = false := by
                have h : (!lt64 (G k) (G (k - 1))) = true := by assumption
                simpa using h
              go_roundw
              case rel => exact ⟨k + 1, n + nq, by go_num, by omega, by omega, by rw [HW.out, World.drewN_drewN], hsc.out.trans (scanSorted_go lt64 dk b k hle (by rw [← HG.out, ← HG.out]; exact ht))⟩
              case measure => simp [intOf]; omega
            · have ht : lt64 (G k) (G (k - 1)) = true := by
                have h : (!lt64 (G k) (G (k - 1))) = false := by assumption
                simpa using h
              go_meet
              case rel => exact ⟨k, rfl, hik, hkb, hsc.out.trans (scanSorted_stop lt64 dk b k (Or.inr (by rw [← HG.out, ← HG.out]; exact ht))), n + nq, by rw [HW.out, World.drewN_drewN]⟩
          · go_wp2_with fail
            go_big_quiet (first | (go_at_call 52; refine Calls.quiet_of_same (less64 _ _ _)))
            go_wp2
            go_meet
            case rel => exact ⟨k, rfl, hik, hkb, hsc.out.trans (scanSorted_stop lt64 dk b k (Or.inl hle)), n + nq, by rw [HW.out, World.drewN_drewN]⟩
      case rest =>
        obtain ⟨k, rfl, hik, hkb, hK, n1, hw1⟩ := hcut
        have hc1 : ∀ t, t < d.size → wc.cell? ⟨blk, off + t, none⟩ = some (.int .u64 (G t : Nat)) := fun t ht => by rw [hw1]; exact hc t ht
        have hf1 : ∀ t, t < d.size → wc.frozen? ⟨blk, off + t, none⟩ = false := fun t ht => by rw [hw1]; exact hf t ht
        have L1 : Hid (Left w blk off dk wc) := by rw [hw1]; exact HL.out.on n1
        clear hw1 hc hf HL
        refine HK1.out _ _ ?_
        clear HK1
        by_cases hkb' : k = b
        · have HE := Lib.hid (pi_true lt64 a b s i dk hs4 (hK.out.trans hkb'))
          subst hkb'
          go_wp2
          go_ret
          have e : Sort.partialInsertionSort lt64 d a k = (dk, true) := by unfold Sort.partialInsertionSort; rw [← hE.out, HE.out]
          rw [e]
          exact ⟨rfl, L1.out⟩
        · by_cases h50 : b - a < 50
          · have HE := Lib.hid (pi_short lt64 a b s i dk hs4 (by rw [hK.out]; exact hkb') h50)
            go_wp2
            go_ret
            have e : Sort.partialInsertionSort lt64 d a b = (dk, false) := by unfold Sort.partialInsertionSort; rw [← hE.out, HE.out]
            rw [e]
            exact ⟨rfl, L1.out⟩
          · have HE := Lib.hid (pi_go lt64 a b s i k dk hs4 hK.out hkb' h50)
            have HS := Lib.hid (L1.out.swapd k (k - 1) (by omega) (by omega) (a := (G (k - 1) : Int)) (b := (G k : Int)) (by rw [HG.out]) (by rw [HG.out]))
            obtain ⟨v3, hy3⟩ := cell?_setCell_some (w := wc) (p := ⟨blk, off + k, none⟩) (x := .int .u64 (G (k - 1))) (q := ⟨blk, off + (k - 1), none⟩) (hc1 (k - 1) (by omega))
            refine wp_seq_k fun K2 hK2 => ?_
            have HK2 := Lib.hid hK2
            clear hK2
            go_wp2
            refine HK2.out _ _ ?_
            refine wp_seq_k fun K3 hK3 => ?_
            have HK3 := Lib.hid hK3
            clear hK3
            go_wp2
            refine HK3.out _ _ ?_
            refine wp_seq_k fun K4 hK4 => ?_
            have HK4 := Lib.hid hK4
            clear hK4
            go_wp2_with fail
            go_region
            all_goals go_wp2
            refine HK4.out _ _ ?_
            clear HK2 HK3 HK4 hc1 hf1 hy3 v3
            generalize World.drew _ = W2 at HS ⊢
            obtain ⟨d2, hd2⟩ : ∃ d2, d2 = swp dk k (k - 1) := ⟨_, rfl⟩
            rw [← hd2] at HS HE
            have hs2 : d2.size = d.size := by rw [hd2, size_swp]; exact hs
            clear hd2
            refine wp_seq_k fun K5 hK5 => ?_
            have HK5 := Lib.hid hK5
            clear hK5
            go_cut [9] from 13 to 132 (fun _ wz => ∃ d3 : Array Nat, d3.size = d.size ∧ Left w blk off d3 wz ∧ Hid (fixDown lt64 a k d2 = d3))
            case first =>
              by_cases h2 : k - a ≥ 2
              · go_wp2
                go_loopw [9] (fun v wz => ∃ (j : Nat) (dj : Array Nat), v = .int .i64 (j : Int) ∧ j ≤ k - 1 ∧ dj.size = d.size ∧ Left w blk off dj wz ∧ Hid (shiftDown lt64 j dj = shiftDown lt64 (k - 1) d2)) (fun v _ => (intOf v).toNat)
                case atStart => exact ⟨k - 1, d2, by go_num, Nat.le_refl _, hs2, HS.out, rfl⟩
                case round =>
                  obtain ⟨j, dj, rfl, hj, hsj, hM, hI⟩ := hrel
                  obtain ⟨G, hG⟩ : ∃ G : Nat → Nat, ∀ t, G t = dj[t]! := ⟨fun t => dj[t]!, fun _ => rfl⟩
                  have hc := hM.cell HH.out hsj hG
                  have hf := hM.free HH.out hsj
                  have HG := Lib.hid hG
                  have HM := Lib.hid hM
                  clear hG hM
                  have out : (j = 0 ∨ lt64 dj[j]! dj[j - 1]! = false) → Hid (fixDown lt64 a k d2 = dj) := fun h => show _ = _ by
                    unfold fixDown
                    rw [if_pos h2, ← hI.out, shiftDown_stop lt64 j dj h]
                  have OUT := Lib.hid out
                  clear out
                  by_cases h1 : 1 ≤ j
                  · go_wp2_with fail
                    go_big_quiet (first | (go_at_call 52; refine Calls.quiet_of_same (less64 _ _ _)))
                    go_wp2
                    · have hl : lt64 (G j) (G (j - 1)) = false := by
                        have h : (!lt64 (G j) (G (j - 1))) = true := by assumption
                        simpa using h
                      go_meet
                      case rel => exact ⟨dj, hsj, HM.out.on nq, OUT.out (Or.inr (by rw [← HG.out, ← HG.out]; exact hl))⟩
                    · have hl : lt64 (G j) (G (j - 1)) = true := by
                        have h : (!lt64 (G j) (G (j - 1))) = false := by assumption
                        simpa using h
                      go_region
                      all_goals go_wp2
                      go_roundw
                      case rel =>
                        refine ⟨j - 1, swp dj j (j - 1), by go_num, by omega, by rw [size_swp]; exact hsj, ?_, ?_⟩
                        · exact HM.out.swap (nq + 1) j (j - 1) (by omega) (by omega) (by rw [HG.out]) (by rw [HG.out])
                        · exact (shiftDown_go lt64 j dj h1 (by rw [← HG.out, ← HG.out]; exact hl)).symm.trans hI.out
                      case measure => simp [intOf]; omega
                  · go_wp2
                    go_meet
                    case rel => exact ⟨dj, hsj, HM.out, OUT.out (Or.inl (by omega))⟩
              · go_wp2
                go_meet
                case rel => exact ⟨d2, hs2, HS.out, by show _ = _; unfold fixDown; rw [if_neg h2]⟩
            case rest =>
              obtain ⟨d3, hs3, hL3, hD⟩ := hcut
              have HL3 := Lib.hid hL3
              clear hL3 HS
              refine HK5.out _ _ ?_
              clear HK5
              have fin : ∀ (d4 : Array Nat) (wz : World), (fixUp lt64 b k d3 = d4 ∧ d4.size = d.size) → Left w blk off d4 wz → ∃ (i' s' : Nat) (dk' : Array Nat), Value.int .i64 (k : Int) = .int .i64 (i' : Int) ∧ Value.int .i64 ((s : Int) + 1) = .int .i64 (s' : Int) ∧ s' ≤ 5 ∧ a < i' ∧ i' ≤ b ∧ dk'.size = d.size ∧ Left w blk off dk' wz ∧
                  Hid (partialIns lt64 a b (5 - s') i' dk' = partialIns lt64 a b 5 (a + 1) d) := fun d4 wz h hl =>
                ⟨k, s + 1, d4, rfl, by go_num, by omega, by omega, hkb, h.2, hl, show _ = _ by rw [← hE.out, HE.out, hD.out, h.1]⟩
              have FIN := Lib.hid fin
              clear fin
              by_cases h2 : b - k ≥ 2
              · go_wp2
                go_loopw [10] (fun v wz => ∃ (j : Nat) (dj : Array Nat), v = .int .i64 (j : Int) ∧ k + 1 ≤ j ∧ j ≤ b ∧ dj.size = d.size ∧ Left w blk off dj wz ∧ Hid (shiftUp lt64 b j dj = shiftUp lt64 b (k + 1) d3)) (fun v _ => b - (intOf v).toNat)
                case atStart => exact ⟨k + 1, d3, by go_num, Nat.le_refl _, by omega, hs3, HL3.out, rfl⟩
                case round =>
                  obtain ⟨j, dj, rfl, hj, hjb, hsj, hM, hI⟩ := hrel
                  obtain ⟨G, hG⟩ : ∃ G : Nat → Nat, ∀ t, G t = dj[t]! := ⟨fun t => dj[t]!, fun _ => rfl⟩
                  have hc := hM.cell HH.out hsj hG
                  have hf := hM.free HH.out hsj
                  have HG := Lib.hid hG
                  have HM := Lib.hid hM
                  clear hG hM
                  have out : (¬ j < b ∨ lt64 dj[j]! dj[j - 1]! = false) → fixUp lt64 b k d3 = dj ∧ dj.size = d.size := fun h => by
                    refine ⟨?_, hsj⟩
                    unfold fixUp
                    rw [if_pos h2, ← hI.out, shiftUp_stop lt64 b j dj h]
                  have OUT := Lib.hid out
                  clear out
                  by_cases h1 : j < b
                  · go_wp2_with fail
                    go_big_quiet (first | (go_at_call 52; refine Calls.quiet_of_same (less64 _ _ _)))
                    go_wp2
                    · have hl : lt64 (G j) (G (j - 1)) = false := by
                        have h : (!lt64 (G j) (G (j - 1))) = true := by assumption
                        simpa using h
                      refine HKs.out _ _ ?_
                      go_wp2
                      go_roundw
                      case rel => exact FIN.out _ _ (OUT.out (Or.inr (by rw [← HG.out, ← HG.out]; exact hl))) (HM.out.on nq)
                      case measure => simp [intOf]; omega
                    · have hl : lt64 (G j) (G (j - 1)) = true := by
                        have h : (!lt64 (G j) (G (j - 1))) = false := by assumption
                        simpa using h
                      go_region
                      all_goals go_wp2
                      go_roundw
                      case rel =>
                        refine ⟨j + 1, swp dj j (j - 1), by go_num, by omega, by omega, by rw [size_swp]; exact hsj, ?_, ?_⟩
                        · exact HM.out.swap (nq + 1) j (j - 1) (by omega) (by omega) (by rw [HG.out]) (by rw [HG.out])
                        · exact (shiftUp_go lt64 b j dj h1 (by rw [← HG.out, ← HG.out]; exact hl)).symm.trans hI.out
                      case measure => simp [intOf]; omega
                  · go_wp2
                    refine HKs.out _ _ ?_
                    go_wp2
                    go_roundw
                    case rel => exact FIN.out _ _ (OUT.out (Or.inl h1)) HM.out
                    case measure => simp [intOf]; omega
              · go_wp2
                refine HKs.out _ _ ?_
                go_wp2
                go_roundw
                case rel => exact FIN.out _ _ (by unfold fixUp; rw [if_neg h2]; exact ⟨rfl, hs3⟩) HL3.out
                case measure => simp [intOf]; omega
    · obtain rfl : s = 5 := by omega
      go_wp2
      go_ret
      have e : Sort.partialInsertionSort lt64 d a b = (dk, false) := by unfold Sort.partialInsertionSort; rw [← hE.out]; rfl
      rw [e]
      exact ⟨rfl, HL.out⟩
end Go.Proofs.YtifofdciablljaaDoor

/-
  The library's sort at rows of uint64: pdqsort, its loop and its calls of itself.
  What a round does is laid down once as a plain fact ('Turn'), with a letter for the round's values; the walk then reckons with letters alone.
-/
set_option linter.unusedSimpArgs false
set_option linter.unusedVariables false
namespace Go.Proofs.YtifofdciablljaaDoor
open Go.RowKit Go.Sort

/-- All that one round may do, over the letter R for its values. -/
structure Turn (d : Array Nat) (a b limit : Nat) (wb wp : Bool) (R : Rd Nat) : Prop where
  s1 : R.d1.size = d.size
  s2 : R.d2.size = d.size
  s3 : R.pi.1.size = d.size
  first : wb = false → R.d1 = breakPatterns d a b ∧ R.lim = limit - 1
  keep : wb = true → R.d1 = d ∧ R.lim = limit
  lim : R.lim ≤ limit
  at' : a ≤ R.pivot ∧ R.pivot < b
  c1 : a ≤ R.c.1 ∧ R.c.1 < b
  choose : choosePivot lt64 R.d1 a b = R.c
  dec : R.c.2 = .decreasing → R.d2 = reverseRange R.d1 a b ∧ R.pivot = (b - 1) - (R.c.1 - a) ∧ R.hint = .increasing
  same : R.c.2 ≠ .decreasing → R.d2 = R.d1 ∧ R.pivot = R.c.1 ∧ R.hint = R.c.2
  part : (wb && wp && decide (R.hint = .increasing)) = true → partialInsertionSort lt64 R.d2 a b = R.pi
  leave : (wb && wp && decide (R.hint = .increasing)) = false → R.pi = (R.d2, false)
  done : ¬ b - a ≤ 12 → ¬ limit = 0 → R.pi.2 = true → pdq lt64 d a b limit wb wp = R.pi.1
  equal : ¬ b - a ≤ 12 → ¬ limit = 0 → R.pi.2 = false → (decide (a > 0) && !lt64 R.pi.1[a - 1]! R.pi.1[R.pivot]!) = true → ∀ mid d4, partitionEqual lt64 R.pi.1 a b R.pivot = (mid, d4) →
    a < mid ∧ mid ≤ b ∧ d4.size = d.size ∧ Go.Sort.Below lt64 mid b d4 ∧ pdq lt64 d a b limit wb wp = pdq lt64 d4 mid b R.lim wb wp
  split : ¬ b - a ≤ 12 → ¬ limit = 0 → R.pi.2 = false → (decide (a > 0) && !lt64 R.pi.1[a - 1]! R.pi.1[R.pivot]!) = false → ∀ mid ap d4, partition lt64 R.pi.1 a b R.pivot = (mid, ap, d4) →
    a ≤ mid ∧ mid < b ∧ d4.size = d.size ∧ Go.Sort.Below lt64 a mid d4 ∧ Go.Sort.Below lt64 (mid + 1) b d4 ∧
    (mid - a < b - mid → ∀ d5, pdq lt64 d4 a mid R.lim true true = d5 → d5.size = d.size ∧ Go.Sort.Below lt64 (mid + 1) b d5 ∧ pdq lt64 d a b limit wb wp = pdq lt64 d5 (mid + 1) b R.lim (decide (mid - a ≥ (b - a) / 8)) ap) ∧
    (¬ mid - a < b - mid → ∀ d5, pdq lt64 d4 (mid + 1) b R.lim true true = d5 → d5.size = d.size ∧ Go.Sort.Below lt64 a mid d5 ∧ pdq lt64 d a b limit wb wp = pdq lt64 d5 a mid R.lim (decide (b - mid ≥ (b - a) / 8)) ap)

theorem pdq_sorts64 : pdq_stmt lt64 := pdq_holds insertionSort_holds heapSort_holds partialInsertionSort_holds (partition_holds lt64) (partitionEqual_holds lt64) reverseRange_holds

/-- Every round has such values. -/
theorem turn64 (d : Array Nat) (a b limit : Nat) (wb wp : Bool) (hab : a < b) (hb : b ≤ d.size) (hB : Go.Sort.Below lt64 a b d) : ∃ R, Turn d a b limit wb wp R := by
  obtain ⟨s1, -, hc, s2, -, hp, s3, B3⟩ := rd_facts (limit := limit) (wb := wb) (wp := wp) swo64 partialInsertionSort_holds reverseRange_holds hab hb hB
  refine ⟨rd lt64 d a b limit wb wp, s1, s2, s3, ?_, ?_, rd_lim_le, hp, hc, rfl, rd_dec, rd_not, fun h => (rd_pi_yes h).symm, rd_pi_no, pdq_done, ?_, ?_⟩
  · rintro rfl; exact rd_false
  · rintro rfl; exact rd_true
  · intro h1 h2 h3 h4 mid d4 hx
    have h5 := h4
    simp only [Bool.and_eq_true, decide_eq_true_eq, Bool.not_eq_true'] at h5
    obtain ⟨r1, r2, r3, r4, -⟩ := round_eq swo64 (partitionEqual_holds lt64) h5.1 hp.1 hp.2 (show b ≤ (rd lt64 d a b limit wb wp).pi.1.size by rw [s3]; exact hb) B3 h5.2 hx
    exact ⟨r1, r2, r3.trans s3, r4, by rw [pdq_eq h1 h2 h3 h4 (by rw [hx]; exact ⟨r1, r2⟩), hx]⟩
  · intro h1 h2 h3 h4 mid ap d4 hx
    obtain ⟨r1, r2, r3, r4, r5, r6, r7⟩ := round_part swo64 (partition_holds lt64) hp.1 hp.2 (show b ≤ (rd lt64 d a b limit wb wp).pi.1.size by rw [s3]; exact hb) B3 hx
    refine ⟨r1, r2, r3.trans s3, r4, r5, ?_, ?_⟩
    · rintro h d5 rfl
      obtain ⟨pL, sL⟩ := pdq_sorts64 swo64 d4 a mid (rd lt64 d a b limit wb wp).lim true true r1 (by rw [r3, s3]; omega) r4
      exact ⟨by rw [pL.1, r3, s3], (r6 _ pL sL).1, by rw [pdq_left h1 h2 h3 h4 (by rw [hx]; exact ⟨r1, r2⟩) (by rw [hx]; exact h), hx]⟩
    · rintro h d5 rfl
      obtain ⟨pL, sL⟩ := pdq_sorts64 swo64 d4 (mid + 1) b (rd lt64 d a b limit wb wp).lim true true (by omega) (by rw [r3, s3]; omega) r5
      exact ⟨by rw [pL.1, r3, s3], (r7 _ pL sL).1, by rw [pdq_right h1 h2 h3 h4 (by rw [hx]; exact ⟨r1, r2⟩) (by rw [hx]; exact h), hx]⟩

theorem two_of {h : Hint} (e : hintCode h = 2) : h = .decreasing := by cases h <;> simp [hintCode] at e ⊢

/-- An eighth of the length, over int and over Nat. -/
theorem eighth64 {x y p q : Nat} (h1 : q ≤ p) (h2 : y ≤ x) : decide (((x : Int) - (y : Int)) / 8 ≤ (p : Int) - (q : Int)) = decide (p - q ≥ (x - y) / 8) :=
  decide_eq_decide.2 ⟨fun h => by omega, fun h => by omega⟩

set_option maxHeartbeats 6400000 in
set_option maxRecDepth 1000000 in
theorem pdq64 : ∀ (N blk off cap len a b limit : Nat) (d : Array Nat) (w : World), d.size = len → b - a < N → Holds e64 w blk off d → blk < w.heap.size → a ≤ b → b ≤ d.size → d.size < 4611686018427387904 → limit < 4611686018427387904 → Go.Sort.Below lt64 a b d →
    Calls Tryd.prog 59 #[.slice (some ⟨blk, off, none⟩) len cap, .int .i64 a, .int .i64 b, .int .i64 limit] w fun e w' =>
      e = .returned (.tuple #[]) ∧ At e64 w blk off (pdq lt64 d a b limit true true) w' := by
  intro N
  induction N with
  | zero => intro _ _ _ _ _ _ _ _ _ _ h; exact absurd h (Nat.not_lt_zero _)
  | succ N ih =>
    intro blk off cap len a b limit d w hlen hN hH hblk hab hb hsz hlimit hB
    obtain rfl := hlen
    have IH := Lib.hid ih
    clear ih
    have HH := Lib.hid hH
    have HS := Lib.hid (At.refl hH)
    clear hH
    go_enter Tryd.func59, Tryd.ntmps59
    go_wp2
    go_loopg [1, 2, 3, 8, 9] (b - a) (fun k v1 v2 v3 v8 v9 wr => ∃ (p q lim : Nat) (wb wp : Bool) (dk : Array Nat), v1 = .int .i64 p ∧ v2 = .int .i64 q ∧ v3 = .int .i64 lim ∧ v8 = .bool wb ∧ v9 = .bool wp ∧
      p ≤ q ∧ q ≤ d.size ∧ q - p ≤ k ∧ k ≤ b - a ∧ lim ≤ limit ∧ dk.size = d.size ∧ Go.Sort.Below lt64 p q dk ∧ At e64 w blk off dk wr ∧ Hid (pdq lt64 dk p q lim wb wp = pdq lt64 d a b limit true true))
    case atStart => exact ⟨a, b, limit, true, true, d, rfl, rfl, rfl, rfl, rfl, hab, hb, Nat.le_refl _, Nat.le_refl _, Nat.le_refl _, rfl, hB, HS.out, rfl⟩
    case round =>
      obtain ⟨p, q, lim, wb, wp, dk, rfl, rfl, rfl, rfl, rfl, hpq, hq, hk, hkN, hlim, hs, hBk, hA, hE⟩ := hrel
      have o : ∀ (d' : Array Nat) (W : World), At e64 w blk off d' W → d'.size = d.size → Holds e64 W blk off d' ∧ blk < W.heap.size := fun _ _ h h' => h.holds HH.out h' hblk
      have O := Lib.hid o
      clear o HS
      have HA := Lib.hid hA
      clear hA
      by_cases h12 : q - p ≤ 12
      · have h12z : (q : Int) - (p : Int) ≤ 12 := by omega
        go_wp2_with fail
        rw [← hs]
        refine (insertion64 blk off cap p q dk _ (O.out _ _ HA.out hs).1 hpq (by omega) (by omega)).mono ?_
        rintro e w1 ⟨rfl, h1⟩
        have H1 := Lib.hid h1
        clear h1
        rw [hs]
        go_wp2
        (try simp only [Exit.inBlock, Exit.then]); refine bodyPost_ret (results_none rfl _ _ _) rfl ?_
        rw [← hE.out, pdq_small h12]
        exact ⟨rfl, HA.out.step hblk (insertionSort_holds swo64 dk p q hpq (by omega)).1.1 H1.out⟩
      · have h12z : ¬ ((q : Int) - (p : Int) ≤ 12) := by omega
        by_cases hl0 : lim = 0
        · subst hl0
          go_wp2_with fail
          refine (heap64 blk off d.size cap dk hs p q _ (O.out _ _ HA.out hs).1 hpq (by omega) (by omega)).mono ?_
          rintro e w1 ⟨rfl, h1⟩
          have H1 := Lib.hid h1
          clear h1
          go_wp2
          (try simp only [Exit.inBlock, Exit.then]); refine bodyPost_ret (results_none rfl _ _ _) rfl ?_
          rw [← hE.out, pdq_heap h12 rfl]
          exact ⟨rfl, HA.out.step hblk (heapSort_holds swo64 dk p q hpq (by omega)).1.1 H1.out⟩
        · obtain ⟨R, T⟩ := turn64 dk p q lim wb wp (by omega) (by omega) hBk
          have HT := Lib.hid T
          have hc1 := HT.out.c1
          have hpv := HT.out.at'
          clear T hBk
          go_upto_if 35 with fail
          go_cut [3] from 19 (fun v3 wc => v3 = .int .i64 (R.lim : Int) ∧ At e64 w blk off R.d1 wc)
          case first =>
            cases wb
            · have e := Lib.hid (HT.out.first rfl)
              go_wp2_with fail
              rw [← hs]
              refine (breaks64 blk off cap p q dk _ (O.out _ _ HA.out hs).1 (O.out _ _ HA.out hs).2 hpq (by omega) (by omega)).mono ?_
              rintro e w1 ⟨rfl, h1⟩
              have H1 := Lib.hid h1
              clear h1
              rw [hs]
              go_wp2
              go_meet
              case rel =>
                refine ⟨?_, HA.out.stepG hblk HT.out.s1 (by rw [e.out.1]; exact H1.out)⟩
                show Value.int .i64 ((lim : Int) - 1) = Value.int .i64 (R.lim : Int)
                rw [e.out.2]
                congr 1
                omega
            · have e := Lib.hid (HT.out.keep rfl)
              go_wp2_with fail
              go_meet
              case rel => exact ⟨by rw [e.out.2], by rw [e.out.1]; exact HA.out⟩
          case rest =>
            obtain ⟨rfl, hA1⟩ := hcut
            have HA1 := Lib.hid hA1
            clear hA1
            have hz1 : R.d1.size = d.size := HT.out.s1.trans hs
            have cp : Calls Tryd.prog 74 #[.slice (some ⟨blk, off, none⟩) d.size cap, .int .i64 p, .int .i64 q] wc fun e w' =>
                e = .returned (.tuple #[.int .i64 R.c.1, .int .i64 (hintCode R.c.2)]) ∧ ∃ n os, w' = grow (Sort.ahead wc n) os := by
              have h := pivot64 blk off cap p q R.d1 wc (O.out _ _ HA1.out hz1).1 (O.out _ _ HA1.out hz1).2 (by omega) (by omega) (by omega)
              rw [HT.out.choose, hz1] at h
              exact h
            have CP := Lib.hid cp
            clear cp
            go_upto_if 50 with (go_at_call 74; refine CP.out.mono ?_; rintro e w2 ⟨rfl, hw2⟩)
            have HA2 := Lib.hid (HA1.out.same HH.out hz1 hblk hw2)
            clear hw2 CP HA1
            go_cut [11, 12] from 19 (fun v11 v12 wc => v11 = .int .i64 (R.pivot : Int) ∧ v12 = .int .i64 (hintCode R.hint) ∧ At e64 w blk off R.d2 wc)
            case first =>
              by_cases hh : R.c.2 = .decreasing
              · have hcode : hintCode R.c.2 = 2 := by rw [hh]; rfl
                have e := Lib.hid (HT.out.dec hh)
                go_wp2_with fail
                rw [← hz1]
                refine (reverse64 blk off cap p q R.d1 _ (O.out _ _ HA2.out hz1).1 hpq (by omega) (by omega)).mono ?_
                rintro e w3 ⟨rfl, h3⟩
                have H3 := Lib.hid h3
                clear h3
                rw [hz1]
                go_wp2
                go_meet
                case rel =>
                  refine ⟨?_, by rw [e.out.2.2]; rfl, by rw [e.out.1]; exact HA2.out.step hblk (by rw [← e.out.1, HT.out.s2, HT.out.s1]) H3.out⟩
                  rw [e.out.2.1]
                  congr 1
                  omega
              · have hcode : ¬ (hintCode R.c.2 = 2) := fun h => hh (two_of h)
                have e := Lib.hid (HT.out.same hh)
                go_wp2_with fail
                go_meet
                case rel => exact ⟨by rw [e.out.2.1], by rw [e.out.2.2], by rw [e.out.1]; exact HA2.out⟩
            case rest =>
              obtain ⟨rfl, rfl, hA3⟩ := hcut
              have HA3 := Lib.hid hA3
              clear hA3 HA2
              have hz2 : R.d2.size = d.size := HT.out.s2.trans hs
              obtain ⟨go, hgo⟩ : ∃ go : Bool, go = (wb && wp && decide (R.hint = .increasing)) := ⟨_, rfl⟩
              have HG := Lib.hid hgo
              clear hgo
              go_upto_region 15 with fail
              go_cut [12, 68] from 19 (fun v12 v68 wx => v12 = .int .i64 (hintCode R.hint) ∧ v68 = .bool go ∧ wx = wc)
              case first =>
                cases wb <;> cases wp <;> cases hh3 : R.hint <;>
                  (have hcode3 := congrArg hintCode hh3
                   simp only [hintCode] at hcode3
                   have HH3 := Lib.hid hh3
                   clear hh3
                   go_wp2_with fail
                   go_meet
                   exact ⟨by simp [HH3.out, hintCode], by simp [HG.out, HH3.out, hintCode], rfl⟩)
              case rest =>
                obtain ⟨rfl, rfl, rfl⟩ := hcut
                go_upto_if 68 with fail
                go_cut [] from 19 (fun wx => R.pi.2 = false ∧ At e64 w blk off R.pi.1 wx)
                case first =>
                  cases go
                  · have e := Lib.hid (HT.out.leave HG.out.symm)
                    go_wp2_with fail
                    go_meet
                    case rel => exact ⟨by rw [e.out], by rw [e.out]; exact HA3.out⟩
                  · have e := Lib.hid (HT.out.part HG.out.symm)
                    have cs : Calls Tryd.prog 76 #[.slice (some ⟨blk, off, none⟩) d.size cap, .int .i64 p, .int .i64 q] wc fun e w' =>
                        e = .returned (.bool R.pi.2) ∧ Left wc blk off R.pi.1 w' := by
                      have h := partial64 blk off cap p q R.d2 wc (O.out _ _ HA3.out hz2).1 (by omega) (by omega) (by omega)
                      rw [e.out, hz2] at h
                      exact h
                    cases hp : R.pi.2
                    · have HP := Lib.hid hp
                      rw [hp] at cs
                      have CS := Lib.hid cs
                      clear cs hp
                      go_wp2_with (go_at_call 76; refine CS.out.mono ?_; rintro e w4 ⟨rfl, hw4⟩)
                      go_meet
                      case rel => exact ⟨HP.out, HA3.out.step hblk (by rw [HT.out.s3, HT.out.s2]) hw4⟩
                    · have HP := Lib.hid hp
                      rw [hp] at cs
                      have CS := Lib.hid cs
                      clear cs hp
                      go_wp2_with (go_at_call 76; refine CS.out.mono ?_; rintro e w4 ⟨rfl, hw4⟩)
                      (try simp only [Exit.inBlock, Exit.then]); refine bodyPost_ret (results_none rfl _ _ _) rfl ?_
                      rw [← hE.out, HT.out.done h12 hl0 HP.out]
                      exact ⟨rfl, HA3.out.step hblk (by rw [HT.out.s3, HT.out.s2]) hw4⟩
                case rest =>
                  obtain ⟨hp2, hA5⟩ := hcut
                  have HP := Lib.hid hp2
                  have HA5 := Lib.hid hA5
                  clear hp2 hA5 HA3 HG
                  have hz3 : R.pi.1.size = d.size := HT.out.s3.trans hs
                  obtain ⟨G, hG⟩ : ∃ G : Nat → Nat, ∀ t, G t = R.pi.1[t]! := ⟨fun t => R.pi.1[t]!, fun _ => rfl⟩
                  have hc : ∀ t, t < d.size → wc.cell? ⟨blk, off + t, none⟩ = some (.int .u64 (G t : Nat)) := fun t ht => by
                    rw [hG]; exact ((O.out _ _ HA5.out hz3).1 t (by omega)).1
                  have hf : ∀ t, t < d.size → wc.frozen? ⟨blk, off + t, none⟩ = false := fun t ht => ((O.out _ _ HA5.out hz3).1 t (by omega)).2
                  have HGG := Lib.hid hG
                  clear hG
                  obtain ⟨eqs, heqs⟩ : ∃ eqs : Bool, eqs = (decide (p > 0) && !lt64 R.pi.1[p - 1]! R.pi.1[R.pivot]!) := ⟨_, rfl⟩
                  have HQ := Lib.hid heqs
                  clear heqs
                  go_upto_region 17 with fail
                  go_cut [87] from 19 (fun v87 wc => v87 = .bool eqs ∧ At e64 w blk off R.pi.1 wc)
                  case first =>
                    rcases Nat.eq_zero_or_pos p with ha0 | ha0
                    · have ha0z : decide ((p : Int) > 0) = false := decide_eq_false (by omega)
                      go_big_quiet (first | (go_at_call 52; refine Calls.quiet_of_same (less64 _ _ _)))
                      go_wp2_with fail
                      go_meet
                      case rel => exact ⟨by rw [HQ.out]; simp [ha0], HA5.out.ahead nq⟩
                    · have ha0z : (p : Int) > 0 := by omega
                      go_big_quiet (first | (go_at_call 52; refine Calls.quiet_of_same (less64 _ _ _)))
                      go_wp2_with fail
                      go_meet
                      case rel => exact ⟨by rw [HQ.out, ← HGG.out, ← HGG.out]; simp [ha0], HA5.out.ahead nq⟩
                  case rest =>
                    obtain ⟨rfl, hA6⟩ := hcut
                    have HA6 := Lib.hid hA6
                    clear hA6 HA5 hc hf
                    cases eqs
                    · obtain ⟨mid, ap, d4, hx⟩ : ∃ mid ap d4, partition lt64 R.pi.1 p q R.pivot = (mid, ap, d4) := ⟨_, _, _, rfl⟩
                      obtain ⟨r1, r2, r3, r4, r5, r6, r7⟩ := HT.out.split h12 hl0 HP.out HQ.out.symm mid ap d4 hx
                      have cq : Calls Tryd.prog 78 #[.slice (some ⟨blk, off, none⟩) d.size cap, .int .i64 p, .int .i64 q, .int .i64 R.pivot] wc fun e w' =>
                          e = .returned (.tuple #[.int .i64 mid, .bool ap]) ∧ Left wc blk off d4 w' := by
                        have h := part64 blk off cap p q R.pivot R.pi.1 wc (O.out _ _ HA6.out hz3).1 hpv.1 hpv.2 (by omega) (by omega)
                        rw [hx, hz3] at h
                        exact h
                      have CQ := Lib.hid cq
                      have R4 := Lib.hid r4
                      have R5 := Lib.hid r5
                      have R6 := Lib.hid r6
                      have R7 := Lib.hid r7
                      clear cq hx r4 r5 r6 r7
                      have hz4 : d4.size = d.size := r3.trans hs
                      go_upto_if 113 with (go_at_call 78; refine CQ.out.mono ?_; rintro e w7 ⟨rfl, hw7⟩)
                      have HA7 := Lib.hid (HA6.out.step hblk (r3.trans HT.out.s3.symm) hw7)
                      clear hw7 CQ HA6
                      by_cases h4 : mid - p < q - mid
                      · have h4z : (mid : Int) - (p : Int) < (q : Int) - (mid : Int) := by omega
                        obtain ⟨d5, hd5⟩ : ∃ d5, pdq lt64 d4 p mid R.lim true true = d5 := ⟨_, rfl⟩
                        obtain ⟨t1, t2, t3⟩ := R6.out h4 d5 hd5
                        have ci := IH.out blk off cap d.size p mid R.lim d4 w7 hz4 (by omega) (O.out _ _ HA7.out hz4).1 (O.out _ _ HA7.out hz4).2 (by omega) (by omega) (by omega) (Nat.lt_of_le_of_lt (Nat.le_trans HT.out.lim hlim) hlimit) R4.out
                        rw [hd5] at ci
                        have CI := Lib.hid ci
                        have T2 := Lib.hid t2
                        have T3 := Lib.hid t3
                        clear ci hd5 t2 t3
                        go_wp2_with (go_at_call 59; refine CI.out.mono ?_; rintro e w8 ⟨rfl, hw8⟩)
                        go_roundg (q - (mid + 1))
                        case measure => omega
                        case rel =>
                          exact ⟨mid + 1, q, R.lim, decide (mid - p ≥ (q - p) / 8), ap, d5, by simp, rfl, rfl, congrArg Value.bool (eighth64 (by omega) (by omega)), rfl, by omega, by omega, Nat.le_refl _, by omega, Nat.le_trans HT.out.lim hlim, t1.trans hs, T2.out, HA7.out.stepG hblk (t1.trans r3.symm) hw8, T3.out.symm.trans hE.out⟩
                      · have h4z : ¬ ((mid : Int) - (p : Int) < (q : Int) - (mid : Int)) := by omega
                        obtain ⟨d5, hd5⟩ : ∃ d5, pdq lt64 d4 (mid + 1) q R.lim true true = d5 := ⟨_, rfl⟩
                        obtain ⟨t1, t2, t3⟩ := R7.out h4 d5 hd5
                        have ci := IH.out blk off cap d.size (mid + 1) q R.lim d4 w7 hz4 (by omega) (O.out _ _ HA7.out hz4).1 (O.out _ _ HA7.out hz4).2 (by omega) (by omega) (by omega) (Nat.lt_of_le_of_lt (Nat.le_trans HT.out.lim hlim) hlimit) R5.out
                        rw [hd5] at ci
                        have CI := Lib.hid ci
                        have T2 := Lib.hid t2
                        have T3 := Lib.hid t3
                        clear ci hd5 t2 t3
                        go_wp2_with (go_at_call 59; refine CI.out.mono ?_; rintro e w8 ⟨rfl, hw8⟩)
                        go_roundg (mid - p)
                        case measure => omega
                        case rel =>
                          exact ⟨p, mid, R.lim, decide (q - mid ≥ (q - p) / 8), ap, d5, rfl, rfl, rfl, congrArg Value.bool (eighth64 (by omega) (by omega)), rfl, by omega, by omega, Nat.le_refl _, by omega, Nat.le_trans HT.out.lim hlim, t1.trans hs, T2.out, HA7.out.stepG hblk (t1.trans r3.symm) hw8, T3.out.symm.trans hE.out⟩
                    · obtain ⟨mid, d4, hx⟩ : ∃ mid d4, partitionEqual lt64 R.pi.1 p q R.pivot = (mid, d4) := ⟨_, _, rfl⟩
                      obtain ⟨r1, r2, r3, r4, r5⟩ := HT.out.equal h12 hl0 HP.out HQ.out.symm mid d4 hx
                      have cq : Calls Tryd.prog 77 #[.slice (some ⟨blk, off, none⟩) d.size cap, .int .i64 p, .int .i64 q, .int .i64 R.pivot] wc fun e w' =>
                          e = .returned (.int .i64 mid) ∧ Left wc blk off d4 w' := by
                        have h := parteq64 blk off cap p q R.pivot R.pi.1 wc (O.out _ _ HA6.out hz3).1 hpv.1 hpv.2 (by omega) (by omega)
                        rw [hx, hz3] at h
                        exact h
                      have CQ := Lib.hid cq
                      have R4 := Lib.hid r4
                      have R5 := Lib.hid r5
                      clear cq hx r4 r5
                      go_wp2_with (go_at_call 77; refine CQ.out.mono ?_; rintro e w7 ⟨rfl, hw7⟩)
                      go_roundg (q - mid)
                      case measure => omega
                      case rel =>
                        exact ⟨mid, q, R.lim, wb, wp, d4, rfl, rfl, rfl, rfl, rfl, r2, hq, Nat.le_refl _, by omega, Nat.le_trans HT.out.lim hlim, r3.trans hs, R4.out, HA6.out.step hblk (r3.trans HT.out.s3.symm) hw7, R5.out.symm.trans hE.out⟩
end Go.Proofs.YtifofdciablljaaDoor

/-
  The library's sort at rows of uint64: slices.Sort itself; it leaves the one sorted row; a nil slice stays as it is.
-/
set_option linter.unusedSimpArgs false
set_option linter.unusedVariables false
namespace Go.Proofs.YtifofdciablljaaDoor
open Go.RowKit Go.Sort

/-- The sorted row. -/
def sorted64 (xs : List Nat) : List Nat := xs.mergeSort (fun x y => decide (x ≤ y))
theorem sort_sorted64 (xs : List Nat) : Sort.sort lt64 xs.toArray = (sorted64 xs).toArray := by
  obtain ⟨p, s⟩ := sort_holds pdq_sorts64 swo64 xs.toArray
  have h := sorted_unique_holds (lt := lt64) swo64 (fun x y h1 h2 => by simp only [lt64, decide_eq_false_iff_not] at h1 h2; omega) xs.toArray (Sort.sort lt64 xs.toArray) p s
  have e : (fun x y => !lt64 y x) = (fun x y : Nat => decide (x ≤ y)) := by
    funext x y
    simp only [lt64]
    by_cases h : x ≤ y <;> simp [h] <;> omega
  rw [e] at h
  unfold sorted64
  rw [← h]

set_option maxHeartbeats 1600000 in
set_option maxRecDepth 100000 in
theorem sort64 (blk off cap : Nat) (d : Array Nat) (w : World) (hH : Holds e64 w blk off d) (hblk : blk < w.heap.size) (hsz : d.size < 4611686018427387904) :
    Calls Tryd.prog 43 #[.slice (some ⟨blk, off, none⟩) d.size cap] w fun e w' => e = .returned (.tuple #[]) ∧ At e64 w blk off (Sort.sort lt64 d) w' := by
  have HH := Lib.hid hH
  clear hH
  have hk : bitsLen d.size ≤ 62 := (bitsLen_le_iff d.size 62).2 (by omega)
  go_enter Tryd.func43, Tryd.ntmps43
  go_wp2_with (first
    | (go_at_call 60; refine (len_any _ _ (by omega)).mono ?_; rintro e w' ⟨rfl, rfl⟩)
    | (go_at_call 59; refine (pdq64 (d.size + 1) blk off cap d.size 0 d.size (bitsLen d.size) d _ rfl (by omega) (by exact HH.out) (by exact hblk) (Nat.zero_le _) (Nat.le_refl _) hsz (by omega) (Or.inl rfl)).mono ?_; rintro e w' ⟨rfl, hw⟩))
  go_end0
  exact ⟨rfl, hw⟩

set_option maxHeartbeats 1600000 in
theorem insertionNil64 (cap : Nat) (w : World) : Calls Tryd.prog 71 #[.slice none 0 cap, .int .i64 0, .int .i64 0] w fun e w' => e = .returned (.tuple #[]) ∧ w' = w := by
  go_enter Tryd.func71, Tryd.ntmps71
  go_wp2
  go_loopw [6] (fun v wr => v = .int .i64 1 ∧ wr = w) (fun _ _ => 0)
  case atStart => exact ⟨rfl, rfl⟩
  case round =>
    obtain ⟨rfl, rfl⟩ := hrel
    go_wp2
    go_end0
    exact ⟨rfl, rfl⟩

set_option maxHeartbeats 1600000 in
set_option maxRecDepth 1000000 in
theorem pdqNil64 (cap : Nat) (w : World) : Calls Tryd.prog 59 #[.slice none 0 cap, .int .i64 0, .int .i64 0, .int .i64 0] w fun e w' => e = .returned (.tuple #[]) ∧ w' = w := by
  go_enter Tryd.func59, Tryd.ntmps59
  go_wp2
  go_loopw [1, 2, 3, 8, 9] (fun v1 v2 v3 v8 v9 wr => v1 = .int .i64 0 ∧ v2 = .int .i64 0 ∧ v3 = .int .i64 0 ∧ v8 = .bool true ∧ v9 = .bool true ∧ wr = w) (fun _ _ _ _ _ _ => 0)
  case atStart => exact ⟨rfl, rfl, rfl, rfl, rfl, rfl⟩
  case round =>
    obtain ⟨rfl, rfl, rfl, rfl, rfl, rfl⟩ := hrel
    go_wp2_with fail
    refine (insertionNil64 cap _).mono ?_
    rintro e w1 ⟨rfl, h1⟩
    obtain rfl := h1.symm
    go_wp2
    (try simp only [Exit.inBlock, Exit.then]); refine bodyPost_ret (results_none rfl _ _ _) rfl ?_
    exact ⟨rfl, rfl⟩

set_option maxHeartbeats 1600000 in
theorem sortNil64 (cap : Nat) (w : World) : Calls Tryd.prog 43 #[.slice none 0 cap] w fun e w' => e = .returned (.tuple #[]) ∧ w' = w := by
  go_enter Tryd.func43, Tryd.ntmps43
  go_wp2_with (first
    | (go_at_call 60; refine (len_any 0 _ (by omega)).mono ?_; rintro e w' ⟨rfl, h1⟩; obtain rfl := h1.symm; rw [show bitsLen 0 = 0 from rfl])
    | (go_at_call 59; refine (pdqNil64 cap _).mono ?_; rintro e w' ⟨rfl, h1⟩; obtain rfl := h1.symm))
  go_end0
  exact ⟨rfl, rfl⟩
end Go.Proofs.YtifofdciablljaaDoor

/-
  slices.Compact at rows of uint64: of each run of equal ones one is left.
-/
set_option linter.unusedSimpArgs false
set_option linter.unusedVariables false
namespace Go.Proofs.YtifofdciablljaaDoor
open Go.RowKit Go.Sort

theorem Left.put {w W : World} {blk off : Nat} {d : Array Nat} (h : Left w blk off d W) (i x : Nat) (hi : i < d.size) : Left w blk off (d.setIfInBounds i x) ((W.setCell ⟨blk, off + i, none⟩ (.int .u64 (x : Int))).drew) := by
  obtain ⟨n, rfl⟩ := h
  refine ⟨n + 1, ?_⟩
  rw [← putRow_set e64 _ blk off d i x hi, ← ahead_drew]
  rfl

/-- Of a sorted row as many are left as there are different ones. -/
theorem compact_mem (xs : List Nat) (x : Nat) : x ∈ Lib.compactUpTo xs.toArray xs.length ↔ x ∈ xs := by
  unfold Lib.compactUpTo
  simp only [List.mem_map, List.mem_filter, List.mem_range]
  constructor
  · rintro ⟨j, ⟨hj, -⟩, rfl⟩
    simp [hj]
  · intro h
    obtain ⟨j, hj, rfl⟩ := List.mem_iff_getElem.1 h
    clear h
    induction j using Nat.strongRecOn with
    | _ j ih =>
      by_cases hk : Lib.keeps xs.toArray j = true
      · exact ⟨j, ⟨hj, hk⟩, by simp [hj]⟩
      · simp only [Lib.keeps, decide_eq_true_eq, not_or, Decidable.not_not] at hk
        obtain ⟨a, ⟨ha, hb⟩, hc⟩ := ih (j - 1) (by omega) (by omega)
        refine ⟨a, ⟨ha, hb⟩, hc.trans ?_⟩
        have := hk.2
        simp [hj, show j - 1 < xs.length by omega] at this
        exact this.symm

theorem compact_nodup (xs : List Nat) (hs : xs.Pairwise (· ≤ ·)) : (Lib.compactUpTo xs.toArray xs.length).Nodup := by
  unfold Lib.compactUpTo
  rw [List.nodup_iff_pairwise_ne]
  refine List.Pairwise.imp (R := (· < ·)) (fun h => Nat.ne_of_lt h) ?_
  rw [List.pairwise_map]
  refine List.Pairwise.imp_of_mem (R := (· < ·)) ?_ (List.Pairwise.filter _ List.pairwise_lt_range)
  intro i j hi hj hij
  simp only [List.mem_filter, List.mem_range, Lib.keeps, decide_eq_true_eq] at hi hj
  have h1 := List.pairwise_iff_getElem.1 hs
  have e : ∀ t, (h : t < xs.length) → xs.toArray[t]! = xs[t] := fun t h => by simp [h]
  obtain ⟨hi1, hi2⟩ := hi
  obtain ⟨hj1, hj2⟩ := hj
  rw [e i hi1, e j hj1]
  have hne := hj2.resolve_left (by omega)
  rw [e j hj1, e (j - 1) (by omega)] at hne
  have h2 : xs[i] ≤ xs[j - 1] := by
    by_cases hh : i = j - 1
    · subst hh; exact Nat.le_refl _
    · exact h1 i (j - 1) hi1 (by omega) (by omega)
  have h3 : xs[j - 1] ≤ xs[j] := h1 (j - 1) j (by omega) hj1 (by omega)
  omega
end Go.Proofs.YtifofdciablljaaDoor

/-
  slices.Sort and slices.Compact at a row of uint64 that a call owns.
-/
set_option linter.unusedSimpArgs false
set_option linter.unusedVariables false
namespace Go.Proofs.YtifofdciablljaaDoor
open Go.RowKit Go.Sort

theorem below_row64 {w : World} {base g q : Nat} {os : Array Obj} (d : Array Nat) (hb : base ≤ g) (hg : g < w.heap.size) : Below base w (grow (putRow e64 (Sort.ahead w q) g 0 d) os) := by
  refine ⟨rfl, rfl, rfl, by simp, fun k hk => ?_⟩
  have hkw : k < w.heap.size := by omega
  rw [heap_grow_old _ _ (by simpa using hkw)]
  have : g ≠ k := by omega
  simp [putRow, mapBlock, Sort.ahead, Array.getElem?_modify, this]
theorem holds_row64 {w : World} {g : Nat} {cur : Array Value} {e : TypeId} {ks : List Nat} (hb : w.heap[g]? = some (.cells cur e (0, 0))) (ht : cur.toList.take ks.length = u64s ks) : Holds e64 w g 0 ks.toArray := by
  intro j hj
  have hj' : j < ks.length := by simpa using hj
  have h1 : (cur.toList.take ks.length)[j]? = (u64s ks)[j]? := by rw [ht]
  rw [List.getElem?_take_of_lt hj', Array.getElem?_toList] at h1
  constructor
  · simp only [World.cell?, hb, Nat.zero_add, Option.isSome_none, Bool.false_eq_true, if_false, h1]
    simp [u64s, hj', e64]
  · simp [World.frozen?, hb]
theorem heap_row64 {w : World} {g q : Nat} {os : Array Obj} {cur : Array Value} {e : TypeId} {fr : Nat × Nat} (d : Array Nat) (hb : w.heap[g]? = some (.cells cur e fr)) :
    (grow (putRow e64 (Sort.ahead w q) g 0 d) os).heap[g]? = some (.cells (putCells e64 0 d cur) e fr) := by
  rw [heap_grow_old _ _ (by simpa using lt_of_heap hb)]
  simp [putRow, mapBlock, Sort.ahead, Array.getElem?_modify, hb, onCells]
theorem take_row64 (cur : Array Value) (ts : List Nat) (h : ts.length ≤ cur.size) : (putCells e64 0 ts.toArray cur).toList.take ts.length = u64s ts := by
  apply List.ext_getElem?
  intro j
  by_cases hj : j < ts.length
  · rw [List.getElem?_take_of_lt hj, Array.getElem?_toList]
    simp [putCells, hj, show j < cur.size by omega, u64s, e64]
  · rw [List.getElem?_take_eq_none (by omega), List.getElem?_eq_none (by simp [u64s]; omega)]

theorem sorted64_length (ks : List Nat) : (sorted64 ks).length = ks.length := List.length_mergeSort _
theorem sorted64_mem {ks : List Nat} {x : Nat} : x ∈ sorted64 ks ↔ x ∈ ks := List.mem_mergeSort
theorem sorted64_le (ks : List Nat) : (sorted64 ks).Pairwise (· ≤ ·) := by
  have := List.pairwise_mergeSort (le := fun x y : Nat => decide (x ≤ y)) (fun a b c h1 h2 => by simp only [decide_eq_true_eq] at *; omega) (fun a b => by simp only [Bool.or_eq_true, decide_eq_true_eq]; omega) ks
  simpa [sorted64] using this

/-- A row of the call's own, sorted. -/
theorem sort_own64 (base n cap : Nat) (sp : Option Addr) (ks : List Nat) (w : World) (h : w.ownsRow base 22 1 (.slice sp n cap) n (u64s ks)) (hn : n < 4611686018427387904) :
    Calls Tryd.prog 43 #[.slice sp n cap] w fun e w' =>
      e = .returned (.tuple #[]) ∧ Below base w w' ∧ w'.ownsRow base 22 1 (.slice sp n cap) n (u64s (sorted64 ks)) := by
  have hl : ks.length = n := by have := h.1; rw [u64s_length] at this; omega
  rcases h.2 with ⟨hv, h0⟩ | ⟨g, cap', cur, hv, hg, hh, hle, hcap, hsz, ht⟩
  · cases hv
    obtain rfl : ks = [] := List.eq_nil_of_length_eq_zero hl
    refine (sortNil64 0 w).mono ?_
    rintro e w' ⟨rfl, rfl⟩
    exact ⟨rfl, Below.refl _ _, by rw [show sorted64 [] = [] from by simp [sorted64]]; exact h⟩
  · cases hv
    subst hl
    rw [Nat.mul_one] at ht
    have hs := sort64 g 0 cap ks.toArray w (holds_row64 hh ht) (lt_of_heap hh) (by simpa using hn)
    rw [sort_sorted64] at hs
    simp only [List.size_toArray] at hs
    refine hs.mono ?_
    rintro e w' ⟨rfl, q, os, rfl⟩
    refine ⟨rfl, below_row64 _ hg (lt_of_heap hh), by simp [u64s, sorted64_length], .inr ⟨g, cap, _, rfl, hg, heap_row64 _ hh, hle, hcap, by simp [putCells, hsz], ?_⟩⟩
    rw [Nat.mul_one]
    have := take_row64 cur (sorted64 ks) (by rw [sorted64_length]; omega)
    rwa [sorted64_length] at this

end Go.Proofs.YtifofdciablljaaDoor

