/-
  The library's sort at rows of uint64: the heap.
-/
import Derived.Test.YtifofdciablljaaDoorSrtA
import Derived.Sort.WalkB3
set_option linter.unusedSimpArgs false
set_option linter.unusedVariables false
namespace Go.Proofs.YtifofdciablljaaDoor
open Go.RowKit Go.Sort

theorem Left.swapd {w W : World} {blk off : Nat} {d : Array Nat} (h : Left w blk off d W) (j k : Nat) (hj : j < d.size) (hk : k < d.size) {a b : Int} (ha : a = (d[k]! : Nat)) (hb : b = (d[j]! : Nat)) :
    Left w blk off (swp d j k) ((W.setCell ⟨blk, off + j, none⟩ (.int .u64 a)).setCell ⟨blk, off + k, none⟩ (.int .u64 b)).drew := (h.swap 0 j k hj hk ha hb).on 1

/-- One contract behind another. -/
theorem Left.then {w W W' : World} {blk off : Nat} {d d' : Array Nat} (h : Left w blk off d W) (h' : Left W blk off d' W') (hs : d'.size = d.size) : Left w blk off d' W' := by
  obtain ⟨n, rfl⟩ := h
  obtain ⟨m, rfl⟩ := h'
  exact ⟨n + m, putRow_ahead_putRow e64 w n m blk off d d' hs⟩

set_option maxHeartbeats 6400000 in
set_option maxRecDepth 100000 in
theorem sift64 (blk off len cap : Nat) (d : Array Nat) (hlen : d.size = len) (lo hi first : Nat) (w : World) (hH : Holds e64 w blk off d) (hlo : lo ≤ hi) (hb : first + hi ≤ d.size) (hsz : d.size < 4611686018427387904) :
    Calls Tryd.prog 82 #[.slice (some ⟨blk, off, none⟩) len cap, .int .i64 lo, .int .i64 hi, .int .i64 first] w fun e w' =>
      e = .returned (.tuple #[]) ∧ Left w blk off (siftDown lt64 hi first lo d) w' := by
  subst hlen
  go_enter Tryd.func82, Tryd.ntmps82
  go_wp2
  go_loopg [8] (hi - lo) (fun k v wr => ∃ (r : Nat) (dk : Array Nat), v = .int .i64 (r : Int) ∧ r ≤ hi ∧ hi - r ≤ k ∧ dk.size = d.size ∧ Left w blk off dk wr ∧ Hid (siftDown lt64 hi first r dk = siftDown lt64 hi first lo d))
  case atStart => exact ⟨lo, d, rfl, hlo, Nat.le_refl _, rfl, Left.self hH, rfl⟩
  case round =>
    obtain ⟨r, dk, rfl, hr, hk, hs, hL, hE⟩ := hrel
    obtain ⟨G, hG⟩ : ∃ G : Nat → Nat, ∀ t, G t = dk[t]! := ⟨fun t => dk[t]!, fun _ => rfl⟩
    have hc := hL.cell hH hs hG
    have hf := hL.free hH hs
    have HG : Hid (∀ t, G t = dk[t]!) := hG
    have HL : Hid (Left w blk off dk wr) := hL
    clear hG hL hH
    by_cases h0 : hi ≤ 2 * r + 1
    · have h0z : (hi : Int) ≤ 2 * (r : Int) + 1 := by omega
      go_wp2
      go_end0
      exact ⟨rfl, by rw [← hE.out, sd_end lt64 dk h0]; exact HL.out⟩
    · have h0z : ¬ (hi : Int) ≤ 2 * (r : Int) + 1 := by omega
      have step : ∀ q, Hid (Left w blk off dk (wr.drewN q)) := fun q => HL.out.on q
      by_cases h1 : 2 * r + 2 < hi
      · have h1z : 2 * (r : Int) + 1 + 1 < (hi : Int) := by omega
        go_wp2_with fail
        go_big_quiet (first | (go_at_call 52; refine Calls.quiet_of_same (less64 _ _ _)))
        go_wp2_with fail
        · have hA : lt64 (G (first + 2 * r + 1)) (G (first + 2 * r + 2)) = true := by assumption
          have hA' : lt64 dk[first + (2 * r + 1)]! dk[first + (2 * r + 2)]! = true := by rw [← HG.out, ← HG.out]; exact hA
          revert nq; intro n1
          have L2 := step n1
          have hc2 : ∀ t, t < d.size → (wr.drewN n1).cell? ⟨blk, off + t, none⟩ = some (.int .u64 (G t : Nat)) := hc
          have hf2 : ∀ t, t < d.size → (wr.drewN n1).frozen? ⟨blk, off + t, none⟩ = false := hf
          clear hc hf HL step
          generalize wr.drewN n1 = w2 at hc2 hf2 L2 ⊢
          go_big_quiet (first | (go_at_call 52; refine Calls.quiet_of_same (less64 _ _ _)))
          go_wp2_with fail
          · have hB : (!lt64 (G (first + r)) (G (first + 2 * r + 2))) = true := by assumption
            (try simp only [Exit.inBlock, Exit.then]); refine bodyPost_ret (results_none rfl _ _ _) rfl ?_
            refine ⟨rfl, ?_⟩
            have hB' : lt64 dk[first + r]! dk[first + (2 * r + 2)]! = false := by
              rw [← HG.out, ← HG.out]
              have q : lt64 (G (first + r)) (G (first + 2 * r + 2)) = false := by simpa using hB
              exact q
            rw [← hE.out, sd_right_stop lt64 dk h1 hA' hB']
            exact L2.out.on nq
          · have hB : (!lt64 (G (first + r)) (G (first + 2 * r + 2))) = false := by assumption
            have hB' : lt64 dk[first + r]! dk[first + (2 * r + 2)]! = true := by
              rw [← HG.out, ← HG.out]
              have q : lt64 (G (first + r)) (G (first + 2 * r + 2)) = true := by simpa using hB
              exact q
            have L3 : Hid (Left w blk off dk (w2.drewN nq)) := L2.out.on nq
            have hc3 : ∀ t, t < d.size → (w2.drewN nq).cell? ⟨blk, off + t, none⟩ = some (.int .u64 (G t : Nat)) := hc2
            have hf3 : ∀ t, t < d.size → (w2.drewN nq).frozen? ⟨blk, off + t, none⟩ = false := hf2
            clear hc2 hf2 L2
            generalize w2.drewN nq = w3 at hc3 hf3 L3 ⊢
            go_region
            go_wp2
            go_roundg (hi - (2 * r + 2))
            case measure => omega
            case rel =>
              refine ⟨2 * r + 2, swp dk (first + r) (first + (2 * r + 2)), by simp <;> omega, by omega, Nat.le_refl _, by rw [size_swp]; exact hs, L3.out.swapd (first + r) (first + (2 * r + 2)) (by omega) (by omega) (by rw [HG.out]; rfl) (by rw [HG.out]), ?_⟩
              show _ = _
              rw [← hE.out, sd_right_go lt64 dk h1 hA' hB']
        · have hA : lt64 (G (first + 2 * r + 1)) (G (first + 2 * r + 2)) = false := by assumption
          have hA' : lt64 dk[first + (2 * r + 1)]! dk[first + (2 * r + 2)]! = false := by rw [← HG.out, ← HG.out]; exact hA
          revert nq; intro n1
          have L2 := step n1
          have hc2 : ∀ t, t < d.size → (wr.drewN n1).cell? ⟨blk, off + t, none⟩ = some (.int .u64 (G t : Nat)) := hc
          have hf2 : ∀ t, t < d.size → (wr.drewN n1).frozen? ⟨blk, off + t, none⟩ = false := hf
          clear hc hf HL step
          generalize wr.drewN n1 = w2 at hc2 hf2 L2 ⊢
          go_big_quiet (first | (go_at_call 52; refine Calls.quiet_of_same (less64 _ _ _)))
          go_wp2_with fail
          · have hB : (!lt64 (G (first + r)) (G (first + 2 * r + 1))) = true := by assumption
            (try simp only [Exit.inBlock, Exit.then]); refine bodyPost_ret (results_none rfl _ _ _) rfl ?_
            refine ⟨rfl, ?_⟩
            have hB' : lt64 dk[first + r]! dk[first + (2 * r + 1)]! = false := by
              rw [← HG.out, ← HG.out]
              have q : lt64 (G (first + r)) (G (first + 2 * r + 1)) = false := by simpa using hB
              exact q
            rw [← hE.out, sd_left_stop lt64 dk (by omega) (fun _ => hA') hB']
            exact L2.out.on nq
          · have hB : (!lt64 (G (first + r)) (G (first + 2 * r + 1))) = false := by assumption
            have hB' : lt64 dk[first + r]! dk[first + (2 * r + 1)]! = true := by
              rw [← HG.out, ← HG.out]
              have q : lt64 (G (first + r)) (G (first + 2 * r + 1)) = true := by simpa using hB
              exact q
            have L3 : Hid (Left w blk off dk (w2.drewN nq)) := L2.out.on nq
            have hc3 : ∀ t, t < d.size → (w2.drewN nq).cell? ⟨blk, off + t, none⟩ = some (.int .u64 (G t : Nat)) := hc2
            have hf3 : ∀ t, t < d.size → (w2.drewN nq).frozen? ⟨blk, off + t, none⟩ = false := hf2
            clear hc2 hf2 L2
            generalize w2.drewN nq = w3 at hc3 hf3 L3 ⊢
            go_region
            go_wp2
            go_roundg (hi - (2 * r + 1))
            case measure => omega
            case rel =>
              refine ⟨2 * r + 1, swp dk (first + r) (first + (2 * r + 1)), by simp <;> omega, by omega, Nat.le_refl _, by rw [size_swp]; exact hs, L3.out.swapd (first + r) (first + (2 * r + 1)) (by omega) (by omega) (by rw [HG.out]; rfl) (by rw [HG.out]), ?_⟩
              show _ = _
              rw [← hE.out, sd_left_go lt64 dk (by omega) (fun _ => hA') hB']
      · have h1z : decide (2 * (r : Int) + 1 + 1 < (hi : Int)) = false := decide_eq_false (by omega)
        go_wp2_with fail
        go_big_quiet (first | (go_at_call 52; refine Calls.quiet_of_same (less64 _ _ _)))
        go_wp2_with fail
        revert nq; intro n1
        have L2 := step n1
        have hc2 : ∀ t, t < d.size → (wr.drewN n1).cell? ⟨blk, off + t, none⟩ = some (.int .u64 (G t : Nat)) := hc
        have hf2 : ∀ t, t < d.size → (wr.drewN n1).frozen? ⟨blk, off + t, none⟩ = false := hf
        clear hc hf HL step
        generalize wr.drewN n1 = w2 at hc2 hf2 L2 ⊢
        go_big_quiet (first | (go_at_call 52; refine Calls.quiet_of_same (less64 _ _ _)))
        go_wp2_with fail
        · have hB : (!lt64 (G (first + r)) (G (first + 2 * r + 1))) = true := by assumption
          (try simp only [Exit.inBlock, Exit.then]); refine bodyPost_ret (results_none rfl _ _ _) rfl ?_
          refine ⟨rfl, ?_⟩
          have hB' : lt64 dk[first + r]! dk[first + (2 * r + 1)]! = false := by
            rw [← HG.out, ← HG.out]
            have q : lt64 (G (first + r)) (G (first + 2 * r + 1)) = false := by simpa using hB
            exact q
          rw [← hE.out, sd_left_stop lt64 dk (by omega) (fun h => absurd h h1) hB']
          exact L2.out.on nq
        · have hB : (!lt64 (G (first + r)) (G (first + 2 * r + 1))) = false := by assumption
          have hB' : lt64 dk[first + r]! dk[first + (2 * r + 1)]! = true := by
            rw [← HG.out, ← HG.out]
            have q : lt64 (G (first + r)) (G (first + 2 * r + 1)) = true := by simpa using hB
            exact q
          have L3 : Hid (Left w blk off dk (w2.drewN nq)) := L2.out.on nq
          have hc3 : ∀ t, t < d.size → (w2.drewN nq).cell? ⟨blk, off + t, none⟩ = some (.int .u64 (G t : Nat)) := hc2
          have hf3 : ∀ t, t < d.size → (w2.drewN nq).frozen? ⟨blk, off + t, none⟩ = false := hf2
          clear hc2 hf2 L2
          generalize w2.drewN nq = w3 at hc3 hf3 L3 ⊢
          go_region
          go_wp2
          go_roundg (hi - (2 * r + 1))
          case measure => omega
          case rel =>
            refine ⟨2 * r + 1, swp dk (first + r) (first + (2 * r + 1)), by simp <;> omega, by omega, Nat.le_refl _, by rw [size_swp]; exact hs, L3.out.swapd (first + r) (first + (2 * r + 1)) (by omega) (by omega) (by rw [HG.out]; rfl) (by rw [HG.out]), ?_⟩
            show _ = _
            rw [← hE.out, sd_left_go lt64 dk (by omega) (fun h => absurd h h1) hB']

set_option maxHeartbeats 6400000 in
set_option maxRecDepth 100000 in
theorem heap64 (blk off len cap : Nat) (d : Array Nat) (hlen : d.size = len) (a b : Nat) (w : World) (hH : Holds e64 w blk off d) (hab : a ≤ b) (hb : b ≤ d.size) (hsz : d.size < 4611686018427387904) :
    Calls Tryd.prog 72 #[.slice (some ⟨blk, off, none⟩) len cap, .int .i64 a, .int .i64 b] w fun e w' =>
      e = .returned (.tuple #[]) ∧ Left w blk off (heapSort lt64 d a b) w' := by
  subst hlen
  have ec : ((b - a : Nat) : Int) = (b : Int) - (a : Int) := by omega
  go_enter Tryd.func72, Tryd.ntmps72
  go_wp2
  go_loopg [9] ((b - a - 1) / 2 + 1) (fun k v wr => v = .int .i64 ((k : Int) - 1) ∧ k ≤ (b - a - 1) / 2 + 1 ∧ ∃ (dk : Array Nat), dk.size = d.size ∧ Left w blk off dk wr ∧ Hid (heapBuild lt64 (b - a) a k dk = heapBuild lt64 (b - a) a ((b - a - 1) / 2 + 1) d))
  case atStart => exact ⟨by rw [half_start hab], Nat.le_refl _, d, rfl, Left.self hH, rfl⟩
  case round =>
    obtain ⟨rfl, hkk, dk, hs, hL, hE⟩ := hrel
    have hHk := hL.holds hH hs
    have HL : Hid (Left w blk off dk wr) := hL
    clear hL
    cases gk with
    | zero =>
      clear hHk
      go_wp2
      go_loopg [10] (b - a) (fun k v wq => v = .int .i64 ((k : Int) - 1) ∧ k ≤ b - a ∧ ∃ (dj : Array Nat), dj.size = d.size ∧ Left w blk off dj wq ∧ Hid (heapPop lt64 a k dj = heapPop lt64 a (b - a) dk))
      case atStart => exact ⟨by rw [ec], Nat.le_refl _, dk, hs, HL.out, rfl⟩
      case round =>
        obtain ⟨rfl, hkj, dj, hj, hM, hP⟩ := hrel
        cases gk with
        | zero =>
          go_wp2
          go_end0
          refine ⟨rfl, ?_⟩
          have e : heapSort lt64 d a b = dj := by rw [heapSort, ← hE.out]; exact hP.out.symm
          rw [e]
          exact hM
        | succ k =>
          obtain ⟨G, hG⟩ : ∃ G : Nat → Nat, ∀ t, G t = dj[t]! := ⟨fun t => dj[t]!, fun _ => rfl⟩
          have hc := hM.cell hH hj hG
          have hf := hM.free hH hj
          have HG : Hid (∀ t, G t = dj[t]!) := hG
          have HM : Hid (Left w blk off dj wr) := hM
          clear hG hM
          rcases Nat.eq_zero_or_pos k with hk0 | hkp
          · subst hk0
            go_wp2_with fail
            go_region
            go_wp2_with fail
            have hS := HM.out.swapd a (a) (by omega) (by omega) (a := (G (a) : Int)) (b := (G a : Int)) (by rw [HG.out]) (by rw [HG.out])
            generalize World.drew _ = w5 at hS ⊢
            refine (sift64 blk off d.size cap (swp dj a (a)) (by rw [size_swp]; exact hj) 0 0 a w5 (hS.holds hH (by rw [size_swp]; exact hj)) (Nat.zero_le _) (by rw [size_swp]; omega) (by rw [size_swp]; omega)).mono ?_
            rintro e w1 ⟨rfl, hQ⟩
            go_wp2
            go_roundg 0
            case measure => omega
            case rel => exact ⟨by simp, by omega, siftDown lt64 0 a 0 (swp dj a (a)), by rw [size_siftDown lt64 _ _ _ _ _ (Nat.le_refl _), size_swp]; exact hj, hS.then hQ (size_siftDown lt64 _ _ _ _ _ (Nat.le_refl _)), hP⟩
          · go_wp2_with fail
            go_region
            go_wp2_with fail
            have hS := HM.out.swapd a (a + k) (by omega) (by omega) (a := (G (a + k) : Int)) (b := (G a : Int)) (by rw [HG.out]) (by rw [HG.out])
            generalize World.drew _ = w5 at hS ⊢
            refine (sift64 blk off d.size cap (swp dj a (a + k)) (by rw [size_swp]; exact hj) 0 k a w5 (hS.holds hH (by rw [size_swp]; exact hj)) (Nat.zero_le _) (by rw [size_swp]; omega) (by rw [size_swp]; omega)).mono ?_
            rintro e w1 ⟨rfl, hQ⟩
            go_wp2
            go_roundg k
            case measure => omega
            case rel => exact ⟨by simp, by omega, siftDown lt64 k a 0 (swp dj a (a + k)), by rw [size_siftDown lt64 _ _ _ _ _ (Nat.le_refl _), size_swp]; exact hj, hS.then hQ (size_siftDown lt64 _ _ _ _ _ (Nat.le_refl _)), hP⟩
    | succ k =>
      have hcall := sift64 blk off d.size cap dk hs k (b - a) a wr hHk (by omega) (by omega) (by omega)
      rw [ec] at hcall
      go_wp2_with (go_at_call 82; refine hcall.mono ?_; rintro e w1 ⟨rfl, hQ⟩)
      go_roundg k
      case measure => omega
      case rel =>
        exact ⟨by simp, by omega, siftDown lt64 (b - a) a k dk, by rw [size_siftDown lt64 _ _ _ _ _ (Nat.le_refl _)]; exact hs, HL.out.then hQ (size_siftDown lt64 _ _ _ _ _ (Nat.le_refl _)), hE⟩
end Go.Proofs.YtifofdciablljaaDoor
