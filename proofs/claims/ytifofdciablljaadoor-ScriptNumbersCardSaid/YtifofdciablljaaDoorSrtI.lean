/-
  The library's sort at rows of uint64: the partial sort by insertion.
-/
import Derived.Test.YtifofdciablljaaDoorSrtC
import Derived.Deep.CutRange
import Derived.Sort.WalkA6
set_option linter.unusedSimpArgs false
set_option linter.unusedVariables false
namespace Go.Proofs.YtifofdciablljaaDoor
open Go.RowKit Go.Sort

set_option maxHeartbeats 6400000 in
set_option maxRecDepth 100000 in
theorem partial64 (blk off cap a b : Nat) (d : Array Nat) (w : World) (hH : Holds e64 w blk off d) (hab : a < b) (hb : b ≤ d.size) (hsz : d.size < 4611686018427387904) :
    Calls Tryd.prog 76 #[.slice (some ⟨blk, off, none⟩) d.size cap, .int .i64 a, .int .i64 b] w fun e w' =>
      e = .returned (.bool (Sort.partialInsertionSort lt64 d a b).2) ∧ Left w blk off (Sort.partialInsertionSort lt64 d a b).1 w' := by
  have HH := Lib.hid hH
  have HS := Lib.hid (Left.self hH)
  clear hH
  go_enter Tryd.func76, Tryd.ntmps76
  go_wp2
  go_loopw [7, 8] (fun vi vs wr => ∃ (i s : Nat) (dk : Array Nat), vi = .int .i64 (i : Int) ∧ vs = .int .i64 (s : Int) ∧ s ≤ 5 ∧ a < i ∧ i ≤ b ∧ dk.size = d.size ∧ Left w blk off dk wr ∧
      Hid (partialIns lt64 a b (5 - s) i dk = partialIns lt64 a b 5 (a + 1) d)) (fun _ vs _ => 5 - (intOf vs).toNat)
  case atStart => exact ⟨a + 1, 0, d, by go_num, rfl, by omega, by omega, by omega, rfl, HS.out, rfl⟩
  case round =>
    obtain ⟨i, s, dk, rfl, rfl, hs5, hai, hib, hs, hL, hE⟩ := hrel
    obtain ⟨G, hG⟩ : ∃ G : Nat → Nat, ∀ t, G t = dk[t]! := ⟨fun t => dk[t]!, fun _ => rfl⟩
    have hc := hL.cell HH.out hs hG
    have hf := hL.free HH.out hs
    have HG := Lib.hid hG
    have HL := Lib.hid hL
    clear hG hL HS
    refine wp_seq_k fun K0 hK0 => ?_
    have HK0 := Lib.hid hK0
    clear hK0
    by_cases hs4 : s < 5
    · go_wp2
      refine HK0.out _ _ ?_
      rename World => W1
      refine wp_seq_k fun Ks hKs => ?_
      have HKs := Lib.hid hKs
      clear hKs HK0
      refine wp_block ?_
      refine wp_seq_k fun K1 hK1 => ?_
      have HK1 := Lib.hid hK1
      clear hK1
      go_cut [7] from 13 to 132 (fun v wz => ∃ (k : Nat), v = .int .i64 (k : Int) ∧ i ≤ k ∧ k ≤ b ∧ Hid (scanSorted lt64 dk b i = k) ∧ ∃ n, wz = W1.drewN n)
      case first =>
        go_wp2
        go_loopw [7] (fun v wz => ∃ (k n : Nat), v = .int .i64 (k : Int) ∧ i ≤ k ∧ k ≤ b ∧ wz = W1.drewN n ∧ Hid (scanSorted lt64 dk b i = scanSorted lt64 dk b k)) (fun v _ => b - (intOf v).toNat)
        case atStart => exact ⟨i, 0, rfl, Nat.le_refl _, hib, rfl, rfl⟩
        case round =>
          obtain ⟨k, n, rfl, hik, hkb, hw, hsc⟩ := hrel
          have hc1 : ∀ t, t < d.size → wr.cell? ⟨blk, off + t, none⟩ = some (.int .u64 (G t : Nat)) := fun t ht => by rw [hw]; exact hc t ht
          have HW := Lib.hid hw
          clear hw hc
          by_cases hle : k < b
          · go_wp2_with fail
            go_big_quiet (first | (go_at_call 52; refine Calls.quiet_of_same (less64 _ _ _)))
            go_wp2
            · have ht : lt64 (G k) (G (k - 1)) = false := by
                have h : (!lt64 (G k) (G (k - 1))) = true := by assumption
                simpa using h
              go_roundw
              case rel => exact ⟨k + 1, n + nq, by go_num, by omega, by omega, by rw [HW.out, World.drewN_drewN], hsc.out.trans (scanSorted_go lt64 dk b k hle (by rw [← HG.out, ← HG.out]; exact ht))⟩
              case measure => simp [intOf]; omega
            · have ht : lt64 (G k) (G (k - 1)) = true := by
                have h : (!lt64 (G k) (G (k - 1))) = false := by assumption
                simpa using h
              go_meet
              case rel => exact ⟨k, rfl, hik, hkb, hsc.out.trans (scanSorted_stop lt64 dk b k (Or.inr (by rw [← HG.out, ← HG.out]; exact ht))), n + nq, by rw [HW.out, World.drewN_drewN]⟩
          · go_wp2_with fail
            go_big_quiet (first | (go_at_call 52; refine Calls.quiet_of_same (less64 _ _ _)))
            go_wp2
            go_meet
            case rel => exact ⟨k, rfl, hik, hkb, hsc.out.trans (scanSorted_stop lt64 dk b k (Or.inl hle)), n + nq, by rw [HW.out, World.drewN_drewN]⟩
      case rest =>
        obtain ⟨k, rfl, hik, hkb, hK, n1, hw1⟩ := hcut
        have hc1 : ∀ t, t < d.size → wc.cell? ⟨blk, off + t, none⟩ = some (.int .u64 (G t : Nat)) := fun t ht => by rw [hw1]; exact hc t ht
        have hf1 : ∀ t, t < d.size → wc.frozen? ⟨blk, off + t, none⟩ = false := fun t ht => by rw [hw1]; exact hf t ht
        have L1 : Hid (Left w blk off dk wc) := by rw [hw1]; exact HL.out.on n1
        clear hw1 hc hf HL
        refine HK1.out _ _ ?_
        clear HK1
        by_cases hkb' : k = b
        · have HE := Lib.hid (pi_true lt64 a b s i dk hs4 (hK.out.trans hkb'))
          subst hkb'
          go_wp2
          go_ret
          have e : Sort.partialInsertionSort lt64 d a k = (dk, true) := by unfold Sort.partialInsertionSort; rw [← hE.out, HE.out]
          rw [e]
          exact ⟨rfl, L1.out⟩
        · by_cases h50 : b - a < 50
          · have HE := Lib.hid (pi_short lt64 a b s i dk hs4 (by rw [hK.out]; exact hkb') h50)
            go_wp2
            go_ret
            have e : Sort.partialInsertionSort lt64 d a b = (dk, false) := by unfold Sort.partialInsertionSort; rw [← hE.out, HE.out]
            rw [e]
            exact ⟨rfl, L1.out⟩
          · have HE := Lib.hid (pi_go lt64 a b s i k dk hs4 hK.out hkb' h50)
            have HS := Lib.hid (L1.out.swapd k (k - 1) (by omega) (by omega) (a := (G (k - 1) : Int)) (b := (G k : Int)) (by rw [HG.out]) (by rw [HG.out]))
            obtain ⟨v3, hy3⟩ := cell?_setCell_some (w := wc) (p := ⟨blk, off + k, none⟩) (x := .int .u64 (G (k - 1))) (q := ⟨blk, off + (k - 1), none⟩) (hc1 (k - 1) (by omega))
            refine wp_seq_k fun K2 hK2 => ?_
            have HK2 := Lib.hid hK2
            clear hK2
            go_wp2
            refine HK2.out _ _ ?_
            refine wp_seq_k fun K3 hK3 => ?_
            have HK3 := Lib.hid hK3
            clear hK3
            go_wp2
            refine HK3.out _ _ ?_
            refine wp_seq_k fun K4 hK4 => ?_
            have HK4 := Lib.hid hK4
            clear hK4
            go_wp2_with fail
            go_region
            all_goals go_wp2
            refine HK4.out _ _ ?_
            clear HK2 HK3 HK4 hc1 hf1 hy3 v3
            generalize World.drew _ = W2 at HS ⊢
            obtain ⟨d2, hd2⟩ : ∃ d2, d2 = swp dk k (k - 1) := ⟨_, rfl⟩
            rw [← hd2] at HS HE
            have hs2 : d2.size = d.size := by rw [hd2, size_swp]; exact hs
            clear hd2
            refine wp_seq_k fun K5 hK5 => ?_
            have HK5 := Lib.hid hK5
            clear hK5
            go_cut [9] from 13 to 132 (fun _ wz => ∃ d3 : Array Nat, d3.size = d.size ∧ Left w blk off d3 wz ∧ Hid (fixDown lt64 a k d2 = d3))
            case first =>
              by_cases h2 : k - a ≥ 2
              · go_wp2
                go_loopw [9] (fun v wz => ∃ (j : Nat) (dj : Array Nat), v = .int .i64 (j : Int) ∧ j ≤ k - 1 ∧ dj.size = d.size ∧ Left w blk off dj wz ∧ Hid (shiftDown lt64 j dj = shiftDown lt64 (k - 1) d2)) (fun v _ => (intOf v).toNat)
                case atStart => exact ⟨k - 1, d2, by go_num, Nat.le_refl _, hs2, HS.out, rfl⟩
                case round =>
                  obtain ⟨j, dj, rfl, hj, hsj, hM, hI⟩ := hrel
                  obtain ⟨G, hG⟩ : ∃ G : Nat → Nat, ∀ t, G t = dj[t]! := ⟨fun t => dj[t]!, fun _ => rfl⟩
                  have hc := hM.cell HH.out hsj hG
                  have hf := hM.free HH.out hsj
                  have HG := Lib.hid hG
                  have HM := Lib.hid hM
                  clear hG hM
                  have out : (j = 0 ∨ lt64 dj[j]! dj[j - 1]! = false) → Hid (fixDown lt64 a k d2 = dj) := fun h => show _ = _ by
                    unfold fixDown
                    rw [if_pos h2, ← hI.out, shiftDown_stop lt64 j dj h]
                  have OUT := Lib.hid out
                  clear out
                  by_cases h1 : 1 ≤ j
                  · go_wp2_with fail
                    go_big_quiet (first | (go_at_call 52; refine Calls.quiet_of_same (less64 _ _ _)))
                    go_wp2
                    · have hl : lt64 (G j) (G (j - 1)) = false := by
                        have h : (!lt64 (G j) (G (j - 1))) = true := by assumption
                        simpa using h
                      go_meet
                      case rel => exact ⟨dj, hsj, HM.out.on nq, OUT.out (Or.inr (by rw [← HG.out, ← HG.out]; exact hl))⟩
                    · have hl : lt64 (G j) (G (j - 1)) = true := by
                        have h : (!lt64 (G j) (G (j - 1))) = false := by assumption
                        simpa using h
                      go_region
                      all_goals go_wp2
                      go_roundw
                      case rel =>
                        refine ⟨j - 1, swp dj j (j - 1), by go_num, by omega, by rw [size_swp]; exact hsj, ?_, ?_⟩
                        · exact HM.out.swap (nq + 1) j (j - 1) (by omega) (by omega) (by rw [HG.out]) (by rw [HG.out])
                        · exact (shiftDown_go lt64 j dj h1 (by rw [← HG.out, ← HG.out]; exact hl)).symm.trans hI.out
                      case measure => simp [intOf]; omega
                  · go_wp2
                    go_meet
                    case rel => exact ⟨dj, hsj, HM.out, OUT.out (Or.inl (by omega))⟩
              · go_wp2
                go_meet
                case rel => exact ⟨d2, hs2, HS.out, by show _ = _; unfold fixDown; rw [if_neg h2]⟩
            case rest =>
              obtain ⟨d3, hs3, hL3, hD⟩ := hcut
              have HL3 := Lib.hid hL3
              clear hL3 HS
              refine HK5.out _ _ ?_
              clear HK5
              have fin : ∀ (d4 : Array Nat) (wz : World), (fixUp lt64 b k d3 = d4 ∧ d4.size = d.size) → Left w blk off d4 wz → ∃ (i' s' : Nat) (dk' : Array Nat), Value.int .i64 (k : Int) = .int .i64 (i' : Int) ∧ Value.int .i64 ((s : Int) + 1) = .int .i64 (s' : Int) ∧ s' ≤ 5 ∧ a < i' ∧ i' ≤ b ∧ dk'.size = d.size ∧ Left w blk off dk' wz ∧
                  Hid (partialIns lt64 a b (5 - s') i' dk' = partialIns lt64 a b 5 (a + 1) d) := fun d4 wz h hl =>
                ⟨k, s + 1, d4, rfl, by go_num, by omega, by omega, hkb, h.2, hl, show _ = _ by rw [← hE.out, HE.out, hD.out, h.1]⟩
              have FIN := Lib.hid fin
              clear fin
              by_cases h2 : b - k ≥ 2
              · go_wp2
                go_loopw [10] (fun v wz => ∃ (j : Nat) (dj : Array Nat), v = .int .i64 (j : Int) ∧ k + 1 ≤ j ∧ j ≤ b ∧ dj.size = d.size ∧ Left w blk off dj wz ∧ Hid (shiftUp lt64 b j dj = shiftUp lt64 b (k + 1) d3)) (fun v _ => b - (intOf v).toNat)
                case atStart => exact ⟨k + 1, d3, by go_num, Nat.le_refl _, by omega, hs3, HL3.out, rfl⟩
                case round =>
                  obtain ⟨j, dj, rfl, hj, hjb, hsj, hM, hI⟩ := hrel
                  obtain ⟨G, hG⟩ : ∃ G : Nat → Nat, ∀ t, G t = dj[t]! := ⟨fun t => dj[t]!, fun _ => rfl⟩
                  have hc := hM.cell HH.out hsj hG
                  have hf := hM.free HH.out hsj
                  have HG := Lib.hid hG
                  have HM := Lib.hid hM
                  clear hG hM
                  have out : (¬ j < b ∨ lt64 dj[j]! dj[j - 1]! = false) → fixUp lt64 b k d3 = dj ∧ dj.size = d.size := fun h => by
                    refine ⟨?_, hsj⟩
                    unfold fixUp
                    rw [if_pos h2, ← hI.out, shiftUp_stop lt64 b j dj h]
                  have OUT := Lib.hid out
                  clear out
                  by_cases h1 : j < b
                  · go_wp2_with fail
                    go_big_quiet (first | (go_at_call 52; refine Calls.quiet_of_same (less64 _ _ _)))
                    go_wp2
                    · have hl : lt64 (G j) (G (j - 1)) = false := by
                        have h : (!lt64 (G j) (G (j - 1))) = true := by assumption
                        simpa using h
                      refine HKs.out _ _ ?_
                      go_wp2
                      go_roundw
                      case rel => exact FIN.out _ _ (OUT.out (Or.inr (by rw [← HG.out, ← HG.out]; exact hl))) (HM.out.on nq)
                      case measure => simp [intOf]; omega
                    · have hl : lt64 (G j) (G (j - 1)) = true := by
                        have h : (!lt64 (G j) (G (j - 1))) = false := by assumption
                        simpa using h
                      go_region
                      all_goals go_wp2
                      go_roundw
                      case rel =>
                        refine ⟨j + 1, swp dj j (j - 1), by go_num, by omega, by omega, by rw [size_swp]; exact hsj, ?_, ?_⟩
                        · exact HM.out.swap (nq + 1) j (j - 1) (by omega) (by omega) (by rw [HG.out]) (by rw [HG.out])
                        · exact (shiftUp_go lt64 b j dj h1 (by rw [← HG.out, ← HG.out]; exact hl)).symm.trans hI.out
                      case measure => simp [intOf]; omega
                  · go_wp2
                    refine HKs.out _ _ ?_
                    go_wp2
                    go_roundw
                    case rel => exact FIN.out _ _ (OUT.out (Or.inl h1)) HM.out
                    case measure => simp [intOf]; omega
              · go_wp2
                refine HKs.out _ _ ?_
                go_wp2
                go_roundw
                case rel => exact FIN.out _ _ (by unfold fixUp; rw [if_neg h2]; exact ⟨rfl, hs3⟩) HL3.out
                case measure => simp [intOf]; omega
    · obtain rfl : s = 5 := by omega
      go_wp2
      go_ret
      have e : Sort.partialInsertionSort lt64 d a b = (dk, false) := by unfold Sort.partialInsertionSort; rw [← hE.out]; rfl
      rw [e]
      exact ⟨rfl, HL.out⟩
end Go.Proofs.YtifofdciablljaaDoor
