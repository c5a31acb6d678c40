/-
  The library's sort at rows of uint64: the two partitions.
-/
import Derived.Test.YtifofdciablljaaDoorSrtB
import Derived.Sort.WalkC
import Derived.Sort.LotC
import Derived.Deep.CutRange
set_option linter.unusedSimpArgs false
set_option linter.unusedVariables false
namespace Go.Proofs.YtifofdciablljaaDoor
open Go.RowKit Go.Sort

set_option maxHeartbeats 6400000 in
set_option maxRecDepth 100000 in
theorem parteq64 (blk off cap a b pivot : Nat) (d : Array Nat) (w : World) (hH : Holds e64 w blk off d) (hap : a ≤ pivot) (hpb : pivot < b) (hb : b ≤ d.size) (hsz : d.size < 4611686018427387904) :
    Calls Tryd.prog 77 #[.slice (some ⟨blk, off, none⟩) d.size cap, .int .i64 a, .int .i64 b, .int .i64 pivot] w fun e w' =>
      e = .returned (.int .i64 (Sort.partitionEqual lt64 d a b pivot).1) ∧ Left w blk off (Sort.partitionEqual lt64 d a b pivot).2 w' := by
  obtain ⟨G, hG⟩ : ∃ G : Nat → Nat, ∀ t, G t = d[t]! := ⟨fun t => d[t]!, fun _ => rfl⟩
  have hc := (Left.self hH).cell hH rfl hG
  have hf := (Left.self hH).free hH rfl
  have hS := (Left.self hH).swapd a pivot (by omega) (by omega) (a := (G pivot : Int)) (b := (G a : Int)) (by rw [hG]) (by rw [hG])
  obtain ⟨v', hy'⟩ := cell?_setCell_some (w := w) (p := ⟨blk, off + a, none⟩) (x := .int .u64 (G pivot)) (q := ⟨blk, off + pivot, none⟩) (hc pivot (by omega))
  have HS := Lib.hid hS
  have HH := Lib.hid hH
  clear hG hS hH
  go_enter Tryd.func77, Tryd.ntmps77
  go_wp2
  go_region
  go_wp2
  go_loopw [9, 10] (fun vi vj wr => ∃ (i j : Nat) (dk : Array Nat), vi = .int .i64 (i : Int) ∧ vj = .int .i64 (j : Int) ∧ a < i ∧ i ≤ j + 1 ∧ j < b ∧ dk.size = d.size ∧ Left w blk off dk wr ∧
      Hid (Sort.partEqLoop lt64 a i j dk = Sort.partEqLoop lt64 a (a + 1) (b - 1) (Sort.swp d a pivot))) (fun vi vj _ => (intOf vj).toNat + 1 - (intOf vi).toNat)
  case atStart => exact ⟨a + 1, b - 1, swp d a pivot, by go_num, by go_num, by omega, by omega, by omega, size_swp _ _ _, HS.out, rfl⟩
  case round =>
    obtain ⟨i, j, dk, rfl, rfl, hai, hij, hjb, hs, hL, hE⟩ := hrel
    clear hc hf hy' v' HS
    obtain ⟨G, hG⟩ : ∃ G : Nat → Nat, ∀ t, G t = dk[t]! := ⟨fun t => dk[t]!, fun _ => rfl⟩
    have hc := hL.cell HH.out hs hG
    have hf := hL.free HH.out hs
    have HG := Lib.hid hG
    have HL := Lib.hid hL
    rename World => W1
    clear hG hL
    go_step
    go_step
    refine wp_seq_k fun K1 hK1 => ?_
    go_cut [9] from 29 to 82 (fun v wz => ∃ (i2 : Nat), v = .int .i64 (i2 : Int) ∧ i ≤ i2 ∧ i2 ≤ j + 1 ∧ Hid (i2 = Sort.scanUp (fun x => !lt64 dk[a]! x) dk j i) ∧ ∃ n, wz = W1.drewN n)
    case first =>
      go_wp2
      go_loopw [9] (fun v wz => ∃ (i2 n : Nat), v = .int .i64 (i2 : Int) ∧ i ≤ i2 ∧ i2 ≤ j + 1 ∧ wz = W1.drewN n ∧ Hid (Sort.scanUp (fun x => !lt64 dk[a]! x) dk j i2 = Sort.scanUp (fun x => !lt64 dk[a]! x) dk j i)) (fun v _ => j + 1 - (intOf v).toNat)
      case atStart => exact ⟨i, 0, rfl, Nat.le_refl _, hij, rfl, rfl⟩
      case round =>
        obtain ⟨i2, n, rfl, hi1, hi2, hw, hsc⟩ := hrel
        have hc1 : ∀ t, t < d.size → wr.cell? ⟨blk, off + t, none⟩ = some (.int .u64 (G t : Nat)) := fun t ht => by rw [hw]; exact hc t ht
        have HW := Lib.hid hw
        clear hw hc
        by_cases hle : i2 ≤ j
        · go_wp2_with fail
          go_big_quiet (first | (go_at_call 52; refine Calls.quiet_of_same (less64 _ _ _)))
          go_wp2
          · have ht : (!lt64 (G a) (G i2)) = true := by assumption
            go_roundw
            case rel => exact ⟨i2 + 1, n + nq, by go_num, by omega, by omega, by rw [HW.out, World.drewN_drewN], (scanUp_go (fun x => !lt64 dk[a]! x) dk j i2 hle (by rw [← HG.out a, ← HG.out i2]; exact ht)).symm.trans hsc.out⟩
            case measure => simp [intOf]; omega
          · have ht : (!lt64 (G a) (G i2)) = false := by assumption
            go_meet
            case rel => exact ⟨i2, rfl, hi1, hi2, (scanUp_end (fun x => !lt64 dk[a]! x) dk j i2 (Or.inr (by rw [← HG.out a, ← HG.out i2]; exact ht))).symm.trans hsc.out, n + nq, by rw [HW.out, World.drewN_drewN]⟩
        · go_wp2_with fail
          go_big_quiet (first | (go_at_call 52; refine Calls.quiet_of_same (less64 _ _ _)))
          go_wp2
          go_meet
          case rel => exact ⟨i2, rfl, hi1, hi2, (scanUp_end (fun x => !lt64 dk[a]! x) dk j i2 (Or.inl hle)).symm.trans hsc.out, n + nq, by rw [HW.out, World.drewN_drewN]⟩
    case rest =>
      obtain ⟨i2, rfl, hi1, hi2, hI, n1, hw1⟩ := hcut
      have hc1 : ∀ t, t < d.size → wc.cell? ⟨blk, off + t, none⟩ = some (.int .u64 (G t : Nat)) := fun t ht => by rw [hw1]; exact hc t ht
      have hf1 : ∀ t, t < d.size → wc.frozen? ⟨blk, off + t, none⟩ = false := fun t ht => by rw [hw1]; exact hf t ht
      have L1 : Hid (Left w blk off dk wc) := by rw [hw1]; exact HL.out.on n1
      clear hw1 hc hf HL
      rename World => W2
      refine hK1 _ _ ?_
      refine wp_seq_k fun K2 hK2 => ?_
      go_cut [10] from 29 to 82 (fun v wz => ∃ (j2 : Nat), v = .int .i64 (j2 : Int) ∧ j2 ≤ j ∧ i2 ≤ j2 + 1 ∧ Hid (j2 = Sort.scanDown (fun x => lt64 dk[a]! x) dk i2 j) ∧ ∃ n, wz = W2.drewN n)
      case first =>
        go_wp2
        go_loopw [10] (fun v wz => ∃ (j2 n : Nat), v = .int .i64 (j2 : Int) ∧ j2 ≤ j ∧ i2 ≤ j2 + 1 ∧ wz = W2.drewN n ∧ Hid (Sort.scanDown (fun x => lt64 dk[a]! x) dk i2 j2 = Sort.scanDown (fun x => lt64 dk[a]! x) dk i2 j)) (fun v _ => (intOf v).toNat)
        case atStart => exact ⟨j, 0, rfl, Nat.le_refl _, hi2, rfl, rfl⟩
        case round =>
          obtain ⟨j2, n, rfl, hj1, hj2, hw, hsc⟩ := hrel
          have hc2 : ∀ t, t < d.size → wr.cell? ⟨blk, off + t, none⟩ = some (.int .u64 (G t : Nat)) := fun t ht => by rw [hw]; exact hc1 t ht
          have HW := Lib.hid hw
          clear hw hc1
          by_cases hle : i2 ≤ j2
          · go_wp2_with fail
            go_big_quiet (first | (go_at_call 52; refine Calls.quiet_of_same (less64 _ _ _)))
            go_wp2
            · have ht : lt64 (G a) (G j2) = true := by assumption
              go_roundw
              case rel => exact ⟨j2 - 1, n + nq, by go_num, by omega, by omega, by rw [HW.out, World.drewN_drewN], (scanDown_go (fun x => lt64 dk[a]! x) dk i2 j2 hle (by omega) (by rw [← HG.out a, ← HG.out j2]; exact ht)).symm.trans hsc.out⟩
              case measure => simp [intOf]; omega
            · have ht : lt64 (G a) (G j2) = false := by assumption
              go_meet
              case rel => exact ⟨j2, rfl, hj1, hj2, (scanDown_end (fun x => lt64 dk[a]! x) dk i2 j2 (Or.inr (by rw [← HG.out a, ← HG.out j2]; exact ht))).symm.trans hsc.out, n + nq, by rw [HW.out, World.drewN_drewN]⟩
          · go_wp2_with fail
            go_big_quiet (first | (go_at_call 52; refine Calls.quiet_of_same (less64 _ _ _)))
            go_wp2
            go_meet
            case rel => exact ⟨j2, rfl, hj1, hj2, (scanDown_end (fun x => lt64 dk[a]! x) dk i2 j2 (Or.inl hle)).symm.trans hsc.out, n + nq, by rw [HW.out, World.drewN_drewN]⟩
      case rest =>
        obtain ⟨j2, rfl, hj1, hj2, hJ, n2, hw2⟩ := hcut
        have hc2 : ∀ t, t < d.size → wc.cell? ⟨blk, off + t, none⟩ = some (.int .u64 (G t : Nat)) := fun t ht => by rw [hw2]; exact hc1 t ht
        have hf2 : ∀ t, t < d.size → wc.frozen? ⟨blk, off + t, none⟩ = false := fun t ht => by rw [hw2]; exact hf1 t ht
        have L2 : Hid (Left w blk off dk wc) := by rw [hw2]; exact L1.out.on n2
        clear hw2 hc1 hf1 L1
        refine hK2 _ _ ?_
        by_cases hgt : j2 < i2
        · go_wp2
          go_ret
          have e := partEq_break lt64 a i j dk hI.out hJ.out hgt
          refine ⟨?_, ?_⟩
          · unfold Sort.partitionEqual; rw [← hE.out, e]; rfl
          · unfold Sort.partitionEqual; rw [← hE.out, e]; exact L2.out
        · have hlt := scans_lt lt64 a i j dk (by omega) hI.out hJ.out (by omega)
          obtain ⟨v3, hy3⟩ := cell?_setCell_some (w := wc) (p := ⟨blk, off + i2, none⟩) (x := .int .u64 (G j2)) (q := ⟨blk, off + j2, none⟩) (hc2 j2 (by omega))
          go_wp2
          go_region
          all_goals go_wp2
          go_roundw
          case rel =>
            refine ⟨i2 + 1, j2 - 1, swp dk i2 j2, by go_num, by go_num, by omega, by omega, by omega, by rw [size_swp]; exact hs, ?_, ?_⟩
            · exact L2.out.swapd i2 j2 (by omega) (by omega) (by rw [HG.out]) (by rw [HG.out])
            · exact (partEq_go lt64 a i j dk hI.out hJ.out (by omega)).symm.trans hE.out
          case measure => simp [intOf]; omega
end Go.Proofs.YtifofdciablljaaDoor
