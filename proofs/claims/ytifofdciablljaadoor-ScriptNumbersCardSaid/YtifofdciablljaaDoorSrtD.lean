/-
  The library's sort at rows of uint64: the partition.
-/
import Derived.Test.YtifofdciablljaaDoorSrtC
import Derived.Sort.WalkC4
set_option linter.unusedSimpArgs false
set_option linter.unusedVariables false
namespace Go.Proofs.YtifofdciablljaaDoor
open Go.RowKit Go.Sort

set_option maxHeartbeats 6400000 in
set_option maxRecDepth 100000 in
theorem part64 (blk off cap a b pivot : Nat) (d : Array Nat) (w : World) (hH : Holds e64 w blk off d) (hap : a ≤ pivot) (hpb : pivot < b) (hb : b ≤ d.size) (hsz : d.size < 4611686018427387904) :
    Calls Tryd.prog 78 #[.slice (some ⟨blk, off, none⟩) d.size cap, .int .i64 a, .int .i64 b, .int .i64 pivot] w fun e w' =>
      e = .returned (.tuple #[.int .i64 (Sort.partition lt64 d a b pivot).1, .bool (Sort.partition lt64 d a b pivot).2.1]) ∧ Left w blk off (Sort.partition lt64 d a b pivot).2.2 w' := by
  obtain ⟨G, hG⟩ : ∃ G : Nat → Nat, ∀ t, G t = d[t]! := ⟨fun t => d[t]!, fun _ => rfl⟩
  have hc := (Left.self hH).cell hH rfl hG
  have hf := (Left.self hH).free hH rfl
  have hS := (Left.self hH).swapd a pivot (by omega) (by omega) (a := (G pivot : Int)) (b := (G a : Int)) (by rw [hG]) (by rw [hG])
  obtain ⟨v', hy'⟩ := cell?_setCell_some (w := w) (p := ⟨blk, off + a, none⟩) (x := .int .u64 (G pivot)) (q := ⟨blk, off + pivot, none⟩) (hc pivot (by omega))
  have HS := Lib.hid hS
  have HH := Lib.hid hH
  clear hG hS hH
  go_enter Tryd.func78, Tryd.ntmps78
  refine wp_seq_k fun Ka hKa => ?_
  have HKa := Lib.hid hKa
  clear hKa
  go_wp2
  refine HKa.out _ _ ?_
  refine wp_seq_k fun Kb hKb => ?_
  have HKb := Lib.hid hKb
  clear hKb HKa
  go_wp2
  go_region
  all_goals go_wp2
  refine HKb.out _ _ ?_
  refine wp_seq_k fun Kc hKc => ?_
  have HKc := Lib.hid hKc
  clear hKc HKb
  go_wp2
  refine HKc.out _ _ ?_
  clear HKc hy' v' hc hf
  generalize World.drew _ = W1 at HS ⊢
  obtain ⟨dk, hdk⟩ : ∃ dk, dk = swp d a pivot := ⟨_, rfl⟩
  obtain ⟨i, hi0⟩ : ∃ i : Nat, i = a + 1 := ⟨_, rfl⟩
  obtain ⟨j, hj0⟩ : ∃ j : Nat, j = b - 1 := ⟨_, rfl⟩
  have ei : (a : Int) + 1 = (i : Int) := by omega
  have ej : (b : Int) - 1 = (j : Int) := by omega
  rw [ei, ej]
  have hij : i ≤ j + 1 := by omega
  have hjb : j < b := by omega
  have hai : a < i := by omega
  have hs : dk.size = d.size := by rw [hdk]; exact size_swp _ _ _
  have HL : Hid (Left w blk off dk W1) := by rw [hdk]; exact HS.out
  have HI0 := Lib.hid hi0
  have HJ0 := Lib.hid hj0
  have HDK := Lib.hid hdk
  clear HS ei ej hi0 hj0 hdk
  obtain ⟨G, hG⟩ : ∃ G : Nat → Nat, ∀ t, G t = dk[t]! := ⟨fun t => dk[t]!, fun _ => rfl⟩
  have hc := HL.out.cell HH.out hs hG
  have hf := HL.out.free HH.out hs
  have HG := Lib.hid hG
  clear hG
  refine wp_seq_k fun K1 hK1 => ?_
  go_cut [10] from 30 (fun v wz => ∃ (i2 : Nat), v = .int .i64 (i2 : Int) ∧ i ≤ i2 ∧ i2 ≤ j + 1 ∧ Hid (i2 = Sort.scanUp (fun x => lt64 x dk[a]!) dk j i) ∧ ∃ n, wz = W1.drewN n)
  case first =>
    go_wp2
    go_loopw [10] (fun v wz => ∃ (i2 n : Nat), v = .int .i64 (i2 : Int) ∧ i ≤ i2 ∧ i2 ≤ j + 1 ∧ wz = W1.drewN n ∧ Hid (Sort.scanUp (fun x => lt64 x dk[a]!) dk j i2 = Sort.scanUp (fun x => lt64 x dk[a]!) dk j i)) (fun v _ => j + 1 - (intOf v).toNat)
    case atStart => exact ⟨i, 0, rfl, Nat.le_refl _, hij, rfl, rfl⟩
    case round =>
      obtain ⟨i2, n, rfl, hi1, hi2, hw, hsc⟩ := hrel
      have hc1 : ∀ t, t < d.size → wr.cell? ⟨blk, off + t, none⟩ = some (.int .u64 (G t : Nat)) := fun t ht => by rw [hw]; exact hc t ht
      have HW := Lib.hid hw
      clear hw hc
      by_cases hle : i2 ≤ j
      · go_wp2_with fail
        go_big_quiet (first | (go_at_call 52; refine Calls.quiet_of_same (less64 _ _ _)))
        go_wp2
        · have ht : lt64 (G i2) (G a) = true := by assumption
          go_roundw
          case rel => exact ⟨i2 + 1, n + nq, by go_num, by omega, by omega, by rw [HW.out, World.drewN_drewN], (scanUp_go (fun x => lt64 x dk[a]!) dk j i2 hle (by rw [← HG.out a, ← HG.out i2]; exact ht)).symm.trans hsc.out⟩
          case measure => simp [intOf]; omega
        · have ht : lt64 (G i2) (G a) = false := by assumption
          go_meet
          case rel => exact ⟨i2, rfl, hi1, hi2, (scanUp_end (fun x => lt64 x dk[a]!) dk j i2 (Or.inr (by rw [← HG.out a, ← HG.out i2]; exact ht))).symm.trans hsc.out, n + nq, by rw [HW.out, World.drewN_drewN]⟩
      · go_wp2_with fail
        go_big_quiet (first | (go_at_call 52; refine Calls.quiet_of_same (less64 _ _ _)))
        go_wp2
        go_meet
        case rel => exact ⟨i2, rfl, hi1, hi2, (scanUp_end (fun x => lt64 x dk[a]!) dk j i2 (Or.inl hle)).symm.trans hsc.out, n + nq, by rw [HW.out, World.drewN_drewN]⟩
  case rest =>
    obtain ⟨i2, rfl, hi1, hi2, hI, n1, hw1⟩ := hcut
    have hc1 : ∀ t, t < d.size → wc.cell? ⟨blk, off + t, none⟩ = some (.int .u64 (G t : Nat)) := fun t ht => by rw [hw1]; exact hc t ht
    have hf1 : ∀ t, t < d.size → wc.frozen? ⟨blk, off + t, none⟩ = false := fun t ht => by rw [hw1]; exact hf t ht
    have L1 : Hid (Left w blk off dk wc) := by rw [hw1]; exact HL.out.on n1
    clear hw1 hc hf HL
    rename World => W2
    refine hK1 _ _ ?_
    refine wp_seq_k fun K2 hK2 => ?_
    go_cut [11] from 30 (fun v wz => ∃ (j2 : Nat), v = .int .i64 (j2 : Int) ∧ j2 ≤ j ∧ i2 ≤ j2 + 1 ∧ Hid (j2 = Sort.scanDown (fun x => !lt64 x dk[a]!) dk i2 j) ∧ ∃ n, wz = W2.drewN n)
    case first =>
      go_wp2
      go_loopw [11] (fun v wz => ∃ (j2 n : Nat), v = .int .i64 (j2 : Int) ∧ j2 ≤ j ∧ i2 ≤ j2 + 1 ∧ wz = W2.drewN n ∧ Hid (Sort.scanDown (fun x => !lt64 x dk[a]!) dk i2 j2 = Sort.scanDown (fun x => !lt64 x dk[a]!) dk i2 j)) (fun v _ => (intOf v).toNat)
      case atStart => exact ⟨j, 0, rfl, Nat.le_refl _, hi2, rfl, rfl⟩
      case round =>
        obtain ⟨j2, n, rfl, hj1, hj2, hw, hsc⟩ := hrel
        have hc2 : ∀ t, t < d.size → wr.cell? ⟨blk, off + t, none⟩ = some (.int .u64 (G t : Nat)) := fun t ht => by rw [hw]; exact hc1 t ht
        have HW := Lib.hid hw
        clear hw hc1
        by_cases hle : i2 ≤ j2
        · go_wp2_with fail
          go_big_quiet (first | (go_at_call 52; refine Calls.quiet_of_same (less64 _ _ _)))
          go_wp2
          · have ht : (!lt64 (G j2) (G a)) = true := by assumption
            go_roundw
            case rel => exact ⟨j2 - 1, n + nq, by go_num, by omega, by omega, by rw [HW.out, World.drewN_drewN], (scanDown_go (fun x => !lt64 x dk[a]!) dk i2 j2 hle (by omega) (by rw [← HG.out a, ← HG.out j2]; exact ht)).symm.trans hsc.out⟩
            case measure => simp [intOf]; omega
          · have ht : (!lt64 (G j2) (G a)) = false := by assumption
            go_meet
            case rel => exact ⟨j2, rfl, hj1, hj2, (scanDown_end (fun x => !lt64 x dk[a]!) dk i2 j2 (Or.inr (by rw [← HG.out a, ← HG.out j2]; exact ht))).symm.trans hsc.out, n + nq, by rw [HW.out, World.drewN_drewN]⟩
        · go_wp2_with fail
          go_big_quiet (first | (go_at_call 52; refine Calls.quiet_of_same (less64 _ _ _)))
          go_wp2
          go_meet
          case rel => exact ⟨j2, rfl, hj1, hj2, (scanDown_end (fun x => !lt64 x dk[a]!) dk i2 j2 (Or.inl hle)).symm.trans hsc.out, n + nq, by rw [HW.out, World.drewN_drewN]⟩
    case rest =>
      obtain ⟨j2, rfl, hj1, hj2, hJ, n2, hw2⟩ := hcut
      have hc2 : ∀ t, t < d.size → wc.cell? ⟨blk, off + t, none⟩ = some (.int .u64 (G t : Nat)) := fun t ht => by rw [hw2]; exact hc1 t ht
      have hf2 : ∀ t, t < d.size → wc.frozen? ⟨blk, off + t, none⟩ = false := fun t ht => by rw [hw2]; exact hf1 t ht
      have L2 : Hid (Left w blk off dk wc) := by rw [hw2]; exact L1.out.on n2
      clear hw2 hc1 hf1 L1
      refine hK2 _ _ ?_
      by_cases hgt : j2 < i2
      · have HE := Lib.hid (part_first_break lt64 d a b pivot HI0.out HJ0.out HDK.out hI.out hJ.out hgt)
        obtain ⟨v3, hy3⟩ := cell?_setCell_some (w := wc) (p := ⟨blk, off + j2, none⟩) (x := .int .u64 (G a)) (q := ⟨blk, off + a, none⟩) (hc2 a (by omega))
        go_wp2
        go_region
        all_goals go_wp2
        go_ret2
        rw [HE.out]
        exact ⟨rfl, L2.out.swapd j2 a (by omega) (by omega) (by rw [HG.out]) (by rw [HG.out])⟩
      · have hlt := part_scans_lt lt64 a i j dk (by omega) hI.out hJ.out (by omega)
        obtain ⟨r, HR, hP⟩ : ∃ r, Hid (partLoop lt64 a (i2 + 1) (j2 - 1) (swp dk i2 j2) = r) ∧ Hid (partition lt64 d a b pivot = (r.1, false, swp r.2 r.1 a)) := ⟨_, rfl, part_first_go lt64 d a b pivot HI0.out HJ0.out HDK.out hI.out hJ.out (by omega)⟩
        obtain ⟨v3, hy3⟩ := cell?_setCell_some (w := wc) (p := ⟨blk, off + i2, none⟩) (x := .int .u64 (G j2)) (q := ⟨blk, off + j2, none⟩) (hc2 j2 (by omega))
        have HS := L2.out.swapd i2 j2 (by omega) (by omega) (a := (G j2 : Int)) (b := (G i2 : Int)) (by rw [HG.out]) (by rw [HG.out])
        have HS' := Lib.hid HS
        clear HS
        go_wp2
        go_region
        all_goals go_wp2
        go_loopw [10, 11] (fun vi vj wr => ∃ (i j : Nat) (dk : Array Nat), vi = .int .i64 (i : Int) ∧ vj = .int .i64 (j : Int) ∧ a < i ∧ i ≤ j + 1 ∧ j < b ∧ dk.size = d.size ∧ Left w blk off dk wr ∧
            Hid (partLoop lt64 a i j dk = r)) (fun vi vj _ => (intOf vj).toNat + 1 - (intOf vi).toNat)
        case atStart => exact ⟨i2 + 1, j2 - 1, swp dk i2 j2, by go_num, by go_num, by omega, by omega, by omega, by rw [size_swp]; exact hs, HS'.out, HR⟩
        case round =>
          clear hy3 v3 HS' HR hlt hc2 hf2 L2 hJ hI hgt hj1 hj2 hi1 hi2 HG hs hij hjb hai HI0 HJ0 HDK hK1 hK2
          obtain ⟨i, j, dk, rfl, rfl, hai, hij, hjb, hs, hL, hE⟩ := hrel
          obtain ⟨G, hG⟩ : ∃ G : Nat → Nat, ∀ t, G t = dk[t]! := ⟨fun t => dk[t]!, fun _ => rfl⟩
          have hc := hL.cell HH.out hs hG
          have hf := hL.free HH.out hs
          have HG := Lib.hid hG
          have HL := Lib.hid hL
          rename World => W1
          clear hG hL
          go_step
          go_step
          refine wp_seq_k fun K1 hK1 => ?_
          go_cut [10] from 99 to 152 (fun v wz => ∃ (i2 : Nat), v = .int .i64 (i2 : Int) ∧ i ≤ i2 ∧ i2 ≤ j + 1 ∧ Hid (i2 = Sort.scanUp (fun x => lt64 x dk[a]!) dk j i) ∧ ∃ n, wz = W1.drewN n)
          case first =>
            go_wp2
            go_loopw [10] (fun v wz => ∃ (i2 n : Nat), v = .int .i64 (i2 : Int) ∧ i ≤ i2 ∧ i2 ≤ j + 1 ∧ wz = W1.drewN n ∧ Hid (Sort.scanUp (fun x => lt64 x dk[a]!) dk j i2 = Sort.scanUp (fun x => lt64 x dk[a]!) dk j i)) (fun v _ => j + 1 - (intOf v).toNat)
            case atStart => exact ⟨i, 0, rfl, Nat.le_refl _, hij, rfl, rfl⟩
            case round =>
              obtain ⟨i2, n, rfl, hi1, hi2, hw, hsc⟩ := hrel
              have hc1 : ∀ t, t < d.size → wr.cell? ⟨blk, off + t, none⟩ = some (.int .u64 (G t : Nat)) := fun t ht => by rw [hw]; exact hc t ht
              have HW := Lib.hid hw
              clear hw hc
              by_cases hle : i2 ≤ j
              · go_wp2_with fail
                go_big_quiet (first | (go_at_call 52; refine Calls.quiet_of_same (less64 _ _ _)))
                go_wp2
                · have ht : lt64 (G i2) (G a) = true := by assumption
                  go_roundw
                  case rel => exact ⟨i2 + 1, n + nq, by go_num, by omega, by omega, by rw [HW.out, World.drewN_drewN], (scanUp_go (fun x => lt64 x dk[a]!) dk j i2 hle (by rw [← HG.out a, ← HG.out i2]; exact ht)).symm.trans hsc.out⟩
                  case measure => simp [intOf]; omega
                · have ht : lt64 (G i2) (G a) = false := by assumption
                  go_meet
                  case rel => exact ⟨i2, rfl, hi1, hi2, (scanUp_end (fun x => lt64 x dk[a]!) dk j i2 (Or.inr (by rw [← HG.out a, ← HG.out i2]; exact ht))).symm.trans hsc.out, n + nq, by rw [HW.out, World.drewN_drewN]⟩
              · go_wp2_with fail
                go_big_quiet (first | (go_at_call 52; refine Calls.quiet_of_same (less64 _ _ _)))
                go_wp2
                go_meet
                case rel => exact ⟨i2, rfl, hi1, hi2, (scanUp_end (fun x => lt64 x dk[a]!) dk j i2 (Or.inl hle)).symm.trans hsc.out, n + nq, by rw [HW.out, World.drewN_drewN]⟩
          case rest =>
            obtain ⟨i2, rfl, hi1, hi2, hI, n1, hw1⟩ := hcut
            have hc1 : ∀ t, t < d.size → wc.cell? ⟨blk, off + t, none⟩ = some (.int .u64 (G t : Nat)) := fun t ht => by rw [hw1]; exact hc t ht
            have hf1 : ∀ t, t < d.size → wc.frozen? ⟨blk, off + t, none⟩ = false := fun t ht => by rw [hw1]; exact hf t ht
            have L1 : Hid (Left w blk off dk wc) := by rw [hw1]; exact HL.out.on n1
            clear hw1 hc hf HL
            rename World => W2
            refine hK1 _ _ ?_
            refine wp_seq_k fun K2 hK2 => ?_
            go_cut [11] from 99 to 152 (fun v wz => ∃ (j2 : Nat), v = .int .i64 (j2 : Int) ∧ j2 ≤ j ∧ i2 ≤ j2 + 1 ∧ Hid (j2 = Sort.scanDown (fun x => !lt64 x dk[a]!) dk i2 j) ∧ ∃ n, wz = W2.drewN n)
            case first =>
              go_wp2
              go_loopw [11] (fun v wz => ∃ (j2 n : Nat), v = .int .i64 (j2 : Int) ∧ j2 ≤ j ∧ i2 ≤ j2 + 1 ∧ wz = W2.drewN n ∧ Hid (Sort.scanDown (fun x => !lt64 x dk[a]!) dk i2 j2 = Sort.scanDown (fun x => !lt64 x dk[a]!) dk i2 j)) (fun v _ => (intOf v).toNat)
              case atStart => exact ⟨j, 0, rfl, Nat.le_refl _, hi2, rfl, rfl⟩
              case round =>
                obtain ⟨j2, n, rfl, hj1, hj2, hw, hsc⟩ := hrel
                have hc2 : ∀ t, t < d.size → wr.cell? ⟨blk, off + t, none⟩ = some (.int .u64 (G t : Nat)) := fun t ht => by rw [hw]; exact hc1 t ht
                have HW := Lib.hid hw
                clear hw hc1
                by_cases hle : i2 ≤ j2
                · go_wp2_with fail
                  go_big_quiet (first | (go_at_call 52; refine Calls.quiet_of_same (less64 _ _ _)))
                  go_wp2
                  · have ht : (!lt64 (G j2) (G a)) = true := by assumption
                    go_roundw
                    case rel => exact ⟨j2 - 1, n + nq, by go_num, by omega, by omega, by rw [HW.out, World.drewN_drewN], (scanDown_go (fun x => !lt64 x dk[a]!) dk i2 j2 hle (by omega) (by rw [← HG.out a, ← HG.out j2]; exact ht)).symm.trans hsc.out⟩
                    case measure => simp [intOf]; omega
                  · have ht : (!lt64 (G j2) (G a)) = false := by assumption
                    go_meet
                    case rel => exact ⟨j2, rfl, hj1, hj2, (scanDown_end (fun x => !lt64 x dk[a]!) dk i2 j2 (Or.inr (by rw [← HG.out a, ← HG.out j2]; exact ht))).symm.trans hsc.out, n + nq, by rw [HW.out, World.drewN_drewN]⟩
                · go_wp2_with fail
                  go_big_quiet (first | (go_at_call 52; refine Calls.quiet_of_same (less64 _ _ _)))
                  go_wp2
                  go_meet
                  case rel => exact ⟨j2, rfl, hj1, hj2, (scanDown_end (fun x => !lt64 x dk[a]!) dk i2 j2 (Or.inl hle)).symm.trans hsc.out, n + nq, by rw [HW.out, World.drewN_drewN]⟩
            case rest =>
              obtain ⟨j2, rfl, hj1, hj2, hJ, n2, hw2⟩ := hcut
              have hc2 : ∀ t, t < d.size → wc.cell? ⟨blk, off + t, none⟩ = some (.int .u64 (G t : Nat)) := fun t ht => by rw [hw2]; exact hc1 t ht
              have hf2 : ∀ t, t < d.size → wc.frozen? ⟨blk, off + t, none⟩ = false := fun t ht => by rw [hw2]; exact hf1 t ht
              have L2 : Hid (Left w blk off dk wc) := by rw [hw2]; exact L1.out.on n2
              clear hw2 hc1 hf1 L1
              refine hK2 _ _ ?_
              by_cases hgt : j2 < i2
              · have e := part_break lt64 a i j dk hI.out hJ.out hgt
                have HE := Lib.hid e
                clear e
                obtain ⟨v3, hy3⟩ := cell?_setCell_some (w := wc) (p := ⟨blk, off + j2, none⟩) (x := .int .u64 (G a)) (q := ⟨blk, off + a, none⟩) (hc2 a (by omega))
                go_wp2
                go_region
                all_goals go_wp2
                go_ret2
                rw [hP.out, ← hE.out, HE.out]
                exact ⟨rfl, L2.out.swapd j2 a (by omega) (by omega) (by rw [HG.out]) (by rw [HG.out])⟩
              · have hlt := part_scans_lt lt64 a i j dk (by omega) hI.out hJ.out (by omega)
                obtain ⟨v3, hy3⟩ := cell?_setCell_some (w := wc) (p := ⟨blk, off + i2, none⟩) (x := .int .u64 (G j2)) (q := ⟨blk, off + j2, none⟩) (hc2 j2 (by omega))
                go_wp2
                go_region
                all_goals go_wp2
                go_roundw
                case rel =>
                  refine ⟨i2 + 1, j2 - 1, swp dk i2 j2, by go_num, by go_num, by omega, by omega, by omega, by rw [size_swp]; exact hs, ?_, ?_⟩
                  · exact L2.out.swapd i2 j2 (by omega) (by omega) (by rw [HG.out]) (by rw [HG.out])
                  · exact (part_go lt64 a i j dk hI.out hJ.out (by omega)).symm.trans hE.out
                case measure => simp [intOf]; omega
end Go.Proofs.YtifofdciablljaaDoor
