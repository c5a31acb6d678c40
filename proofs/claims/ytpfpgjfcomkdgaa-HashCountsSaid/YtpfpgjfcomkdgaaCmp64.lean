/-
  slices.Compact at rows of uint64: of each run of equal ones one is left.
-/
import Derived.Test.YtpfpgjfcomkdgaaSrtA
import Derived.Lib.SlicesCompact
import Derived.Lib.SliceRun
import Derived.Deep.LoopGhost
import Derived.Deep.RegionWith
set_option linter.unusedSimpArgs false
set_option linter.unusedVariables false
namespace Go.Proofs.Ytpfpgjfcomkdgaa
open Go.RowKit Go.Sort

theorem Left.put {w W : World} {blk off : Nat} {d : Array Nat} (h : Left w blk off d W) (i x : Nat) (hi : i < d.size) : Left w blk off (d.setIfInBounds i x) ((W.setCell ⟨blk, off + i, none⟩ (.int .u64 (x : Int))).drew) := by
  obtain ⟨n, rfl⟩ := h
  refine ⟨n + 1, ?_⟩
  rw [← putRow_set e64 _ blk off d i x hi, ← ahead_drew]
  rfl

set_option maxHeartbeats 4000000 in
set_option maxRecDepth 100000 in
theorem compact64 (blk off cap : Nat) (d : Array Nat) (w : World) (hH : Holds e64 w blk off d) (hsz : d.size < 4611686018427387904) (hcap : d.size ≤ cap) :
    Calls Try.prog 30 #[.slice (some ⟨blk, off, none⟩) d.size cap] w fun e w' =>
      e = .returned (.slice (some ⟨blk, off, none⟩) (Lib.compactUpTo d d.size).length cap) ∧ ∃ d' : Array Nat, d'.size = d.size ∧ Left w blk off d' w' := by
  have hend : ∀ q, (∀ j, j < d.size → Lib.keeps d j = true) → (Lib.compactUpTo d d.size).length = d.size ∧ ∃ d' : Array Nat, d'.size = d.size ∧ Left w blk off d' (w.drewN q) := by
    intro q hall
    refine ⟨by rw [Lib.compactUpTo_all d _ hall, Lib.range_map_get]; simp, d, rfl, (Left.self hH).on q⟩
  have HE := Lib.hid hend
  clear hend
  have HH := Lib.hid hH
  clear hH
  go_enter Try.func30, Try.ntmps30
  by_cases h2 : d.size < 2
  · go_wp2
    go_ret
    obtain ⟨e1, e2⟩ := HE.out 0 (fun j hj => Lib.keeps_lt_one d j (by omega))
    exact ⟨by rw [e1]; rfl, e2⟩
  · go_wp2
    go_loopg [3] d.size (fun g s3 wr => ∃ k q : Nat, 1 ≤ k ∧ k ≤ d.size ∧ d.size - k ≤ g ∧ s3 = .int .i64 (k : Int) ∧ wr = w.drewN q ∧ Hid (∀ j, j < k → Lib.keeps d j = true))
    case atStart => exact ⟨1, 0, Nat.le_refl _, by omega, by omega, rfl, rfl, Lib.keeps_lt_one d⟩
    case round =>
      obtain ⟨k, q, hk1, hk, hg, rfl, rfl, hA⟩ := hrel
      obtain ⟨go, rfl⟩ : ∃ go : Nat, go = gk := ⟨_, rfl⟩
      by_cases hlt : k < d.size
      · obtain ⟨G, hG⟩ : ∃ G : Nat → Nat, ∀ t, G t = d[t]! := ⟨fun t => d[t]!, fun _ => rfl⟩
        have hc : ∀ t, t < d.size → w.cell? ⟨blk, off + t, none⟩ = some (.int .u64 (G t : Nat)) := fun t ht => by rw [hG]; exact (HH.out t ht).1
        have HG := Lib.hid hG
        clear hG
        by_cases hdup : G k = G (k - 1)
        · have hdz : ((G k : Int) = (G (k - 1) : Int)) := by rw [hdup]
          go_wp2_with fail
          go_region
          all_goals go_wp2
          clear hc
          go_loopg [3, 5] d.size (fun g s3 s5 wr => ∃ (kk k2 : Nat) (dk : Array Nat), s3 = .int .i64 (kk : Int) ∧ s5 = .int .i64 (k2 : Int) ∧ 1 ≤ k2 ∧ k + k2 ≤ d.size ∧ d.size - (k + k2) ≤ g ∧ Left w blk off dk wr ∧ Hid (Lib.CompInv d (k + k2) kk dk))
          case atStart => exact ⟨k, 1, d, rfl, rfl, Nat.le_refl _, by omega, by omega, (Left.self HH.out).on (q + 1), Lib.CompInv.start hA.out (Lib.keeps_neg (by omega) (by rw [← HG.out, ← HG.out]; exact hdup))⟩
          case round =>
            obtain ⟨kk, k2, dk, rfl, rfl, h1, hle, hg2, hL, hI⟩ := hrel
            obtain ⟨go2, rfl⟩ : ∃ go2 : Nat, go2 = gk := ⟨_, rfl⟩
            have hkk := hI.out.lt
            have hds := hI.out.size
            obtain ⟨D, hD⟩ : ∃ D : Nat → Nat, ∀ t, D t = dk[t]! := ⟨fun t => dk[t]!, fun _ => rfl⟩
            have hc := hL.cell HH.out hds hD
            have hf := hL.free HH.out hds
            have HD := Lib.hid hD
            have HL := Lib.hid hL
            clear hD hL
            by_cases hlt2 : k + k2 < d.size
            · have em : D (k + k2) = G (k + k2) := by rw [HD.out, HG.out]; exact hI.out.high (k + k2) (by omega)
              have ep : D (k + k2 - 1) = G (k + k2 - 1) := by rw [HD.out, HG.out]; exact hI.out.high (k + k2 - 1) (by omega)
              have cm : wr.cell? ⟨blk, off + k + k2, none⟩ = some (.int .u64 (G (k + k2) : Nat)) := by have := hc (k + k2) (by omega); rw [em] at this; rwa [Nat.add_assoc]
              have cp : wr.cell? ⟨blk, off + k + (k2 - 1), none⟩ = some (.int .u64 (G (k + k2 - 1) : Nat)) := by have := hc (k + k2 - 1) (by omega); rw [ep] at this; rwa [Nat.add_assoc, show k + (k2 - 1) = k + k2 - 1 by omega]
              have ck := hc kk (by omega)
              have fk := hf kk (by omega)
              clear hc hf
              have EM := Lib.hid em
              clear em ep
              generalize hu : G (k + k2) = u at cm EM
              generalize hv : G (k + k2 - 1) = v at cp
              generalize D kk = old at ck
              have U := Lib.hid hu
              have V := Lib.hid hv
              clear hu hv
              by_cases huv : u = v
              · subst huv
                go_wp2_with fail
                go_region
                all_goals go_wp2
                go_roundg (d.size - (k + (k2 + 1)))
                case measure => omega
                case rel => exact ⟨kk, k2 + 1, dk, rfl, by go_num, by omega, by omega, Nat.le_refl _, HL.out.on 1, hI.out.skip (Lib.keeps_neg (by omega) (by rw [← HG.out, ← HG.out, U.out, V.out]))⟩
              · have huvz : ¬ ((u : Int) = (v : Int)) := by omega
                go_wp2_with fail
                go_region
                all_goals go_wp2
                go_roundg (d.size - (k + (k2 + 1)))
                case measure => omega
                case rel =>
                  refine ⟨kk + 1, k2 + 1, dk.setIfInBounds kk u, by go_num, by go_num, by omega, by omega, Nat.le_refl _, ?_, ?_⟩
                  · exact HL.out.put kk u (by omega)
                  · have := hI.out.keep hlt2 (Lib.keeps_pos (by rw [← HG.out, ← HG.out, U.out, V.out]; exact huv))
                    rw [← HG.out, U.out] at this
                    exact this
            · have hend : k + k2 = d.size := by omega
              have hcl : ∀ ty, (Builtin.clear_ #[23] ty #[.slice (some ⟨blk, off + kk, none⟩) (d.size - kk) (cap - kk)]).run Try.prog wr = .ok (.tuple #[]) (wr.setCells blk (off + kk) (List.replicate (d.size - kk) (.int .u64 0))) :=
                fun ty => Lib.run_clear_slice wr 23 22 ty (.int .u64 0) rfl (fun _ => rfl) rfl rfl blk (off + kk) _ _ (by omega) (fun j hj => by rw [show off + kk + j = off + (kk + j) by omega, hc (kk + j) (by omega)]; rfl) (fun j hj => by rw [show off + kk + j = off + (kk + j) by omega]; exact hf (kk + j) (by omega))
              clear hc hf
              go_wp2
              go_ret
              have h5 := hI.out
              rw [hend] at h5
              refine ⟨by rw [h5.len]; rfl, (Lib.compactUpTo d d.size ++ List.replicate (d.size - kk) 0).toArray, by simp [h5.len]; omega, ?_⟩
              rw [← h5.done 0]
              obtain ⟨n, hn⟩ := HL.out
              refine ⟨n, ?_⟩
              rw [← Lib.putRow_setCells e64 _ blk off _ dk kk (by simp; omega), ← hn, List.map_replicate]
              rfl
        · have hdz : ¬ ((G k : Int) = (G (k - 1) : Int)) := by omega
          go_wp2_with fail
          go_region
          all_goals go_wp2
          go_roundg (d.size - (k + 1))
          case measure => omega
          case rel =>
            refine ⟨k + 1, q + 1, by omega, by omega, Nat.le_refl _, by go_num, rfl, fun j hj => ?_⟩
            by_cases e : j = k
            · subst e
              exact Lib.keeps_pos (by rw [← HG.out, ← HG.out]; exact hdup)
            · exact hA.out j (by omega)
      · obtain rfl : k = d.size := by omega
        go_wp2
        go_ret
        obtain ⟨e1, e2⟩ := HE.out q hA.out
        exact ⟨by rw [e1]; rfl, e2⟩

theorem compactNil64 (p : Option Addr) (cap : Nat) (w : World) : Calls Try.prog 30 #[.slice p 0 cap] w fun e w' => e = .returned (.slice p 0 cap) ∧ w' = w := by
  go_enter Try.func30, Try.ntmps30
  go_wp2
  go_ret
  exact ⟨rfl, rfl⟩

/-- Of a sorted row as many are left as there are different ones. -/
theorem compact_mem (xs : List Nat) (x : Nat) : x ∈ Lib.compactUpTo xs.toArray xs.length ↔ x ∈ xs := by
  unfold Lib.compactUpTo
  simp only [List.mem_map, List.mem_filter, List.mem_range]
  constructor
  · rintro ⟨j, ⟨hj, -⟩, rfl⟩
    simp [hj]
  · intro h
    obtain ⟨j, hj, rfl⟩ := List.mem_iff_getElem.1 h
    clear h
    induction j using Nat.strongRecOn with
    | _ j ih =>
      by_cases hk : Lib.keeps xs.toArray j = true
      · exact ⟨j, ⟨hj, hk⟩, by simp [hj]⟩
      · simp only [Lib.keeps, decide_eq_true_eq, not_or, Decidable.not_not] at hk
        obtain ⟨a, ⟨ha, hb⟩, hc⟩ := ih (j - 1) (by omega) (by omega)
        refine ⟨a, ⟨ha, hb⟩, hc.trans ?_⟩
        have := hk.2
        simp [hj, show j - 1 < xs.length by omega] at this
        exact this.symm

theorem compact_nodup (xs : List Nat) (hs : xs.Pairwise (· ≤ ·)) : (Lib.compactUpTo xs.toArray xs.length).Nodup := by
  unfold Lib.compactUpTo
  rw [List.nodup_iff_pairwise_ne]
  refine List.Pairwise.imp (R := (· < ·)) (fun h => Nat.ne_of_lt h) ?_
  rw [List.pairwise_map]
  refine List.Pairwise.imp_of_mem (R := (· < ·)) ?_ (List.Pairwise.filter _ List.pairwise_lt_range)
  intro i j hi hj hij
  simp only [List.mem_filter, List.mem_range, Lib.keeps, decide_eq_true_eq] at hi hj
  have h1 := List.pairwise_iff_getElem.1 hs
  have e : ∀ t, (h : t < xs.length) → xs.toArray[t]! = xs[t] := fun t h => by simp [h]
  obtain ⟨hi1, hi2⟩ := hi
  obtain ⟨hj1, hj2⟩ := hj
  rw [e i hi1, e j hj1]
  have hne := hj2.resolve_left (by omega)
  rw [e j hj1, e (j - 1) (by omega)] at hne
  have h2 : xs[i] ≤ xs[j - 1] := by
    by_cases hh : i = j - 1
    · subst hh; exact Nat.le_refl _
    · exact h1 i (j - 1) hi1 (by omega) (by omega)
  have h3 : xs[j - 1] ≤ xs[j] := h1 (j - 1) j (by omega) hj1 (by omega)
  omega
end Go.Proofs.Ytpfpgjfcomkdgaa
