/-
  LanesBytes, walked.
-/
import Derived.Test.YtfomcnbpkdkohaaLawMasks
import Derived.Test.YtfomcnbpkdkohaaLawThere
import Derived.Test.YtfomcnbpkdkohaaCommon
import Derived.Deep.RegionHeld3
set_option linter.unusedSimpArgs false
set_option linter.unusedVariables false
namespace Go.Proofs.Ytfomcnbpkdkohaa
open Go.RowKit

theorem u8s_intsOf (l : List Nat) : u8s l = intsOf .u8 (l.map Int.ofNat) := by unfold u8s intsOf; rw [List.map_map]; rfl
theorem min_if (n c m : Nat) (h : m = min n c) : (if (c : Int) < (n : Int) then (c : Int) else (n : Int)) = (m : Int) := by
  split <;> omega
theorem fill8 (b : Nat) : ofW [b, b, b, b, b, b, b, b] = fillW b := rfl
/-- Bytes laid in lanes, as far as there are such; what is left then, and whether all were. -/
def laidK (x b : Nat) (l : List Int) (k : Nat) : Nat := putX x b (l.take k)
theorem laid_next {x b : Nat} {l : List Int} {k : Nat} (h : k < l.length) : laidK x b l (k + 1) = setLane (laidK x b l k) (nthZ l k).toNat b := by
  unfold laidK putX
  rw [List.take_succ_eq_append_getElem h, List.foldl_append, nthZ_eq h]; rfl
set_option maxRecDepth 100000 in
set_option maxHeartbeats 4000000 in
theorem walk_LanesBytes (sp : Option Addr) (n cap : Nat) (zs : List Int) (a1 : Int) (sp2 : Option Addr) (n2 cap2 : Nat) (ls : List Int) (w : World) (hc : sp = none → cap = 0) (hcap : n ≤ cap) (h : Sl w sp n (zs.map (Value.int .u8))) (hz : ∀ z ∈ zs, (Lit.int .u8 z).wf = true) (w1 : (Lit.int .u64 a1).wf = true)
    (hc2 : sp2 = none → cap2 = 0) (hcap2 : n2 ≤ cap2) (h2 : Sl w sp2 n2 (ls.map (Value.int .i64))) (hz2 : ∀ z ∈ ls, (Lit.int .i64 z).wf = true) :
    Calls Try.prog 7 #[.slice sp n cap, .int .u64 a1, .slice sp2 n2 cap2] w fun e w' => e = .returned (.bool true) ∧ Below w.heap.size w w' := by
  obtain ⟨x, rfl, hx⟩ := nat_of_u64 w1
  obtain ⟨m, hm⟩ : ∃ m, m = min n 12 := ⟨_, rfl⟩
  have hmi := min_if n 12 m hm
  have hm12 : m ≤ 12 := by omega
  have hmn : m ≤ n := by omega
  have hmc : m ≤ cap := by omega
  have hS := h.take m hmn
  rw [u8s_nats hz, u8s_take] at hS
  have hy : Bytey ((natsOf zs).take m) := fun b hb => nats_bytey hz b (List.mem_of_mem_take hb)
  have hlL : ((natsOf zs).take m).length = m := by have := hS.1; rw [u8s_length] at this; omega
  generalize (natsOf zs).take m = l0 at *
  have hmax := h.2.1
  have hmax2 := h2.2.1
  have hlen2 : n2 = ls.length := by have := h2.1; simpa using this
  unfold maxLen at hmax hmax2
  have hmi' : (if (12 : Int) < (n : Int) then (12 : Int) else (n : Int)) = (m : Int) := hmi
  clear w1 hmi h
  have hx'h := Lib.hid hx
  have hS'h := Lib.hid hS
  have hy'h := Lib.hid hy
  have hlL'h := Lib.hid hlL
  have hc'h := Lib.hid hc
  have hc2'h := Lib.hid hc2
  have h2'h := Lib.hid h2
  have hz2'h := Lib.hid hz2
  have hz'h := Lib.hid hz
  have hlen2'h := Lib.hid hlen2
  have hm'h := Lib.hid hm
  clear hx hS hy hlL hc hc2 h2 hz2 hz hlen2 hm
  obtain ⟨i0, hi, hz0, hz1, hz2'⟩ := info_parts info_u8z
  go_enter Try.func7, Try.ntmps7
  go_wp2_with fail
  refine (wakes_any _).mono ?_
  rintro e w1 ⟨rfl, hb1⟩
  go_wp2_with fail
  refine (clone8_any sp m cap l0 w1 (by omega) hc'h.out (hS'h.out.below hb1)).mono ?_
  rintro e w2 ⟨bp, bc, rfl, hB2, hrow2⟩
  clear hmi'
  have hw12 := hb1.size
  have hw12'h := Lib.hid hw12
  clear hw12
  have hBw2 := below_next hb1 hB2
  have hSb := Sl.of_row hrow2 (by unfold maxLen; omega)
  have hSx := hS'h.out.below hBw2
  have hS2 := h2'h.out.below hBw2
  have hb1'h := Lib.hid hb1
  have hB2'h := Lib.hid hB2
  have hrow2'h := Lib.hid hrow2
  have hSx'h := Lib.hid hSx
  have hS2'h := Lib.hid hS2
  have hSb'h := Lib.hid hSb
  have hBw2'h := Lib.hid hBw2
  clear hb1 hB2 hrow2 hSx hS2 hSb hBw2
  go_wp2_with fail
  refine (bytes_any x w2).mono ?_
  rintro e w3 ⟨rfl, hB3⟩
  go_wp2_with (first | (refine wpList_store_row rfl 24 (.tmp 8) (.tmp 32) rfl w3.heap.size (bytesA x) rfl rfl 24 _ (World.alloc_heap_new _ _) info_bytes rfl (sofarA_one x 8) ?_))
  obtain ⟨W4, hW4⟩ : ∃ W4, W4 = ((w3.alloc (.cells #[.int .u8 0, .int .u8 0, .int .u8 0, .int .u8 0, .int .u8 0, .int .u8 0, .int .u8 0, .int .u8 0] 24)).setRow w3.heap.size (bytesA x)) := ⟨_, rfl⟩
  have hb4 : Below w3.heap.size w3 W4 := by rw [hW4]; exact below_setRow' ((Below.refl _ _).alloc (Nat.le_refl _) _) (Nat.le_refl _) _
  have hk4 : W4.heap[w3.heap.size]? = some (.cells (bytesA x) 24 (0, 0)) := by rw [hW4]; exact setRow_heap _ _ _ _ _ _ (World.alloc_heap_new _ _)
  rw [← hW4]
  clear hW4
  have hB24 := below_next hB3 hb4
  have hSy : Sl W4 (some ⟨w3.heap.size, 0, none⟩) 8 (u8s (bytes8 x)) := by
    have := Sl.of_blk hk4 (by show 8 ≤ maxLen; decide)
    exact this
  have hSb4 := hSb'h.out.below hB24
  have hSx4 := hSx'h.out.below hB24
  have hS24 := hS2'h.out.below hB24
  have hBw4 := below_next hBw2'h.out hB24
  have HOf := fun W (h : Below W4.heap.size W4 W) => of_any bp m bc l0 W hy'h.out (hSb4.below h)
  have HRo := fun W (h : Below W4.heap.size W4 W) => refOf_any bp m bc l0 W hy'h.out (hSb4.below h)
  have HBy := fun W => refBytes_any x W hx'h.out
  have HE1 := fun W g c (h : Below W4.heap.size W4 W) (h' : Sl W g 8 (u8s (bytes8 x))) => equal8_same (some ⟨w3.heap.size, 0, none⟩) g 8 8 c _ W (by rw [← u8s_intsOf]; exact hSy.below h) (by rw [← u8s_intsOf]; exact h')
  have HE2 := fun W (h : Below W4.heap.size W4 W) => equal8_same bp sp m bc cap _ W (by rw [← u8s_intsOf]; exact hSb4.below h) (by rw [← u8s_intsOf]; exact hSx4.below h)
  have e0 : ((ofW l0 : Int) != (ofW l0 : Int)) = false := by simp
  generalize ofW l0 = ow at *
  have hB3'h := Lib.hid hB3
  have hb4'h := Lib.hid hb4
  have hk4'h := Lib.hid hk4
  have hB24'h := Lib.hid hB24
  have hSy'h := Lib.hid hSy
  have hSb4'h := Lib.hid hSb4
  have hSx4'h := Lib.hid hSx4
  have hS24'h := Lib.hid hS24
  have hBw4'h := Lib.hid hBw4
  have HOf'h := Lib.hid HOf
  have HRo'h := Lib.hid HRo
  have HBy'h := Lib.hid HBy
  have HE1'h := Lib.hid HE1
  have HE2'h := Lib.hid HE2
  clear hB3 hb4 hk4 hB24 hSy hSb4 hSx4 hS24 hBw4 HOf HRo HBy HE1 HE2
  have k0 := Below.refl W4.heap.size W4
  go_region_held3 (fun W => Below W4.heap.size W4 W) (first | assumption | exact Below.drew k0 | exact below_next (Below.drew k0) hB7 | exact below_next (below_next (Below.drew k0) hB7) hB9 | exact (below_next (below_next (Below.drew k0) hB7) hB9).trans (below_drewN' _ _) | fail) (first | (go_at_call 11; refine (HOf'h.out _ (by first | assumption | exact Below.drew k0 | exact below_next (Below.drew k0) hB7 | fail)).mono ?_; rintro e w7 ⟨rfl, hB7⟩) | (go_at_call 25; refine (HRo'h.out _ (by first | assumption | exact Below.drew k0 | exact below_next (Below.drew k0) hB7 | fail)).mono ?_; rintro e w8 ⟨rfl, rfl⟩) | (go_at_call 27; refine (HBy'h.out _).mono ?_; rintro e w9 ⟨rg, rc, rfl, hB9, hrow9⟩; have hSl9 := Sl.of_row hrow9 (by unfold maxLen; omega)) | (go_at_call_of 26 (Value.slice (some ⟨w3.heap.size, 0, none⟩) 8 8); refine (HE1'h.out _ _ _ (by first | assumption | exact below_next (below_next (Below.drew k0) hB7) hB9 | fail) (by assumption)).mono ?_; rintro e w10 ⟨rfl, dq, rfl⟩) | (go_at_call 26; refine (HE2'h.out _ (by first | assumption | exact Below.drew (by assumption) | exact below_next (below_next (Below.drew k0) hB7) hB9 | exact (below_next (below_next (Below.drew k0) hB7) hB9).trans (below_drewN' _ _))).mono ?_; rintro e w11 ⟨rfl, dq', rfl⟩))
  obtain ⟨W5, hW5⟩ : ∃ W5, W5 = w9.drewN (dq + dq') := ⟨_, rfl⟩
  have hB5 : Below W4.heap.size W4 W5 := by rw [hW5]; exact (below_next (below_next (Below.drew k0) hB7) hB9).trans (below_drewN' _ _)
  rw [← hW5]
  clear hW5 hB7 hB9 hrow9 hSl9 k0
  have hS25 := hS24'h.out.below hB5
  have hSb5 := hSb4'h.out.below hB5
  have hBw5 := below_next hBw4'h.out hB5
  have hrow5 := ownsRow_next (ownsRow_next (ownsRow_next hrow2'h.out hB3'h.out) hb4'h.out) hB5
  have hsz5 := hBw5.size
  have hB5'h := Lib.hid hB5
  have hS25'h := Lib.hid hS25
  have hSb5'h := Lib.hid hSb5
  have hBw5'h := Lib.hid hBw5
  have hrow5'h := Lib.hid hrow5
  clear hB5 hS25 hSb5 hBw5 hrow5
  go_wp2
  go_loopg [56] (n2 + 1) (fun q i wr => ∃ k : Nat, k + q = n2 + 1 ∧ k ≤ n2 ∧ i = .int .i64 k ∧ wr = W5)
  case atStart => exact ⟨0, by omega, by omega, rfl, rfl⟩
  case round =>
    obtain ⟨k, hk, hkn, rfl, rfl⟩ := hrel
    by_cases hlt : k < n2 ∧ k ≠ 10
    · obtain ⟨hlt, h10⟩ := hlt
      have hkl : k < ls.length := by have := hlen2'h.out; omega
      obtain ⟨blk, off, rfl, hcs⟩ := hS25'h.out.some' (by omega)
      have c1 : wr.cell? ⟨blk, off + k, none⟩ = some (.int .i64 (nthZ ls k)) := hcs k _ (i64s_at hkl)
      have hne : (((k : Int)) == 10) = false := by simp; omega
      have G := get_any x (nthZ ls k) wr
      have I := refIs_any (nthZ ls k) wr
      clear hcs h10
      by_cases hi : 0 ≤ nthZ ls k ∧ nthZ ls k < 8
      · have hil : isLane (nthZ ls k) = true := by unfold isLane; simpa using hi
        have A := refAt_any x (nthZ ls k).toNat wr hx'h.out (by omega)
        rw [show (((nthZ ls k).toNat : Nat) : Int) = nthZ ls k by omega] at A
        rw [if_pos hi] at G
        rw [hil] at I
        have e1 : ((byteAt x (nthZ ls k).toNat : Int) != (byteAt x (nthZ ls k).toNat : Int)) = false := by simp
        generalize byteAt x (nthZ ls k).toNat = y at *
        generalize nthZ ls k = z at *
        have hk'h := Lib.hid hk
        have G'h := Lib.hid G
        have I'h := Lib.hid I
        have A'h := Lib.hid A
        have hi'h := Lib.hid hi
        have hil'h := Lib.hid hil
        have hkl'h := Lib.hid hkl
        clear hk G I A hi hil hkl
        go_wp2_with fail
        refine (G'h.out).mono ?_
        rintro e w' ⟨rfl, rfl⟩
        go_wp2_with fail
        refine (I'h.out).mono ?_
        rintro e w' ⟨rfl, rfl⟩
        go_wp2_with fail
        refine (A'h.out).mono ?_
        rintro e w' ⟨rfl, rfl⟩
        go_wp2
        go_roundg (gk - 1)
        case measure => have := hk'h.out; omega
        case rel => exact ⟨k + 1, by have := hk'h.out; omega, by omega, by go_num, rfl⟩
      · have hil : isLane (nthZ ls k) = false := by unfold isLane; simpa using hi
        rw [if_neg hi] at G
        rw [hil] at I
        generalize nthZ ls k = z at *
        have hk'h := Lib.hid hk
        have G'h := Lib.hid G
        have I'h := Lib.hid I
        have hi'h := Lib.hid hi
        have hil'h := Lib.hid hil
        have hkl'h := Lib.hid hkl
        clear hk G I hi hil hkl
        go_wp2_with fail
        refine (G'h.out).mono ?_
        rintro e w' ⟨rfl, rfl⟩
        go_wp2_with fail
        refine (I'h.out).mono ?_
        rintro e w' ⟨rfl, rfl⟩
        go_wp2
        go_roundg (gk - 1)
        case measure => have := hk'h.out; omega
        case rel => exact ⟨k + 1, by have := hk'h.out; omega, by omega, by go_num, rfl⟩
    · obtain ⟨m2, hm2⟩ : ∃ m2, m2 = min n2 6 := ⟨_, rfl⟩
      have hmi2 := min_if n2 6 m2 hm2
      have hmi2' : (if (6 : Int) < (n2 : Int) then (6 : Int) else (n2 : Int)) = (m2 : Int) := hmi2
      have hm6 : m2 ≤ 6 := by omega
      have hmn2 : m2 ≤ n2 := by omega
      have hmc2 : m2 ≤ cap2 := by omega
      clear hmi2
      by_cases hlt2 : k < n2
      · obtain rfl : k = 10 := by omega
        have hkl : 10 < ls.length := by have := hlen2'h.out; omega
        obtain ⟨blk, off, rfl, hcs⟩ := hS25'h.out.some' (by omega)
        have c1 : wr.cell? ⟨blk, off + 10, none⟩ = some (.int .i64 (nthZ ls 10)) := hcs 10 _ (i64s_at hkl)
        clear hcs hlt
        obtain rfl : m2 = 6 := by omega
        have hk'h := Lib.hid hk
        have hm2'h := Lib.hid hm2
        have hkl'h := Lib.hid hkl
        clear hk hm2 hkl
        go_wp2_with (at_builtin; refine wpList_append_own _ rfl (.tmp 88) (.tmp 89) 27 rfl w.heap.size 5 i0 (.int .u8 0) 1 (8 / 8) Try.underlying27 hi hz0 hz1 hz2' rfl (by decide) _ m _ rfl ((ownsRow_mono hrow5'h.out hw12'h.out).alloc _) ⟨wr.heap.size, 0, none⟩ 2 2 (u8s [0, 255]) rfl rfl (row_lit wr _ _) (u8s_one _) (by unfold maxLen; omega) (by omega) (by simp; omega) ?_; intro v' w6 hown' hgrow hwh; rw [u8s_append] at hown'; obtain ⟨g, cap3, rfl⟩ := ownsRow_succ hown')
        have hB6 : Below w.heap.size w w6 := (hBw5'h.out.alloc hsz5 _).grown hgrow (by simp; omega) (fun j hj => Nat.le_trans hw12'h.out (hrow5'h.out.lt j hj).1)
        clear hgrow hwh
        have hlM : (ls.take 6).length = 6 := by rw [List.length_take]; have := hlen2'h.out; omega
        have hSM : Sl w (some ⟨blk, off, none⟩) 6 (i64s (ls.take 6)) := by have := h2'h.out.take 6 (by omega); rwa [← List.map_take] at this
        generalize ls.take 6 = lm at *
        have hyy : Bytey (l0 ++ [0, 255]) := by
          intro b hb
          rcases List.mem_append.1 hb with h | h
          · exact hy'h.out b h
          · simp at h; omega
        have hly : (l0 ++ [0, 255]).length = m + 2 := by rw [List.length_append, hlL'h.out]; rfl
        have hlM'h := Lib.hid hlM
        have hSM'h := Lib.hid hSM
        have hyy'h := Lib.hid hyy
        have hly'h := Lib.hid hly
        have hB6'h := Lib.hid hB6
        have hown''h := Lib.hid hown'
        clear hlM hSM hyy hly hB6 hown'
        generalize l0 ++ [0, 255] = lb at *
        go_loopg [92] (m + 2) (fun q i wv => ∃ k : Nat, k + q = m + 2 ∧ i = .int .i64 k ∧ Below w.heap.size w wv ∧ wv.ownsRow w.heap.size 5 1 (.slice (some ⟨g, 0, none⟩) (m + 2) cap3) (m + 2) (u8s lb))
        case atStart => exact ⟨0, by omega, rfl, hB6'h.out, hown''h.out⟩
        case round =>
          obtain ⟨k, hk, rfl, hB, hrow⟩ := hrel
          obtain ⟨gq, hgq⟩ : ∃ g : Nat, g = gk := ⟨gk, rfl⟩
          by_cases hlt3 : k < m + 2
          · have hkl : k < lb.length := by rw [hly'h.out]; exact hlt3
            have c1 := row_cell hrow hlt3 (u8s_get hkl)
            have hbk : nthN lb k < 256 := getD_lt hyy'h.out k
            have P := put_any x (nthN lb k) (some ⟨blk, off, none⟩) 6 cap2 lm wr hx'h.out hbk (hSM'h.out.below hB)
            have F := fun W => fill_any (nthN lb k) W hbk
            have O := fun (W : World) (T : TypeId) => refOf_any (some ⟨W.heap.size, 0, none⟩) 8 8 [nthN lb k, nthN lb k, nthN lb k, nthN lb k, nthN lb k, nthN lb k, nthN lb k, nthN lb k] (W.alloc (.cells #[.int .u8 (nthN lb k : Int), .int .u8 (nthN lb k : Int), .int .u8 (nthN lb k : Int), .int .u8 (nthN lb k : Int), .int .u8 (nthN lb k : Int), .int .u8 (nthN lb k : Int), .int .u8 (nthN lb k : Int), .int .u8 (nthN lb k : Int)] T)) (by intro z hz; simp at hz; rw [hz]; exact hbk) (Sl.of_blk (cs := #[.int .u8 (nthN lb k : Int), .int .u8 (nthN lb k : Int), .int .u8 (nthN lb k : Int), .int .u8 (nthN lb k : Int), .int .u8 (nthN lb k : Int), .int .u8 (nthN lb k : Int), .int .u8 (nthN lb k : Int), .int .u8 (nthN lb k : Int)]) (World.alloc_heap_new _ _) (by show 8 ≤ maxLen; decide))
            have hnx := fun j (h : j < lm.length) => laid_next (x := x) (b := nthN lb k) h
            have hlx := fun j => putX_lt x (nthN lb k) hx'h.out hbk (lm.take j)
            have RP := fun z (w : World) j (h : z < 2 ^ 64) (hj : j < 8) => refPut_any z (nthN lb k) j w h hbk hj
            rw [fill8] at O
            have e0 : ((fillW (nthN lb k) : Int) != (fillW (nthN lb k) : Int)) = false := by simp
            generalize fillW (nthN lb k) = fw at *
            generalize nthN lb k = y at *
            have hd3 : decide ((k : Int) < (m : Int) + 2) = true := by rw [decide_eq_true_eq]; omega
            cases hall : allLanes lm with
            | true =>
              rw [hall, if_pos rfl] at P
              have e1 : ((putX x y lm : Int) != (putX x y lm : Int)) = false := by simp
              have hyes : ∀ j, j < lm.length → isLane (nthZ lm j) = true := fun j hj => List.all_eq_true.1 hall _ (nthZ_mem hj)
              have hend : laidK x y lm 6 = putX x y lm := by unfold laidK; rw [List.take_of_length_le (by rw [hlM'h.out]; omega)]
              generalize putX x y lm = px at *
              have hk'h := Lib.hid hk
              have hgq'h := Lib.hid hgq
              have hB'h := Lib.hid hB
              have hrow'h := Lib.hid hrow
              have P'h := Lib.hid P
              have F'h := Lib.hid F
              have O'h := Lib.hid O
              have hnx'h := Lib.hid hnx
              have hlx'h := Lib.hid hlx
              have hall'h := Lib.hid hall
              have hkl'h := Lib.hid hkl
              have hbk'h := Lib.hid hbk
              have RP'h := Lib.hid RP
              have hyes'h := Lib.hid hyes
              have hend'h := Lib.hid hend
              clear hk hgq hB hrow P F O hnx hlx hall hkl hbk RP hyes hend
              go_wp2_with fail
              refine (P'h.out).mono ?_
              rintro e w7 ⟨rfl, hB7⟩
              clear c1
              have hSM7 := hSM'h.out.below (hB'h.out.trans (hB7.mono hB'h.out.size))
              have hB7'h := Lib.hid hB7
              have hSM7'h := Lib.hid hSM7
              clear hB7 hSM7
              go_wp2
              go_loopg [19, 20, 106] 6 (fun q v u i wv => ∃ j : Nat, j + q = 6 ∧ i = .int .i64 j ∧ v = .int .u64 (laidK x y lm j) ∧ u = .int .i64 0 ∧ Below w7.heap.size w7 wv)
              case atStart => exact ⟨0, by omega, rfl, rfl, rfl, Below.refl _ _⟩
              case round =>
                obtain ⟨j, hj, rfl, rfl, rfl, hBj⟩ := hrel
                by_cases hjM : j < 6
                · have hjl : j < lm.length := by rw [hlM'h.out]; exact hjM
                  obtain ⟨lb2, lo2, hsp, hcs⟩ := (hSM7'h.out.below hBj).some' (by omega)
                  have hsp' := hsp
                  have hln := hyes'h.out j hjl
                  have I := refIs_any (nthZ lm j) wr
                  rw [hln] at I
                  have hz : 0 ≤ nthZ lm j ∧ nthZ lm j < 8 := by unfold isLane at hln; simpa using hln
                  have R := RP'h.out (laidK x y lm j) wr (nthZ lm j).toNat (hlx'h.out j) (by omega)
                  rw [show (((nthZ lm j).toNat : Nat) : Int) = nthZ lm j by omega] at R
                  have hn := hnx'h.out j hjl
                  rw [← hn] at R
                  have c4 : wr.cell? ⟨lb2, lo2 + j, none⟩ = some (.int .i64 (nthZ lm j)) := hcs j _ (i64s_at hjl)
                  clear hcs hsp'
                  cases hsp
                  generalize laidK x y lm j = v1 at *
                  generalize hv2 : laidK x y lm (j + 1) = v2 at *
                  generalize nthZ lm j = z at *
                  have hj'h := Lib.hid hj
                  have I'h := Lib.hid I
                  have R'h := Lib.hid R
                  have hn'h := Lib.hid hn
                  have hz'h := Lib.hid hz
                  have hln'h := Lib.hid hln
                  have hjl'h := Lib.hid hjl
                  have hBj'h := Lib.hid hBj
                  have hv2'h := Lib.hid hv2
                  clear hj I R hn hz hln hjl hBj hv2
                  go_wp2_with fail
                  refine (I'h.out).mono ?_
                  rintro e w' ⟨rfl, rfl⟩
                  go_wp2_with fail
                  refine (R'h.out).mono ?_
                  rintro e w8 ⟨rfl, hB8⟩
                  go_wp2
                  go_roundg (gk - 1)
                  case measure => have := hj'h.out; omega
                  case rel => exact ⟨j + 1, by have := hj'h.out; omega, by go_num, by rw [hv2'h.out], rfl, below_next hBj'h.out hB8⟩
                · have hv : laidK x y lm j = px := by rw [show j = 6 by omega]; exact hend'h.out
                  rw [hv]
                  have hdj : ¬ ((j : Int) < (6 : Int)) := by omega
                  have hBe := below_next hB7'h.out hBj
                  have hrowe := ownsRow_next hrow'h.out hBe
                  have hj'h := Lib.hid hj
                  have hv'h := Lib.hid hv
                  have hBj'h := Lib.hid hBj
                  have hBe'h := Lib.hid hBe
                  have hrowe'h := Lib.hid hrowe
                  clear hj hv hBj hBe hrowe
                  go_wp2_with (first | (go_at_call 31; refine (F'h.out _).mono ?_; rintro e w' ⟨rfl, rfl⟩) | (go_at_call 25; refine (O'h.out _ _).mono ?_; rintro e w' ⟨rfl, rfl⟩))
                  go_roundg (gq - 1)
                  case measure => have := hk'h.out; have := hgq'h.out; omega
                  case rel => exact ⟨k + 1, by have := hk'h.out; have := hgq'h.out; omega, by go_num, (hB'h.out.trans (hBe'h.out.mono hB'h.out.size)).alloc (Nat.le_trans hB'h.out.size hBe'h.out.size) _, hrowe'h.out.alloc _⟩
            | false =>
              rw [hall, if_neg (by decide)] at P
              have hnot : (∀ j, j < lm.length → isLane (nthZ lm j) = true) → False := fun h => by
                rw [Bool.eq_false_iff] at hall
                refine hall (List.all_eq_true.2 fun a ha => ?_)
                obtain ⟨j, hj, rfl⟩ := List.mem_iff_getElem.1 ha
                rw [nthZ_eq hj]; exact h j hj
              have hk'h := Lib.hid hk
              have hgq'h := Lib.hid hgq
              have hB'h := Lib.hid hB
              have hrow'h := Lib.hid hrow
              have P'h := Lib.hid P
              have F'h := Lib.hid F
              have O'h := Lib.hid O
              have hnx'h := Lib.hid hnx
              have hlx'h := Lib.hid hlx
              have hall'h := Lib.hid hall
              have hkl'h := Lib.hid hkl
              have hbk'h := Lib.hid hbk
              have RP'h := Lib.hid RP
              have hnot'h := Lib.hid hnot
              clear hk hgq hB hrow P F O hnx hlx hall hkl hbk RP hnot
              go_wp2_with fail
              refine (P'h.out).mono ?_
              rintro e w7 ⟨rfl, hB7⟩
              clear c1
              have hSM7 := hSM'h.out.below (hB'h.out.trans (hB7.mono hB'h.out.size))
              have hB7'h := Lib.hid hB7
              have hSM7'h := Lib.hid hSM7
              clear hB7 hSM7
              go_wp2
              go_loopg [19, 20, 106] 6 (fun q v u i wv => ∃ j : Nat, j + q = 6 ∧ i = .int .i64 j ∧ v = .int .u64 (laidK x y lm j) ∧ u = .int .i64 0 ∧ Below w7.heap.size w7 wv ∧ (∀ t, t < j → isLane (nthZ lm t) = true))
              case atStart => exact ⟨0, by omega, rfl, rfl, rfl, Below.refl _ _, fun t ht => by omega⟩
              case round =>
                obtain ⟨j, hj, rfl, rfl, rfl, hBj, hup⟩ := hrel
                by_cases hjM : j < 6
                · have hjl : j < lm.length := by rw [hlM'h.out]; exact hjM
                  obtain ⟨lb2, lo2, hsp, hcs⟩ := (hSM7'h.out.below hBj).some' (by omega)
                  have I := refIs_any (nthZ lm j) wr
                  have c4 : wr.cell? ⟨lb2, lo2 + j, none⟩ = some (.int .i64 (nthZ lm j)) := hcs j _ (i64s_at hjl)
                  cases hsp
                  clear hcs
                  cases hln : isLane (nthZ lm j) with
                  | true =>
                    rw [hln] at I
                    have hz : 0 ≤ nthZ lm j ∧ nthZ lm j < 8 := by unfold isLane at hln; simpa using hln
                    have R := RP'h.out (laidK x y lm j) wr (nthZ lm j).toNat (hlx'h.out j) (by omega)
                    rw [show (((nthZ lm j).toNat : Nat) : Int) = nthZ lm j by omega] at R
                    have hn := hnx'h.out j hjl
                    rw [← hn] at R
                    have hup2 : ∀ t, t < j + 1 → isLane (nthZ lm t) = true := fun t ht => by
                      by_cases e : t = j
                      · rw [e]; exact hln
                      · exact hup t (by omega)
                    have hup'h := Lib.hid hup
                    have hup2'h := Lib.hid hup2
                    clear hup hup2
                    generalize laidK x y lm j = v1 at *
                    generalize hv2 : laidK x y lm (j + 1) = v2 at *
                    generalize nthZ lm j = z at *
                    have hj'h := Lib.hid hj
                    have I'h := Lib.hid I
                    have R'h := Lib.hid R
                    have hn'h := Lib.hid hn
                    have hz'h := Lib.hid hz
                    have hln'h := Lib.hid hln
                    have hjl'h := Lib.hid hjl
                    have hBj'h := Lib.hid hBj
                    have hv2'h := Lib.hid hv2
                    clear hj I R hn hz hln hjl hBj hv2
                    go_wp2_with fail
                    refine (I'h.out).mono ?_
                    rintro e w' ⟨rfl, rfl⟩
                    go_wp2_with fail
                    refine (R'h.out).mono ?_
                    rintro e w8 ⟨rfl, hB8⟩
                    go_wp2
                    go_roundg (gk - 1)
                    case measure => have := hj'h.out; omega
                    case rel => exact ⟨j + 1, by have := hj'h.out; omega, by go_num, by rw [hv2'h.out], rfl, below_next hBj'h.out hB8, hup2'h.out⟩
                  | false =>
                    rw [hln] at I
                    have hBe := below_next hB7'h.out hBj
                    have hrowe := ownsRow_next hrow'h.out hBe
                    generalize laidK x y lm j = v1 at *
                    generalize nthZ lm j = z at *
                    have hj'h := Lib.hid hj
                    have I'h := Lib.hid I
                    have hln'h := Lib.hid hln
                    have hjl'h := Lib.hid hjl
                    have hBj'h := Lib.hid hBj
                    have hBe'h := Lib.hid hBe
                    have hrowe'h := Lib.hid hrowe
                    have hup'h := Lib.hid hup
                    clear hj I hln hjl hBj hBe hrowe hup
                    go_wp2_with fail
                    refine (I'h.out).mono ?_
                    rintro e w' ⟨rfl, rfl⟩
                    go_wp2_with (first | (go_at_call 31; refine (F'h.out _).mono ?_; rintro e w' ⟨rfl, rfl⟩) | (go_at_call 25; refine (O'h.out _ _).mono ?_; rintro e w' ⟨rfl, rfl⟩))
                    go_roundg (gq - 1)
                    case measure => have := hk'h.out; have := hgq'h.out; omega
                    case rel => exact ⟨k + 1, by have := hk'h.out; have := hgq'h.out; omega, by go_num, (hB'h.out.trans (hBe'h.out.mono hB'h.out.size)).alloc (Nat.le_trans hB'h.out.size hBe'h.out.size) _, hrowe'h.out.alloc _⟩
                · exact (hnot'h.out (fun t ht => hup t (by rw [hlM'h.out] at ht; omega))).elim
          · have hd3 : ¬ ((k : Int) < (m : Int) + 2) := by omega
            have hk'h := Lib.hid hk
            have hgq'h := Lib.hid hgq
            have hB'h := Lib.hid hB
            have hrow'h := Lib.hid hrow
            clear hk hgq hB hrow
            go_wp2
            go_ret
            exact ⟨rfl, hB'h.out⟩
      · have hd : ¬ ((k : Int) < (n2 : Int)) := by omega
        clear hlt
        have hk'h := Lib.hid hk
        have hm2'h := Lib.hid hm2
        clear hk hm2
        go_wp2_with (at_builtin; refine wpList_append_own _ rfl (.tmp 88) (.tmp 89) 27 rfl w.heap.size 5 i0 (.int .u8 0) 1 (8 / 8) Try.underlying27 hi hz0 hz1 hz2' rfl (by decide) _ m _ rfl ((ownsRow_mono hrow5'h.out hw12'h.out).alloc _) ⟨wr.heap.size, 0, none⟩ 2 2 (u8s [0, 255]) rfl rfl (row_lit wr _ _) (u8s_one _) (by unfold maxLen; omega) (by omega) (by simp; omega) ?_; intro v' w6 hown' hgrow hwh; rw [u8s_append] at hown'; obtain ⟨g, cap3, rfl⟩ := ownsRow_succ hown')
        have hB6 : Below w.heap.size w w6 := (hBw5'h.out.alloc hsz5 _).grown hgrow (by simp; omega) (fun j hj => Nat.le_trans hw12'h.out (hrow5'h.out.lt j hj).1)
        clear hgrow hwh
        have hlM : (ls.take m2).length = m2 := by rw [List.length_take]; have := hlen2'h.out; omega
        have hSM : Sl w sp2 m2 (i64s (ls.take m2)) := by have := h2'h.out.take m2 (by omega); rwa [← List.map_take] at this
        generalize ls.take m2 = lm at *
        have hyy : Bytey (l0 ++ [0, 255]) := by
          intro b hb
          rcases List.mem_append.1 hb with h | h
          · exact hy'h.out b h
          · simp at h; omega
        have hly : (l0 ++ [0, 255]).length = m + 2 := by rw [List.length_append, hlL'h.out]; rfl
        have hlM'h := Lib.hid hlM
        have hSM'h := Lib.hid hSM
        have hyy'h := Lib.hid hyy
        have hly'h := Lib.hid hly
        have hB6'h := Lib.hid hB6
        have hown''h := Lib.hid hown'
        clear hlM hSM hyy hly hB6 hown'
        generalize l0 ++ [0, 255] = lb at *
        go_loopg [92] (m + 2) (fun q i wv => ∃ k : Nat, k + q = m + 2 ∧ i = .int .i64 k ∧ Below w.heap.size w wv ∧ wv.ownsRow w.heap.size 5 1 (.slice (some ⟨g, 0, none⟩) (m + 2) cap3) (m + 2) (u8s lb))
        case atStart => exact ⟨0, by omega, rfl, hB6'h.out, hown''h.out⟩
        case round =>
          obtain ⟨k, hk, rfl, hB, hrow⟩ := hrel
          obtain ⟨gq, hgq⟩ : ∃ g : Nat, g = gk := ⟨gk, rfl⟩
          by_cases hlt3 : k < m + 2
          · have hkl : k < lb.length := by rw [hly'h.out]; exact hlt3
            have c1 := row_cell hrow hlt3 (u8s_get hkl)
            have hbk : nthN lb k < 256 := getD_lt hyy'h.out k
            have P := put_any x (nthN lb k) sp2 m2 cap2 lm wr hx'h.out hbk (hSM'h.out.below hB)
            have F := fun W => fill_any (nthN lb k) W hbk
            have O := fun (W : World) (T : TypeId) => refOf_any (some ⟨W.heap.size, 0, none⟩) 8 8 [nthN lb k, nthN lb k, nthN lb k, nthN lb k, nthN lb k, nthN lb k, nthN lb k, nthN lb k] (W.alloc (.cells #[.int .u8 (nthN lb k : Int), .int .u8 (nthN lb k : Int), .int .u8 (nthN lb k : Int), .int .u8 (nthN lb k : Int), .int .u8 (nthN lb k : Int), .int .u8 (nthN lb k : Int), .int .u8 (nthN lb k : Int), .int .u8 (nthN lb k : Int)] T)) (by intro z hz; simp at hz; rw [hz]; exact hbk) (Sl.of_blk (cs := #[.int .u8 (nthN lb k : Int), .int .u8 (nthN lb k : Int), .int .u8 (nthN lb k : Int), .int .u8 (nthN lb k : Int), .int .u8 (nthN lb k : Int), .int .u8 (nthN lb k : Int), .int .u8 (nthN lb k : Int), .int .u8 (nthN lb k : Int)]) (World.alloc_heap_new _ _) (by show 8 ≤ maxLen; decide))
            have hnx := fun j (h : j < lm.length) => laid_next (x := x) (b := nthN lb k) h
            have hlx := fun j => putX_lt x (nthN lb k) hx'h.out hbk (lm.take j)
            have RP := fun z (w : World) j (h : z < 2 ^ 64) (hj : j < 8) => refPut_any z (nthN lb k) j w h hbk hj
            rw [fill8] at O
            have e0 : ((fillW (nthN lb k) : Int) != (fillW (nthN lb k) : Int)) = false := by simp
            generalize fillW (nthN lb k) = fw at *
            generalize nthN lb k = y at *
            have hd3 : decide ((k : Int) < (m : Int) + 2) = true := by rw [decide_eq_true_eq]; omega
            cases hall : allLanes lm with
            | true =>
              rw [hall, if_pos rfl] at P
              have e1 : ((putX x y lm : Int) != (putX x y lm : Int)) = false := by simp
              have hyes : ∀ j, j < lm.length → isLane (nthZ lm j) = true := fun j hj => List.all_eq_true.1 hall _ (nthZ_mem hj)
              have hend : laidK x y lm m2 = putX x y lm := by unfold laidK; rw [List.take_of_length_le (by rw [hlM'h.out]; omega)]
              generalize putX x y lm = px at *
              have hk'h := Lib.hid hk
              have hgq'h := Lib.hid hgq
              have hB'h := Lib.hid hB
              have hrow'h := Lib.hid hrow
              have P'h := Lib.hid P
              have F'h := Lib.hid F
              have O'h := Lib.hid O
              have hnx'h := Lib.hid hnx
              have hlx'h := Lib.hid hlx
              have hall'h := Lib.hid hall
              have hkl'h := Lib.hid hkl
              have hbk'h := Lib.hid hbk
              have RP'h := Lib.hid RP
              have hyes'h := Lib.hid hyes
              have hend'h := Lib.hid hend
              clear hk hgq hB hrow P F O hnx hlx hall hkl hbk RP hyes hend
              go_wp2_with fail
              refine (P'h.out).mono ?_
              rintro e w7 ⟨rfl, hB7⟩
              clear c1
              have hSM7 := hSM'h.out.below (hB'h.out.trans (hB7.mono hB'h.out.size))
              have hB7'h := Lib.hid hB7
              have hSM7'h := Lib.hid hSM7
              clear hB7 hSM7
              go_wp2
              go_loopg [19, 20, 106] m2 (fun q v u i wv => ∃ j : Nat, j + q = m2 ∧ i = .int .i64 j ∧ v = .int .u64 (laidK x y lm j) ∧ u = .int .i64 0 ∧ Below w7.heap.size w7 wv)
              case atStart => exact ⟨0, by omega, rfl, rfl, rfl, Below.refl _ _⟩
              case round =>
                obtain ⟨j, hj, rfl, rfl, rfl, hBj⟩ := hrel
                by_cases hjM : j < m2
                · have hjl : j < lm.length := by rw [hlM'h.out]; exact hjM
                  obtain ⟨lb2, lo2, hsp, hcs⟩ := (hSM7'h.out.below hBj).some' (by omega)
                  have hsp' := hsp
                  have hln := hyes'h.out j hjl
                  have I := refIs_any (nthZ lm j) wr
                  rw [hln] at I
                  have hz : 0 ≤ nthZ lm j ∧ nthZ lm j < 8 := by unfold isLane at hln; simpa using hln
                  have R := RP'h.out (laidK x y lm j) wr (nthZ lm j).toNat (hlx'h.out j) (by omega)
                  rw [show (((nthZ lm j).toNat : Nat) : Int) = nthZ lm j by omega] at R
                  have hn := hnx'h.out j hjl
                  rw [← hn] at R
                  have c4 : wr.cell? ⟨lb2, lo2 + j, none⟩ = some (.int .i64 (nthZ lm j)) := hcs j _ (i64s_at hjl)
                  clear hcs hsp'
                  cases hsp
                  generalize laidK x y lm j = v1 at *
                  generalize hv2 : laidK x y lm (j + 1) = v2 at *
                  generalize nthZ lm j = z at *
                  have hj'h := Lib.hid hj
                  have I'h := Lib.hid I
                  have R'h := Lib.hid R
                  have hn'h := Lib.hid hn
                  have hz'h := Lib.hid hz
                  have hln'h := Lib.hid hln
                  have hjl'h := Lib.hid hjl
                  have hBj'h := Lib.hid hBj
                  have hv2'h := Lib.hid hv2
                  clear hj I R hn hz hln hjl hBj hv2
                  go_wp2_with fail
                  refine (I'h.out).mono ?_
                  rintro e w' ⟨rfl, rfl⟩
                  go_wp2_with fail
                  refine (R'h.out).mono ?_
                  rintro e w8 ⟨rfl, hB8⟩
                  go_wp2
                  go_roundg (gk - 1)
                  case measure => have := hj'h.out; omega
                  case rel => exact ⟨j + 1, by have := hj'h.out; omega, by go_num, by rw [hv2'h.out], rfl, below_next hBj'h.out hB8⟩
                · have hv : laidK x y lm j = px := by rw [show j = m2 by omega]; exact hend'h.out
                  rw [hv]
                  have hdj : ¬ ((j : Int) < (m2 : Int)) := by omega
                  have hBe := below_next hB7'h.out hBj
                  have hrowe := ownsRow_next hrow'h.out hBe
                  have hj'h := Lib.hid hj
                  have hv'h := Lib.hid hv
                  have hBj'h := Lib.hid hBj
                  have hBe'h := Lib.hid hBe
                  have hrowe'h := Lib.hid hrowe
                  clear hj hv hBj hBe hrowe
                  go_wp2_with (first | (go_at_call 31; refine (F'h.out _).mono ?_; rintro e w' ⟨rfl, rfl⟩) | (go_at_call 25; refine (O'h.out _ _).mono ?_; rintro e w' ⟨rfl, rfl⟩))
                  go_roundg (gq - 1)
                  case measure => have := hk'h.out; have := hgq'h.out; omega
                  case rel => exact ⟨k + 1, by have := hk'h.out; have := hgq'h.out; omega, by go_num, (hB'h.out.trans (hBe'h.out.mono hB'h.out.size)).alloc (Nat.le_trans hB'h.out.size hBe'h.out.size) _, hrowe'h.out.alloc _⟩
            | false =>
              rw [hall, if_neg (by decide)] at P
              have hnot : (∀ j, j < lm.length → isLane (nthZ lm j) = true) → False := fun h => by
                rw [Bool.eq_false_iff] at hall
                refine hall (List.all_eq_true.2 fun a ha => ?_)
                obtain ⟨j, hj, rfl⟩ := List.mem_iff_getElem.1 ha
                rw [nthZ_eq hj]; exact h j hj
              have hk'h := Lib.hid hk
              have hgq'h := Lib.hid hgq
              have hB'h := Lib.hid hB
              have hrow'h := Lib.hid hrow
              have P'h := Lib.hid P
              have F'h := Lib.hid F
              have O'h := Lib.hid O
              have hnx'h := Lib.hid hnx
              have hlx'h := Lib.hid hlx
              have hall'h := Lib.hid hall
              have hkl'h := Lib.hid hkl
              have hbk'h := Lib.hid hbk
              have RP'h := Lib.hid RP
              have hnot'h := Lib.hid hnot
              clear hk hgq hB hrow P F O hnx hlx hall hkl hbk RP hnot
              go_wp2_with fail
              refine (P'h.out).mono ?_
              rintro e w7 ⟨rfl, hB7⟩
              clear c1
              have hSM7 := hSM'h.out.below (hB'h.out.trans (hB7.mono hB'h.out.size))
              have hB7'h := Lib.hid hB7
              have hSM7'h := Lib.hid hSM7
              clear hB7 hSM7
              go_wp2
              go_loopg [19, 20, 106] m2 (fun q v u i wv => ∃ j : Nat, j + q = m2 ∧ i = .int .i64 j ∧ v = .int .u64 (laidK x y lm j) ∧ u = .int .i64 0 ∧ Below w7.heap.size w7 wv ∧ (∀ t, t < j → isLane (nthZ lm t) = true))
              case atStart => exact ⟨0, by omega, rfl, rfl, rfl, Below.refl _ _, fun t ht => by omega⟩
              case round =>
                obtain ⟨j, hj, rfl, rfl, rfl, hBj, hup⟩ := hrel
                by_cases hjM : j < m2
                · have hjl : j < lm.length := by rw [hlM'h.out]; exact hjM
                  obtain ⟨lb2, lo2, hsp, hcs⟩ := (hSM7'h.out.below hBj).some' (by omega)
                  have I := refIs_any (nthZ lm j) wr
                  have c4 : wr.cell? ⟨lb2, lo2 + j, none⟩ = some (.int .i64 (nthZ lm j)) := hcs j _ (i64s_at hjl)
                  cases hsp
                  clear hcs
                  cases hln : isLane (nthZ lm j) with
                  | true =>
                    rw [hln] at I
                    have hz : 0 ≤ nthZ lm j ∧ nthZ lm j < 8 := by unfold isLane at hln; simpa using hln
                    have R := RP'h.out (laidK x y lm j) wr (nthZ lm j).toNat (hlx'h.out j) (by omega)
                    rw [show (((nthZ lm j).toNat : Nat) : Int) = nthZ lm j by omega] at R
                    have hn := hnx'h.out j hjl
                    rw [← hn] at R
                    have hup2 : ∀ t, t < j + 1 → isLane (nthZ lm t) = true := fun t ht => by
                      by_cases e : t = j
                      · rw [e]; exact hln
                      · exact hup t (by omega)
                    have hup'h := Lib.hid hup
                    have hup2'h := Lib.hid hup2
                    clear hup hup2
                    generalize laidK x y lm j = v1 at *
                    generalize hv2 : laidK x y lm (j + 1) = v2 at *
                    generalize nthZ lm j = z at *
                    have hj'h := Lib.hid hj
                    have I'h := Lib.hid I
                    have R'h := Lib.hid R
                    have hn'h := Lib.hid hn
                    have hz'h := Lib.hid hz
                    have hln'h := Lib.hid hln
                    have hjl'h := Lib.hid hjl
                    have hBj'h := Lib.hid hBj
                    have hv2'h := Lib.hid hv2
                    clear hj I R hn hz hln hjl hBj hv2
                    go_wp2_with fail
                    refine (I'h.out).mono ?_
                    rintro e w' ⟨rfl, rfl⟩
                    go_wp2_with fail
                    refine (R'h.out).mono ?_
                    rintro e w8 ⟨rfl, hB8⟩
                    go_wp2
                    go_roundg (gk - 1)
                    case measure => have := hj'h.out; omega
                    case rel => exact ⟨j + 1, by have := hj'h.out; omega, by go_num, by rw [hv2'h.out], rfl, below_next hBj'h.out hB8, hup2'h.out⟩
                  | false =>
                    rw [hln] at I
                    have hBe := below_next hB7'h.out hBj
                    have hrowe := ownsRow_next hrow'h.out hBe
                    generalize laidK x y lm j = v1 at *
                    generalize nthZ lm j = z at *
                    have hj'h := Lib.hid hj
                    have I'h := Lib.hid I
                    have hln'h := Lib.hid hln
                    have hjl'h := Lib.hid hjl
                    have hBj'h := Lib.hid hBj
                    have hBe'h := Lib.hid hBe
                    have hrowe'h := Lib.hid hrowe
                    have hup'h := Lib.hid hup
                    clear hj I hln hjl hBj hBe hrowe hup
                    go_wp2_with fail
                    refine (I'h.out).mono ?_
                    rintro e w' ⟨rfl, rfl⟩
                    go_wp2_with (first | (go_at_call 31; refine (F'h.out _).mono ?_; rintro e w' ⟨rfl, rfl⟩) | (go_at_call 25; refine (O'h.out _ _).mono ?_; rintro e w' ⟨rfl, rfl⟩))
                    go_roundg (gq - 1)
                    case measure => have := hk'h.out; have := hgq'h.out; omega
                    case rel => exact ⟨k + 1, by have := hk'h.out; have := hgq'h.out; omega, by go_num, (hB'h.out.trans (hBe'h.out.mono hB'h.out.size)).alloc (Nat.le_trans hB'h.out.size hBe'h.out.size) _, hrowe'h.out.alloc _⟩
                · exact (hnot'h.out (fun t ht => hup t (by rw [hlM'h.out] at ht; omega))).elim
          · have hd3 : ¬ ((k : Int) < (m : Int) + 2) := by omega
            have hk'h := Lib.hid hk
            have hgq'h := Lib.hid hgq
            have hB'h := Lib.hid hB
            have hrow'h := Lib.hid hrow
            clear hk hgq hB hrow
            go_wp2
            go_ret
            exact ⟨rfl, hB'h.out⟩
end Go.Proofs.Ytfomcnbpkdkohaa
