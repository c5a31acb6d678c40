/-
  CtrlFills.
-/
import Derived.Test.YtbblomlbnecpeaaLawReady09
set_option linter.unusedSimpArgs false
set_option linter.unusedVariables false
set_option maxRecDepth 100000
namespace Go.Proofs.Ytbblomlbnecpeaa
open Go.RowKit

/-! ### slices.Equal at []uint8, of one kind of numbers -/
theorem equal8z_any (sp sp' : Option Addr) (n n' cap cap' : Nat) (l l' : List Int) (w : World) (h : Sl w sp n (l.map (Value.int .u8))) (h' : Sl w sp' n' (l'.map (Value.int .u8))) :
    Calls Try.prog 30 #[.slice sp n cap, .slice sp' n' cap'] w fun e w' => e = .returned (.bool (l == l')) ∧ ∃ d, w' = w.drewN d := by
  have hlen : n = l.length := by have := h.1; simpa using this
  have hlen' : n' = l'.length := by have := h'.1; simpa using this
  have hmax := h.2.1
  unfold maxLen at hmax
  by_cases hnn : n = n'
  · subst hnn
    have hne : ((n : Int) != (n : Int)) = false := by simp
    have hlen'h := Lib.hid hlen
    have hlen''h := Lib.hid hlen'
    have h'h := Lib.hid h
    have h''h := Lib.hid h'
    clear hlen hlen' h h'
    go_enter Try.func30, Try.ntmps30
    go_wp2
    go_loopg [13] n (fun q i wr => ∃ k : Nat, k + q = n ∧ i = .int .i64 k ∧ (∀ j, j < k → nthZ l j = nthZ l' j) ∧ ∃ d, wr = w.drewN d)
    case atStart => exact ⟨0, by omega, rfl, fun j hj => by omega, 0, rfl⟩
    case round =>
      obtain ⟨k, hk, rfl, hall, d, rfl⟩ := hrel
      have hkn : k ≤ n := by omega
      have hk'h := Lib.hid hk
      have hall'h := Lib.hid hall
      clear hk hall
      by_cases hlt : k < n
      · obtain ⟨b, off, rfl, hc1⟩ := h'h.out.some' (by omega)
        obtain ⟨b', off', rfl, hc2⟩ := h''h.out.some' (by omega)
        have hkl : k < l.length := by have := hlen'h.out; omega
        have hkl' : k < l'.length := by have := hlen''h.out; omega
        have c1 := hc1 k _ (i64s_at hkl)
        have c2 := hc2 k _ (i64s_at hkl')
        have c1' : ∀ q, (w.drewN q).cell? ⟨b, off + k, none⟩ = some (.int .u8 (nthZ l k)) := fun q => c1
        have c2' : ∀ q, (w.drewN q).cell? ⟨b', off' + k, none⟩ = some (.int .u8 (nthZ l' k)) := fun q => c2
        have i1 : (k : Int) < (n : Int) := by omega
        have i2 : (0 : Int) ≤ (k : Int) := by omega
        clear hc1 hc2
        by_cases he : nthZ l k = nthZ l' k
        · have hx : (nthZ l k != nthZ l' k) = false := by simp [he]
          have he'h := Lib.hid he
          clear he
          go_wp2_with fail
          go_quiet (fail)
          go_wp2
          go_roundg (gk - 1)
          case measure => have := hk'h.out; omega
          case rel =>
            refine ⟨k + 1, by have := hk'h.out; omega, by go_num, fun j hj => ?_, d + nq, rfl⟩
            by_cases e : j = k
            · rw [e]; exact he'h.out
            · exact hall'h.out j (by omega)
        · have hx : (nthZ l k != nthZ l' k) = true := by simp [he]
          have hf : (l == l') = false := by
            rw [beq_eq_false_iff_ne]; intro e; exact he (by rw [e])
          have he'h := Lib.hid he
          have hf'h := Lib.hid hf
          clear he hf
          go_wp2_with fail
          go_quiet (fail)
          go_wp2
          go_ret
          exact ⟨ret_bool hf'h.out.symm, d + nq, by first | rfl | exact World.drewN_drewN ..⟩
      · have hn : ¬ (k : Int) < (n : Int) := by omega
        have ht : (l == l') = true := by
          rw [beq_iff_eq]
          refine List.ext_getElem (by have := hlen'h.out; have := hlen''h.out; omega) fun j h1 h2 => ?_
          rw [nthZ_eq h1, nthZ_eq h2]
          exact hall'h.out j (by have := hlen'h.out; omega)
        have ht'h := Lib.hid ht
        clear ht
        go_wp2
        go_ret
        exact ⟨ret_bool ht'h.out.symm, d, rfl⟩
  · have hne : ((n : Int) != (n' : Int)) = true := by simp; omega
    have hf : (l == l') = false := by
      rw [beq_eq_false_iff_ne]; intro e; subst e; omega
    have hlen'h := Lib.hid hlen
    have hlen''h := Lib.hid hlen'
    have h'h := Lib.hid h
    have h''h := Lib.hid h'
    have hnn'h := Lib.hid hnn
    have hf'h := Lib.hid hf
    clear hlen hlen' h h' hnn hf
    go_enter Try.func30, Try.ntmps30
    go_wp2
    go_ret
    exact ⟨ret_bool hf'h.out.symm, 0, rfl⟩
theorem fillsT_no {x : Nat} (hs : List Nat) (hr : rightW x = false) : fillsT x hs = (0, [], 190) := by unfold fillsT; rw [if_neg (by rw [hr]; simp)]
theorem ints_map (l : List Nat) : ints l = (l.map Int.ofNat).map (Value.int .i64) := by unfold ints; rw [List.map_map]; rfl
theorem u8s_map (l : List Nat) : u8s l = (l.map Int.ofNat).map (Value.int .u8) := by unfold u8s; rw [List.map_map]; rfl
theorem fillsT_len {x : Nat} {hs : List Nat} (h : hs.length ≤ 10) : (fillsT x hs).2.1.length ≤ 10 := by
  have hk : ∀ k, k ≤ hs.length → ∀ y l, fillsK x hs k = some (y, l) → l.length = k := by
    intro k
    induction k with
    | zero => intro _ y l h; cases h; rfl
    | succ k ih =>
      intro hk y l h
      rw [fillsK_succ x hs (by omega)] at h
      cases hz : fillsK x hs k with
      | none => rw [hz] at h; cases h
      | some yl =>
        obtain ⟨y0, l0⟩ := yl
        have := ih (by omega) y0 l0 hz
        rw [hz] at h
        change (if _ ∧ _ then _ else _) = _ at h
        split at h
        · cases h; rw [List.length_append, this]; rfl
        · cases h
  unfold fillsT
  split
  · cases hz : fillsK x hs hs.length with
    | none => simp
    | some yl =>
      obtain ⟨y, l⟩ := yl
      have := hk _ (Nat.le_refl _) y l hz
      simp; omega
  · simp
set_option maxHeartbeats 1000000 in
theorem walk_CtrlFills (a0 : Int) (sp : Option Addr) (n cap : Nat) (zs : List Int) (w : World) (w0 : (Lit.int .u64 a0).wf = true) (hc : sp = none → cap = 0) (hcap : n ≤ cap) (h : Sl w sp n (zs.map (Value.int .u8))) (hz : ∀ z ∈ zs, (Lit.int .u8 z).wf = true) :
    Calls Try.prog 8 #[.int .u64 a0, .slice sp n cap] w fun e w' => e = .returned (.bool true) ∧ Below w.heap.size w w' := by
  obtain ⟨x, rfl, hx⟩ := nat_of_u64 w0
  have hmax := h.2.1
  unfold maxLen at hmax
  rw [u8s_natsZ hz] at h
  have hby0 := nats_byteyZ hz
  obtain ⟨m, hm⟩ : ∃ m, m = min n 10 := ⟨_, rfl⟩
  have hmi := min_if' n 10 m hm
  have hmi' : (if (10 : Int) < (n : Int) then (10 : Int) else (n : Int)) = (m : Int) := hmi
  have hS := h.take m (by omega)
  rw [u8s_takeZ] at hS
  have hby : Bytey ((nats zs).take m) := fun b hb => hby0 b (List.mem_of_mem_take hb)
  generalize (nats zs).take m = hs at *
  have hlen : m = hs.length := by have := hS.1; rwa [u8s_lengthZ] at this
  have q1 : m ≤ 10 := by omega
  have q3 : m ≤ cap := by omega
  have hl10 := fillsT_len (x := x) (hs := hs) (by omega)
  clear w0 hz hmi hby0 h
  have hS'h := Lib.hid hS
  have hby'h := Lib.hid hby
  have hlen'h := Lib.hid hlen
  have hc'h := Lib.hid hc
  have hm'h := Lib.hid hm
  have hcap'h := Lib.hid hcap
  clear hS hby hlen hc hm hcap
  cases hr : rightW x with
  | false =>
    have R := fun w => ready_no x w hx hr
    have F := fun w sp cap (h : Sl w sp m (u8s hs)) => xfills_any x m cap sp hs w hx hby'h.out h (by omega)
    have RR := fun w => rright_any x w hx
    rw [fillsT_no _ hr] at F
    rw [hr] at RR
    clear hl10
    have R'h := Lib.hid R
    have F'h := Lib.hid F
    have RR'h := Lib.hid RR
    have hr'h := Lib.hid hr
    have hx'h := Lib.hid hx
    clear R F RR hr hx
    go_enter Try.func8, Try.ntmps8
    go_wp2_with fail
    refine (cwakes_any _).mono ?_
    rintro e w1 ⟨rfl, hb1⟩
    have hb1'h := Lib.hid hb1
    clear hb1
    go_wp2_with fail
    refine (clone8_any sp m cap hs w1 (by omega) hc'h.out (hS'h.out.below hb1'h.out)).mono ?_
    rintro e w2 ⟨cp, cc, rfl, hb2, hr2⟩
    have hB2 := below_next hb1'h.out hb2
    have hS2 := Sl.of_row hr2 (by unfold maxLen; omega)
    have hnil := row_nil' hr2
    have hcc : m ≤ cc := by
      rcases hr2.2 with ⟨h1, h0⟩ | ⟨g, c, cur, h1, _, _, h2, _⟩
      · injection h1 with _ h2 h3
        rw [h2]; exact Nat.zero_le _
      · injection h1 with _ h3 h4
        rw [h4]; exact h2
    clear hb2 hr2
    have hB2'h := Lib.hid hB2
    have hS2'h := Lib.hid hS2
    have hnil'h := Lib.hid hnil
    clear hB2 hS2 hnil
    go_wp2_with fail
    refine (R'h.out _).mono ?_
    rintro e w3 ⟨rfl, hb3⟩
    have hB3 := below_next hB2'h.out hb3
    have hS3 := hS2'h.out.below hb3
    clear hb3
    have hB3'h := Lib.hid hB3
    have hS3'h := Lib.hid hS3
    clear hB3 hS3
    go_wp2_with fail
    refine (F'h.out _ _ _ hS3'h.out).mono ?_
    rintro e w4 ⟨lp, ln, lc, rfl, hb4, hrow⟩
    obtain rfl := row_len' hrow
    have hB4 := below_next hB3'h.out hb4
    have hS4 := hS3'h.out.below hb4
    have hL4 := Sl.of_row hrow (by decide)
    clear hb4 hrow
    have hB4'h := Lib.hid hB4
    have hS4'h := Lib.hid hS4
    have hL4'h := Lib.hid hL4
    clear hB4 hS4 hL4
    go_wp2_with fail
    refine (RR'h.out _).mono ?_
    rintro e w5 ⟨rfl, hb5⟩
    have hB5 := below_next hB4'h.out hb5
    have hS5 := hS4'h.out.below hb5
    have hL5 := hL4'h.out.below hb5
    clear hb5
    have hB5'h := Lib.hid hB5
    clear hB5
    rw [ints_map] at hL5
    have E1 := equalI_any lp none 0 0 lc 0 _ [] w5 hL5 (Sl.nil _ _)
    rw [u8s_map] at hS5
    have hSx := hS'h.out.below hB5'h.out
    rw [u8s_map] at hSx
    have E2 := fun d => equal8z_any cp sp m m cc cap _ _ (w5.drewN d) hS5 hSx
    have e1 : ((([] : List Nat).map Int.ofNat) == []) = true := rfl
    have e2 : ((hs.map Int.ofNat) == (hs.map Int.ofNat)) = true := by simp
    rw [e1] at E1
    rw [e2] at E2
    clear hL5 hS5 hSx e1 e2
    have E1'h := Lib.hid E1
    have E2'h := Lib.hid E2
    clear E1 E2
    go_wp2_with fail
    refine E1'h.out.mono ?_
    rintro e w6 ⟨rfl, d, rfl⟩
    go_wp2_with fail
    refine (E2'h.out d).mono ?_
    rintro e w7 ⟨rfl, d2, rfl⟩
    go_wp2
    go_ret
    exact ⟨rfl, hB5'h.out.trans (below_drewN' _ _)⟩
  | true =>
    have R := fun w => ready_yes x w hx hr
    have F := fun w sp cap (h : Sl w sp m (u8s hs)) => xfills_any x m cap sp hs w hx hby'h.out h (by omega)
    have RR := fun w => rright_any x w hx
    have RD := fun w => rready_any x w hx
    have RF := fun w sp cap (h : Sl w sp m (u8s hs)) => rfills_any x m cap sp hs w hx hby'h.out h (by omega)
    unfold RFillsP at RF
    rw [readyK_eq hx] at RD
    rw [← fillsT_same hr] at RF
    rw [hr] at RR
    generalize blendW (fillW 128) (fillW 254) (belowM x 128) = r at *
    generalize (fillsT x hs).2.2 = z at *
    generalize (fillsT x hs).2.1 = l at *
    generalize (fillsT x hs).1 = y at *
    have hrr : ((r : Int) == (r : Int)) = true := by simp
    have hyy : ((y : Int) == (y : Int)) = true := by simp
    have hzz : ((z : Int) == (z : Int)) = true := by simp
    have R'h := Lib.hid R
    have F'h := Lib.hid F
    have RR'h := Lib.hid RR
    have hr'h := Lib.hid hr
    have hx'h := Lib.hid hx
    have RD'h := Lib.hid RD
    have RF'h := Lib.hid RF
    have hl10'h := Lib.hid hl10
    clear R F RR hr hx RD RF hl10
    go_enter Try.func8, Try.ntmps8
    go_wp2_with fail
    refine (cwakes_any _).mono ?_
    rintro e w1 ⟨rfl, hb1⟩
    have hb1'h := Lib.hid hb1
    clear hb1
    go_wp2_with fail
    refine (clone8_any sp m cap hs w1 (by omega) hc'h.out (hS'h.out.below hb1'h.out)).mono ?_
    rintro e w2 ⟨cp, cc, rfl, hb2, hr2⟩
    have hB2 := below_next hb1'h.out hb2
    have hS2 := Sl.of_row hr2 (by unfold maxLen; omega)
    clear hb2 hr2
    have hB2'h := Lib.hid hB2
    have hS2'h := Lib.hid hS2
    clear hB2 hS2
    go_wp2_with fail
    refine (R'h.out _).mono ?_
    rintro e w3 ⟨rfl, hb3⟩
    have hB3 := below_next hB2'h.out hb3
    have hS3 := hS2'h.out.below hb3
    clear hb3
    have hB3'h := Lib.hid hB3
    have hS3'h := Lib.hid hS3
    clear hB3 hS3
    go_wp2_with fail
    refine (F'h.out _ _ _ hS3'h.out).mono ?_
    rintro e w4 ⟨lp, ln, lc, rfl, hb4, hrow⟩
    obtain rfl := row_len' hrow
    have hB4 := below_next hB3'h.out hb4
    have hS4 := hS3'h.out.below hb4
    have hL4 := Sl.of_row hrow (by unfold maxLen; have := hl10'h.out; omega)
    clear hb4 hrow
    have hB4'h := Lib.hid hB4
    have hS4'h := Lib.hid hS4
    have hL4'h := Lib.hid hL4
    clear hB4 hS4 hL4
    go_wp2_with fail
    refine (RR'h.out _).mono ?_
    rintro e w5 ⟨rfl, hb5⟩
    have hB5 := below_next hB4'h.out hb5
    have hS5 := hS4'h.out.below hb5
    have hL5 := hL4'h.out.below hb5
    clear hb5
    have hB5'h := Lib.hid hB5
    have hS5'h := Lib.hid hS5
    have hL5'h := Lib.hid hL5
    clear hB5 hS5 hL5
    go_wp2_with fail
    refine (RD'h.out _).mono ?_
    rintro e w6 ⟨rfl, hb6⟩
    have hB6 := below_next hB5'h.out hb6
    have hS6 := hS5'h.out.below hb6
    have hL6 := hL5'h.out.below hb6
    clear hb6
    have hB6'h := Lib.hid hB6
    have hS6'h := Lib.hid hS6
    have hL6'h := Lib.hid hL6
    clear hB6 hS6 hL6
    go_wp2_with fail
    refine (RF'h.out _ _ _ hS6'h.out).mono ?_
    rintro e w7 ⟨rp, rn, rc, rfl, hb7, hrow⟩
    obtain rfl := row_len' hrow
    have hB7 := below_next hB6'h.out hb7
    have hS7 := hS6'h.out.below hb7
    have hL7 := hL6'h.out.below hb7
    have hM7 := Sl.of_row hrow (by unfold maxLen; have := hl10'h.out; omega)
    clear hb7 hrow
    have hB7'h := Lib.hid hB7
    clear hB7
    rw [ints_map] at hL7 hM7
    have E1 := equalI_any lp rp l.length l.length lc rc _ _ w7 hL7 hM7
    rw [u8s_map] at hS7
    have hSx := hS'h.out.below hB7'h.out
    rw [u8s_map] at hSx
    have E2 := fun d => equal8z_any cp sp m m cc cap _ _ (w7.drewN d) hS7 hSx
    have e1 : ((l.map Int.ofNat) == (l.map Int.ofNat)) = true := by simp
    have e2 : ((hs.map Int.ofNat) == (hs.map Int.ofNat)) = true := by simp
    rw [e1] at E1
    rw [e2] at E2
    clear hL7 hM7 hS7 hSx e1 e2
    have E1'h := Lib.hid E1
    have E2'h := Lib.hid E2
    clear E1 E2
    go_wp2_with fail
    refine E1'h.out.mono ?_
    rintro e w8 ⟨rfl, d, rfl⟩
    go_wp2_with fail
    refine (E2'h.out d).mono ?_
    rintro e w9 ⟨rfl, d2, rfl⟩
    go_wp2
    go_ret
    exact ⟨rfl, hB7'h.out.trans (below_drewN' _ _)⟩
end Go.Proofs.Ytbblomlbnecpeaa
