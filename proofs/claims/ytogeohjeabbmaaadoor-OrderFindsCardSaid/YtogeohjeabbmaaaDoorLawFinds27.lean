/-
  Layer 27 (order): what Search, or ByAt, tells bears calls out; if ByAt tells one, Search does.
-/
import Derived.Test.YtogeohjeabbmaaaDoorOrdX
set_option linter.unusedSimpArgs false
set_option linter.unusedVariables false
set_option maxRecDepth 100000
namespace Go.Proofs.YtogeohjeabbmaaaDoor
open Go.RowKit

theorem behind_zero {l : List Mm} {os : List Int} : (behindL l os).1 = 0 ↔ checkB l = true ∧ metOk l.length os noneB = true ∧ ∃ met ps, alongL l os noneB [] = some (met, ps) ∧ wholeB l met = true := by
  unfold behindL
  constructor
  · intro h
    by_cases h1 : checkB l = false
    · rw [if_pos h1] at h; simp at h
    · rw [if_neg h1] at h
      by_cases h2 : metOk l.length os noneB = false
      · rw [if_pos h2] at h; simp at h
      · rw [if_neg h2] at h
        refine ⟨by simpa using h1, by simpa using h2, ?_⟩
        cases ha : alongL l os noneB [] with
        | none => rw [ha] at h; simp at h
        | some p =>
          obtain ⟨met, ps⟩ := p
          rw [ha] at h
          simp only at h
          refine ⟨met, ps, rfl, ?_⟩
          by_cases hw : wholeB l met = true
          · exact hw
          · rw [if_neg hw] at h; simp at h
  · rintro ⟨h1, h2, met, ps, ha, hw⟩
    rw [if_neg (by simp [h1]), if_neg (by simp [h2]), ha]
    simp only
    rw [if_pos hw]
theorem seek_bears {l : List Mm} {r : List Nat} (hc : checkB l = true) (h : seekL l = some r) : (behindL l (intsZ r)).1 = 0 := by
  obtain ⟨os, rfl, -, h2, met', ps', h3, h4⟩ := seek_sound h
  exact behind_zero.2 ⟨hc, h2, met', ps', h3, h4⟩
theorem bears_seek {l : List Mm} {os : List Int} (h : (behindL l os).1 = 0) : (seekL l).isSome = true := by
  obtain ⟨hc, h2, met, ps, ha, hw⟩ := behind_zero.1 h
  have hin := metOk_mem h2
  have e : os = intsZ (os.map Int.toNat) := by
    unfold intsZ
    rw [List.map_map]
    conv => lhs; rw [← List.map_id os]
    refine List.map_congr_left fun x hx => ?_
    have := (hin x hx).1
    simp; omega
  rw [e] at ha
  refine seek_complete (unmet_all l) (fun x hx => ?_) ha hw
  obtain ⟨z, hz, rfl⟩ := List.mem_map.1 hx
  have := hin z hz
  omega
theorem seek_len' {l : List Mm} : ∀ {f : Nat} {met : Nat → Bool} {ps : Ps} {row r : List Nat}, seekF l f met ps row = some r → r.length ≤ row.length + f := by
  intro f
  induction f with
  | zero =>
    intro met ps row r h
    unfold seekF at h
    split at h
    · injection h with h; rw [h]; omega
    · cases h
  | succ f ih =>
    intro met ps row r h
    unfold seekF at h
    split at h
    · injection h with h; rw [h]; omega
    · obtain ⟨n, hn, hs⟩ := List.exists_of_findSome?_eq_some h
      split at hs
      · have := ih hs
        rw [List.length_append] at this
        simp at this; omega
      · cases hs
theorem seek_len {l : List Mm} {r : List Nat} (h : seekL l = some r) : r.length ≤ l.length := by have := seek_len' h; simpa using this
theorem check_len {l : List Mm} (h : checkB l = true) : l.length ≤ 80 := by
  unfold checkB at h
  simp only [Bool.and_eq_true, decide_eq_true_eq] at h
  omega
/-- What ByAt tells, in short. -/
theorem byat_cases {w : World} {l : List Mm} {e : Ending} {w' : World} (h : ByAtP w l e w') : Below w.heap.size w w' ∧ ∃ (sp : Option Addr) (k cap : Nat) (er : Int) (os : List Int), e = .returned (.tuple #[.slice sp k cap, .int .i64 er]) ∧ Sl w' sp k (os.map (Value.int .i64)) ∧ k ≤ 80 ∧
    ((er = 0 ∧ (behindL l os).1 = 0) ∨ (er = 370 ∧ checkB l = false) ∨ (er = 371 ∧ checkB l = true)) := by
  obtain ⟨hb, ⟨hc, rfl⟩ | ⟨hc, C, hp, hs, ⟨h1, rfl⟩ | ⟨h1, sp, cap, rfl, hS, hle, hlo⟩⟩⟩ := h
  · exact ⟨hb, none, 0, 0, 370, [], rfl, Sl.nil _ _, by omega, .inr (.inl ⟨rfl, hc⟩)⟩
  · exact ⟨hb, none, 0, 0, 371, [], rfl, Sl.nil _ _, by omega, .inr (.inr ⟨rfl, hc⟩)⟩
  · refine ⟨hb, sp, C.length, cap, 0, intsZ C, rfl, by rw [← ints_Z]; exact hS, ?_, .inl ⟨rfl, h1⟩⟩
    have := hp.length_eq
    have := candK_len l l.length
    have := check_len hc
    omega
set_option maxHeartbeats 4000000 in
theorem walk_OrderFinds (xp : Option Addr) (xn xc : Nat) (xs : List Mm) (w : World) (hT : Tks w) (hx : MsIn w xp xn xs) (hnil : xp = none → xc = 0) (hle : xn ≤ xc) (hfr : ∀ g, xp.map (·.block) = some g → xn ≠ 0 → g < w.heap.size) :
    Calls Tryd.prog 4 #[.slice xp xn xc] w fun e w' => e = .returned (.bool true) ∧ Below w.heap.size w w' := by
  have WK := wakes27_any w hT
  have WK'h := Lib.hid WK
  have hT'h := Lib.hid hT
  have hx'h := Lib.hid hx
  have hnil'h := Lib.hid hnil
  have hle'h := Lib.hid hle
  clear WK hT hx hnil hle
  go_enter Tryd.func4, Tryd.ntmps4
  go_wp2_with fail
  refine WK'h.out.mono ?_
  rintro e w1 ⟨rfl, hB1⟩
  have OW := own27_any xp xn xc xs w1 (hx'h.out.below hB1) hnil'h.out hle'h.out
  have hB1'h := Lib.hid hB1
  have OW'h := Lib.hid OW
  clear hB1 OW
  clear WK'h
  go_wp2_with fail
  refine OW'h.out.mono ?_
  rintro e w2 ⟨lp, lc, l, rfl, hb2, hM2, -, -, hlc, hfar⟩
  have hB2 := below_next hB1'h.out hb2
  have BY := byat_any lp l.length lc l w2 (hT'h.out.next hB2) hM2 hlc hfar
  clear hb2 hB1'h OW'h hfar
  have hB2'h := Lib.hid hB2
  have hM2'h := Lib.hid hM2
  have hlc'h := Lib.hid hlc
  have BY'h := Lib.hid BY
  clear hB2 hM2 hlc BY
  go_wp2_with fail
  refine BY'h.out.mono ?_
  rintro e w3 hP
  obtain ⟨hb3, ap, ak, ac, er, os, rfl, hSa, hak, hcs⟩ := byat_cases hP
  have hB3 := below_next hB2'h.out hb3
  have hM3 := hM2'h.out.below hb3
  have BR := bears_any lp l.length lc l ap ak ac os w3 (hT'h.out.next hB3) hM3 hlc'h.out hSa (by omega)
  have SE := fun W (hb : Below w3.heap.size w3 W) => search_any lp l.length lc l W (hT'h.out.next (below_next hB3 hb)) (hM3.below hb) hlc'h.out
  have SB := fun W (hb : Below w3.heap.size w3 W) (sp : Option Addr) (c : Nat) (r : List Nat) (hr : Sl W sp r.length (ints r)) (hl : r.length ≤ 4096) => bears_any lp l.length lc l sp r.length c (intsZ r) W (hT'h.out.next (below_next hB3 hb)) (hM3.below hb) hlc'h.out (by rw [← ints_Z]; exact hr) hl
  clear hP hb3 hSa hak hB2'h hM2'h BY'h hM3
  have hB3'h := Lib.hid hB3
  have BR'h := Lib.hid BR
  have SE'h := Lib.hid SE
  have SB'h := Lib.hid SB
  clear hB3 BR SE SB
  rcases hcs with ⟨rfl, hz⟩ | ⟨rfl, hz⟩ | ⟨rfl, hz⟩
  · have hbz : decide ((behindL l os).1 = 0) = true := decide_eq_true hz
    have BR1 := BR'h.out
    rw [hbz] at BR1
    have hck := (behind_zero.1 hz).1
    have hsk := bears_seek hz
    clear hbz hz BR'h
    have BR1'h := Lib.hid BR1
    have hck'h := Lib.hid hck
    have hsk'h := Lib.hid hsk
    clear BR1 hck hsk
    go_wp2_with fail
    refine BR1'h.out.mono ?_
    rintro e w4 ⟨rfl, hb4⟩
    have hb4'h := Lib.hid hb4
    clear hb4
    go_wp2_with fail
    refine (SE'h.out w4 hb4'h.out).mono ?_
    rintro e w5 ⟨hb5, ⟨hc', _⟩ | ⟨_, h7, rfl⟩ | ⟨_, _, ⟨hn, _⟩ | ⟨r, sp, cap, hr, rfl, hS, hrl, _⟩⟩⟩
    · exact absurd (hck'h.out.symm.trans hc') (by decide)
    · have hfin := below_next hB3'h.out (below_next hb4'h.out hb5)
      clear hb5 h7
      have hfin'h := Lib.hid hfin
      clear hfin
      go_wp2
      go_ret
      exact ⟨rfl, hfin'h.out⟩
    · have := hsk'h.out
      rw [hn] at this
      cases this
    · have hb35 := below_next hb4'h.out hb5
      have hl := seek_len hr
      have B5 := SB'h.out w5 hb35 sp cap r hS (by have := check_len hck'h.out; omega)
      rw [show decide ((behindL l (intsZ r)).1 = 0) = true from decide_eq_true (seek_bears hck'h.out hr)] at B5
      clear hb5 hr hS hrl hl
      have hb35'h := Lib.hid hb35
      have B5'h := Lib.hid B5
      clear hb35 B5
      go_wp2_with fail
      refine B5'h.out.mono ?_
      rintro e w6 ⟨rfl, hb6⟩
      have hfin := below_next hB3'h.out (below_next hb35'h.out hb6)
      clear hb6
      have hfin'h := Lib.hid hfin
      clear hfin
      go_wp2
      go_ret
      exact ⟨rfl, hfin'h.out⟩
  · have hz'h := Lib.hid hz
    clear hz
    go_wp2_with fail
    refine (SE'h.out w3 (Below.refl _ _)).mono ?_
    rintro e w5 hP
    obtain ⟨hb5, rfl⟩ := made_search hP hz'h.out
    have hfin := below_next hB3'h.out hb5
    clear hb5 hP
    have hfin'h := Lib.hid hfin
    clear hfin
    go_wp2
    go_ret
    exact ⟨rfl, hfin'h.out⟩
  · have hz'h := Lib.hid hz
    clear hz
    go_wp2_with fail
    refine (SE'h.out w3 (Below.refl _ _)).mono ?_
    rintro e w5 ⟨hb5, ⟨hc', _⟩ | ⟨_, h7, rfl⟩ | ⟨_, _, ⟨hn, rfl⟩ | ⟨r, sp, cap, hr, rfl, hS, hrl, _⟩⟩⟩
    · exact absurd (hz'h.out.symm.trans hc') (by decide)
    · have hfin := below_next hB3'h.out hb5
      clear hb5 h7
      have hfin'h := Lib.hid hfin
      clear hfin
      go_wp2
      go_ret
      exact ⟨rfl, hfin'h.out⟩
    · have hfin := below_next hB3'h.out hb5
      clear hb5 hn
      have hfin'h := Lib.hid hfin
      clear hfin
      go_wp2
      go_ret
      exact ⟨rfl, hfin'h.out⟩
    · have hl := seek_len hr
      have B5 := SB'h.out w5 hb5 sp cap r hS (by have := check_len hz'h.out; omega)
      rw [show decide ((behindL l (intsZ r)).1 = 0) = true from decide_eq_true (seek_bears hz'h.out hr)] at B5
      clear hr hS hrl hl
      have hb5'h := Lib.hid hb5
      have B5'h := Lib.hid B5
      clear hb5 B5
      go_wp2_with fail
      refine B5'h.out.mono ?_
      rintro e w6 ⟨rfl, hb6⟩
      have hfin := below_next hB3'h.out (below_next hb5'h.out hb6)
      clear hb6
      have hfin'h := Lib.hid hfin
      clear hfin
      go_wp2
      go_ret
      exact ⟨rfl, hfin'h.out⟩
end Go.Proofs.YtogeohjeabbmaaaDoor
