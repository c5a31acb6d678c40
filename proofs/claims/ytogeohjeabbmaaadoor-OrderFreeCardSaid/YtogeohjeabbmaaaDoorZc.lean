/-
  Several texts of mine in one: StbH StbI StbJ.
-/
import Derived.Test.YtogeohjeabbmaaaDoorZb
import Derived.Test.YtogeohjeabbmaaaDoorY2
/-
  The library's stable sort at rows of int: two rows merged, the other way; and whole.
-/
set_option linter.unusedSimpArgs false
set_option linter.unusedVariables false
set_option maxRecDepth 100000
namespace Go.Proofs.YtogeohjeabbmaaaDoor
open Go.RowKit Go.Sort

set_option maxHeartbeats 16000000 in
theorem symLow (g0 : Array Value) (key : Nat → Int) (m0 : Nat) (blk off cap a m b n : Nat) (d0 : Array Nat) (P A B S : List Nat) (w w1 : World) (hH : Holds ei w blk off d0) (hn : d0.size = n) (hl : (P ++ A ++ B ++ S).length = n) (hP : P.length = a) (hm : P.length + A.length = m) (hb : P.length + A.length + B.length = b)
    (hA1 : 1 < A.length) (hB1 : 1 < B.length) (hn80 : n ≤ 4096) (hC : CmpQ w blk off n 39 g0 key m0) (hA0 : ∀ x ∈ A, x < m0) (hB0 : ∀ x ∈ B, x < m0) (hA : Srt key A) (hB : Srt key B) (ha : Ahd A B) (hIH : SymQ g0 key m0 blk off cap n w (b - a)) (hL : Lf w blk off (P ++ A ++ B ++ S) w1) (hmid : m ≤ (a + b) / 2) :
    Calls Tryd.prog 80 #[.slice (some ⟨blk, off, none⟩) n cap, .int .i64 a, .int .i64 m, .int .i64 b, .func (.func 39) #[] g0] w1 (SymP key w blk off P A B S) := by
  have hlD : P.length + A.length + B.length + S.length = n := by simp only [List.length_append] at hl; omega
  have hbn : b ≤ n := by omega
  have i0 : ((m : Int) - (a : Int) == 1) = false := by simp; omega
  have i00 : ((b : Int) - (m : Int) == 1) = false := by simp; omega
  obtain ⟨mid, hmd⟩ : ∃ mid, mid = (a + b) / 2 := ⟨_, rfl⟩
  rw [← hmd] at hmid
  have emid : ((a : Int) + (b : Int)) / 2 = (mid : Int) := by omega
  obtain ⟨p, hp⟩ : ∃ p, p = mid + m - 1 := ⟨_, rfl⟩
  have epp : (mid : Int) + (m : Int) - 1 = (p : Int) := by omega
  have icm : ¬ (m : Int) > (mid : Int) := by omega
  obtain ⟨s0, hs⟩ : ∃ s0, s0 = a := ⟨_, rfl⟩
  obtain ⟨r0, hr⟩ : ∃ r0, r0 = m := ⟨_, rfl⟩
  have hs0 : SymS a m b mid p s0 r0 := ⟨hp, by omega, by omega, by omega, by omega, .inr ⟨hmid, hs, hr⟩⟩
  have hsr : s0 ≤ r0 := by omega
  have hGA := at_A (B := B) (S := S) hP hm
  have hGB := at_B (S := S) hm hb
  have hmn : m ≤ n := by omega
  have hbm : m < b := by omega
  have ham : a < m := by omega
  have hmb : mid < b := by omega
  have ham2 : a < mid := by omega
  clear hA1 hB1 hmd hp
  have hr'h := Lib.hid hr
  have hs'h := Lib.hid hs
  clear hr hs
  have hL'h := Lib.hid hL
  have hH'h := Lib.hid hH
  have hn'h := Lib.hid hn
  have hl'h := Lib.hid hl
  have hP'h := Lib.hid hP
  have hm'h := Lib.hid hm
  have hb'h := Lib.hid hb
  have hC'h := Lib.hid hC
  have hA0'h := Lib.hid hA0
  have hB0'h := Lib.hid hB0
  have hA'h := Lib.hid hA
  have hB'h := Lib.hid hB
  have ha'h := Lib.hid ha
  have hlD'h := Lib.hid hlD
  have hs0'h := Lib.hid hs0
  have hGA'h := Lib.hid hGA
  have hGB'h := Lib.hid hGB
  have hIH'h := Lib.hid hIH
  clear hL hH hn hl hP hm hb hC hA0 hB0 hA hB ha hlD hs0 hGA hGB hIH
  go_enter Tryd.func80, Tryd.ntmps80
  go_wp2
  go_loopg [20, 21] (r0 - s0) (fun q v10 v11 wr => ∃ s r : Nat, r - s ≤ q ∧ v10 = .int .i64 (s : Int) ∧ v11 = .int .i64 (r : Int) ∧ ScanS (predS key (P ++ A ++ B ++ S) p) s0 r0 s r ∧ Lf w blk off (P ++ A ++ B ++ S) wr)
  case atStart => exact ⟨s0, r0, Nat.le_refl _, by rw [hs'h.out], by rw [hr'h.out], ⟨Nat.le_refl _, hsr, Nat.le_refl _, fun h => absurd h (Nat.lt_irrefl _), fun h => absurd h (Nat.lt_irrefl _)⟩, hL'h.out⟩
  case round =>
    obtain ⟨s, r, hq, rfl, rfl, hS, hLf⟩ := hrel
    have h1 := hS.a1
    have h2 := hS.a2
    have h3 := hS.a3
    by_cases hlt : s < r
    · obtain ⟨c, hh⟩ : ∃ c, c = (s + r) / 2 := ⟨_, rfl⟩
      have hsc : s ≤ c := by omega
      have hcr : c < r := by omega
      have eh : ((s : Int) + (r : Int)) / 2 = (c : Int) := by omega
      have i1 : (s : Int) < (r : Int) := by omega
      obtain ⟨pc, hpc⟩ : ∃ pc, pc = p - c := ⟨_, rfl⟩
      have hin := hs0'h.out
      unfold SymS at hin
      have c0 : c < n := by omega
      have p0 : pc < n := by omega
      have ep : (p : Int) - (c : Int) = (pc : Int) := by omega
      have ew : IntKind.i64.wrap ((p : Int) - (c : Int)) = (pc : Int) := by rw [IntKind.wrap_i64]; omega
      obtain ⟨G, hG⟩ : ∃ G : Nat → Nat, ∀ t, G t = (P ++ A ++ B ++ S).toArray[t]! := ⟨fun t => (P ++ A ++ B ++ S).toArray[t]!, fun _ => rfl⟩
      have hc := hLf.cell hH'h.out (hl'h.out.trans hn'h.out.symm) hG
      rw [hn'h.out] at hc
      have c1 := hc c c0
      have c2 := hc pc p0
      have hlo : ¬ key (G pc) < key (G c) → ScanS (predS key (P ++ A ++ B ++ S) p) s0 r0 (c + 1) r := fun hk => ⟨by omega, by omega, h3, fun _ => by unfold predS; rw [Nat.add_sub_cancel, ← hpc, ← hG, ← hG]; exact hk, hS.a5⟩
      have hhi : key (G pc) < key (G c) → ScanS (predS key (P ++ A ++ B ++ S) p) s0 r0 s c := fun hk => ⟨h1, hsc, by omega, hS.a4, fun _ => by unfold predS; rw [← hpc, ← hG, ← hG]; exact hk⟩
      have m1 : G c < m0 := by rw [hG, hGA'h.out c (by omega) (by omega)]; exact hA0'h.out _ (by rw [← nthN'_eq (show c - a < A.length by have := hP'h.out; have := hm'h.out; omega)]; exact List.getElem_mem _)
      have m2 : G pc < m0 := by rw [hG, hGB'h.out pc (by omega) (by omega)]; exact hB0'h.out _ (by rw [← nthN'_eq (show pc - m < B.length by have := hP'h.out; have := hm'h.out; have := hb'h.out; omega)]; exact List.getElem_mem _)
      have CQ := hC'h.out _ _ hl'h.out hLf (G pc) (G c) m2 m1
      generalize G c = x at c1 CQ hlo hhi
      generalize G pc = y at c2 CQ hlo hhi
      have i2 : (c : Int) < (n : Int) := by omega
      have i3 : (pc : Int) < (n : Int) := by omega
      have i4 : (0 : Int) ≤ (c : Int) := by omega
      have i5 : (0 : Int) ≤ (pc : Int) := by omega
      clear hG hc hpc hh m1 m2 hin
      have hLf'h := Lib.hid hLf
      have CQ'h := Lib.hid CQ
      have hlo'h := Lib.hid hlo
      have hhi'h := Lib.hid hhi
      have hS'h := Lib.hid hS
      have hq'h := Lib.hid hq
      clear hLf CQ hlo hhi hS hq
      by_cases hyx : key y < key x
      · have i7 : key y - key x < 0 := by omega
        go_wp2_with fail
        go_big_quiet (first | (go_at_call 39; exact CQ'h.out _))
        go_wp2
        go_roundg (gk - 1)
        case measure => have := hq'h.out; omega
        case rel => exact ⟨s, c, by have := hq'h.out; omega, rfl, rfl, hhi'h.out hyx, hLf'h.out.on nq⟩
      · have i7 : ¬ key y - key x < 0 := by omega
        have i8 : decide (key y - key x < 0) = false := decide_eq_false i7
        go_wp2_with fail
        go_big_quiet (first | (go_at_call 39; exact CQ'h.out _))
        go_wp2
        go_roundg (gk - 1)
        case measure => have := hq'h.out; omega
        case rel => exact ⟨c + 1, r, by have := hq'h.out; omega, by go_num, rfl, hlo'h.out (by omega), hLf'h.out.on nq⟩
    · obtain rfl : s = r := by omega
      have i1 : ¬ (s : Int) < (s : Int) := by omega
      have hin := hs0'h.out
      unfold SymS at hin
      have sm : s ≤ mid := by omega
      have has : a ≤ s := by omega
      have sm' : s ≤ m := by omega
      have emb : mid + m - s ≤ b := by omega
      obtain ⟨hp1, hp2⟩ := sym_end hP'h.out hm'h.out hb'h.out hA'h.out hB'h.out hs0'h.out hS
      have eA := (List.take_append_drop (s - a) A)
      have eB := (List.take_append_drop (mid - s) B)
      have l1 : (A.take (s - a)).length = s - a := by rw [List.length_take]; have := hP'h.out; have := hm'h.out; omega
      have l2 : (A.drop (s - a)).length = m - s := by rw [List.length_drop]; have := hP'h.out; have := hm'h.out; omega
      have l3 : (B.take (mid - s)).length = mid - s := by rw [List.length_take]; have := hb'h.out; have := hm'h.out; omega
      have l4 : (B.drop (mid - s)).length = b - (mid + m - s) := by rw [List.length_drop]; have := hb'h.out; have := hm'h.out; omega
      generalize A.take (s - a) = A1 at *
      generalize A.drop (s - a) = A2 at *
      generalize B.take (mid - s) = B1 at *
      generalize B.drop (mid - s) = B2 at *
      obtain ⟨en, hen⟩ : ∃ en, en = mid + m - s := ⟨_, rfl⟩
      have een : (mid : Int) + (m : Int) - (s : Int) = (en : Int) := by omega
      rw [← hen] at l4 emb
      have hme : m ≤ en := by omega
      have hge : en = m + (mid - s) := by omega
      clear hS hGA'h hGB'h hin
      have hLf'h := Lib.hid hLf
      have hp1'h := Lib.hid hp1
      have hp2'h := Lib.hid hp2
      have eA'h := Lib.hid eA
      have eB'h := Lib.hid eB
      have l1'h := Lib.hid l1
      have l2'h := Lib.hid l2
      have l3'h := Lib.hid l3
      have l4'h := Lib.hid l4
      have hq'h := Lib.hid hq
      have hen'h := Lib.hid hen
      have hge'h := Lib.hid hge
      clear hLf hp1 hp2 eA eB l1 l2 l3 l4 hq hen hge
      by_cases hrot : s < m ∧ m < en
      · obtain ⟨r1, r2⟩ := hrot
        have r1' : (s : Int) < (m : Int) := by omega
        have r2' : (m : Int) < (en : Int) := by omega
        have C := rotStb (.func (.func 39) #[] g0) blk off cap s m en n d0 (P ++ A1) A2 B1 (B2 ++ S) w wr hH'h.out hn'h.out (by rw [← eA'h.out, ← eB'h.out] at hl'h; have := hl'h.out; simpa using this) (by have := l1'h.out; have := hP'h.out; rw [List.length_append]; omega) (by have := l1'h.out; have := l2'h.out; have := hP'h.out; rw [List.length_append]; omega) (by have := l1'h.out; have := l2'h.out; have := l3'h.out; have := hP'h.out; have := hge'h.out; rw [List.length_append]; omega) (by have := l2'h.out; omega) (by have := l3'h.out; have := hge'h.out; omega) hn80 (by have h := hLf'h.out; rw [← eA'h.out, ← eB'h.out] at h; simpa only [List.append_assoc] using h)
        have C'h := Lib.hid C
        clear C
        go_wp2_with fail
        refine C'h.out.mono ?_
        rintro e w2 ⟨rfl, hL2⟩
        have hL3 : Lf w blk off (P ++ (A1 ++ B1) ++ (A2 ++ B2) ++ S) w2 := by simpa only [List.append_assoc] using hL2
        clear hL2
        have hL3'h := Lib.hid hL3
        clear hL3
        clear r1' r2' r1 r2
        go_upto_region 41 with fail
        by_cases q1 : a < s
        · have q1' : (a : Int) < (s : Int) := by omega
          by_cases q2 : s < mid
          · have q2' : (s : Int) < (mid : Int) := by omega
            have C := hIH'h.out a s mid P A1 B1 ((A2 ++ B2) ++ S) w2 hP'h.out (by have := l1'h.out; have := hP'h.out; omega) (by have := l1'h.out; have := l3'h.out; have := hP'h.out; omega) (by omega) (by have := l1'h.out; omega) (by have := l3'h.out; omega) (by have h := hl'h.out; rw [← eA'h.out, ← eB'h.out] at h; simp only [List.length_append] at h ⊢; omega) (fun x hx => hA0'h.out x (by rw [← eA'h.out]; exact List.mem_append_left _ hx)) (fun x hx => hB0'h.out x (by rw [← eB'h.out]; exact List.mem_append_left _ hx)) (by have h := hA'h.out; rw [← eA'h.out] at h; exact (List.pairwise_append.1 h).1) (by have h := hB'h.out; rw [← eB'h.out] at h; exact (List.pairwise_append.1 h).1) (fun x hx y hy => ha'h.out x (by rw [← eA'h.out]; exact List.mem_append_left _ hx) y (by rw [← eB'h.out]; exact List.mem_append_left _ hy)) (by have h := hL3'h.out; simpa only [List.append_assoc] using h)
            have C'h := Lib.hid C
            clear C
            go_wp2_with fail
            refine C'h.out.mono ?_
            rintro e w5 ⟨rfl, C1, hM1, hL4'⟩
            have hL4 : Lf w blk off (P ++ C1 ++ (A2 ++ B2) ++ S) w5 := by simpa only [List.append_assoc] using hL4'
            clear hL4'
            have hM1'h := Lib.hid hM1
            have hL4'h := Lib.hid hL4
            clear hM1 hL4
            go_upto_region 43 with fail
            clear q1' q2' q1 q2
            have hlc : C1.length = mid - a := by have := hM1'h.out.perm.length_eq; rw [List.length_append] at this; have := l1'h.out; have := l3'h.out; omega
            have hlc'h := Lib.hid hlc
            clear hlc
            by_cases t1 : mid < en
            · have t1' : (mid : Int) < (en : Int) := by omega
              by_cases t2 : en < b
              · have t2' : (en : Int) < (b : Int) := by omega
                have C := hIH'h.out mid en b (P ++ C1) A2 B2 S w5 (by rw [List.length_append]; have := hlc'h.out; have := hP'h.out; omega) (by rw [List.length_append]; have := hlc'h.out; have := l2'h.out; have := hP'h.out; have := hen'h.out; omega) (by rw [List.length_append]; have := hlc'h.out; have := l2'h.out; have := l4'h.out; have := hP'h.out; have := hen'h.out; omega) (by omega) (by have := l2'h.out; have := hen'h.out; omega) (by have := l4'h.out; have := hen'h.out; omega) (by have h := hl'h.out; have h2 := hM1'h.out.perm.length_eq; rw [← eA'h.out, ← eB'h.out] at h; simp only [List.length_append] at h h2 ⊢; omega) (fun x hx => hA0'h.out x (by rw [← eA'h.out]; exact List.mem_append_right _ hx)) (fun x hx => hB0'h.out x (by rw [← eB'h.out]; exact List.mem_append_right _ hx)) (by have h := hA'h.out; rw [← eA'h.out] at h; exact (List.pairwise_append.1 h).2.1) (by have h := hB'h.out; rw [← eB'h.out] at h; exact (List.pairwise_append.1 h).2.1) (fun x hx y hy => ha'h.out x (by rw [← eA'h.out]; exact List.mem_append_right _ hx) y (by rw [← eB'h.out]; exact List.mem_append_right _ hy)) (by have h := hL4'h.out; simpa only [List.append_assoc] using h)
                have C'h := Lib.hid C
                clear C
                go_wp2_with fail
                refine C'h.out.mono ?_
                rintro e w6 ⟨rfl, C2, hM2, hL5⟩
                have hfin : SymP key w blk off P A B S (.returned (.tuple #[])) w6 := by
                  refine ⟨rfl, C1 ++ C2, ?_, by simpa only [List.append_assoc] using hL5⟩
                  have h1 := hA'h.out
                  have h2 := hB'h.out
                  have h3 := ha'h.out
                  rw [← eA'h.out] at h1 h3 ⊢
                  rw [← eB'h.out] at h2 h3 ⊢
                  exact Mrg.join h1 h2 h3 hM1'h.out hM2 hp1'h.out hp2'h.out
                clear hL5 hM2
                have hfin'h := Lib.hid hfin
                clear hfin
                go_wp2
                refine bodyPost_end (results_none rfl _ _ _) rfl ?_
                exact hfin'h.out
              · have t2' : ¬ (en : Int) < (b : Int) := by omega
                obtain ⟨C2, hC2⟩ : ∃ C2, C2 = A2 := ⟨_, rfl⟩
                have hB20 : B2 = [] := List.eq_nil_of_length_eq_zero (by have := l4'h.out; have := hen'h.out; omega)
                have hM2 : Mrg key A2 B2 C2 := by rw [hC2, hB20]; exact Mrg.nil_right (by have h := hA'h.out; rw [← eA'h.out] at h; exact (List.pairwise_append.1 h).2.1)
                have hL5 : Lf w blk off ((P ++ C1) ++ C2 ++ S) w5 := by have h := hL4'h.out; rw [hB20, List.append_nil] at h; rw [hC2]; exact h
                clear hC2 hB20
                have hfin : SymP key w blk off P A B S (.returned (.tuple #[])) w5 := by
                  refine ⟨rfl, C1 ++ C2, ?_, by simpa only [List.append_assoc] using hL5⟩
                  have h1 := hA'h.out
                  have h2 := hB'h.out
                  have h3 := ha'h.out
                  rw [← eA'h.out] at h1 h3 ⊢
                  rw [← eB'h.out] at h2 h3 ⊢
                  exact Mrg.join h1 h2 h3 hM1'h.out hM2 hp1'h.out hp2'h.out
                clear hL5 hM2
                have hfin'h := Lib.hid hfin
                clear hfin
                go_wp2
                refine bodyPost_end (results_none rfl _ _ _) rfl ?_
                exact hfin'h.out
            · have t1' : ¬ (mid : Int) < (en : Int) := by omega
              obtain ⟨C2, hC2⟩ : ∃ C2, C2 = B2 := ⟨_, rfl⟩
              have hA20 : A2 = [] := List.eq_nil_of_length_eq_zero (by have := l2'h.out; have := hen'h.out; omega)
              have hM2 : Mrg key A2 B2 C2 := by rw [hC2, hA20]; exact Mrg.nil_left (by have h := hB'h.out; rw [← eB'h.out] at h; exact (List.pairwise_append.1 h).2.1)
              have hL5 : Lf w blk off ((P ++ C1) ++ C2 ++ S) w5 := by have h := hL4'h.out; rw [hA20, List.nil_append] at h; rw [hC2]; exact h
              clear hC2 hA20
              have hfin : SymP key w blk off P A B S (.returned (.tuple #[])) w5 := by
                refine ⟨rfl, C1 ++ C2, ?_, by simpa only [List.append_assoc] using hL5⟩
                have h1 := hA'h.out
                have h2 := hB'h.out
                have h3 := ha'h.out
                rw [← eA'h.out] at h1 h3 ⊢
                rw [← eB'h.out] at h2 h3 ⊢
                exact Mrg.join h1 h2 h3 hM1'h.out hM2 hp1'h.out hp2'h.out
              clear hL5 hM2
              have hfin'h := Lib.hid hfin
              clear hfin
              go_wp2
              refine bodyPost_end (results_none rfl _ _ _) rfl ?_
              exact hfin'h.out
          · have q2' : ¬ (s : Int) < (mid : Int) := by omega
            obtain ⟨C1, hC1⟩ : ∃ C1, C1 = A1 := ⟨_, rfl⟩
            have hB10 : B1 = [] := List.eq_nil_of_length_eq_zero (by have := l3'h.out; omega)
            have hM1 : Mrg key A1 B1 C1 := by rw [hC1, hB10]; exact Mrg.nil_right (by have h := hA'h.out; rw [← eA'h.out] at h; exact (List.pairwise_append.1 h).1)
            have hL4 : Lf w blk off (P ++ C1 ++ (A2 ++ B2) ++ S) w2 := by have h := hL3'h.out; rw [hB10, List.append_nil] at h; rw [hC1]; exact h
            clear hC1 hB10
            have hM1'h := Lib.hid hM1
            have hL4'h := Lib.hid hL4
            clear hM1 hL4
            go_upto_region 43 with fail
            clear q1' q2' q1 q2
            have hlc : C1.length = mid - a := by have := hM1'h.out.perm.length_eq; rw [List.length_append] at this; have := l1'h.out; have := l3'h.out; omega
            have hlc'h := Lib.hid hlc
            clear hlc
            by_cases t1 : mid < en
            · have t1' : (mid : Int) < (en : Int) := by omega
              by_cases t2 : en < b
              · have t2' : (en : Int) < (b : Int) := by omega
                have C := hIH'h.out mid en b (P ++ C1) A2 B2 S w2 (by rw [List.length_append]; have := hlc'h.out; have := hP'h.out; omega) (by rw [List.length_append]; have := hlc'h.out; have := l2'h.out; have := hP'h.out; have := hen'h.out; omega) (by rw [List.length_append]; have := hlc'h.out; have := l2'h.out; have := l4'h.out; have := hP'h.out; have := hen'h.out; omega) (by omega) (by have := l2'h.out; have := hen'h.out; omega) (by have := l4'h.out; have := hen'h.out; omega) (by have h := hl'h.out; have h2 := hM1'h.out.perm.length_eq; rw [← eA'h.out, ← eB'h.out] at h; simp only [List.length_append] at h h2 ⊢; omega) (fun x hx => hA0'h.out x (by rw [← eA'h.out]; exact List.mem_append_right _ hx)) (fun x hx => hB0'h.out x (by rw [← eB'h.out]; exact List.mem_append_right _ hx)) (by have h := hA'h.out; rw [← eA'h.out] at h; exact (List.pairwise_append.1 h).2.1) (by have h := hB'h.out; rw [← eB'h.out] at h; exact (List.pairwise_append.1 h).2.1) (fun x hx y hy => ha'h.out x (by rw [← eA'h.out]; exact List.mem_append_right _ hx) y (by rw [← eB'h.out]; exact List.mem_append_right _ hy)) (by have h := hL4'h.out; simpa only [List.append_assoc] using h)
                have C'h := Lib.hid C
                clear C
                go_wp2_with fail
                refine C'h.out.mono ?_
                rintro e w6 ⟨rfl, C2, hM2, hL5⟩
                have hfin : SymP key w blk off P A B S (.returned (.tuple #[])) w6 := by
                  refine ⟨rfl, C1 ++ C2, ?_, by simpa only [List.append_assoc] using hL5⟩
                  have h1 := hA'h.out
                  have h2 := hB'h.out
                  have h3 := ha'h.out
                  rw [← eA'h.out] at h1 h3 ⊢
                  rw [← eB'h.out] at h2 h3 ⊢
                  exact Mrg.join h1 h2 h3 hM1'h.out hM2 hp1'h.out hp2'h.out
                clear hL5 hM2
                have hfin'h := Lib.hid hfin
                clear hfin
                go_wp2
                refine bodyPost_end (results_none rfl _ _ _) rfl ?_
                exact hfin'h.out
              · have t2' : ¬ (en : Int) < (b : Int) := by omega
                obtain ⟨C2, hC2⟩ : ∃ C2, C2 = A2 := ⟨_, rfl⟩
                have hB20 : B2 = [] := List.eq_nil_of_length_eq_zero (by have := l4'h.out; have := hen'h.out; omega)
                have hM2 : Mrg key A2 B2 C2 := by rw [hC2, hB20]; exact Mrg.nil_right (by have h := hA'h.out; rw [← eA'h.out] at h; exact (List.pairwise_append.1 h).2.1)
                have hL5 : Lf w blk off ((P ++ C1) ++ C2 ++ S) w2 := by have h := hL4'h.out; rw [hB20, List.append_nil] at h; rw [hC2]; exact h
                clear hC2 hB20
                have hfin : SymP key w blk off P A B S (.returned (.tuple #[])) w2 := by
                  refine ⟨rfl, C1 ++ C2, ?_, by simpa only [List.append_assoc] using hL5⟩
                  have h1 := hA'h.out
                  have h2 := hB'h.out
                  have h3 := ha'h.out
                  rw [← eA'h.out] at h1 h3 ⊢
                  rw [← eB'h.out] at h2 h3 ⊢
                  exact Mrg.join h1 h2 h3 hM1'h.out hM2 hp1'h.out hp2'h.out
                clear hL5 hM2
                have hfin'h := Lib.hid hfin
                clear hfin
                go_wp2
                refine bodyPost_end (results_none rfl _ _ _) rfl ?_
                exact hfin'h.out
            · have t1' : ¬ (mid : Int) < (en : Int) := by omega
              obtain ⟨C2, hC2⟩ : ∃ C2, C2 = B2 := ⟨_, rfl⟩
              have hA20 : A2 = [] := List.eq_nil_of_length_eq_zero (by have := l2'h.out; have := hen'h.out; omega)
              have hM2 : Mrg key A2 B2 C2 := by rw [hC2, hA20]; exact Mrg.nil_left (by have h := hB'h.out; rw [← eB'h.out] at h; exact (List.pairwise_append.1 h).2.1)
              have hL5 : Lf w blk off ((P ++ C1) ++ C2 ++ S) w2 := by have h := hL4'h.out; rw [hA20, List.nil_append] at h; rw [hC2]; exact h
              clear hC2 hA20
              have hfin : SymP key w blk off P A B S (.returned (.tuple #[])) w2 := by
                refine ⟨rfl, C1 ++ C2, ?_, by simpa only [List.append_assoc] using hL5⟩
                have h1 := hA'h.out
                have h2 := hB'h.out
                have h3 := ha'h.out
                rw [← eA'h.out] at h1 h3 ⊢
                rw [← eB'h.out] at h2 h3 ⊢
                exact Mrg.join h1 h2 h3 hM1'h.out hM2 hp1'h.out hp2'h.out
              clear hL5 hM2
              have hfin'h := Lib.hid hfin
              clear hfin
              go_wp2
              refine bodyPost_end (results_none rfl _ _ _) rfl ?_
              exact hfin'h.out
        · have q1' : ¬ (a : Int) < (s : Int) := by omega
          obtain ⟨C1, hC1⟩ : ∃ C1, C1 = B1 := ⟨_, rfl⟩
          have hA10 : A1 = [] := List.eq_nil_of_length_eq_zero (by have := l1'h.out; omega)
          have hM1 : Mrg key A1 B1 C1 := by rw [hC1, hA10]; exact Mrg.nil_left (by have h := hB'h.out; rw [← eB'h.out] at h; exact (List.pairwise_append.1 h).1)
          have hL4 : Lf w blk off (P ++ C1 ++ (A2 ++ B2) ++ S) w2 := by have h := hL3'h.out; rw [hA10, List.nil_append] at h; rw [hC1]; exact h
          clear hC1 hA10
          have hM1'h := Lib.hid hM1
          have hL4'h := Lib.hid hL4
          clear hM1 hL4
          go_upto_region 43 with fail
          clear q1' q1
          have hlc : C1.length = mid - a := by have := hM1'h.out.perm.length_eq; rw [List.length_append] at this; have := l1'h.out; have := l3'h.out; omega
          have hlc'h := Lib.hid hlc
          clear hlc
          by_cases t1 : mid < en
          · have t1' : (mid : Int) < (en : Int) := by omega
            by_cases t2 : en < b
            · have t2' : (en : Int) < (b : Int) := by omega
              have C := hIH'h.out mid en b (P ++ C1) A2 B2 S w2 (by rw [List.length_append]; have := hlc'h.out; have := hP'h.out; omega) (by rw [List.length_append]; have := hlc'h.out; have := l2'h.out; have := hP'h.out; have := hen'h.out; omega) (by rw [List.length_append]; have := hlc'h.out; have := l2'h.out; have := l4'h.out; have := hP'h.out; have := hen'h.out; omega) (by omega) (by have := l2'h.out; have := hen'h.out; omega) (by have := l4'h.out; have := hen'h.out; omega) (by have h := hl'h.out; have h2 := hM1'h.out.perm.length_eq; rw [← eA'h.out, ← eB'h.out] at h; simp only [List.length_append] at h h2 ⊢; omega) (fun x hx => hA0'h.out x (by rw [← eA'h.out]; exact List.mem_append_right _ hx)) (fun x hx => hB0'h.out x (by rw [← eB'h.out]; exact List.mem_append_right _ hx)) (by have h := hA'h.out; rw [← eA'h.out] at h; exact (List.pairwise_append.1 h).2.1) (by have h := hB'h.out; rw [← eB'h.out] at h; exact (List.pairwise_append.1 h).2.1) (fun x hx y hy => ha'h.out x (by rw [← eA'h.out]; exact List.mem_append_right _ hx) y (by rw [← eB'h.out]; exact List.mem_append_right _ hy)) (by have h := hL4'h.out; simpa only [List.append_assoc] using h)
              have C'h := Lib.hid C
              clear C
              go_wp2_with fail
              refine C'h.out.mono ?_
              rintro e w6 ⟨rfl, C2, hM2, hL5⟩
              have hfin : SymP key w blk off P A B S (.returned (.tuple #[])) w6 := by
                refine ⟨rfl, C1 ++ C2, ?_, by simpa only [List.append_assoc] using hL5⟩
                have h1 := hA'h.out
                have h2 := hB'h.out
                have h3 := ha'h.out
                rw [← eA'h.out] at h1 h3 ⊢
                rw [← eB'h.out] at h2 h3 ⊢
                exact Mrg.join h1 h2 h3 hM1'h.out hM2 hp1'h.out hp2'h.out
              clear hL5 hM2
              have hfin'h := Lib.hid hfin
              clear hfin
              go_wp2
              refine bodyPost_end (results_none rfl _ _ _) rfl ?_
              exact hfin'h.out
            · have t2' : ¬ (en : Int) < (b : Int) := by omega
              obtain ⟨C2, hC2⟩ : ∃ C2, C2 = A2 := ⟨_, rfl⟩
              have hB20 : B2 = [] := List.eq_nil_of_length_eq_zero (by have := l4'h.out; have := hen'h.out; omega)
              have hM2 : Mrg key A2 B2 C2 := by rw [hC2, hB20]; exact Mrg.nil_right (by have h := hA'h.out; rw [← eA'h.out] at h; exact (List.pairwise_append.1 h).2.1)
              have hL5 : Lf w blk off ((P ++ C1) ++ C2 ++ S) w2 := by have h := hL4'h.out; rw [hB20, List.append_nil] at h; rw [hC2]; exact h
              clear hC2 hB20
              have hfin : SymP key w blk off P A B S (.returned (.tuple #[])) w2 := by
                refine ⟨rfl, C1 ++ C2, ?_, by simpa only [List.append_assoc] using hL5⟩
                have h1 := hA'h.out
                have h2 := hB'h.out
                have h3 := ha'h.out
                rw [← eA'h.out] at h1 h3 ⊢
                rw [← eB'h.out] at h2 h3 ⊢
                exact Mrg.join h1 h2 h3 hM1'h.out hM2 hp1'h.out hp2'h.out
              clear hL5 hM2
              have hfin'h := Lib.hid hfin
              clear hfin
              go_wp2
              refine bodyPost_end (results_none rfl _ _ _) rfl ?_
              exact hfin'h.out
          · have t1' : ¬ (mid : Int) < (en : Int) := by omega
            obtain ⟨C2, hC2⟩ : ∃ C2, C2 = B2 := ⟨_, rfl⟩
            have hA20 : A2 = [] := List.eq_nil_of_length_eq_zero (by have := l2'h.out; have := hen'h.out; omega)
            have hM2 : Mrg key A2 B2 C2 := by rw [hC2, hA20]; exact Mrg.nil_left (by have h := hB'h.out; rw [← eB'h.out] at h; exact (List.pairwise_append.1 h).2.1)
            have hL5 : Lf w blk off ((P ++ C1) ++ C2 ++ S) w2 := by have h := hL4'h.out; rw [hA20, List.nil_append] at h; rw [hC2]; exact h
            clear hC2 hA20
            have hfin : SymP key w blk off P A B S (.returned (.tuple #[])) w2 := by
              refine ⟨rfl, C1 ++ C2, ?_, by simpa only [List.append_assoc] using hL5⟩
              have h1 := hA'h.out
              have h2 := hB'h.out
              have h3 := ha'h.out
              rw [← eA'h.out] at h1 h3 ⊢
              rw [← eB'h.out] at h2 h3 ⊢
              exact Mrg.join h1 h2 h3 hM1'h.out hM2 hp1'h.out hp2'h.out
            clear hL5 hM2
            have hfin'h := Lib.hid hfin
            clear hfin
            go_wp2
            refine bodyPost_end (results_none rfl _ _ _) rfl ?_
            exact hfin'h.out
      · have hL3 : Lf w blk off (P ++ (A1 ++ B1) ++ (A2 ++ B2) ++ S) wr := by
          have h := hLf'h.out
          rw [← eA'h.out, ← eB'h.out] at h
          by_cases hs : s < m
          · have : B1 = [] := List.eq_nil_of_length_eq_zero (by have := l3'h.out; have := hge'h.out; omega)
            subst this
            simpa only [List.append_assoc, List.nil_append, List.append_nil] using h
          · have : A2 = [] := List.eq_nil_of_length_eq_zero (by have := l2'h.out; omega)
            subst this
            simpa only [List.append_assoc, List.nil_append, List.append_nil] using h
        by_cases r1 : s < m
        · have r1' : (s : Int) < (m : Int) := by omega
          have r2' : ¬ (m : Int) < (en : Int) := by omega
          have hL3'h := Lib.hid hL3
          clear hL3
          go_upto_region 41 with fail
          clear r1' r2' r1 hrot
          by_cases q1 : a < s
          · have q1' : (a : Int) < (s : Int) := by omega
            by_cases q2 : s < mid
            · have q2' : (s : Int) < (mid : Int) := by omega
              have C := hIH'h.out a s mid P A1 B1 ((A2 ++ B2) ++ S) wr hP'h.out (by have := l1'h.out; have := hP'h.out; omega) (by have := l1'h.out; have := l3'h.out; have := hP'h.out; omega) (by omega) (by have := l1'h.out; omega) (by have := l3'h.out; omega) (by have h := hl'h.out; rw [← eA'h.out, ← eB'h.out] at h; simp only [List.length_append] at h ⊢; omega) (fun x hx => hA0'h.out x (by rw [← eA'h.out]; exact List.mem_append_left _ hx)) (fun x hx => hB0'h.out x (by rw [← eB'h.out]; exact List.mem_append_left _ hx)) (by have h := hA'h.out; rw [← eA'h.out] at h; exact (List.pairwise_append.1 h).1) (by have h := hB'h.out; rw [← eB'h.out] at h; exact (List.pairwise_append.1 h).1) (fun x hx y hy => ha'h.out x (by rw [← eA'h.out]; exact List.mem_append_left _ hx) y (by rw [← eB'h.out]; exact List.mem_append_left _ hy)) (by have h := hL3'h.out; simpa only [List.append_assoc] using h)
              have C'h := Lib.hid C
              clear C
              go_wp2_with fail
              refine C'h.out.mono ?_
              rintro e w5 ⟨rfl, C1, hM1, hL4'⟩
              have hL4 : Lf w blk off (P ++ C1 ++ (A2 ++ B2) ++ S) w5 := by simpa only [List.append_assoc] using hL4'
              clear hL4'
              have hM1'h := Lib.hid hM1
              have hL4'h := Lib.hid hL4
              clear hM1 hL4
              go_upto_region 43 with fail
              clear q1' q2' q1 q2
              have hlc : C1.length = mid - a := by have := hM1'h.out.perm.length_eq; rw [List.length_append] at this; have := l1'h.out; have := l3'h.out; omega
              have hlc'h := Lib.hid hlc
              clear hlc
              by_cases t1 : mid < en
              · have t1' : (mid : Int) < (en : Int) := by omega
                by_cases t2 : en < b
                · have t2' : (en : Int) < (b : Int) := by omega
                  have C := hIH'h.out mid en b (P ++ C1) A2 B2 S w5 (by rw [List.length_append]; have := hlc'h.out; have := hP'h.out; omega) (by rw [List.length_append]; have := hlc'h.out; have := l2'h.out; have := hP'h.out; have := hen'h.out; omega) (by rw [List.length_append]; have := hlc'h.out; have := l2'h.out; have := l4'h.out; have := hP'h.out; have := hen'h.out; omega) (by omega) (by have := l2'h.out; have := hen'h.out; omega) (by have := l4'h.out; have := hen'h.out; omega) (by have h := hl'h.out; have h2 := hM1'h.out.perm.length_eq; rw [← eA'h.out, ← eB'h.out] at h; simp only [List.length_append] at h h2 ⊢; omega) (fun x hx => hA0'h.out x (by rw [← eA'h.out]; exact List.mem_append_right _ hx)) (fun x hx => hB0'h.out x (by rw [← eB'h.out]; exact List.mem_append_right _ hx)) (by have h := hA'h.out; rw [← eA'h.out] at h; exact (List.pairwise_append.1 h).2.1) (by have h := hB'h.out; rw [← eB'h.out] at h; exact (List.pairwise_append.1 h).2.1) (fun x hx y hy => ha'h.out x (by rw [← eA'h.out]; exact List.mem_append_right _ hx) y (by rw [← eB'h.out]; exact List.mem_append_right _ hy)) (by have h := hL4'h.out; simpa only [List.append_assoc] using h)
                  have C'h := Lib.hid C
                  clear C
                  go_wp2_with fail
                  refine C'h.out.mono ?_
                  rintro e w6 ⟨rfl, C2, hM2, hL5⟩
                  have hfin : SymP key w blk off P A B S (.returned (.tuple #[])) w6 := by
                    refine ⟨rfl, C1 ++ C2, ?_, by simpa only [List.append_assoc] using hL5⟩
                    have h1 := hA'h.out
                    have h2 := hB'h.out
                    have h3 := ha'h.out
                    rw [← eA'h.out] at h1 h3 ⊢
                    rw [← eB'h.out] at h2 h3 ⊢
                    exact Mrg.join h1 h2 h3 hM1'h.out hM2 hp1'h.out hp2'h.out
                  clear hL5 hM2
                  have hfin'h := Lib.hid hfin
                  clear hfin
                  go_wp2
                  refine bodyPost_end (results_none rfl _ _ _) rfl ?_
                  exact hfin'h.out
                · have t2' : ¬ (en : Int) < (b : Int) := by omega
                  obtain ⟨C2, hC2⟩ : ∃ C2, C2 = A2 := ⟨_, rfl⟩
                  have hB20 : B2 = [] := List.eq_nil_of_length_eq_zero (by have := l4'h.out; have := hen'h.out; omega)
                  have hM2 : Mrg key A2 B2 C2 := by rw [hC2, hB20]; exact Mrg.nil_right (by have h := hA'h.out; rw [← eA'h.out] at h; exact (List.pairwise_append.1 h).2.1)
                  have hL5 : Lf w blk off ((P ++ C1) ++ C2 ++ S) w5 := by have h := hL4'h.out; rw [hB20, List.append_nil] at h; rw [hC2]; exact h
                  clear hC2 hB20
                  have hfin : SymP key w blk off P A B S (.returned (.tuple #[])) w5 := by
                    refine ⟨rfl, C1 ++ C2, ?_, by simpa only [List.append_assoc] using hL5⟩
                    have h1 := hA'h.out
                    have h2 := hB'h.out
                    have h3 := ha'h.out
                    rw [← eA'h.out] at h1 h3 ⊢
                    rw [← eB'h.out] at h2 h3 ⊢
                    exact Mrg.join h1 h2 h3 hM1'h.out hM2 hp1'h.out hp2'h.out
                  clear hL5 hM2
                  have hfin'h := Lib.hid hfin
                  clear hfin
                  go_wp2
                  refine bodyPost_end (results_none rfl _ _ _) rfl ?_
                  exact hfin'h.out
              · have t1' : ¬ (mid : Int) < (en : Int) := by omega
                obtain ⟨C2, hC2⟩ : ∃ C2, C2 = B2 := ⟨_, rfl⟩
                have hA20 : A2 = [] := List.eq_nil_of_length_eq_zero (by have := l2'h.out; have := hen'h.out; omega)
                have hM2 : Mrg key A2 B2 C2 := by rw [hC2, hA20]; exact Mrg.nil_left (by have h := hB'h.out; rw [← eB'h.out] at h; exact (List.pairwise_append.1 h).2.1)
                have hL5 : Lf w blk off ((P ++ C1) ++ C2 ++ S) w5 := by have h := hL4'h.out; rw [hA20, List.nil_append] at h; rw [hC2]; exact h
                clear hC2 hA20
                have hfin : SymP key w blk off P A B S (.returned (.tuple #[])) w5 := by
                  refine ⟨rfl, C1 ++ C2, ?_, by simpa only [List.append_assoc] using hL5⟩
                  have h1 := hA'h.out
                  have h2 := hB'h.out
                  have h3 := ha'h.out
                  rw [← eA'h.out] at h1 h3 ⊢
                  rw [← eB'h.out] at h2 h3 ⊢
                  exact Mrg.join h1 h2 h3 hM1'h.out hM2 hp1'h.out hp2'h.out
                clear hL5 hM2
                have hfin'h := Lib.hid hfin
                clear hfin
                go_wp2
                refine bodyPost_end (results_none rfl _ _ _) rfl ?_
                exact hfin'h.out
            · have q2' : ¬ (s : Int) < (mid : Int) := by omega
              obtain ⟨C1, hC1⟩ : ∃ C1, C1 = A1 := ⟨_, rfl⟩
              have hB10 : B1 = [] := List.eq_nil_of_length_eq_zero (by have := l3'h.out; omega)
              have hM1 : Mrg key A1 B1 C1 := by rw [hC1, hB10]; exact Mrg.nil_right (by have h := hA'h.out; rw [← eA'h.out] at h; exact (List.pairwise_append.1 h).1)
              have hL4 : Lf w blk off (P ++ C1 ++ (A2 ++ B2) ++ S) wr := by have h := hL3'h.out; rw [hB10, List.append_nil] at h; rw [hC1]; exact h
              clear hC1 hB10
              have hM1'h := Lib.hid hM1
              have hL4'h := Lib.hid hL4
              clear hM1 hL4
              go_upto_region 43 with fail
              clear q1' q2' q1 q2
              have hlc : C1.length = mid - a := by have := hM1'h.out.perm.length_eq; rw [List.length_append] at this; have := l1'h.out; have := l3'h.out; omega
              have hlc'h := Lib.hid hlc
              clear hlc
              by_cases t1 : mid < en
              · have t1' : (mid : Int) < (en : Int) := by omega
                by_cases t2 : en < b
                · have t2' : (en : Int) < (b : Int) := by omega
                  have C := hIH'h.out mid en b (P ++ C1) A2 B2 S wr (by rw [List.length_append]; have := hlc'h.out; have := hP'h.out; omega) (by rw [List.length_append]; have := hlc'h.out; have := l2'h.out; have := hP'h.out; have := hen'h.out; omega) (by rw [List.length_append]; have := hlc'h.out; have := l2'h.out; have := l4'h.out; have := hP'h.out; have := hen'h.out; omega) (by omega) (by have := l2'h.out; have := hen'h.out; omega) (by have := l4'h.out; have := hen'h.out; omega) (by have h := hl'h.out; have h2 := hM1'h.out.perm.length_eq; rw [← eA'h.out, ← eB'h.out] at h; simp only [List.length_append] at h h2 ⊢; omega) (fun x hx => hA0'h.out x (by rw [← eA'h.out]; exact List.mem_append_right _ hx)) (fun x hx => hB0'h.out x (by rw [← eB'h.out]; exact List.mem_append_right _ hx)) (by have h := hA'h.out; rw [← eA'h.out] at h; exact (List.pairwise_append.1 h).2.1) (by have h := hB'h.out; rw [← eB'h.out] at h; exact (List.pairwise_append.1 h).2.1) (fun x hx y hy => ha'h.out x (by rw [← eA'h.out]; exact List.mem_append_right _ hx) y (by rw [← eB'h.out]; exact List.mem_append_right _ hy)) (by have h := hL4'h.out; simpa only [List.append_assoc] using h)
                  have C'h := Lib.hid C
                  clear C
                  go_wp2_with fail
                  refine C'h.out.mono ?_
                  rintro e w6 ⟨rfl, C2, hM2, hL5⟩
                  have hfin : SymP key w blk off P A B S (.returned (.tuple #[])) w6 := by
                    refine ⟨rfl, C1 ++ C2, ?_, by simpa only [List.append_assoc] using hL5⟩
                    have h1 := hA'h.out
                    have h2 := hB'h.out
                    have h3 := ha'h.out
                    rw [← eA'h.out] at h1 h3 ⊢
                    rw [← eB'h.out] at h2 h3 ⊢
                    exact Mrg.join h1 h2 h3 hM1'h.out hM2 hp1'h.out hp2'h.out
                  clear hL5 hM2
                  have hfin'h := Lib.hid hfin
                  clear hfin
                  go_wp2
                  refine bodyPost_end (results_none rfl _ _ _) rfl ?_
                  exact hfin'h.out
                · have t2' : ¬ (en : Int) < (b : Int) := by omega
                  obtain ⟨C2, hC2⟩ : ∃ C2, C2 = A2 := ⟨_, rfl⟩
                  have hB20 : B2 = [] := List.eq_nil_of_length_eq_zero (by have := l4'h.out; have := hen'h.out; omega)
                  have hM2 : Mrg key A2 B2 C2 := by rw [hC2, hB20]; exact Mrg.nil_right (by have h := hA'h.out; rw [← eA'h.out] at h; exact (List.pairwise_append.1 h).2.1)
                  have hL5 : Lf w blk off ((P ++ C1) ++ C2 ++ S) wr := by have h := hL4'h.out; rw [hB20, List.append_nil] at h; rw [hC2]; exact h
                  clear hC2 hB20
                  have hfin : SymP key w blk off P A B S (.returned (.tuple #[])) wr := by
                    refine ⟨rfl, C1 ++ C2, ?_, by simpa only [List.append_assoc] using hL5⟩
                    have h1 := hA'h.out
                    have h2 := hB'h.out
                    have h3 := ha'h.out
                    rw [← eA'h.out] at h1 h3 ⊢
                    rw [← eB'h.out] at h2 h3 ⊢
                    exact Mrg.join h1 h2 h3 hM1'h.out hM2 hp1'h.out hp2'h.out
                  clear hL5 hM2
                  have hfin'h := Lib.hid hfin
                  clear hfin
                  go_wp2
                  refine bodyPost_end (results_none rfl _ _ _) rfl ?_
                  exact hfin'h.out
              · have t1' : ¬ (mid : Int) < (en : Int) := by omega
                obtain ⟨C2, hC2⟩ : ∃ C2, C2 = B2 := ⟨_, rfl⟩
                have hA20 : A2 = [] := List.eq_nil_of_length_eq_zero (by have := l2'h.out; have := hen'h.out; omega)
                have hM2 : Mrg key A2 B2 C2 := by rw [hC2, hA20]; exact Mrg.nil_left (by have h := hB'h.out; rw [← eB'h.out] at h; exact (List.pairwise_append.1 h).2.1)
                have hL5 : Lf w blk off ((P ++ C1) ++ C2 ++ S) wr := by have h := hL4'h.out; rw [hA20, List.nil_append] at h; rw [hC2]; exact h
                clear hC2 hA20
                have hfin : SymP key w blk off P A B S (.returned (.tuple #[])) wr := by
                  refine ⟨rfl, C1 ++ C2, ?_, by simpa only [List.append_assoc] using hL5⟩
                  have h1 := hA'h.out
                  have h2 := hB'h.out
                  have h3 := ha'h.out
                  rw [← eA'h.out] at h1 h3 ⊢
                  rw [← eB'h.out] at h2 h3 ⊢
                  exact Mrg.join h1 h2 h3 hM1'h.out hM2 hp1'h.out hp2'h.out
                clear hL5 hM2
                have hfin'h := Lib.hid hfin
                clear hfin
                go_wp2
                refine bodyPost_end (results_none rfl _ _ _) rfl ?_
                exact hfin'h.out
          · have q1' : ¬ (a : Int) < (s : Int) := by omega
            obtain ⟨C1, hC1⟩ : ∃ C1, C1 = B1 := ⟨_, rfl⟩
            have hA10 : A1 = [] := List.eq_nil_of_length_eq_zero (by have := l1'h.out; omega)
            have hM1 : Mrg key A1 B1 C1 := by rw [hC1, hA10]; exact Mrg.nil_left (by have h := hB'h.out; rw [← eB'h.out] at h; exact (List.pairwise_append.1 h).1)
            have hL4 : Lf w blk off (P ++ C1 ++ (A2 ++ B2) ++ S) wr := by have h := hL3'h.out; rw [hA10, List.nil_append] at h; rw [hC1]; exact h
            clear hC1 hA10
            have hM1'h := Lib.hid hM1
            have hL4'h := Lib.hid hL4
            clear hM1 hL4
            go_upto_region 43 with fail
            clear q1' q1
            have hlc : C1.length = mid - a := by have := hM1'h.out.perm.length_eq; rw [List.length_append] at this; have := l1'h.out; have := l3'h.out; omega
            have hlc'h := Lib.hid hlc
            clear hlc
            by_cases t1 : mid < en
            · have t1' : (mid : Int) < (en : Int) := by omega
              by_cases t2 : en < b
              · have t2' : (en : Int) < (b : Int) := by omega
                have C := hIH'h.out mid en b (P ++ C1) A2 B2 S wr (by rw [List.length_append]; have := hlc'h.out; have := hP'h.out; omega) (by rw [List.length_append]; have := hlc'h.out; have := l2'h.out; have := hP'h.out; have := hen'h.out; omega) (by rw [List.length_append]; have := hlc'h.out; have := l2'h.out; have := l4'h.out; have := hP'h.out; have := hen'h.out; omega) (by omega) (by have := l2'h.out; have := hen'h.out; omega) (by have := l4'h.out; have := hen'h.out; omega) (by have h := hl'h.out; have h2 := hM1'h.out.perm.length_eq; rw [← eA'h.out, ← eB'h.out] at h; simp only [List.length_append] at h h2 ⊢; omega) (fun x hx => hA0'h.out x (by rw [← eA'h.out]; exact List.mem_append_right _ hx)) (fun x hx => hB0'h.out x (by rw [← eB'h.out]; exact List.mem_append_right _ hx)) (by have h := hA'h.out; rw [← eA'h.out] at h; exact (List.pairwise_append.1 h).2.1) (by have h := hB'h.out; rw [← eB'h.out] at h; exact (List.pairwise_append.1 h).2.1) (fun x hx y hy => ha'h.out x (by rw [← eA'h.out]; exact List.mem_append_right _ hx) y (by rw [← eB'h.out]; exact List.mem_append_right _ hy)) (by have h := hL4'h.out; simpa only [List.append_assoc] using h)
                have C'h := Lib.hid C
                clear C
                go_wp2_with fail
                refine C'h.out.mono ?_
                rintro e w6 ⟨rfl, C2, hM2, hL5⟩
                have hfin : SymP key w blk off P A B S (.returned (.tuple #[])) w6 := by
                  refine ⟨rfl, C1 ++ C2, ?_, by simpa only [List.append_assoc] using hL5⟩
                  have h1 := hA'h.out
                  have h2 := hB'h.out
                  have h3 := ha'h.out
                  rw [← eA'h.out] at h1 h3 ⊢
                  rw [← eB'h.out] at h2 h3 ⊢
                  exact Mrg.join h1 h2 h3 hM1'h.out hM2 hp1'h.out hp2'h.out
                clear hL5 hM2
                have hfin'h := Lib.hid hfin
                clear hfin
                go_wp2
                refine bodyPost_end (results_none rfl _ _ _) rfl ?_
                exact hfin'h.out
              · have t2' : ¬ (en : Int) < (b : Int) := by omega
                obtain ⟨C2, hC2⟩ : ∃ C2, C2 = A2 := ⟨_, rfl⟩
                have hB20 : B2 = [] := List.eq_nil_of_length_eq_zero (by have := l4'h.out; have := hen'h.out; omega)
                have hM2 : Mrg key A2 B2 C2 := by rw [hC2, hB20]; exact Mrg.nil_right (by have h := hA'h.out; rw [← eA'h.out] at h; exact (List.pairwise_append.1 h).2.1)
                have hL5 : Lf w blk off ((P ++ C1) ++ C2 ++ S) wr := by have h := hL4'h.out; rw [hB20, List.append_nil] at h; rw [hC2]; exact h
                clear hC2 hB20
                have hfin : SymP key w blk off P A B S (.returned (.tuple #[])) wr := by
                  refine ⟨rfl, C1 ++ C2, ?_, by simpa only [List.append_assoc] using hL5⟩
                  have h1 := hA'h.out
                  have h2 := hB'h.out
                  have h3 := ha'h.out
                  rw [← eA'h.out] at h1 h3 ⊢
                  rw [← eB'h.out] at h2 h3 ⊢
                  exact Mrg.join h1 h2 h3 hM1'h.out hM2 hp1'h.out hp2'h.out
                clear hL5 hM2
                have hfin'h := Lib.hid hfin
                clear hfin
                go_wp2
                refine bodyPost_end (results_none rfl _ _ _) rfl ?_
                exact hfin'h.out
            · have t1' : ¬ (mid : Int) < (en : Int) := by omega
              obtain ⟨C2, hC2⟩ : ∃ C2, C2 = B2 := ⟨_, rfl⟩
              have hA20 : A2 = [] := List.eq_nil_of_length_eq_zero (by have := l2'h.out; have := hen'h.out; omega)
              have hM2 : Mrg key A2 B2 C2 := by rw [hC2, hA20]; exact Mrg.nil_left (by have h := hB'h.out; rw [← eB'h.out] at h; exact (List.pairwise_append.1 h).2.1)
              have hL5 : Lf w blk off ((P ++ C1) ++ C2 ++ S) wr := by have h := hL4'h.out; rw [hA20, List.nil_append] at h; rw [hC2]; exact h
              clear hC2 hA20
              have hfin : SymP key w blk off P A B S (.returned (.tuple #[])) wr := by
                refine ⟨rfl, C1 ++ C2, ?_, by simpa only [List.append_assoc] using hL5⟩
                have h1 := hA'h.out
                have h2 := hB'h.out
                have h3 := ha'h.out
                rw [← eA'h.out] at h1 h3 ⊢
                rw [← eB'h.out] at h2 h3 ⊢
                exact Mrg.join h1 h2 h3 hM1'h.out hM2 hp1'h.out hp2'h.out
              clear hL5 hM2
              have hfin'h := Lib.hid hfin
              clear hfin
              go_wp2
              refine bodyPost_end (results_none rfl _ _ _) rfl ?_
              exact hfin'h.out
        · have r1' : ¬ (s : Int) < (m : Int) := by omega
          have hL3'h := Lib.hid hL3
          clear hL3
          go_upto_region 41 with fail
          clear r1' r1 hrot
          by_cases q1 : a < s
          · have q1' : (a : Int) < (s : Int) := by omega
            by_cases q2 : s < mid
            · have q2' : (s : Int) < (mid : Int) := by omega
              have C := hIH'h.out a s mid P A1 B1 ((A2 ++ B2) ++ S) wr hP'h.out (by have := l1'h.out; have := hP'h.out; omega) (by have := l1'h.out; have := l3'h.out; have := hP'h.out; omega) (by omega) (by have := l1'h.out; omega) (by have := l3'h.out; omega) (by have h := hl'h.out; rw [← eA'h.out, ← eB'h.out] at h; simp only [List.length_append] at h ⊢; omega) (fun x hx => hA0'h.out x (by rw [← eA'h.out]; exact List.mem_append_left _ hx)) (fun x hx => hB0'h.out x (by rw [← eB'h.out]; exact List.mem_append_left _ hx)) (by have h := hA'h.out; rw [← eA'h.out] at h; exact (List.pairwise_append.1 h).1) (by have h := hB'h.out; rw [← eB'h.out] at h; exact (List.pairwise_append.1 h).1) (fun x hx y hy => ha'h.out x (by rw [← eA'h.out]; exact List.mem_append_left _ hx) y (by rw [← eB'h.out]; exact List.mem_append_left _ hy)) (by have h := hL3'h.out; simpa only [List.append_assoc] using h)
              have C'h := Lib.hid C
              clear C
              go_wp2_with fail
              refine C'h.out.mono ?_
              rintro e w5 ⟨rfl, C1, hM1, hL4'⟩
              have hL4 : Lf w blk off (P ++ C1 ++ (A2 ++ B2) ++ S) w5 := by simpa only [List.append_assoc] using hL4'
              clear hL4'
              have hM1'h := Lib.hid hM1
              have hL4'h := Lib.hid hL4
              clear hM1 hL4
              go_upto_region 43 with fail
              clear q1' q2' q1 q2
              have hlc : C1.length = mid - a := by have := hM1'h.out.perm.length_eq; rw [List.length_append] at this; have := l1'h.out; have := l3'h.out; omega
              have hlc'h := Lib.hid hlc
              clear hlc
              by_cases t1 : mid < en
              · have t1' : (mid : Int) < (en : Int) := by omega
                by_cases t2 : en < b
                · have t2' : (en : Int) < (b : Int) := by omega
                  have C := hIH'h.out mid en b (P ++ C1) A2 B2 S w5 (by rw [List.length_append]; have := hlc'h.out; have := hP'h.out; omega) (by rw [List.length_append]; have := hlc'h.out; have := l2'h.out; have := hP'h.out; have := hen'h.out; omega) (by rw [List.length_append]; have := hlc'h.out; have := l2'h.out; have := l4'h.out; have := hP'h.out; have := hen'h.out; omega) (by omega) (by have := l2'h.out; have := hen'h.out; omega) (by have := l4'h.out; have := hen'h.out; omega) (by have h := hl'h.out; have h2 := hM1'h.out.perm.length_eq; rw [← eA'h.out, ← eB'h.out] at h; simp only [List.length_append] at h h2 ⊢; omega) (fun x hx => hA0'h.out x (by rw [← eA'h.out]; exact List.mem_append_right _ hx)) (fun x hx => hB0'h.out x (by rw [← eB'h.out]; exact List.mem_append_right _ hx)) (by have h := hA'h.out; rw [← eA'h.out] at h; exact (List.pairwise_append.1 h).2.1) (by have h := hB'h.out; rw [← eB'h.out] at h; exact (List.pairwise_append.1 h).2.1) (fun x hx y hy => ha'h.out x (by rw [← eA'h.out]; exact List.mem_append_right _ hx) y (by rw [← eB'h.out]; exact List.mem_append_right _ hy)) (by have h := hL4'h.out; simpa only [List.append_assoc] using h)
                  have C'h := Lib.hid C
                  clear C
                  go_wp2_with fail
                  refine C'h.out.mono ?_
                  rintro e w6 ⟨rfl, C2, hM2, hL5⟩
                  have hfin : SymP key w blk off P A B S (.returned (.tuple #[])) w6 := by
                    refine ⟨rfl, C1 ++ C2, ?_, by simpa only [List.append_assoc] using hL5⟩
                    have h1 := hA'h.out
                    have h2 := hB'h.out
                    have h3 := ha'h.out
                    rw [← eA'h.out] at h1 h3 ⊢
                    rw [← eB'h.out] at h2 h3 ⊢
                    exact Mrg.join h1 h2 h3 hM1'h.out hM2 hp1'h.out hp2'h.out
                  clear hL5 hM2
                  have hfin'h := Lib.hid hfin
                  clear hfin
                  go_wp2
                  refine bodyPost_end (results_none rfl _ _ _) rfl ?_
                  exact hfin'h.out
                · have t2' : ¬ (en : Int) < (b : Int) := by omega
                  obtain ⟨C2, hC2⟩ : ∃ C2, C2 = A2 := ⟨_, rfl⟩
                  have hB20 : B2 = [] := List.eq_nil_of_length_eq_zero (by have := l4'h.out; have := hen'h.out; omega)
                  have hM2 : Mrg key A2 B2 C2 := by rw [hC2, hB20]; exact Mrg.nil_right (by have h := hA'h.out; rw [← eA'h.out] at h; exact (List.pairwise_append.1 h).2.1)
                  have hL5 : Lf w blk off ((P ++ C1) ++ C2 ++ S) w5 := by have h := hL4'h.out; rw [hB20, List.append_nil] at h; rw [hC2]; exact h
                  clear hC2 hB20
                  have hfin : SymP key w blk off P A B S (.returned (.tuple #[])) w5 := by
                    refine ⟨rfl, C1 ++ C2, ?_, by simpa only [List.append_assoc] using hL5⟩
                    have h1 := hA'h.out
                    have h2 := hB'h.out
                    have h3 := ha'h.out
                    rw [← eA'h.out] at h1 h3 ⊢
                    rw [← eB'h.out] at h2 h3 ⊢
                    exact Mrg.join h1 h2 h3 hM1'h.out hM2 hp1'h.out hp2'h.out
                  clear hL5 hM2
                  have hfin'h := Lib.hid hfin
                  clear hfin
                  go_wp2
                  refine bodyPost_end (results_none rfl _ _ _) rfl ?_
                  exact hfin'h.out
              · have t1' : ¬ (mid : Int) < (en : Int) := by omega
                obtain ⟨C2, hC2⟩ : ∃ C2, C2 = B2 := ⟨_, rfl⟩
                have hA20 : A2 = [] := List.eq_nil_of_length_eq_zero (by have := l2'h.out; have := hen'h.out; omega)
                have hM2 : Mrg key A2 B2 C2 := by rw [hC2, hA20]; exact Mrg.nil_left (by have h := hB'h.out; rw [← eB'h.out] at h; exact (List.pairwise_append.1 h).2.1)
                have hL5 : Lf w blk off ((P ++ C1) ++ C2 ++ S) w5 := by have h := hL4'h.out; rw [hA20, List.nil_append] at h; rw [hC2]; exact h
                clear hC2 hA20
                have hfin : SymP key w blk off P A B S (.returned (.tuple #[])) w5 := by
                  refine ⟨rfl, C1 ++ C2, ?_, by simpa only [List.append_assoc] using hL5⟩
                  have h1 := hA'h.out
                  have h2 := hB'h.out
                  have h3 := ha'h.out
                  rw [← eA'h.out] at h1 h3 ⊢
                  rw [← eB'h.out] at h2 h3 ⊢
                  exact Mrg.join h1 h2 h3 hM1'h.out hM2 hp1'h.out hp2'h.out
                clear hL5 hM2
                have hfin'h := Lib.hid hfin
                clear hfin
                go_wp2
                refine bodyPost_end (results_none rfl _ _ _) rfl ?_
                exact hfin'h.out
            · have q2' : ¬ (s : Int) < (mid : Int) := by omega
              obtain ⟨C1, hC1⟩ : ∃ C1, C1 = A1 := ⟨_, rfl⟩
              have hB10 : B1 = [] := List.eq_nil_of_length_eq_zero (by have := l3'h.out; omega)
              have hM1 : Mrg key A1 B1 C1 := by rw [hC1, hB10]; exact Mrg.nil_right (by have h := hA'h.out; rw [← eA'h.out] at h; exact (List.pairwise_append.1 h).1)
              have hL4 : Lf w blk off (P ++ C1 ++ (A2 ++ B2) ++ S) wr := by have h := hL3'h.out; rw [hB10, List.append_nil] at h; rw [hC1]; exact h
              clear hC1 hB10
              have hM1'h := Lib.hid hM1
              have hL4'h := Lib.hid hL4
              clear hM1 hL4
              go_upto_region 43 with fail
              clear q1' q2' q1 q2
              have hlc : C1.length = mid - a := by have := hM1'h.out.perm.length_eq; rw [List.length_append] at this; have := l1'h.out; have := l3'h.out; omega
              have hlc'h := Lib.hid hlc
              clear hlc
              by_cases t1 : mid < en
              · have t1' : (mid : Int) < (en : Int) := by omega
                by_cases t2 : en < b
                · have t2' : (en : Int) < (b : Int) := by omega
                  have C := hIH'h.out mid en b (P ++ C1) A2 B2 S wr (by rw [List.length_append]; have := hlc'h.out; have := hP'h.out; omega) (by rw [List.length_append]; have := hlc'h.out; have := l2'h.out; have := hP'h.out; have := hen'h.out; omega) (by rw [List.length_append]; have := hlc'h.out; have := l2'h.out; have := l4'h.out; have := hP'h.out; have := hen'h.out; omega) (by omega) (by have := l2'h.out; have := hen'h.out; omega) (by have := l4'h.out; have := hen'h.out; omega) (by have h := hl'h.out; have h2 := hM1'h.out.perm.length_eq; rw [← eA'h.out, ← eB'h.out] at h; simp only [List.length_append] at h h2 ⊢; omega) (fun x hx => hA0'h.out x (by rw [← eA'h.out]; exact List.mem_append_right _ hx)) (fun x hx => hB0'h.out x (by rw [← eB'h.out]; exact List.mem_append_right _ hx)) (by have h := hA'h.out; rw [← eA'h.out] at h; exact (List.pairwise_append.1 h).2.1) (by have h := hB'h.out; rw [← eB'h.out] at h; exact (List.pairwise_append.1 h).2.1) (fun x hx y hy => ha'h.out x (by rw [← eA'h.out]; exact List.mem_append_right _ hx) y (by rw [← eB'h.out]; exact List.mem_append_right _ hy)) (by have h := hL4'h.out; simpa only [List.append_assoc] using h)
                  have C'h := Lib.hid C
                  clear C
                  go_wp2_with fail
                  refine C'h.out.mono ?_
                  rintro e w6 ⟨rfl, C2, hM2, hL5⟩
                  have hfin : SymP key w blk off P A B S (.returned (.tuple #[])) w6 := by
                    refine ⟨rfl, C1 ++ C2, ?_, by simpa only [List.append_assoc] using hL5⟩
                    have h1 := hA'h.out
                    have h2 := hB'h.out
                    have h3 := ha'h.out
                    rw [← eA'h.out] at h1 h3 ⊢
                    rw [← eB'h.out] at h2 h3 ⊢
                    exact Mrg.join h1 h2 h3 hM1'h.out hM2 hp1'h.out hp2'h.out
                  clear hL5 hM2
                  have hfin'h := Lib.hid hfin
                  clear hfin
                  go_wp2
                  refine bodyPost_end (results_none rfl _ _ _) rfl ?_
                  exact hfin'h.out
                · have t2' : ¬ (en : Int) < (b : Int) := by omega
                  obtain ⟨C2, hC2⟩ : ∃ C2, C2 = A2 := ⟨_, rfl⟩
                  have hB20 : B2 = [] := List.eq_nil_of_length_eq_zero (by have := l4'h.out; have := hen'h.out; omega)
                  have hM2 : Mrg key A2 B2 C2 := by rw [hC2, hB20]; exact Mrg.nil_right (by have h := hA'h.out; rw [← eA'h.out] at h; exact (List.pairwise_append.1 h).2.1)
                  have hL5 : Lf w blk off ((P ++ C1) ++ C2 ++ S) wr := by have h := hL4'h.out; rw [hB20, List.append_nil] at h; rw [hC2]; exact h
                  clear hC2 hB20
                  have hfin : SymP key w blk off P A B S (.returned (.tuple #[])) wr := by
                    refine ⟨rfl, C1 ++ C2, ?_, by simpa only [List.append_assoc] using hL5⟩
                    have h1 := hA'h.out
                    have h2 := hB'h.out
                    have h3 := ha'h.out
                    rw [← eA'h.out] at h1 h3 ⊢
                    rw [← eB'h.out] at h2 h3 ⊢
                    exact Mrg.join h1 h2 h3 hM1'h.out hM2 hp1'h.out hp2'h.out
                  clear hL5 hM2
                  have hfin'h := Lib.hid hfin
                  clear hfin
                  go_wp2
                  refine bodyPost_end (results_none rfl _ _ _) rfl ?_
                  exact hfin'h.out
              · have t1' : ¬ (mid : Int) < (en : Int) := by omega
                obtain ⟨C2, hC2⟩ : ∃ C2, C2 = B2 := ⟨_, rfl⟩
                have hA20 : A2 = [] := List.eq_nil_of_length_eq_zero (by have := l2'h.out; have := hen'h.out; omega)
                have hM2 : Mrg key A2 B2 C2 := by rw [hC2, hA20]; exact Mrg.nil_left (by have h := hB'h.out; rw [← eB'h.out] at h; exact (List.pairwise_append.1 h).2.1)
                have hL5 : Lf w blk off ((P ++ C1) ++ C2 ++ S) wr := by have h := hL4'h.out; rw [hA20, List.nil_append] at h; rw [hC2]; exact h
                clear hC2 hA20
                have hfin : SymP key w blk off P A B S (.returned (.tuple #[])) wr := by
                  refine ⟨rfl, C1 ++ C2, ?_, by simpa only [List.append_assoc] using hL5⟩
                  have h1 := hA'h.out
                  have h2 := hB'h.out
                  have h3 := ha'h.out
                  rw [← eA'h.out] at h1 h3 ⊢
                  rw [← eB'h.out] at h2 h3 ⊢
                  exact Mrg.join h1 h2 h3 hM1'h.out hM2 hp1'h.out hp2'h.out
                clear hL5 hM2
                have hfin'h := Lib.hid hfin
                clear hfin
                go_wp2
                refine bodyPost_end (results_none rfl _ _ _) rfl ?_
                exact hfin'h.out
          · have q1' : ¬ (a : Int) < (s : Int) := by omega
            obtain ⟨C1, hC1⟩ : ∃ C1, C1 = B1 := ⟨_, rfl⟩
            have hA10 : A1 = [] := List.eq_nil_of_length_eq_zero (by have := l1'h.out; omega)
            have hM1 : Mrg key A1 B1 C1 := by rw [hC1, hA10]; exact Mrg.nil_left (by have h := hB'h.out; rw [← eB'h.out] at h; exact (List.pairwise_append.1 h).1)
            have hL4 : Lf w blk off (P ++ C1 ++ (A2 ++ B2) ++ S) wr := by have h := hL3'h.out; rw [hA10, List.nil_append] at h; rw [hC1]; exact h
            clear hC1 hA10
            have hM1'h := Lib.hid hM1
            have hL4'h := Lib.hid hL4
            clear hM1 hL4
            go_upto_region 43 with fail
            clear q1' q1
            have hlc : C1.length = mid - a := by have := hM1'h.out.perm.length_eq; rw [List.length_append] at this; have := l1'h.out; have := l3'h.out; omega
            have hlc'h := Lib.hid hlc
            clear hlc
            by_cases t1 : mid < en
            · have t1' : (mid : Int) < (en : Int) := by omega
              by_cases t2 : en < b
              · have t2' : (en : Int) < (b : Int) := by omega
                have C := hIH'h.out mid en b (P ++ C1) A2 B2 S wr (by rw [List.length_append]; have := hlc'h.out; have := hP'h.out; omega) (by rw [List.length_append]; have := hlc'h.out; have := l2'h.out; have := hP'h.out; have := hen'h.out; omega) (by rw [List.length_append]; have := hlc'h.out; have := l2'h.out; have := l4'h.out; have := hP'h.out; have := hen'h.out; omega) (by omega) (by have := l2'h.out; have := hen'h.out; omega) (by have := l4'h.out; have := hen'h.out; omega) (by have h := hl'h.out; have h2 := hM1'h.out.perm.length_eq; rw [← eA'h.out, ← eB'h.out] at h; simp only [List.length_append] at h h2 ⊢; omega) (fun x hx => hA0'h.out x (by rw [← eA'h.out]; exact List.mem_append_right _ hx)) (fun x hx => hB0'h.out x (by rw [← eB'h.out]; exact List.mem_append_right _ hx)) (by have h := hA'h.out; rw [← eA'h.out] at h; exact (List.pairwise_append.1 h).2.1) (by have h := hB'h.out; rw [← eB'h.out] at h; exact (List.pairwise_append.1 h).2.1) (fun x hx y hy => ha'h.out x (by rw [← eA'h.out]; exact List.mem_append_right _ hx) y (by rw [← eB'h.out]; exact List.mem_append_right _ hy)) (by have h := hL4'h.out; simpa only [List.append_assoc] using h)
                have C'h := Lib.hid C
                clear C
                go_wp2_with fail
                refine C'h.out.mono ?_
                rintro e w6 ⟨rfl, C2, hM2, hL5⟩
                have hfin : SymP key w blk off P A B S (.returned (.tuple #[])) w6 := by
                  refine ⟨rfl, C1 ++ C2, ?_, by simpa only [List.append_assoc] using hL5⟩
                  have h1 := hA'h.out
                  have h2 := hB'h.out
                  have h3 := ha'h.out
                  rw [← eA'h.out] at h1 h3 ⊢
                  rw [← eB'h.out] at h2 h3 ⊢
                  exact Mrg.join h1 h2 h3 hM1'h.out hM2 hp1'h.out hp2'h.out
                clear hL5 hM2
                have hfin'h := Lib.hid hfin
                clear hfin
                go_wp2
                refine bodyPost_end (results_none rfl _ _ _) rfl ?_
                exact hfin'h.out
              · have t2' : ¬ (en : Int) < (b : Int) := by omega
                obtain ⟨C2, hC2⟩ : ∃ C2, C2 = A2 := ⟨_, rfl⟩
                have hB20 : B2 = [] := List.eq_nil_of_length_eq_zero (by have := l4'h.out; have := hen'h.out; omega)
                have hM2 : Mrg key A2 B2 C2 := by rw [hC2, hB20]; exact Mrg.nil_right (by have h := hA'h.out; rw [← eA'h.out] at h; exact (List.pairwise_append.1 h).2.1)
                have hL5 : Lf w blk off ((P ++ C1) ++ C2 ++ S) wr := by have h := hL4'h.out; rw [hB20, List.append_nil] at h; rw [hC2]; exact h
                clear hC2 hB20
                have hfin : SymP key w blk off P A B S (.returned (.tuple #[])) wr := by
                  refine ⟨rfl, C1 ++ C2, ?_, by simpa only [List.append_assoc] using hL5⟩
                  have h1 := hA'h.out
                  have h2 := hB'h.out
                  have h3 := ha'h.out
                  rw [← eA'h.out] at h1 h3 ⊢
                  rw [← eB'h.out] at h2 h3 ⊢
                  exact Mrg.join h1 h2 h3 hM1'h.out hM2 hp1'h.out hp2'h.out
                clear hL5 hM2
                have hfin'h := Lib.hid hfin
                clear hfin
                go_wp2
                refine bodyPost_end (results_none rfl _ _ _) rfl ?_
                exact hfin'h.out
            · have t1' : ¬ (mid : Int) < (en : Int) := by omega
              obtain ⟨C2, hC2⟩ : ∃ C2, C2 = B2 := ⟨_, rfl⟩
              have hA20 : A2 = [] := List.eq_nil_of_length_eq_zero (by have := l2'h.out; have := hen'h.out; omega)
              have hM2 : Mrg key A2 B2 C2 := by rw [hC2, hA20]; exact Mrg.nil_left (by have h := hB'h.out; rw [← eB'h.out] at h; exact (List.pairwise_append.1 h).2.1)
              have hL5 : Lf w blk off ((P ++ C1) ++ C2 ++ S) wr := by have h := hL4'h.out; rw [hA20, List.nil_append] at h; rw [hC2]; exact h
              clear hC2 hA20
              have hfin : SymP key w blk off P A B S (.returned (.tuple #[])) wr := by
                refine ⟨rfl, C1 ++ C2, ?_, by simpa only [List.append_assoc] using hL5⟩
                have h1 := hA'h.out
                have h2 := hB'h.out
                have h3 := ha'h.out
                rw [← eA'h.out] at h1 h3 ⊢
                rw [← eB'h.out] at h2 h3 ⊢
                exact Mrg.join h1 h2 h3 hM1'h.out hM2 hp1'h.out hp2'h.out
              clear hL5 hM2
              have hfin'h := Lib.hid hfin
              clear hfin
              go_wp2
              refine bodyPost_end (results_none rfl _ _ _) rfl ?_
              exact hfin'h.out
/-- Merging, whole. -/
theorem symStb (g0 : Array Value) (key : Nat → Int) (m0 : Nat) (blk off cap n : Nat) (d0 : Array Nat) (w : World) (hH : Holds ei w blk off d0) (hn : d0.size = n) (hn80 : n ≤ 4096) (hC : CmpQ w blk off n 39 g0 key m0) : ∀ N, SymQ g0 key m0 blk off cap n w N := by
  intro N
  induction N with
  | zero => intro a m b P A B S w1 hP hm hb hN; omega
  | succ N ih =>
    intro a m b P A B S w1 hP hm hb hN hA1 hB1 hl hA0 hB0 hA hB ha hL
    have ih' : SymQ g0 key m0 blk off cap n w (b - a) := fun a' m' b' P' A' B' S' w1' k1 k2 k3 k4 => ih a' m' b' P' A' B' S' w1' k1 k2 k3 (by omega)
    by_cases cA : A.length = 1
    · obtain ⟨x, rfl⟩ := List.length_eq_one_iff.1 cA
      exact symLeft g0 key m0 blk off cap a m b n d0 P x B S w w1 hH hn hl hP (by simpa using hm) (by simpa using hb) hn80 hC (hA0 x (by simp)) hB0 hB ha hL
    · by_cases cB : B.length = 1
      · obtain ⟨y, rfl⟩ := List.length_eq_one_iff.1 cB
        exact symRight g0 key m0 blk off cap a m b n d0 P y A S w w1 hH hn hl hP hm (by simpa using hb) (by omega) hn80 hC (hB0 y (by simp)) hA0 hA ha hL
      · by_cases hmid : (a + b) / 2 < m
        · exact symHigh g0 key m0 blk off cap a m b n d0 P A B S w w1 hH hn hl hP hm hb (by omega) (by omega) hn80 hC hA0 hB0 hA hB ha ih' hL hmid
        · exact symLow g0 key m0 blk off cap a m b n d0 P A B S w w1 hH hn hl hP hm hb (by omega) (by omega) hn80 hC hA0 hB0 hA hB ha ih' hL (by omega)
end Go.Proofs.YtogeohjeabbmaaaDoor

/-
  The library's stable sort at rows of int: its blocks, plain.
-/
set_option linter.unusedSimpArgs false
set_option linter.unusedVariables false
namespace Go.Proofs.YtogeohjeabbmaaaDoor

/-- A segment of a row. -/
def sg (l : List Nat) (lo hi : Nat) : List Nat := (l.drop lo).take (hi - lo)
theorem sg_parts (l : List Nat) {lo hi : Nat} (h : lo ≤ hi) : l = l.take lo ++ sg l lo hi ++ l.drop hi := by
  unfold sg
  have : l.drop hi = (l.drop lo).drop (hi - lo) := by rw [List.drop_drop]; congr 1; omega
  rw [this, List.append_assoc, List.take_append_drop, List.take_append_drop]
theorem sg_length {l : List Nat} {lo hi : Nat} (h2 : hi ≤ l.length) : (sg l lo hi).length = hi - lo := by
  unfold sg; rw [List.length_take, List.length_drop]; omega
theorem sg_mid {P C S : List Nat} {lo hi : Nat} (h1 : P.length = lo) (h2 : P.length + C.length = hi) : sg (P ++ C ++ S) lo hi = C := by
  subst h1 h2
  unfold sg
  rw [List.append_assoc, List.drop_left, Nat.add_sub_cancel_left, List.take_left]
theorem sg_keep {P X Y S : List Nat} {lo hi : Nat} (h : X.length = Y.length) (hk : hi ≤ P.length ∨ P.length + X.length ≤ lo) : sg (P ++ X ++ S) lo hi = sg (P ++ Y ++ S) lo hi := by
  apply List.ext_getElem?
  intro i
  unfold sg
  rw [List.getElem?_take, List.getElem?_take]
  by_cases hi' : i < hi - lo
  · rw [if_pos hi', if_pos hi', List.getElem?_drop, List.getElem?_drop, List.append_assoc, List.append_assoc]
    rcases hk with hk | hk
    · rw [List.getElem?_append_left (by omega), List.getElem?_append_left (by omega)]
    · rw [List.getElem?_append_right (by omega), List.getElem?_append_right (l₁ := P) (l₂ := Y ++ S) (by omega), List.getElem?_append_right (by omega), List.getElem?_append_right (l₁ := Y) (by omega), h]
  · rw [if_neg hi', if_neg hi']
theorem sg_split (l : List Nat) {lo mi hi : Nat} (h1 : lo ≤ mi) (h2 : mi ≤ hi) : sg l lo hi = sg l lo mi ++ sg l mi hi := by
  unfold sg
  have e : hi - lo = (mi - lo) + (hi - mi) := by omega
  rw [e, List.take_add, List.drop_drop, show lo + (mi - lo) = mi by omega]
theorem sg_mem {l : List Nat} {lo hi x : Nat} (h : x ∈ sg l lo hi) : x ∈ l := List.mem_of_mem_drop (List.mem_of_mem_take h)
theorem sg_rise {l : List Nat} (h : l.Pairwise (· < ·)) (lo hi : Nat) : (sg l lo hi).Pairwise (· < ·) := List.Pairwise.take (List.Pairwise.drop h)
theorem sg_ahd {l : List Nat} (h : l.Pairwise (· < ·)) {lo mi hi : Nat} (h1 : lo ≤ mi) (h2 : mi ≤ hi) : Ahd (sg l lo mi) (sg l mi hi) := by
  have := sg_rise h lo hi
  rw [sg_split l h1 h2] at this
  exact fun x hx y hy => (List.pairwise_append.1 this).2.2 x hx y hy
/-- A segment that is sorted. -/
structure Seg (key : Nat → Int) (l0 l : List Nat) (lo hi : Nat) : Prop where
  perm : (sg l lo hi).Perm (sg l0 lo hi)
  srt : Srt key (sg l lo hi)
theorem Seg.put {key : Nat → Int} {l0 P X C S : List Nat} {a b : Nat} (hP : P.length = a) (hb : P.length + X.length = b) (hl : C.length = X.length) (hp : C.Perm (sg l0 a b)) (hs : Srt key C) : Seg key l0 (P ++ C ++ S) a b :=
  ⟨by rw [sg_mid hP (by omega)]; exact hp, by rw [sg_mid hP (by omega)]; exact hs⟩
theorem Seg.keep {key : Nat → Int} {l0 P X C S : List Nat} {lo hi : Nat} (h : Seg key l0 (P ++ X ++ S) lo hi) (hl : C.length = X.length) (hk : hi ≤ P.length ∨ P.length + X.length ≤ lo) : Seg key l0 (P ++ C ++ S) lo hi := by
  have e := sg_keep (S := S) hl.symm hk
  exact ⟨by rw [← e]; exact h.perm, by rw [← e]; exact h.srt⟩
/-- The first loop: blocks of twenty are sorted up to a; what is behind is as it was. -/
structure SegA (key : Nat → Int) (l0 : List Nat) (a : Nat) (l : List Nat) : Prop where
  len : l.length = l0.length
  le : a ≤ l0.length
  div : 20 ∣ a
  rest : l.drop a = l0.drop a
  seg : ∀ lo, 20 ∣ lo → lo < a → Seg key l0 l lo (lo + 20)
theorem SegA.parts {key : Nat → Int} {l0 l : List Nat} {a b : Nat} (h : SegA key l0 a l) (hab : a ≤ b) (hb : b ≤ l0.length) : l = l.take a ++ sg l0 a b ++ l0.drop b ∧ (l.take a).length = a ∧ (sg l0 a b).length = b - a := by
  have hl := h.len
  refine ⟨?_, by rw [List.length_take]; omega, sg_length hb⟩
  conv => lhs; rw [← List.take_append_drop a l, h.rest]
  rw [List.append_assoc]
  congr 1
  unfold sg
  have : l0.drop b = (l0.drop a).drop (b - a) := by rw [List.drop_drop]; congr 1; omega
  rw [this, List.take_append_drop]
theorem SegA.next {key : Nat → Int} {l0 l C : List Nat} {a b : Nat} (h : SegA key l0 a l) (hab : b = a + 20) (hb : b ≤ l0.length) (hp : C.Perm (sg l0 a b)) (hs : Srt key C) : SegA key l0 b (l.take a ++ C ++ l0.drop b) := by
  obtain ⟨p1, p2, p3⟩ := h.parts (b := b) (by omega) hb
  have hc := hp.length_eq
  have hd := h.div
  refine ⟨?_, hb, by omega, ?_, fun lo hlo hlt => ?_⟩
  · simp only [List.length_append, List.length_drop]; omega
  · rw [List.drop_append, List.drop_of_length_le (by simp only [List.length_append]; omega), List.nil_append]
    rw [List.length_append, p2, hc, p3, show b - (a + (b - a)) = 0 by omega, List.drop_zero]
  · by_cases e : lo = a
    · subst e
      have := Seg.put (S := l0.drop b) (X := sg l0 lo b) p2 (by rw [p3]; omega) hc hp hs
      rwa [hab] at this ⊢
    · have k := h.seg lo hlo (by omega)
      rw [p1] at k
      exact k.keep hc (.inl (by omega))
/-- All segments of a size are sorted. -/
structure SegE (key : Nat → Int) (l0 : List Nat) (bs : Nat) (l : List Nat) : Prop where
  len : l.length = l0.length
  seg : ∀ lo, bs ∣ lo → lo < l0.length → Seg key l0 l lo (min (lo + bs) l0.length)
theorem SegA.all {key : Nat → Int} {l0 l C : List Nat} {a : Nat} (h : SegA key l0 a l) (ha : l0.length < a + 20) (hp : C.Perm (sg l0 a l0.length)) (hs : Srt key C) : SegE key l0 20 (l.take a ++ C ++ l0.drop l0.length) := by
  have hle := h.le
  obtain ⟨p1, p2, p3⟩ := h.parts (b := l0.length) hle (Nat.le_refl _)
  have hc := hp.length_eq
  have hd := h.div
  refine ⟨?_, fun lo hlo hlt => ?_⟩
  · simp only [List.length_append, List.length_drop]; omega
  · by_cases e : lo = a
    · subst e
      have := Seg.put (S := l0.drop l0.length) (X := sg l0 lo l0.length) p2 (by rw [p3]; omega) hc hp hs
      rwa [Nat.min_eq_right (by omega)]
    · rw [Nat.min_eq_left (by omega)]
      have k := h.seg lo hlo (by omega)
      rw [p1] at k
      exact k.keep hc (.inl (by omega))
/-- The second loop's inner one: segments of twice the size up to a, of the size behind. -/
structure SegI (key : Nat → Int) (l0 : List Nat) (bs a : Nat) (l : List Nat) : Prop where
  len : l.length = l0.length
  le : a ≤ l0.length
  div : 2 * bs ∣ a
  lo : ∀ lo, 2 * bs ∣ lo → lo < a → Seg key l0 l lo (lo + 2 * bs)
  hi : ∀ lo, bs ∣ lo → a ≤ lo → lo < l0.length → Seg key l0 l lo (min (lo + bs) l0.length)
theorem SegE.start {key : Nat → Int} {l0 l : List Nat} {bs : Nat} (h : SegE key l0 bs l) : SegI key l0 bs 0 l := ⟨h.len, Nat.zero_le _, Nat.dvd_zero _, fun lo _ h0 => by omega, fun lo hd _ hl => h.seg lo hd hl⟩
theorem SegI.parts {key : Nat → Int} {l0 l : List Nat} {bs a b : Nat} (h : SegI key l0 bs a l) (hbs : bs = 20 ∨ bs = 40) (h0 : l0.Pairwise (· < ·)) (hm : a + bs < b) (hb : b = min (a + 2 * bs) l0.length) :
    ∃ P A B S, l = P ++ A ++ B ++ S ∧ P.length = a ∧ P.length + A.length = a + bs ∧ P.length + A.length + B.length = b ∧ Srt key A ∧ Srt key B ∧ Ahd A B ∧ (∀ x ∈ A, x ∈ l0) ∧ (∀ x ∈ B, x ∈ l0) ∧
      ∀ C, Mrg key A B C → C.length = A.length + B.length ∧ (P ++ C ++ S).length = l0.length ∧ Seg key l0 (P ++ C ++ S) a b ∧ ∀ lo hi, hi ≤ a ∨ b ≤ lo → Seg key l0 l lo hi → Seg key l0 (P ++ C ++ S) lo hi := by
  have hl := h.len
  have hd := h.div
  have sA : Seg key l0 l a (a + bs) := by
    have := h.hi a (by rcases hbs with rfl | rfl <;> omega) (Nat.le_refl _) (by omega)
    rwa [Nat.min_eq_left (by omega)] at this
  have sB : Seg key l0 l (a + bs) b := by
    have := h.hi (a + bs) (by rcases hbs with rfl | rfl <;> omega) (by omega) (by omega)
    rwa [show min (a + bs + bs) l0.length = b by omega] at this
  have e := sg_parts l (lo := a) (hi := b) (by omega)
  rw [sg_split l (lo := a) (mi := a + bs) (hi := b) (by omega) (by omega)] at e
  have l1 : (l.take a).length = a := by rw [List.length_take]; omega
  have l2 := sg_length (l := l) (lo := a) (hi := a + bs) (by omega)
  have l3 := sg_length (l := l) (lo := a + bs) (hi := b) (by omega)
  refine ⟨l.take a, sg l a (a + bs), sg l (a + bs) b, l.drop b, by rw [List.append_assoc (l.take a)]; exact e, l1, by omega, by omega, sA.srt, sB.srt, ?_, ?_, ?_, fun C hC => ?_⟩
  · exact fun x hx y hy => sg_ahd h0 (by omega) (by omega) x (sA.perm.mem_iff.1 hx) y (sB.perm.mem_iff.1 hy)
  · exact fun x hx => sg_mem (sA.perm.mem_iff.1 hx)
  · exact fun x hx => sg_mem (sB.perm.mem_iff.1 hx)
  · have hc := hC.perm.length_eq
    rw [List.length_append] at hc
    have hperm : C.Perm (sg l0 a b) := by
      rw [sg_split l0 (lo := a) (mi := a + bs) (hi := b) (by omega) (by omega)]
      exact hC.perm.trans (sA.perm.append sB.perm)
    have hlC : C.length = (sg l a (a + bs) ++ sg l (a + bs) b).length := by rw [List.length_append]; exact hc
    refine ⟨hc, by simp only [List.length_append, List.length_drop]; omega, Seg.put (X := sg l a (a + bs) ++ sg l (a + bs) b) l1 (by rw [List.length_append]; omega) hlC hperm hC.srt, fun lo hi hk hs => ?_⟩
    rw [e] at hs
    exact hs.keep hlC (by rw [List.length_append]; omega)
theorem SegI.next {key : Nat → Int} {l0 l l' : List Nat} {bs a : Nat} (h : SegI key l0 bs a l) (hbs : bs = 20 ∨ bs = 40) (hb : a + 2 * bs ≤ l0.length) (h1 : l'.length = l0.length) (h2 : Seg key l0 l' a (a + 2 * bs)) (h3 : ∀ lo hi, hi ≤ a ∨ a + 2 * bs ≤ lo → Seg key l0 l lo hi → Seg key l0 l' lo hi) : SegI key l0 bs (a + 2 * bs) l' := by
  have hd := h.div
  refine ⟨h1, hb, by rcases hbs with rfl | rfl <;> omega, fun lo hlo hlt => ?_, fun lo hlo hle hlt => ?_⟩
  · by_cases e : lo = a
    · subst e; exact h2
    · exact h3 _ _ (.inl (by rcases hbs with rfl | rfl <;> omega)) (h.lo lo hlo (by rcases hbs with rfl | rfl <;> omega))
  · exact h3 _ _ (.inr hle) (h.hi lo hlo (by omega) hlt)
theorem SegI.last {key : Nat → Int} {l0 l l' : List Nat} {bs a : Nat} (h : SegI key l0 bs a l) (hbs : bs = 20 ∨ bs = 40) (hb : l0.length < a + 2 * bs) (h1 : l'.length = l0.length) (h2 : Seg key l0 l' a l0.length) (h3 : ∀ lo hi, hi ≤ a ∨ l0.length ≤ lo → Seg key l0 l lo hi → Seg key l0 l' lo hi) : SegE key l0 (2 * bs) l' := by
  have hd := h.div
  have hle := h.le
  refine ⟨h1, fun lo hlo hlt => ?_⟩
  by_cases e : lo = a
  · subst e
    rwa [Nat.min_eq_right (by omega)]
  · rw [Nat.min_eq_left (by rcases hbs with rfl | rfl <;> omega)]
    exact h3 _ _ (.inl (by rcases hbs with rfl | rfl <;> omega)) (h.lo lo hlo (by rcases hbs with rfl | rfl <;> omega))
theorem SegI.done {key : Nat → Int} {l0 l : List Nat} {bs a : Nat} (h : SegI key l0 bs a l) (hbs : bs = 20 ∨ bs = 40) (hb : l0.length ≤ a + bs) : SegE key l0 (2 * bs) l := by
  have hd := h.div
  refine ⟨h.len, fun lo hlo hlt => ?_⟩
  by_cases e : a ≤ lo
  · obtain rfl : lo = a := by rcases hbs with rfl | rfl <;> omega
    have := h.hi lo (by rcases hbs with rfl | rfl <;> omega) (Nat.le_refl _) hlt
    rw [Nat.min_eq_right (by omega)] at this
    rwa [Nat.min_eq_right (by omega)]
  · have hle := h.le
    rw [Nat.min_eq_left (by rcases hbs with rfl | rfl <;> omega)]
    exact h.lo lo hlo (by omega)
theorem SegE.whole {key : Nat → Int} {l0 l : List Nat} {bs : Nat} (h : SegE key l0 bs l) (hb : l0.length ≤ bs) : l.Perm l0 ∧ Srt key l := by
  by_cases h0 : l0.length = 0
  · have hl := h.len
    obtain rfl := List.eq_nil_of_length_eq_zero h0
    obtain rfl := List.eq_nil_of_length_eq_zero (show l.length = 0 by omega)
    exact ⟨.refl _, List.Pairwise.nil⟩
  · have k := h.seg 0 (Nat.dvd_zero _) (by omega)
    rw [Nat.min_eq_right (by omega)] at k
    have e : ∀ q : List Nat, q.length = l0.length → sg q 0 l0.length = q := fun q hq => by unfold sg; rw [List.drop_zero, Nat.sub_zero, List.take_of_length_le (by omega)]
    have hl := h.len
    exact ⟨by have := k.perm; rwa [e l hl, e l0 rfl] at this, by have := k.srt; rwa [e l hl] at this⟩
end Go.Proofs.YtogeohjeabbmaaaDoor

/-
  The library's stable sort at rows of int: stable, whole, and SortStableFunc.
-/
set_option linter.unusedSimpArgs false
set_option linter.unusedVariables false
set_option maxRecDepth 100000
namespace Go.Proofs.YtogeohjeabbmaaaDoor
open Go.RowKit Go.Sort

set_option maxHeartbeats 16000000 in
theorem stableStb (g0 : Array Value) (key : Nat → Int) (m0 : Nat) (blk off cap n : Nat) (d0 : Array Nat) (l0 : List Nat) (w : World) (hH : Holds ei w blk off d0) (hn : d0.size = n) (hl : l0.length = n) (hn80 : n ≤ 80)
    (hC : CmpQ w blk off n 39 g0 key m0) (hm : ∀ x ∈ l0, x < m0) (hD : l0.Pairwise (· < ·)) (hL : Lf w blk off l0 w) :
    Calls Tryd.prog 64 #[.slice (some ⟨blk, off, none⟩) n cap, .int .i64 n, .func (.func 39) #[] g0] w fun e w' => e = .returned (.tuple #[]) ∧ ∃ C, C.Perm l0 ∧ Srt key C ∧ Lf w blk off C w' := by
  have SY := symStb g0 key m0 blk off cap n d0 w hH hn (by omega) hC 4097
  have INS := fun (a b : Nat) (P D S : List Nat) (w1 : World) h1 h2 h3 h4 h5 h6 => insStb g0 key m0 blk off cap a b n d0 P D S w w1 hH hn h1 h2 h3 (by omega) hC h4 h5 h6
  have h0 : SegA key l0 0 l0 := ⟨rfl, Nat.zero_le _, Nat.dvd_zero _, rfl, fun lo _ h => by omega⟩
  have i0 : (0 : Int) ≤ (n : Int) := by omega
  have in80 : (n : Int) ≤ 80 := by omega
  have hH'h := Lib.hid hH
  have hn'h := Lib.hid hn
  have hl'h := Lib.hid hl
  have hC'h := Lib.hid hC
  have hm'h := Lib.hid hm
  have hD'h := Lib.hid hD
  have hL'h := Lib.hid hL
  have SY'h := Lib.hid SY
  have INS'h := Lib.hid INS
  have h0'h := Lib.hid h0
  clear hH hn hl hC hm hD hL SY INS h0
  go_enter Tryd.func64, Tryd.ntmps64
  go_wp2
  go_loopg [7, 8] 80 (fun q v7 v8 wr => ∃ (a : Nat) (l : List Nat), n - a ≤ q ∧ v7 = .int .i64 (a : Int) ∧ v8 = .int .i64 ((a : Int) + 20) ∧ SegA key l0 a l ∧ Lf w blk off l wr)
  case atStart => exact ⟨0, l0, by omega, rfl, rfl, h0'h.out, hL'h.out⟩
  case round =>
    obtain ⟨a, l, hq, rfl, rfl, hS, hLf⟩ := hrel
    have han : a ≤ n := by have := hS.le; have := hl'h.out; omega
    by_cases hlt : a + 20 ≤ n
    · obtain ⟨p1, p2, p3⟩ := hS.parts (b := a + 20) (by omega) (by have := hl'h.out; omega)
      have C := INS'h.out a (a + 20) (l.take a) (sg l0 a (a + 20)) (l0.drop (a + 20)) wr (by rw [← p1]; exact hS.len.trans hl'h.out) p2 (by omega) (fun x hx => hm'h.out x (sg_mem hx)) (sg_rise hD'h.out _ _) (by rw [← p1]; exact hLf)
      rw [show ((a + 20 : Nat) : Int) = (a : Int) + 20 by omega] at C
      have i1 : (a : Int) + 20 ≤ (n : Int) := by omega
      have C'h := Lib.hid C
      have hS'h := Lib.hid hS
      have hq'h := Lib.hid hq
      have hLf'h := Lib.hid hLf
      clear C hS hq hLf
      clear p1 p2 p3
      go_wp2_with fail
      refine C'h.out.mono ?_
      rintro e w2 ⟨rfl, C1, hp, hs, hL2⟩
      have hS2 := hS'h.out.next rfl (by have := hl'h.out; omega) hp hs
      have hS2'h := Lib.hid hS2
      have hL2'h := Lib.hid hL2
      clear hS2 hL2
      clear hp hs
      go_wp2
      go_roundg (gk - 1)
      case measure => have := hq'h.out; omega
      case rel => exact ⟨a + 20, _, by have := hq'h.out; omega, by go_num, by go_num, hS2'h.out, hL2'h.out⟩
    · obtain ⟨p1, p2, p3⟩ := hS.parts (b := n) han (by have := hl'h.out; omega)
      have C := INS'h.out a n (l.take a) (sg l0 a n) (l0.drop n) wr (by rw [← p1]; exact hS.len.trans hl'h.out) p2 (by omega) (fun x hx => hm'h.out x (sg_mem hx)) (sg_rise hD'h.out _ _) (by rw [← p1]; exact hLf)
      have i1 : ¬ (a : Int) + 20 ≤ (n : Int) := by omega
      have C'h := Lib.hid C
      have hS'h := Lib.hid hS
      have hq'h := Lib.hid hq
      have hLf'h := Lib.hid hLf
      clear C hS hq hLf
      clear p1 p2 p3
      go_wp2_with fail
      refine C'h.out.mono ?_
      rintro e w2 ⟨rfl, C1, hp, hs, hL2⟩
      have hS2 : SegE key l0 20 (l.take a ++ C1 ++ l0.drop n) := by
        have := hS'h.out.all (C := C1) (by have := hl'h.out; omega) (by rw [hl'h.out]; exact hp) hs
        rwa [hl'h.out] at this
      generalize l.take a ++ C1 ++ l0.drop n = l1 at hS2 hL2
      have hS2'h := Lib.hid hS2
      have hL2'h := Lib.hid hL2
      clear hS2 hL2
      clear hp hs
      go_wp2
      go_loopg [6] 80 (fun q v6 wr => ∃ (bs : Nat) (l : List Nat), 100 - bs ≤ q ∧ v6 = .int .i64 (bs : Int) ∧ (bs = 20 ∨ bs = 40 ∨ bs = 80) ∧ SegE key l0 bs l ∧ Lf w blk off l wr)
      case atStart => exact ⟨20, l1, by omega, rfl, .inl rfl, hS2'h.out, hL2'h.out⟩
      case round =>
        obtain ⟨bs, l, hq, rfl, hbs, hE, hLf⟩ := hrel
        by_cases hlt2 : bs < n
        · have hbs2 : bs = 20 ∨ bs = 40 := by omega
          have hI := hE.start
          have i2 : (bs : Int) < (n : Int) := by omega
          have b40 : (bs : Int) ≤ 40 := by omega
          have b20 : (20 : Int) ≤ (bs : Int) := by omega
          clear hE hbs
          obtain ⟨go, rfl⟩ : ∃ go : Nat, go = gk := ⟨_, rfl⟩
          have hbs2'h := Lib.hid hbs2
          have hI'h := Lib.hid hI
          have hLf'h := Lib.hid hLf
          have hq'h := Lib.hid hq
          clear hbs2 hI hLf hq
          go_wp2
          go_loopg [7, 8] n (fun q v7 v8 wr => ∃ (a : Nat) (l : List Nat), n - a ≤ q ∧ v7 = .int .i64 (a : Int) ∧ v8 = .int .i64 ((a : Int) + 2 * (bs : Int)) ∧ SegI key l0 bs a l ∧ Lf w blk off l wr)
          case atStart => exact ⟨0, l, by omega, rfl, by go_num, hI'h.out, hLf'h.out⟩
          case round =>
            obtain ⟨a, l, hq2, rfl, rfl, hS, hLf⟩ := hrel
            have han : a ≤ n := by have := hS.le; have := hl'h.out; omega
            by_cases hlt3 : a + 2 * bs ≤ n
            · obtain ⟨P, A, B, S, rfl, h1, h2, h3, h4, h5, h6, h7, h8, h9⟩ := hS.parts (b := a + 2 * bs) hbs2'h.out hD'h.out (by omega) (by rw [Nat.min_eq_left (by have := hl'h.out; omega)])
              have C := SY'h.out a (a + bs) (a + 2 * bs) P A B S wr h1 h2 h3 (by omega) (by omega) (by omega) (by rw [hS.len, hl'h.out]) (fun x hx => hm'h.out x (h7 x hx)) (fun x hx => hm'h.out x (h8 x hx)) h4 h5 h6 hLf
              rw [show ((a + bs : Nat) : Int) = (a : Int) + (bs : Int) by omega, show ((a + 2 * bs : Nat) : Int) = (a : Int) + 2 * (bs : Int) by omega] at C
              have i3 : (a : Int) + 2 * (bs : Int) ≤ (n : Int) := by omega
              have C'h := Lib.hid C
              have hS'h := Lib.hid hS
              have hq2'h := Lib.hid hq2
              have h9'h := Lib.hid h9
              clear C hS hq2 h9
              clear h1 h2 h3 h4 h5 h6 h7 h8 hLf
              go_wp2_with fail
              refine C'h.out.mono ?_
              rintro e w4 ⟨rfl, C2, hM, hL4⟩
              obtain ⟨k1, k2, k3, k4⟩ := h9'h.out C2 hM
              have hS4 := hS'h.out.next hbs2'h.out (by have := hl'h.out; omega) k2 k3 k4
              have hS4'h := Lib.hid hS4
              have hL4'h := Lib.hid hL4
              clear hS4 hL4
              clear k1 k2 k3 k4 hM
              go_wp2
              go_roundg (gk - 1)
              case measure => have := hq2'h.out; omega
              case rel => exact ⟨a + 2 * bs, _, by have := hq2'h.out; omega, by go_num, by go_num, hS4'h.out, hL4'h.out⟩
            · have i3 : ¬ (a : Int) + 2 * (bs : Int) ≤ (n : Int) := by omega
              by_cases hlt4 : a + bs < n
              · obtain ⟨P, A, B, S, rfl, h1, h2, h3, h4, h5, h6, h7, h8, h9⟩ := hS.parts (b := n) hbs2'h.out hD'h.out (by omega) (by rw [Nat.min_eq_right (by have := hl'h.out; omega)]; exact hl'h.out.symm)
                have C := SY'h.out a (a + bs) n P A B S wr h1 h2 h3 (by omega) (by omega) (by omega) (by rw [hS.len, hl'h.out]) (fun x hx => hm'h.out x (h7 x hx)) (fun x hx => hm'h.out x (h8 x hx)) h4 h5 h6 hLf
                rw [show ((a + bs : Nat) : Int) = (a : Int) + (bs : Int) by omega] at C
                have i4 : (a : Int) + (bs : Int) < (n : Int) := by omega
                have C'h := Lib.hid C
                have hS'h := Lib.hid hS
                have hq2'h := Lib.hid hq2
                have h9'h := Lib.hid h9
                clear C hS hq2 h9
                clear h1 h2 h3 h4 h5 h6 h7 h8 hLf
                go_wp2_with fail
                refine C'h.out.mono ?_
                rintro e w4 ⟨rfl, C2, hM, hL4⟩
                obtain ⟨k1, k2, k3, k4⟩ := h9'h.out C2 hM
                have hS4 := hS'h.out.last hbs2'h.out (by have := hl'h.out; omega) k2 (by rw [hl'h.out]; exact k3) (fun lo hi hk => k4 lo hi (by rw [← hl'h.out]; exact hk))
                have hS4'h := Lib.hid hS4
                have hL4'h := Lib.hid hL4
                clear hS4 hL4
                clear k1 k2 k3 k4 hM
                go_wp2
                go_roundg (go - 1)
                case measure => have := hq'h.out; have := hbs2'h.out; omega
                case rel => exact ⟨2 * bs, _, by have := hq'h.out; omega, by go_num, by have := hbs2'h.out; omega, hS4'h.out, hL4'h.out⟩
              · have i4 : ¬ (a : Int) + (bs : Int) < (n : Int) := by omega
                have hS4 := hS.done hbs2'h.out (by have := hl'h.out; omega)
                have hS4'h := Lib.hid hS4
                have hLf'h := Lib.hid hLf
                clear hS4 hLf
                clear hS hq2
                go_wp2
                go_roundg (go - 1)
                case measure => have := hq'h.out; have := hbs2'h.out; omega
                case rel => exact ⟨2 * bs, _, by have := hq'h.out; omega, by go_num, by have := hbs2'h.out; omega, hS4'h.out, hLf'h.out⟩
        · have i2 : ¬ (bs : Int) < (n : Int) := by omega
          have hw := hE.whole (by have := hl'h.out; omega)
          have hw'h := Lib.hid hw
          have hLf'h := Lib.hid hLf
          clear hw hLf
          clear hE hbs
          go_wp2
          go_end0
          exact ⟨rfl, l, hw'h.out.1, hw'h.out.2, hLf'h.out⟩
theorem sortStb (g0 : Array Value) (key : Nat → Int) (m0 : Nat) (blk off cap n : Nat) (d0 : Array Nat) (l0 : List Nat) (w : World) (hH : Holds ei w blk off d0) (hn : d0.size = n) (hl : l0.length = n) (hn80 : n ≤ 80)
    (hC : CmpQ w blk off n 39 g0 key m0) (hm : ∀ x ∈ l0, x < m0) (hD : l0.Pairwise (· < ·)) (hL : Lf w blk off l0 w) :
    Calls Tryd.prog 38 #[.slice (some ⟨blk, off, none⟩) n cap, .func (.func 39) #[] g0] w fun e w' => e = .returned (.tuple #[]) ∧ ∃ C, C.Perm l0 ∧ Srt key C ∧ Lf w blk off C w' := by
  have C := stableStb g0 key m0 blk off cap n d0 l0 w hH hn hl hn80 hC hm hD hL
  clear hH hn hl hn80 hC hm hD hL
  have C'h := Lib.hid C
  clear C
  go_enter Tryd.func38, Tryd.ntmps38
  go_wp2_with fail
  refine C'h.out.mono ?_
  rintro e w2 ⟨rfl, h2⟩
  have h2'h := Lib.hid h2
  clear h2
  go_wp2
  go_end0
  exact ⟨rfl, h2'h.out⟩
/-- No row at all. -/
theorem insStbNil (s g : Value) (w : World) : Calls Tryd.prog 79 #[s, .int .i64 0, .int .i64 0, g] w fun e w' => e = .returned (.tuple #[]) ∧ w' = w := by
  go_enter Tryd.func79, Tryd.ntmps79
  go_wp2
  refine wp_loop_rounds 1 ?_
  rw [rounds_succ]
  go_wp2
  go_end0
  exact ⟨rfl, rfl⟩
theorem stableStbNil (s g : Value) (w : World) : Calls Tryd.prog 64 #[s, .int .i64 0, g] w fun e w' => e = .returned (.tuple #[]) ∧ w' = w := by
  go_enter Tryd.func64, Tryd.ntmps64
  go_wp2
  refine wp_loop_rounds 1 ?_
  rw [rounds_succ]
  go_wp2_with fail
  refine (insStbNil s g w).mono ?_
  rintro e w2 ⟨rfl, hw2⟩
  obtain rfl := hw2.symm
  go_wp2
  refine wp_loop_rounds 1 ?_
  rw [rounds_succ]
  go_wp2
  go_end0
  exact ⟨rfl, rfl⟩
theorem sortStbNil (cap : Nat) (g : Value) (w : World) : Calls Tryd.prog 38 #[.slice none 0 cap, g] w fun e w' => e = .returned (.tuple #[]) ∧ w' = w := by
  go_enter Tryd.func38, Tryd.ntmps38
  go_wp2_with fail
  refine (stableStbNil _ g w).mono ?_
  rintro e w2 ⟨rfl, hw2⟩
  obtain rfl := hw2.symm
  go_wp2
  go_end0
  exact ⟨rfl, rfl⟩
end Go.Proofs.YtogeohjeabbmaaaDoor

