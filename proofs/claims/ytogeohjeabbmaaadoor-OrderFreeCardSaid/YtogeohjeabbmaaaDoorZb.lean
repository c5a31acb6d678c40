/-
  Several texts of mine in one: StbG.
-/
import Derived.Test.YtogeohjeabbmaaaDoorY2
import Derived.Deep.Cut
/-
  The library's stable sort at rows of int: two rows merged, the general way.
-/
set_option linter.unusedSimpArgs false
set_option linter.unusedVariables false
set_option maxRecDepth 100000
namespace Go.Proofs.YtogeohjeabbmaaaDoor
open Go.RowKit Go.Sort

/-- What is sought: the first place of which the mirrored one is less. -/
def predS (key : Nat → Int) (l : List Nat) (p c : Nat) : Prop := key l.toArray[p - c]! < key l.toArray[c]!
structure ScanS (pred : Nat → Prop) (s0 r0 s r : Nat) : Prop where
  a1 : s0 ≤ s
  a2 : s ≤ r
  a3 : r ≤ r0
  a4 : s0 < s → ¬ pred (s - 1)
  a5 : r < r0 → pred r
/-- Where the scan begins and ends. -/
def SymS (a m b mid p s0 r0 : Nat) : Prop := p = mid + m - 1 ∧ a < m ∧ m < b ∧ 2 * mid ≤ a + b ∧ a + b ≤ 2 * mid + 1 ∧ ((mid < m ∧ s0 = mid + m - b ∧ r0 = mid) ∨ (m ≤ mid ∧ s0 = a ∧ r0 = m))
theorem at_A {P A B S : List Nat} {a m : Nat} (hP : P.length = a) (hm : P.length + A.length = m) : ∀ t, a ≤ t → t < m → (P ++ A ++ B ++ S).toArray[t]! = nthN' A (t - a) := fun t h1 h2 => by
  rw [List.append_assoc (P ++ A)]
  exact at_mid (by omega) (by omega)
theorem at_B {P A B S : List Nat} {m b : Nat} (hm : P.length + A.length = m) (hb : P.length + A.length + B.length = b) : ∀ t, m ≤ t → t < b → (P ++ A ++ B ++ S).toArray[t]! = nthN' B (t - m) := fun t h1 h2 =>
  at_mid (P := P ++ A) (by omega) (by rw [List.length_append]; omega)
theorem sym_end {key : Nat → Int} {P A B S : List Nat} {a m b mid p s0 r0 s : Nat} (hP : P.length = a) (hm : P.length + A.length = m) (hb : P.length + A.length + B.length = b) (hA : Srt key A) (hB : Srt key B) (h0 : SymS a m b mid p s0 r0)
    (hS : ScanS (predS key (P ++ A ++ B ++ S) p) s0 r0 s s) : (∀ x ∈ A.take (s - a), ∀ y ∈ B.drop (mid - s), key x ≤ key y) ∧ (∀ y ∈ B.take (mid - s), ∀ x ∈ A.drop (s - a), key y < key x) := by
  obtain ⟨hp, h1, h2, h3, h4, h5⟩ := h0
  have k1 := hS.a1
  have k3 := hS.a3
  have gA := at_A (B := B) (S := S) hP hm
  have gB := at_B (S := S) hm hb
  refine scan_parts hA hB (by omega) (by omega) (fun q1 q2 => ⟨by omega, q2, ?_⟩) (fun q1 q2 => ⟨q1, by omega, ?_⟩)
  · have h := hS.a4 (by omega)
    unfold predS at h
    rw [gB _ (by omega) (by omega), gA _ (by omega) (by omega)] at h
    rw [nthN'_eq, nthN'_eq, show s - a - 1 = s - 1 - a by omega, show mid - s = p - (s - 1) - m by omega]
    exact h
  · have h := hS.a5 (by omega)
    unfold predS at h
    rw [gB _ (by omega) (by omega), gA _ (by omega) (by omega)] at h
    rw [nthN'_eq, nthN'_eq, show mid - s - 1 = p - s - m by omega]
    exact h
/-- What merging of fewer promises. -/
def SymQ (g0 : Array Value) (key : Nat → Int) (m0 blk off cap n : Nat) (w : World) (N : Nat) : Prop :=
  ∀ (a m b : Nat) (P A B S : List Nat) (w1 : World), P.length = a → P.length + A.length = m → P.length + A.length + B.length = b → b - a < N → 0 < A.length → 0 < B.length → (P ++ A ++ B ++ S).length = n → (∀ x ∈ A, x < m0) → (∀ x ∈ B, x < m0) → Srt key A → Srt key B → Ahd A B → Lf w blk off (P ++ A ++ B ++ S) w1 →
    Calls Tryd.prog 80 #[.slice (some ⟨blk, off, none⟩) n cap, .int .i64 a, .int .i64 m, .int .i64 b, .func (.func 39) #[] g0] w1 (SymP key w blk off P A B S)
set_option maxHeartbeats 16000000 in
theorem symHigh (g0 : Array Value) (key : Nat → Int) (m0 : Nat) (blk off cap a m b n : Nat) (d0 : Array Nat) (P A B S : List Nat) (w w1 : World) (hH : Holds ei w blk off d0) (hn : d0.size = n) (hl : (P ++ A ++ B ++ S).length = n) (hP : P.length = a) (hm : P.length + A.length = m) (hb : P.length + A.length + B.length = b)
    (hA1 : 1 < A.length) (hB1 : 1 < B.length) (hn80 : n ≤ 4096) (hC : CmpQ w blk off n 39 g0 key m0) (hA0 : ∀ x ∈ A, x < m0) (hB0 : ∀ x ∈ B, x < m0) (hA : Srt key A) (hB : Srt key B) (ha : Ahd A B) (hIH : SymQ g0 key m0 blk off cap n w (b - a)) (hL : Lf w blk off (P ++ A ++ B ++ S) w1) (hmid : (a + b) / 2 < m) :
    Calls Tryd.prog 80 #[.slice (some ⟨blk, off, none⟩) n cap, .int .i64 a, .int .i64 m, .int .i64 b, .func (.func 39) #[] g0] w1 (SymP key w blk off P A B S) := by
  have hlD : P.length + A.length + B.length + S.length = n := by simp only [List.length_append] at hl; omega
  have hbn : b ≤ n := by omega
  have i0 : ((m : Int) - (a : Int) == 1) = false := by simp; omega
  have i00 : ((b : Int) - (m : Int) == 1) = false := by simp; omega
  obtain ⟨mid, hmd⟩ : ∃ mid, mid = (a + b) / 2 := ⟨_, rfl⟩
  rw [← hmd] at hmid
  have emid : ((a : Int) + (b : Int)) / 2 = (mid : Int) := by omega
  obtain ⟨p, hp⟩ : ∃ p, p = mid + m - 1 := ⟨_, rfl⟩
  have epp : (mid : Int) + (m : Int) - 1 = (p : Int) := by omega
  have icm : (m : Int) > (mid : Int) := by omega
  obtain ⟨s0, hs⟩ : ∃ s0, s0 = mid + m - b := ⟨_, rfl⟩
  obtain ⟨r0, hr⟩ : ∃ r0, r0 = mid := ⟨_, rfl⟩
  have es0 : (mid : Int) + (m : Int) - (b : Int) = (s0 : Int) := by omega
  have hs0 : SymS a m b mid p s0 r0 := ⟨hp, by omega, by omega, by omega, by omega, .inl ⟨hmid, hs, hr⟩⟩
  have hsr : s0 ≤ r0 := by omega
  have hGA := at_A (B := B) (S := S) hP hm
  have hGB := at_B (S := S) hm hb
  have hmn : m ≤ n := by omega
  have hbm : m < b := by omega
  have ham : a < m := by omega
  have hmb : mid < b := by omega
  have ham2 : a < mid := by omega
  clear hA1 hB1 hmd hp hs
  have hr'h := Lib.hid hr
  clear hr
  have hL'h := Lib.hid hL
  have hH'h := Lib.hid hH
  have hn'h := Lib.hid hn
  have hl'h := Lib.hid hl
  have hP'h := Lib.hid hP
  have hm'h := Lib.hid hm
  have hb'h := Lib.hid hb
  have hC'h := Lib.hid hC
  have hA0'h := Lib.hid hA0
  have hB0'h := Lib.hid hB0
  have hA'h := Lib.hid hA
  have hB'h := Lib.hid hB
  have ha'h := Lib.hid ha
  have hlD'h := Lib.hid hlD
  have hs0'h := Lib.hid hs0
  have hGA'h := Lib.hid hGA
  have hGB'h := Lib.hid hGB
  have hIH'h := Lib.hid hIH
  clear hL hH hn hl hP hm hb hC hA0 hB0 hA hB ha hlD hs0 hGA hGB hIH
  go_enter Tryd.func80, Tryd.ntmps80
  go_wp2
  go_loopg [20, 21] (r0 - s0) (fun q v10 v11 wr => ∃ s r : Nat, r - s ≤ q ∧ v10 = .int .i64 (s : Int) ∧ v11 = .int .i64 (r : Int) ∧ ScanS (predS key (P ++ A ++ B ++ S) p) s0 r0 s r ∧ Lf w blk off (P ++ A ++ B ++ S) wr)
  case atStart => exact ⟨s0, r0, Nat.le_refl _, rfl, by rw [hr'h.out], ⟨Nat.le_refl _, hsr, Nat.le_refl _, fun h => absurd h (Nat.lt_irrefl _), fun h => absurd h (Nat.lt_irrefl _)⟩, hL'h.out⟩
  case round =>
    obtain ⟨s, r, hq, rfl, rfl, hS, hLf⟩ := hrel
    have h1 := hS.a1
    have h2 := hS.a2
    have h3 := hS.a3
    by_cases hlt : s < r
    · obtain ⟨c, hh⟩ : ∃ c, c = (s + r) / 2 := ⟨_, rfl⟩
      have hsc : s ≤ c := by omega
      have hcr : c < r := by omega
      have eh : ((s : Int) + (r : Int)) / 2 = (c : Int) := by omega
      have i1 : (s : Int) < (r : Int) := by omega
      obtain ⟨pc, hpc⟩ : ∃ pc, pc = p - c := ⟨_, rfl⟩
      have hin := hs0'h.out
      unfold SymS at hin
      have c0 : c < n := by omega
      have p0 : pc < n := by omega
      have ep : (p : Int) - (c : Int) = (pc : Int) := by omega
      have ew : IntKind.i64.wrap ((p : Int) - (c : Int)) = (pc : Int) := by rw [IntKind.wrap_i64]; omega
      obtain ⟨G, hG⟩ : ∃ G : Nat → Nat, ∀ t, G t = (P ++ A ++ B ++ S).toArray[t]! := ⟨fun t => (P ++ A ++ B ++ S).toArray[t]!, fun _ => rfl⟩
      have hc := hLf.cell hH'h.out (hl'h.out.trans hn'h.out.symm) hG
      rw [hn'h.out] at hc
      have c1 := hc c c0
      have c2 := hc pc p0
      have hlo : ¬ key (G pc) < key (G c) → ScanS (predS key (P ++ A ++ B ++ S) p) s0 r0 (c + 1) r := fun hk => ⟨by omega, by omega, h3, fun _ => by unfold predS; rw [Nat.add_sub_cancel, ← hpc, ← hG, ← hG]; exact hk, hS.a5⟩
      have hhi : key (G pc) < key (G c) → ScanS (predS key (P ++ A ++ B ++ S) p) s0 r0 s c := fun hk => ⟨h1, hsc, by omega, hS.a4, fun _ => by unfold predS; rw [← hpc, ← hG, ← hG]; exact hk⟩
      have m1 : G c < m0 := by rw [hG, hGA'h.out c (by omega) (by omega)]; exact hA0'h.out _ (by rw [← nthN'_eq (show c - a < A.length by have := hP'h.out; have := hm'h.out; omega)]; exact List.getElem_mem _)
      have m2 : G pc < m0 := by rw [hG, hGB'h.out pc (by omega) (by omega)]; exact hB0'h.out _ (by rw [← nthN'_eq (show pc - m < B.length by have := hP'h.out; have := hm'h.out; have := hb'h.out; omega)]; exact List.getElem_mem _)
      have CQ := hC'h.out _ _ hl'h.out hLf (G pc) (G c) m2 m1
      generalize G c = x at c1 CQ hlo hhi
      generalize G pc = y at c2 CQ hlo hhi
      have i2 : (c : Int) < (n : Int) := by omega
      have i3 : (pc : Int) < (n : Int) := by omega
      have i4 : (0 : Int) ≤ (c : Int) := by omega
      have i5 : (0 : Int) ≤ (pc : Int) := by omega
      clear hG hc hpc hh m1 m2 hin
      have hLf'h := Lib.hid hLf
      have CQ'h := Lib.hid CQ
      have hlo'h := Lib.hid hlo
      have hhi'h := Lib.hid hhi
      have hS'h := Lib.hid hS
      have hq'h := Lib.hid hq
      clear hLf CQ hlo hhi hS hq
      by_cases hyx : key y < key x
      · have i7 : key y - key x < 0 := by omega
        go_wp2_with fail
        go_big_quiet (first | (go_at_call 39; exact CQ'h.out _))
        go_wp2
        go_roundg (gk - 1)
        case measure => have := hq'h.out; omega
        case rel => exact ⟨s, c, by have := hq'h.out; omega, rfl, rfl, hhi'h.out hyx, hLf'h.out.on nq⟩
      · have i7 : ¬ key y - key x < 0 := by omega
        have i8 : decide (key y - key x < 0) = false := decide_eq_false i7
        go_wp2_with fail
        go_big_quiet (first | (go_at_call 39; exact CQ'h.out _))
        go_wp2
        go_roundg (gk - 1)
        case measure => have := hq'h.out; omega
        case rel => exact ⟨c + 1, r, by have := hq'h.out; omega, by go_num, rfl, hlo'h.out (by omega), hLf'h.out.on nq⟩
    · obtain rfl : s = r := by omega
      have i1 : ¬ (s : Int) < (s : Int) := by omega
      have hin := hs0'h.out
      unfold SymS at hin
      have sm : s ≤ mid := by omega
      have has : a ≤ s := by omega
      have sm' : s ≤ m := by omega
      have emb : mid + m - s ≤ b := by omega
      obtain ⟨hp1, hp2⟩ := sym_end hP'h.out hm'h.out hb'h.out hA'h.out hB'h.out hs0'h.out hS
      have eA := (List.take_append_drop (s - a) A)
      have eB := (List.take_append_drop (mid - s) B)
      have l1 : (A.take (s - a)).length = s - a := by rw [List.length_take]; have := hP'h.out; have := hm'h.out; omega
      have l2 : (A.drop (s - a)).length = m - s := by rw [List.length_drop]; have := hP'h.out; have := hm'h.out; omega
      have l3 : (B.take (mid - s)).length = mid - s := by rw [List.length_take]; have := hb'h.out; have := hm'h.out; omega
      have l4 : (B.drop (mid - s)).length = b - (mid + m - s) := by rw [List.length_drop]; have := hb'h.out; have := hm'h.out; omega
      generalize A.take (s - a) = A1 at *
      generalize A.drop (s - a) = A2 at *
      generalize B.take (mid - s) = B1 at *
      generalize B.drop (mid - s) = B2 at *
      obtain ⟨en, hen⟩ : ∃ en, en = mid + m - s := ⟨_, rfl⟩
      have een : (mid : Int) + (m : Int) - (s : Int) = (en : Int) := by omega
      rw [← hen] at l4 emb
      have hme : m ≤ en := by omega
      have hge : en = m + (mid - s) := by omega
      clear hS hGA'h hGB'h hin
      have hLf'h := Lib.hid hLf
      have hp1'h := Lib.hid hp1
      have hp2'h := Lib.hid hp2
      have eA'h := Lib.hid eA
      have eB'h := Lib.hid eB
      have l1'h := Lib.hid l1
      have l2'h := Lib.hid l2
      have l3'h := Lib.hid l3
      have l4'h := Lib.hid l4
      have hq'h := Lib.hid hq
      have hen'h := Lib.hid hen
      have hge'h := Lib.hid hge
      clear hLf hp1 hp2 eA eB l1 l2 l3 l4 hq hen hge
      by_cases hrot : s < m ∧ m < en
      · obtain ⟨r1, r2⟩ := hrot
        have r1' : (s : Int) < (m : Int) := by omega
        have r2' : (m : Int) < (en : Int) := by omega
        have C := rotStb (.func (.func 39) #[] g0) blk off cap s m en n d0 (P ++ A1) A2 B1 (B2 ++ S) w wr hH'h.out hn'h.out (by rw [← eA'h.out, ← eB'h.out] at hl'h; have := hl'h.out; simpa using this) (by have := l1'h.out; have := hP'h.out; rw [List.length_append]; omega) (by have := l1'h.out; have := l2'h.out; have := hP'h.out; rw [List.length_append]; omega) (by have := l1'h.out; have := l2'h.out; have := l3'h.out; have := hP'h.out; have := hge'h.out; rw [List.length_append]; omega) (by have := l2'h.out; omega) (by have := l3'h.out; have := hge'h.out; omega) hn80 (by have h := hLf'h.out; rw [← eA'h.out, ← eB'h.out] at h; simpa only [List.append_assoc] using h)
        have C'h := Lib.hid C
        clear C
        go_wp2_with fail
        refine C'h.out.mono ?_
        rintro e w2 ⟨rfl, hL2⟩
        have hL3 : Lf w blk off (P ++ (A1 ++ B1) ++ (A2 ++ B2) ++ S) w2 := by simpa only [List.append_assoc] using hL2
        clear hL2
        have hL3'h := Lib.hid hL3
        clear hL3
        clear r1' r2' r1 r2
        go_upto_region 41 with fail
        by_cases q1 : a < s
        · have q1' : (a : Int) < (s : Int) := by omega
          by_cases q2 : s < mid
          · have q2' : (s : Int) < (mid : Int) := by omega
            have C := hIH'h.out a s mid P A1 B1 ((A2 ++ B2) ++ S) w2 hP'h.out (by have := l1'h.out; have := hP'h.out; omega) (by have := l1'h.out; have := l3'h.out; have := hP'h.out; omega) (by omega) (by have := l1'h.out; omega) (by have := l3'h.out; omega) (by have h := hl'h.out; rw [← eA'h.out, ← eB'h.out] at h; simp only [List.length_append] at h ⊢; omega) (fun x hx => hA0'h.out x (by rw [← eA'h.out]; exact List.mem_append_left _ hx)) (fun x hx => hB0'h.out x (by rw [← eB'h.out]; exact List.mem_append_left _ hx)) (by have h := hA'h.out; rw [← eA'h.out] at h; exact (List.pairwise_append.1 h).1) (by have h := hB'h.out; rw [← eB'h.out] at h; exact (List.pairwise_append.1 h).1) (fun x hx y hy => ha'h.out x (by rw [← eA'h.out]; exact List.mem_append_left _ hx) y (by rw [← eB'h.out]; exact List.mem_append_left _ hy)) (by have h := hL3'h.out; simpa only [List.append_assoc] using h)
            have C'h := Lib.hid C
            clear C
            go_wp2_with fail
            refine C'h.out.mono ?_
            rintro e w5 ⟨rfl, C1, hM1, hL4'⟩
            have hL4 : Lf w blk off (P ++ C1 ++ (A2 ++ B2) ++ S) w5 := by simpa only [List.append_assoc] using hL4'
            clear hL4'
            have hM1'h := Lib.hid hM1
            have hL4'h := Lib.hid hL4
            clear hM1 hL4
            go_upto_region 43 with fail
            clear q1' q2' q1 q2
            have hlc : C1.length = mid - a := by have := hM1'h.out.perm.length_eq; rw [List.length_append] at this; have := l1'h.out; have := l3'h.out; omega
            have hlc'h := Lib.hid hlc
            clear hlc
            by_cases t1 : mid < en
            · have t1' : (mid : Int) < (en : Int) := by omega
              by_cases t2 : en < b
              · have t2' : (en : Int) < (b : Int) := by omega
                have C := hIH'h.out mid en b (P ++ C1) A2 B2 S w5 (by rw [List.length_append]; have := hlc'h.out; have := hP'h.out; omega) (by rw [List.length_append]; have := hlc'h.out; have := l2'h.out; have := hP'h.out; have := hen'h.out; omega) (by rw [List.length_append]; have := hlc'h.out; have := l2'h.out; have := l4'h.out; have := hP'h.out; have := hen'h.out; omega) (by omega) (by have := l2'h.out; have := hen'h.out; omega) (by have := l4'h.out; have := hen'h.out; omega) (by have h := hl'h.out; have h2 := hM1'h.out.perm.length_eq; rw [← eA'h.out, ← eB'h.out] at h; simp only [List.length_append] at h h2 ⊢; omega) (fun x hx => hA0'h.out x (by rw [← eA'h.out]; exact List.mem_append_right _ hx)) (fun x hx => hB0'h.out x (by rw [← eB'h.out]; exact List.mem_append_right _ hx)) (by have h := hA'h.out; rw [← eA'h.out] at h; exact (List.pairwise_append.1 h).2.1) (by have h := hB'h.out; rw [← eB'h.out] at h; exact (List.pairwise_append.1 h).2.1) (fun x hx y hy => ha'h.out x (by rw [← eA'h.out]; exact List.mem_append_right _ hx) y (by rw [← eB'h.out]; exact List.mem_append_right _ hy)) (by have h := hL4'h.out; simpa only [List.append_assoc] using h)
                have C'h := Lib.hid C
                clear C
                go_wp2_with fail
                refine C'h.out.mono ?_
                rintro e w6 ⟨rfl, C2, hM2, hL5⟩
                have hfin : SymP key w blk off P A B S (.returned (.tuple #[])) w6 := by
                  refine ⟨rfl, C1 ++ C2, ?_, by simpa only [List.append_assoc] using hL5⟩
                  have h1 := hA'h.out
                  have h2 := hB'h.out
                  have h3 := ha'h.out
                  rw [← eA'h.out] at h1 h3 ⊢
                  rw [← eB'h.out] at h2 h3 ⊢
                  exact Mrg.join h1 h2 h3 hM1'h.out hM2 hp1'h.out hp2'h.out
                clear hL5 hM2
                have hfin'h := Lib.hid hfin
                clear hfin
                go_wp2
                refine bodyPost_end (results_none rfl _ _ _) rfl ?_
                exact hfin'h.out
              · have t2' : ¬ (en : Int) < (b : Int) := by omega
                obtain ⟨C2, hC2⟩ : ∃ C2, C2 = A2 := ⟨_, rfl⟩
                have hB20 : B2 = [] := List.eq_nil_of_length_eq_zero (by have := l4'h.out; have := hen'h.out; omega)
                have hM2 : Mrg key A2 B2 C2 := by rw [hC2, hB20]; exact Mrg.nil_right (by have h := hA'h.out; rw [← eA'h.out] at h; exact (List.pairwise_append.1 h).2.1)
                have hL5 : Lf w blk off ((P ++ C1) ++ C2 ++ S) w5 := by have h := hL4'h.out; rw [hB20, List.append_nil] at h; rw [hC2]; exact h
                clear hC2 hB20
                have hfin : SymP key w blk off P A B S (.returned (.tuple #[])) w5 := by
                  refine ⟨rfl, C1 ++ C2, ?_, by simpa only [List.append_assoc] using hL5⟩
                  have h1 := hA'h.out
                  have h2 := hB'h.out
                  have h3 := ha'h.out
                  rw [← eA'h.out] at h1 h3 ⊢
                  rw [← eB'h.out] at h2 h3 ⊢
                  exact Mrg.join h1 h2 h3 hM1'h.out hM2 hp1'h.out hp2'h.out
                clear hL5 hM2
                have hfin'h := Lib.hid hfin
                clear hfin
                go_wp2
                refine bodyPost_end (results_none rfl _ _ _) rfl ?_
                exact hfin'h.out
            · have t1' : ¬ (mid : Int) < (en : Int) := by omega
              obtain ⟨C2, hC2⟩ : ∃ C2, C2 = B2 := ⟨_, rfl⟩
              have hA20 : A2 = [] := List.eq_nil_of_length_eq_zero (by have := l2'h.out; have := hen'h.out; omega)
              have hM2 : Mrg key A2 B2 C2 := by rw [hC2, hA20]; exact Mrg.nil_left (by have h := hB'h.out; rw [← eB'h.out] at h; exact (List.pairwise_append.1 h).2.1)
              have hL5 : Lf w blk off ((P ++ C1) ++ C2 ++ S) w5 := by have h := hL4'h.out; rw [hA20, List.nil_append] at h; rw [hC2]; exact h
              clear hC2 hA20
              have hfin : SymP key w blk off P A B S (.returned (.tuple #[])) w5 := by
                refine ⟨rfl, C1 ++ C2, ?_, by simpa only [List.append_assoc] using hL5⟩
                have h1 := hA'h.out
                have h2 := hB'h.out
                have h3 := ha'h.out
                rw [← eA'h.out] at h1 h3 ⊢
                rw [← eB'h.out] at h2 h3 ⊢
                exact Mrg.join h1 h2 h3 hM1'h.out hM2 hp1'h.out hp2'h.out
              clear hL5 hM2
              have hfin'h := Lib.hid hfin
              clear hfin
              go_wp2
              refine bodyPost_end (results_none rfl _ _ _) rfl ?_
              exact hfin'h.out
          · have q2' : ¬ (s : Int) < (mid : Int) := by omega
            obtain ⟨C1, hC1⟩ : ∃ C1, C1 = A1 := ⟨_, rfl⟩
            have hB10 : B1 = [] := List.eq_nil_of_length_eq_zero (by have := l3'h.out; omega)
            have hM1 : Mrg key A1 B1 C1 := by rw [hC1, hB10]; exact Mrg.nil_right (by have h := hA'h.out; rw [← eA'h.out] at h; exact (List.pairwise_append.1 h).1)
            have hL4 : Lf w blk off (P ++ C1 ++ (A2 ++ B2) ++ S) w2 := by have h := hL3'h.out; rw [hB10, List.append_nil] at h; rw [hC1]; exact h
            clear hC1 hB10
            have hM1'h := Lib.hid hM1
            have hL4'h := Lib.hid hL4
            clear hM1 hL4
            go_upto_region 43 with fail
            clear q1' q2' q1 q2
            have hlc : C1.length = mid - a := by have := hM1'h.out.perm.length_eq; rw [List.length_append] at this; have := l1'h.out; have := l3'h.out; omega
            have hlc'h := Lib.hid hlc
            clear hlc
            by_cases t1 : mid < en
            · have t1' : (mid : Int) < (en : Int) := by omega
              by_cases t2 : en < b
              · have t2' : (en : Int) < (b : Int) := by omega
                have C := hIH'h.out mid en b (P ++ C1) A2 B2 S w2 (by rw [List.length_append]; have := hlc'h.out; have := hP'h.out; omega) (by rw [List.length_append]; have := hlc'h.out; have := l2'h.out; have := hP'h.out; have := hen'h.out; omega) (by rw [List.length_append]; have := hlc'h.out; have := l2'h.out; have := l4'h.out; have := hP'h.out; have := hen'h.out; omega) (by omega) (by have := l2'h.out; have := hen'h.out; omega) (by have := l4'h.out; have := hen'h.out; omega) (by have h := hl'h.out; have h2 := hM1'h.out.perm.length_eq; rw [← eA'h.out, ← eB'h.out] at h; simp only [List.length_append] at h h2 ⊢; omega) (fun x hx => hA0'h.out x (by rw [← eA'h.out]; exact List.mem_append_right _ hx)) (fun x hx => hB0'h.out x (by rw [← eB'h.out]; exact List.mem_append_right _ hx)) (by have h := hA'h.out; rw [← eA'h.out] at h; exact (List.pairwise_append.1 h).2.1) (by have h := hB'h.out; rw [← eB'h.out] at h; exact (List.pairwise_append.1 h).2.1) (fun x hx y hy => ha'h.out x (by rw [← eA'h.out]; exact List.mem_append_right _ hx) y (by rw [← eB'h.out]; exact List.mem_append_right _ hy)) (by have h := hL4'h.out; simpa only [List.append_assoc] using h)
                have C'h := Lib.hid C
                clear C
                go_wp2_with fail
                refine C'h.out.mono ?_
                rintro e w6 ⟨rfl, C2, hM2, hL5⟩
                have hfin : SymP key w blk off P A B S (.returned (.tuple #[])) w6 := by
                  refine ⟨rfl, C1 ++ C2, ?_, by simpa only [List.append_assoc] using hL5⟩
                  have h1 := hA'h.out
                  have h2 := hB'h.out
                  have h3 := ha'h.out
                  rw [← eA'h.out] at h1 h3 ⊢
                  rw [← eB'h.out] at h2 h3 ⊢
                  exact Mrg.join h1 h2 h3 hM1'h.out hM2 hp1'h.out hp2'h.out
                clear hL5 hM2
                have hfin'h := Lib.hid hfin
                clear hfin
                go_wp2
                refine bodyPost_end (results_none rfl _ _ _) rfl ?_
                exact hfin'h.out
              · have t2' : ¬ (en : Int) < (b : Int) := by omega
                obtain ⟨C2, hC2⟩ : ∃ C2, C2 = A2 := ⟨_, rfl⟩
                have hB20 : B2 = [] := List.eq_nil_of_length_eq_zero (by have := l4'h.out; have := hen'h.out; omega)
                have hM2 : Mrg key A2 B2 C2 := by rw [hC2, hB20]; exact Mrg.nil_right (by have h := hA'h.out; rw [← eA'h.out] at h; exact (List.pairwise_append.1 h).2.1)
                have hL5 : Lf w blk off ((P ++ C1) ++ C2 ++ S) w2 := by have h := hL4'h.out; rw [hB20, List.append_nil] at h; rw [hC2]; exact h
                clear hC2 hB20
                have hfin : SymP key w blk off P A B S (.returned (.tuple #[])) w2 := by
                  refine ⟨rfl, C1 ++ C2, ?_, by simpa only [List.append_assoc] using hL5⟩
                  have h1 := hA'h.out
                  have h2 := hB'h.out
                  have h3 := ha'h.out
                  rw [← eA'h.out] at h1 h3 ⊢
                  rw [← eB'h.out] at h2 h3 ⊢
                  exact Mrg.join h1 h2 h3 hM1'h.out hM2 hp1'h.out hp2'h.out
                clear hL5 hM2
                have hfin'h := Lib.hid hfin
                clear hfin
                go_wp2
                refine bodyPost_end (results_none rfl _ _ _) rfl ?_
                exact hfin'h.out
            · have t1' : ¬ (mid : Int) < (en : Int) := by omega
              obtain ⟨C2, hC2⟩ : ∃ C2, C2 = B2 := ⟨_, rfl⟩
              have hA20 : A2 = [] := List.eq_nil_of_length_eq_zero (by have := l2'h.out; have := hen'h.out; omega)
              have hM2 : Mrg key A2 B2 C2 := by rw [hC2, hA20]; exact Mrg.nil_left (by have h := hB'h.out; rw [← eB'h.out] at h; exact (List.pairwise_append.1 h).2.1)
              have hL5 : Lf w blk off ((P ++ C1) ++ C2 ++ S) w2 := by have h := hL4'h.out; rw [hA20, List.nil_append] at h; rw [hC2]; exact h
              clear hC2 hA20
              have hfin : SymP key w blk off P A B S (.returned (.tuple #[])) w2 := by
                refine ⟨rfl, C1 ++ C2, ?_, by simpa only [List.append_assoc] using hL5⟩
                have h1 := hA'h.out
                have h2 := hB'h.out
                have h3 := ha'h.out
                rw [← eA'h.out] at h1 h3 ⊢
                rw [← eB'h.out] at h2 h3 ⊢
                exact Mrg.join h1 h2 h3 hM1'h.out hM2 hp1'h.out hp2'h.out
              clear hL5 hM2
              have hfin'h := Lib.hid hfin
              clear hfin
              go_wp2
              refine bodyPost_end (results_none rfl _ _ _) rfl ?_
              exact hfin'h.out
        · have q1' : ¬ (a : Int) < (s : Int) := by omega
          obtain ⟨C1, hC1⟩ : ∃ C1, C1 = B1 := ⟨_, rfl⟩
          have hA10 : A1 = [] := List.eq_nil_of_length_eq_zero (by have := l1'h.out; omega)
          have hM1 : Mrg key A1 B1 C1 := by rw [hC1, hA10]; exact Mrg.nil_left (by have h := hB'h.out; rw [← eB'h.out] at h; exact (List.pairwise_append.1 h).1)
          have hL4 : Lf w blk off (P ++ C1 ++ (A2 ++ B2) ++ S) w2 := by have h := hL3'h.out; rw [hA10, List.nil_append] at h; rw [hC1]; exact h
          clear hC1 hA10
          have hM1'h := Lib.hid hM1
          have hL4'h := Lib.hid hL4
          clear hM1 hL4
          go_upto_region 43 with fail
          clear q1' q1
          have hlc : C1.length = mid - a := by have := hM1'h.out.perm.length_eq; rw [List.length_append] at this; have := l1'h.out; have := l3'h.out; omega
          have hlc'h := Lib.hid hlc
          clear hlc
          by_cases t1 : mid < en
          · have t1' : (mid : Int) < (en : Int) := by omega
            by_cases t2 : en < b
            · have t2' : (en : Int) < (b : Int) := by omega
              have C := hIH'h.out mid en b (P ++ C1) A2 B2 S w2 (by rw [List.length_append]; have := hlc'h.out; have := hP'h.out; omega) (by rw [List.length_append]; have := hlc'h.out; have := l2'h.out; have := hP'h.out; have := hen'h.out; omega) (by rw [List.length_append]; have := hlc'h.out; have := l2'h.out; have := l4'h.out; have := hP'h.out; have := hen'h.out; omega) (by omega) (by have := l2'h.out; have := hen'h.out; omega) (by have := l4'h.out; have := hen'h.out; omega) (by have h := hl'h.out; have h2 := hM1'h.out.perm.length_eq; rw [← eA'h.out, ← eB'h.out] at h; simp only [List.length_append] at h h2 ⊢; omega) (fun x hx => hA0'h.out x (by rw [← eA'h.out]; exact List.mem_append_right _ hx)) (fun x hx => hB0'h.out x (by rw [← eB'h.out]; exact List.mem_append_right _ hx)) (by have h := hA'h.out; rw [← eA'h.out] at h; exact (List.pairwise_append.1 h).2.1) (by have h := hB'h.out; rw [← eB'h.out] at h; exact (List.pairwise_append.1 h).2.1) (fun x hx y hy => ha'h.out x (by rw [← eA'h.out]; exact List.mem_append_right _ hx) y (by rw [← eB'h.out]; exact List.mem_append_right _ hy)) (by have h := hL4'h.out; simpa only [List.append_assoc] using h)
              have C'h := Lib.hid C
              clear C
              go_wp2_with fail
              refine C'h.out.mono ?_
              rintro e w6 ⟨rfl, C2, hM2, hL5⟩
              have hfin : SymP key w blk off P A B S (.returned (.tuple #[])) w6 := by
                refine ⟨rfl, C1 ++ C2, ?_, by simpa only [List.append_assoc] using hL5⟩
                have h1 := hA'h.out
                have h2 := hB'h.out
                have h3 := ha'h.out
                rw [← eA'h.out] at h1 h3 ⊢
                rw [← eB'h.out] at h2 h3 ⊢
                exact Mrg.join h1 h2 h3 hM1'h.out hM2 hp1'h.out hp2'h.out
              clear hL5 hM2
              have hfin'h := Lib.hid hfin
              clear hfin
              go_wp2
              refine bodyPost_end (results_none rfl _ _ _) rfl ?_
              exact hfin'h.out
            · have t2' : ¬ (en : Int) < (b : Int) := by omega
              obtain ⟨C2, hC2⟩ : ∃ C2, C2 = A2 := ⟨_, rfl⟩
              have hB20 : B2 = [] := List.eq_nil_of_length_eq_zero (by have := l4'h.out; have := hen'h.out; omega)
              have hM2 : Mrg key A2 B2 C2 := by rw [hC2, hB20]; exact Mrg.nil_right (by have h := hA'h.out; rw [← eA'h.out] at h; exact (List.pairwise_append.1 h).2.1)
              have hL5 : Lf w blk off ((P ++ C1) ++ C2 ++ S) w2 := by have h := hL4'h.out; rw [hB20, List.append_nil] at h; rw [hC2]; exact h
              clear hC2 hB20
              have hfin : SymP key w blk off P A B S (.returned (.tuple #[])) w2 := by
                refine ⟨rfl, C1 ++ C2, ?_, by simpa only [List.append_assoc] using hL5⟩
                have h1 := hA'h.out
                have h2 := hB'h.out
                have h3 := ha'h.out
                rw [← eA'h.out] at h1 h3 ⊢
                rw [← eB'h.out] at h2 h3 ⊢
                exact Mrg.join h1 h2 h3 hM1'h.out hM2 hp1'h.out hp2'h.out
              clear hL5 hM2
              have hfin'h := Lib.hid hfin
              clear hfin
              go_wp2
              refine bodyPost_end (results_none rfl _ _ _) rfl ?_
              exact hfin'h.out
          · have t1' : ¬ (mid : Int) < (en : Int) := by omega
            obtain ⟨C2, hC2⟩ : ∃ C2, C2 = B2 := ⟨_, rfl⟩
            have hA20 : A2 = [] := List.eq_nil_of_length_eq_zero (by have := l2'h.out; have := hen'h.out; omega)
            have hM2 : Mrg key A2 B2 C2 := by rw [hC2, hA20]; exact Mrg.nil_left (by have h := hB'h.out; rw [← eB'h.out] at h; exact (List.pairwise_append.1 h).2.1)
            have hL5 : Lf w blk off ((P ++ C1) ++ C2 ++ S) w2 := by have h := hL4'h.out; rw [hA20, List.nil_append] at h; rw [hC2]; exact h
            clear hC2 hA20
            have hfin : SymP key w blk off P A B S (.returned (.tuple #[])) w2 := by
              refine ⟨rfl, C1 ++ C2, ?_, by simpa only [List.append_assoc] using hL5⟩
              have h1 := hA'h.out
              have h2 := hB'h.out
              have h3 := ha'h.out
              rw [← eA'h.out] at h1 h3 ⊢
              rw [← eB'h.out] at h2 h3 ⊢
              exact Mrg.join h1 h2 h3 hM1'h.out hM2 hp1'h.out hp2'h.out
            clear hL5 hM2
            have hfin'h := Lib.hid hfin
            clear hfin
            go_wp2
            refine bodyPost_end (results_none rfl _ _ _) rfl ?_
            exact hfin'h.out
      · have hL3 : Lf w blk off (P ++ (A1 ++ B1) ++ (A2 ++ B2) ++ S) wr := by
          have h := hLf'h.out
          rw [← eA'h.out, ← eB'h.out] at h
          by_cases hs : s < m
          · have : B1 = [] := List.eq_nil_of_length_eq_zero (by have := l3'h.out; have := hge'h.out; omega)
            subst this
            simpa only [List.append_assoc, List.nil_append, List.append_nil] using h
          · have : A2 = [] := List.eq_nil_of_length_eq_zero (by have := l2'h.out; omega)
            subst this
            simpa only [List.append_assoc, List.nil_append, List.append_nil] using h
        by_cases r1 : s < m
        · have r1' : (s : Int) < (m : Int) := by omega
          have r2' : ¬ (m : Int) < (en : Int) := by omega
          have hL3'h := Lib.hid hL3
          clear hL3
          go_upto_region 41 with fail
          clear r1' r2' r1 hrot
          by_cases q1 : a < s
          · have q1' : (a : Int) < (s : Int) := by omega
            by_cases q2 : s < mid
            · have q2' : (s : Int) < (mid : Int) := by omega
              have C := hIH'h.out a s mid P A1 B1 ((A2 ++ B2) ++ S) wr hP'h.out (by have := l1'h.out; have := hP'h.out; omega) (by have := l1'h.out; have := l3'h.out; have := hP'h.out; omega) (by omega) (by have := l1'h.out; omega) (by have := l3'h.out; omega) (by have h := hl'h.out; rw [← eA'h.out, ← eB'h.out] at h; simp only [List.length_append] at h ⊢; omega) (fun x hx => hA0'h.out x (by rw [← eA'h.out]; exact List.mem_append_left _ hx)) (fun x hx => hB0'h.out x (by rw [← eB'h.out]; exact List.mem_append_left _ hx)) (by have h := hA'h.out; rw [← eA'h.out] at h; exact (List.pairwise_append.1 h).1) (by have h := hB'h.out; rw [← eB'h.out] at h; exact (List.pairwise_append.1 h).1) (fun x hx y hy => ha'h.out x (by rw [← eA'h.out]; exact List.mem_append_left _ hx) y (by rw [← eB'h.out]; exact List.mem_append_left _ hy)) (by have h := hL3'h.out; simpa only [List.append_assoc] using h)
              have C'h := Lib.hid C
              clear C
              go_wp2_with fail
              refine C'h.out.mono ?_
              rintro e w5 ⟨rfl, C1, hM1, hL4'⟩
              have hL4 : Lf w blk off (P ++ C1 ++ (A2 ++ B2) ++ S) w5 := by simpa only [List.append_assoc] using hL4'
              clear hL4'
              have hM1'h := Lib.hid hM1
              have hL4'h := Lib.hid hL4
              clear hM1 hL4
              go_upto_region 43 with fail
              clear q1' q2' q1 q2
              have hlc : C1.length = mid - a := by have := hM1'h.out.perm.length_eq; rw [List.length_append] at this; have := l1'h.out; have := l3'h.out; omega
              have hlc'h := Lib.hid hlc
              clear hlc
              by_cases t1 : mid < en
              · have t1' : (mid : Int) < (en : Int) := by omega
                by_cases t2 : en < b
                · have t2' : (en : Int) < (b : Int) := by omega
                  have C := hIH'h.out mid en b (P ++ C1) A2 B2 S w5 (by rw [List.length_append]; have := hlc'h.out; have := hP'h.out; omega) (by rw [List.length_append]; have := hlc'h.out; have := l2'h.out; have := hP'h.out; have := hen'h.out; omega) (by rw [List.length_append]; have := hlc'h.out; have := l2'h.out; have := l4'h.out; have := hP'h.out; have := hen'h.out; omega) (by omega) (by have := l2'h.out; have := hen'h.out; omega) (by have := l4'h.out; have := hen'h.out; omega) (by have h := hl'h.out; have h2 := hM1'h.out.perm.length_eq; rw [← eA'h.out, ← eB'h.out] at h; simp only [List.length_append] at h h2 ⊢; omega) (fun x hx => hA0'h.out x (by rw [← eA'h.out]; exact List.mem_append_right _ hx)) (fun x hx => hB0'h.out x (by rw [← eB'h.out]; exact List.mem_append_right _ hx)) (by have h := hA'h.out; rw [← eA'h.out] at h; exact (List.pairwise_append.1 h).2.1) (by have h := hB'h.out; rw [← eB'h.out] at h; exact (List.pairwise_append.1 h).2.1) (fun x hx y hy => ha'h.out x (by rw [← eA'h.out]; exact List.mem_append_right _ hx) y (by rw [← eB'h.out]; exact List.mem_append_right _ hy)) (by have h := hL4'h.out; simpa only [List.append_assoc] using h)
                  have C'h := Lib.hid C
                  clear C
                  go_wp2_with fail
                  refine C'h.out.mono ?_
                  rintro e w6 ⟨rfl, C2, hM2, hL5⟩
                  have hfin : SymP key w blk off P A B S (.returned (.tuple #[])) w6 := by
                    refine ⟨rfl, C1 ++ C2, ?_, by simpa only [List.append_assoc] using hL5⟩
                    have h1 := hA'h.out
                    have h2 := hB'h.out
                    have h3 := ha'h.out
                    rw [← eA'h.out] at h1 h3 ⊢
                    rw [← eB'h.out] at h2 h3 ⊢
                    exact Mrg.join h1 h2 h3 hM1'h.out hM2 hp1'h.out hp2'h.out
                  clear hL5 hM2
                  have hfin'h := Lib.hid hfin
                  clear hfin
                  go_wp2
                  refine bodyPost_end (results_none rfl _ _ _) rfl ?_
                  exact hfin'h.out
                · have t2' : ¬ (en : Int) < (b : Int) := by omega
                  obtain ⟨C2, hC2⟩ : ∃ C2, C2 = A2 := ⟨_, rfl⟩
                  have hB20 : B2 = [] := List.eq_nil_of_length_eq_zero (by have := l4'h.out; have := hen'h.out; omega)
                  have hM2 : Mrg key A2 B2 C2 := by rw [hC2, hB20]; exact Mrg.nil_right (by have h := hA'h.out; rw [← eA'h.out] at h; exact (List.pairwise_append.1 h).2.1)
                  have hL5 : Lf w blk off ((P ++ C1) ++ C2 ++ S) w5 := by have h := hL4'h.out; rw [hB20, List.append_nil] at h; rw [hC2]; exact h
                  clear hC2 hB20
                  have hfin : SymP key w blk off P A B S (.returned (.tuple #[])) w5 := by
                    refine ⟨rfl, C1 ++ C2, ?_, by simpa only [List.append_assoc] using hL5⟩
                    have h1 := hA'h.out
                    have h2 := hB'h.out
                    have h3 := ha'h.out
                    rw [← eA'h.out] at h1 h3 ⊢
                    rw [← eB'h.out] at h2 h3 ⊢
                    exact Mrg.join h1 h2 h3 hM1'h.out hM2 hp1'h.out hp2'h.out
                  clear hL5 hM2
                  have hfin'h := Lib.hid hfin
                  clear hfin
                  go_wp2
                  refine bodyPost_end (results_none rfl _ _ _) rfl ?_
                  exact hfin'h.out
              · have t1' : ¬ (mid : Int) < (en : Int) := by omega
                obtain ⟨C2, hC2⟩ : ∃ C2, C2 = B2 := ⟨_, rfl⟩
                have hA20 : A2 = [] := List.eq_nil_of_length_eq_zero (by have := l2'h.out; have := hen'h.out; omega)
                have hM2 : Mrg key A2 B2 C2 := by rw [hC2, hA20]; exact Mrg.nil_left (by have h := hB'h.out; rw [← eB'h.out] at h; exact (List.pairwise_append.1 h).2.1)
                have hL5 : Lf w blk off ((P ++ C1) ++ C2 ++ S) w5 := by have h := hL4'h.out; rw [hA20, List.nil_append] at h; rw [hC2]; exact h
                clear hC2 hA20
                have hfin : SymP key w blk off P A B S (.returned (.tuple #[])) w5 := by
                  refine ⟨rfl, C1 ++ C2, ?_, by simpa only [List.append_assoc] using hL5⟩
                  have h1 := hA'h.out
                  have h2 := hB'h.out
                  have h3 := ha'h.out
                  rw [← eA'h.out] at h1 h3 ⊢
                  rw [← eB'h.out] at h2 h3 ⊢
                  exact Mrg.join h1 h2 h3 hM1'h.out hM2 hp1'h.out hp2'h.out
                clear hL5 hM2
                have hfin'h := Lib.hid hfin
                clear hfin
                go_wp2
                refine bodyPost_end (results_none rfl _ _ _) rfl ?_
                exact hfin'h.out
            · have q2' : ¬ (s : Int) < (mid : Int) := by omega
              obtain ⟨C1, hC1⟩ : ∃ C1, C1 = A1 := ⟨_, rfl⟩
              have hB10 : B1 = [] := List.eq_nil_of_length_eq_zero (by have := l3'h.out; omega)
              have hM1 : Mrg key A1 B1 C1 := by rw [hC1, hB10]; exact Mrg.nil_right (by have h := hA'h.out; rw [← eA'h.out] at h; exact (List.pairwise_append.1 h).1)
              have hL4 : Lf w blk off (P ++ C1 ++ (A2 ++ B2) ++ S) wr := by have h := hL3'h.out; rw [hB10, List.append_nil] at h; rw [hC1]; exact h
              clear hC1 hB10
              have hM1'h := Lib.hid hM1
              have hL4'h := Lib.hid hL4
              clear hM1 hL4
              go_upto_region 43 with fail
              clear q1' q2' q1 q2
              have hlc : C1.length = mid - a := by have := hM1'h.out.perm.length_eq; rw [List.length_append] at this; have := l1'h.out; have := l3'h.out; omega
              have hlc'h := Lib.hid hlc
              clear hlc
              by_cases t1 : mid < en
              · have t1' : (mid : Int) < (en : Int) := by omega
                by_cases t2 : en < b
                · have t2' : (en : Int) < (b : Int) := by omega
                  have C := hIH'h.out mid en b (P ++ C1) A2 B2 S wr (by rw [List.length_append]; have := hlc'h.out; have := hP'h.out; omega) (by rw [List.length_append]; have := hlc'h.out; have := l2'h.out; have := hP'h.out; have := hen'h.out; omega) (by rw [List.length_append]; have := hlc'h.out; have := l2'h.out; have := l4'h.out; have := hP'h.out; have := hen'h.out; omega) (by omega) (by have := l2'h.out; have := hen'h.out; omega) (by have := l4'h.out; have := hen'h.out; omega) (by have h := hl'h.out; have h2 := hM1'h.out.perm.length_eq; rw [← eA'h.out, ← eB'h.out] at h; simp only [List.length_append] at h h2 ⊢; omega) (fun x hx => hA0'h.out x (by rw [← eA'h.out]; exact List.mem_append_right _ hx)) (fun x hx => hB0'h.out x (by rw [← eB'h.out]; exact List.mem_append_right _ hx)) (by have h := hA'h.out; rw [← eA'h.out] at h; exact (List.pairwise_append.1 h).2.1) (by have h := hB'h.out; rw [← eB'h.out] at h; exact (List.pairwise_append.1 h).2.1) (fun x hx y hy => ha'h.out x (by rw [← eA'h.out]; exact List.mem_append_right _ hx) y (by rw [← eB'h.out]; exact List.mem_append_right _ hy)) (by have h := hL4'h.out; simpa only [List.append_assoc] using h)
                  have C'h := Lib.hid C
                  clear C
                  go_wp2_with fail
                  refine C'h.out.mono ?_
                  rintro e w6 ⟨rfl, C2, hM2, hL5⟩
                  have hfin : SymP key w blk off P A B S (.returned (.tuple #[])) w6 := by
                    refine ⟨rfl, C1 ++ C2, ?_, by simpa only [List.append_assoc] using hL5⟩
                    have h1 := hA'h.out
                    have h2 := hB'h.out
                    have h3 := ha'h.out
                    rw [← eA'h.out] at h1 h3 ⊢
                    rw [← eB'h.out] at h2 h3 ⊢
                    exact Mrg.join h1 h2 h3 hM1'h.out hM2 hp1'h.out hp2'h.out
                  clear hL5 hM2
                  have hfin'h := Lib.hid hfin
                  clear hfin
                  go_wp2
                  refine bodyPost_end (results_none rfl _ _ _) rfl ?_
                  exact hfin'h.out
                · have t2' : ¬ (en : Int) < (b : Int) := by omega
                  obtain ⟨C2, hC2⟩ : ∃ C2, C2 = A2 := ⟨_, rfl⟩
                  have hB20 : B2 = [] := List.eq_nil_of_length_eq_zero (by have := l4'h.out; have := hen'h.out; omega)
                  have hM2 : Mrg key A2 B2 C2 := by rw [hC2, hB20]; exact Mrg.nil_right (by have h := hA'h.out; rw [← eA'h.out] at h; exact (List.pairwise_append.1 h).2.1)
                  have hL5 : Lf w blk off ((P ++ C1) ++ C2 ++ S) wr := by have h := hL4'h.out; rw [hB20, List.append_nil] at h; rw [hC2]; exact h
                  clear hC2 hB20
                  have hfin : SymP key w blk off P A B S (.returned (.tuple #[])) wr := by
                    refine ⟨rfl, C1 ++ C2, ?_, by simpa only [List.append_assoc] using hL5⟩
                    have h1 := hA'h.out
                    have h2 := hB'h.out
                    have h3 := ha'h.out
                    rw [← eA'h.out] at h1 h3 ⊢
                    rw [← eB'h.out] at h2 h3 ⊢
                    exact Mrg.join h1 h2 h3 hM1'h.out hM2 hp1'h.out hp2'h.out
                  clear hL5 hM2
                  have hfin'h := Lib.hid hfin
                  clear hfin
                  go_wp2
                  refine bodyPost_end (results_none rfl _ _ _) rfl ?_
                  exact hfin'h.out
              · have t1' : ¬ (mid : Int) < (en : Int) := by omega
                obtain ⟨C2, hC2⟩ : ∃ C2, C2 = B2 := ⟨_, rfl⟩
                have hA20 : A2 = [] := List.eq_nil_of_length_eq_zero (by have := l2'h.out; have := hen'h.out; omega)
                have hM2 : Mrg key A2 B2 C2 := by rw [hC2, hA20]; exact Mrg.nil_left (by have h := hB'h.out; rw [← eB'h.out] at h; exact (List.pairwise_append.1 h).2.1)
                have hL5 : Lf w blk off ((P ++ C1) ++ C2 ++ S) wr := by have h := hL4'h.out; rw [hA20, List.nil_append] at h; rw [hC2]; exact h
                clear hC2 hA20
                have hfin : SymP key w blk off P A B S (.returned (.tuple #[])) wr := by
                  refine ⟨rfl, C1 ++ C2, ?_, by simpa only [List.append_assoc] using hL5⟩
                  have h1 := hA'h.out
                  have h2 := hB'h.out
                  have h3 := ha'h.out
                  rw [← eA'h.out] at h1 h3 ⊢
                  rw [← eB'h.out] at h2 h3 ⊢
                  exact Mrg.join h1 h2 h3 hM1'h.out hM2 hp1'h.out hp2'h.out
                clear hL5 hM2
                have hfin'h := Lib.hid hfin
                clear hfin
                go_wp2
                refine bodyPost_end (results_none rfl _ _ _) rfl ?_
                exact hfin'h.out
          · have q1' : ¬ (a : Int) < (s : Int) := by omega
            obtain ⟨C1, hC1⟩ : ∃ C1, C1 = B1 := ⟨_, rfl⟩
            have hA10 : A1 = [] := List.eq_nil_of_length_eq_zero (by have := l1'h.out; omega)
            have hM1 : Mrg key A1 B1 C1 := by rw [hC1, hA10]; exact Mrg.nil_left (by have h := hB'h.out; rw [← eB'h.out] at h; exact (List.pairwise_append.1 h).1)
            have hL4 : Lf w blk off (P ++ C1 ++ (A2 ++ B2) ++ S) wr := by have h := hL3'h.out; rw [hA10, List.nil_append] at h; rw [hC1]; exact h
            clear hC1 hA10
            have hM1'h := Lib.hid hM1
            have hL4'h := Lib.hid hL4
            clear hM1 hL4
            go_upto_region 43 with fail
            clear q1' q1
            have hlc : C1.length = mid - a := by have := hM1'h.out.perm.length_eq; rw [List.length_append] at this; have := l1'h.out; have := l3'h.out; omega
            have hlc'h := Lib.hid hlc
            clear hlc
            by_cases t1 : mid < en
            · have t1' : (mid : Int) < (en : Int) := by omega
              by_cases t2 : en < b
              · have t2' : (en : Int) < (b : Int) := by omega
                have C := hIH'h.out mid en b (P ++ C1) A2 B2 S wr (by rw [List.length_append]; have := hlc'h.out; have := hP'h.out; omega) (by rw [List.length_append]; have := hlc'h.out; have := l2'h.out; have := hP'h.out; have := hen'h.out; omega) (by rw [List.length_append]; have := hlc'h.out; have := l2'h.out; have := l4'h.out; have := hP'h.out; have := hen'h.out; omega) (by omega) (by have := l2'h.out; have := hen'h.out; omega) (by have := l4'h.out; have := hen'h.out; omega) (by have h := hl'h.out; have h2 := hM1'h.out.perm.length_eq; rw [← eA'h.out, ← eB'h.out] at h; simp only [List.length_append] at h h2 ⊢; omega) (fun x hx => hA0'h.out x (by rw [← eA'h.out]; exact List.mem_append_right _ hx)) (fun x hx => hB0'h.out x (by rw [← eB'h.out]; exact List.mem_append_right _ hx)) (by have h := hA'h.out; rw [← eA'h.out] at h; exact (List.pairwise_append.1 h).2.1) (by have h := hB'h.out; rw [← eB'h.out] at h; exact (List.pairwise_append.1 h).2.1) (fun x hx y hy => ha'h.out x (by rw [← eA'h.out]; exact List.mem_append_right _ hx) y (by rw [← eB'h.out]; exact List.mem_append_right _ hy)) (by have h := hL4'h.out; simpa only [List.append_assoc] using h)
                have C'h := Lib.hid C
                clear C
                go_wp2_with fail
                refine C'h.out.mono ?_
                rintro e w6 ⟨rfl, C2, hM2, hL5⟩
                have hfin : SymP key w blk off P A B S (.returned (.tuple #[])) w6 := by
                  refine ⟨rfl, C1 ++ C2, ?_, by simpa only [List.append_assoc] using hL5⟩
                  have h1 := hA'h.out
                  have h2 := hB'h.out
                  have h3 := ha'h.out
                  rw [← eA'h.out] at h1 h3 ⊢
                  rw [← eB'h.out] at h2 h3 ⊢
                  exact Mrg.join h1 h2 h3 hM1'h.out hM2 hp1'h.out hp2'h.out
                clear hL5 hM2
                have hfin'h := Lib.hid hfin
                clear hfin
                go_wp2
                refine bodyPost_end (results_none rfl _ _ _) rfl ?_
                exact hfin'h.out
              · have t2' : ¬ (en : Int) < (b : Int) := by omega
                obtain ⟨C2, hC2⟩ : ∃ C2, C2 = A2 := ⟨_, rfl⟩
                have hB20 : B2 = [] := List.eq_nil_of_length_eq_zero (by have := l4'h.out; have := hen'h.out; omega)
                have hM2 : Mrg key A2 B2 C2 := by rw [hC2, hB20]; exact Mrg.nil_right (by have h := hA'h.out; rw [← eA'h.out] at h; exact (List.pairwise_append.1 h).2.1)
                have hL5 : Lf w blk off ((P ++ C1) ++ C2 ++ S) wr := by have h := hL4'h.out; rw [hB20, List.append_nil] at h; rw [hC2]; exact h
                clear hC2 hB20
                have hfin : SymP key w blk off P A B S (.returned (.tuple #[])) wr := by
                  refine ⟨rfl, C1 ++ C2, ?_, by simpa only [List.append_assoc] using hL5⟩
                  have h1 := hA'h.out
                  have h2 := hB'h.out
                  have h3 := ha'h.out
                  rw [← eA'h.out] at h1 h3 ⊢
                  rw [← eB'h.out] at h2 h3 ⊢
                  exact Mrg.join h1 h2 h3 hM1'h.out hM2 hp1'h.out hp2'h.out
                clear hL5 hM2
                have hfin'h := Lib.hid hfin
                clear hfin
                go_wp2
                refine bodyPost_end (results_none rfl _ _ _) rfl ?_
                exact hfin'h.out
            · have t1' : ¬ (mid : Int) < (en : Int) := by omega
              obtain ⟨C2, hC2⟩ : ∃ C2, C2 = B2 := ⟨_, rfl⟩
              have hA20 : A2 = [] := List.eq_nil_of_length_eq_zero (by have := l2'h.out; have := hen'h.out; omega)
              have hM2 : Mrg key A2 B2 C2 := by rw [hC2, hA20]; exact Mrg.nil_left (by have h := hB'h.out; rw [← eB'h.out] at h; exact (List.pairwise_append.1 h).2.1)
              have hL5 : Lf w blk off ((P ++ C1) ++ C2 ++ S) wr := by have h := hL4'h.out; rw [hA20, List.nil_append] at h; rw [hC2]; exact h
              clear hC2 hA20
              have hfin : SymP key w blk off P A B S (.returned (.tuple #[])) wr := by
                refine ⟨rfl, C1 ++ C2, ?_, by simpa only [List.append_assoc] using hL5⟩
                have h1 := hA'h.out
                have h2 := hB'h.out
                have h3 := ha'h.out
                rw [← eA'h.out] at h1 h3 ⊢
                rw [← eB'h.out] at h2 h3 ⊢
                exact Mrg.join h1 h2 h3 hM1'h.out hM2 hp1'h.out hp2'h.out
              clear hL5 hM2
              have hfin'h := Lib.hid hfin
              clear hfin
              go_wp2
              refine bodyPost_end (results_none rfl _ _ _) rfl ?_
              exact hfin'h.out
        · have r1' : ¬ (s : Int) < (m : Int) := by omega
          have hL3'h := Lib.hid hL3
          clear hL3
          go_upto_region 41 with fail
          clear r1' r1 hrot
          by_cases q1 : a < s
          · have q1' : (a : Int) < (s : Int) := by omega
            by_cases q2 : s < mid
            · have q2' : (s : Int) < (mid : Int) := by omega
              have C := hIH'h.out a s mid P A1 B1 ((A2 ++ B2) ++ S) wr hP'h.out (by have := l1'h.out; have := hP'h.out; omega) (by have := l1'h.out; have := l3'h.out; have := hP'h.out; omega) (by omega) (by have := l1'h.out; omega) (by have := l3'h.out; omega) (by have h := hl'h.out; rw [← eA'h.out, ← eB'h.out] at h; simp only [List.length_append] at h ⊢; omega) (fun x hx => hA0'h.out x (by rw [← eA'h.out]; exact List.mem_append_left _ hx)) (fun x hx => hB0'h.out x (by rw [← eB'h.out]; exact List.mem_append_left _ hx)) (by have h := hA'h.out; rw [← eA'h.out] at h; exact (List.pairwise_append.1 h).1) (by have h := hB'h.out; rw [← eB'h.out] at h; exact (List.pairwise_append.1 h).1) (fun x hx y hy => ha'h.out x (by rw [← eA'h.out]; exact List.mem_append_left _ hx) y (by rw [← eB'h.out]; exact List.mem_append_left _ hy)) (by have h := hL3'h.out; simpa only [List.append_assoc] using h)
              have C'h := Lib.hid C
              clear C
              go_wp2_with fail
              refine C'h.out.mono ?_
              rintro e w5 ⟨rfl, C1, hM1, hL4'⟩
              have hL4 : Lf w blk off (P ++ C1 ++ (A2 ++ B2) ++ S) w5 := by simpa only [List.append_assoc] using hL4'
              clear hL4'
              have hM1'h := Lib.hid hM1
              have hL4'h := Lib.hid hL4
              clear hM1 hL4
              go_upto_region 43 with fail
              clear q1' q2' q1 q2
              have hlc : C1.length = mid - a := by have := hM1'h.out.perm.length_eq; rw [List.length_append] at this; have := l1'h.out; have := l3'h.out; omega
              have hlc'h := Lib.hid hlc
              clear hlc
              by_cases t1 : mid < en
              · have t1' : (mid : Int) < (en : Int) := by omega
                by_cases t2 : en < b
                · have t2' : (en : Int) < (b : Int) := by omega
                  have C := hIH'h.out mid en b (P ++ C1) A2 B2 S w5 (by rw [List.length_append]; have := hlc'h.out; have := hP'h.out; omega) (by rw [List.length_append]; have := hlc'h.out; have := l2'h.out; have := hP'h.out; have := hen'h.out; omega) (by rw [List.length_append]; have := hlc'h.out; have := l2'h.out; have := l4'h.out; have := hP'h.out; have := hen'h.out; omega) (by omega) (by have := l2'h.out; have := hen'h.out; omega) (by have := l4'h.out; have := hen'h.out; omega) (by have h := hl'h.out; have h2 := hM1'h.out.perm.length_eq; rw [← eA'h.out, ← eB'h.out] at h; simp only [List.length_append] at h h2 ⊢; omega) (fun x hx => hA0'h.out x (by rw [← eA'h.out]; exact List.mem_append_right _ hx)) (fun x hx => hB0'h.out x (by rw [← eB'h.out]; exact List.mem_append_right _ hx)) (by have h := hA'h.out; rw [← eA'h.out] at h; exact (List.pairwise_append.1 h).2.1) (by have h := hB'h.out; rw [← eB'h.out] at h; exact (List.pairwise_append.1 h).2.1) (fun x hx y hy => ha'h.out x (by rw [← eA'h.out]; exact List.mem_append_right _ hx) y (by rw [← eB'h.out]; exact List.mem_append_right _ hy)) (by have h := hL4'h.out; simpa only [List.append_assoc] using h)
                  have C'h := Lib.hid C
                  clear C
                  go_wp2_with fail
                  refine C'h.out.mono ?_
                  rintro e w6 ⟨rfl, C2, hM2, hL5⟩
                  have hfin : SymP key w blk off P A B S (.returned (.tuple #[])) w6 := by
                    refine ⟨rfl, C1 ++ C2, ?_, by simpa only [List.append_assoc] using hL5⟩
                    have h1 := hA'h.out
                    have h2 := hB'h.out
                    have h3 := ha'h.out
                    rw [← eA'h.out] at h1 h3 ⊢
                    rw [← eB'h.out] at h2 h3 ⊢
                    exact Mrg.join h1 h2 h3 hM1'h.out hM2 hp1'h.out hp2'h.out
                  clear hL5 hM2
                  have hfin'h := Lib.hid hfin
                  clear hfin
                  go_wp2
                  refine bodyPost_end (results_none rfl _ _ _) rfl ?_
                  exact hfin'h.out
                · have t2' : ¬ (en : Int) < (b : Int) := by omega
                  obtain ⟨C2, hC2⟩ : ∃ C2, C2 = A2 := ⟨_, rfl⟩
                  have hB20 : B2 = [] := List.eq_nil_of_length_eq_zero (by have := l4'h.out; have := hen'h.out; omega)
                  have hM2 : Mrg key A2 B2 C2 := by rw [hC2, hB20]; exact Mrg.nil_right (by have h := hA'h.out; rw [← eA'h.out] at h; exact (List.pairwise_append.1 h).2.1)
                  have hL5 : Lf w blk off ((P ++ C1) ++ C2 ++ S) w5 := by have h := hL4'h.out; rw [hB20, List.append_nil] at h; rw [hC2]; exact h
                  clear hC2 hB20
                  have hfin : SymP key w blk off P A B S (.returned (.tuple #[])) w5 := by
                    refine ⟨rfl, C1 ++ C2, ?_, by simpa only [List.append_assoc] using hL5⟩
                    have h1 := hA'h.out
                    have h2 := hB'h.out
                    have h3 := ha'h.out
                    rw [← eA'h.out] at h1 h3 ⊢
                    rw [← eB'h.out] at h2 h3 ⊢
                    exact Mrg.join h1 h2 h3 hM1'h.out hM2 hp1'h.out hp2'h.out
                  clear hL5 hM2
                  have hfin'h := Lib.hid hfin
                  clear hfin
                  go_wp2
                  refine bodyPost_end (results_none rfl _ _ _) rfl ?_
                  exact hfin'h.out
              · have t1' : ¬ (mid : Int) < (en : Int) := by omega
                obtain ⟨C2, hC2⟩ : ∃ C2, C2 = B2 := ⟨_, rfl⟩
                have hA20 : A2 = [] := List.eq_nil_of_length_eq_zero (by have := l2'h.out; have := hen'h.out; omega)
                have hM2 : Mrg key A2 B2 C2 := by rw [hC2, hA20]; exact Mrg.nil_left (by have h := hB'h.out; rw [← eB'h.out] at h; exact (List.pairwise_append.1 h).2.1)
                have hL5 : Lf w blk off ((P ++ C1) ++ C2 ++ S) w5 := by have h := hL4'h.out; rw [hA20, List.nil_append] at h; rw [hC2]; exact h
                clear hC2 hA20
                have hfin : SymP key w blk off P A B S (.returned (.tuple #[])) w5 := by
                  refine ⟨rfl, C1 ++ C2, ?_, by simpa only [List.append_assoc] using hL5⟩
                  have h1 := hA'h.out
                  have h2 := hB'h.out
                  have h3 := ha'h.out
                  rw [← eA'h.out] at h1 h3 ⊢
                  rw [← eB'h.out] at h2 h3 ⊢
                  exact Mrg.join h1 h2 h3 hM1'h.out hM2 hp1'h.out hp2'h.out
                clear hL5 hM2
                have hfin'h := Lib.hid hfin
                clear hfin
                go_wp2
                refine bodyPost_end (results_none rfl _ _ _) rfl ?_
                exact hfin'h.out
            · have q2' : ¬ (s : Int) < (mid : Int) := by omega
              obtain ⟨C1, hC1⟩ : ∃ C1, C1 = A1 := ⟨_, rfl⟩
              have hB10 : B1 = [] := List.eq_nil_of_length_eq_zero (by have := l3'h.out; omega)
              have hM1 : Mrg key A1 B1 C1 := by rw [hC1, hB10]; exact Mrg.nil_right (by have h := hA'h.out; rw [← eA'h.out] at h; exact (List.pairwise_append.1 h).1)
              have hL4 : Lf w blk off (P ++ C1 ++ (A2 ++ B2) ++ S) wr := by have h := hL3'h.out; rw [hB10, List.append_nil] at h; rw [hC1]; exact h
              clear hC1 hB10
              have hM1'h := Lib.hid hM1
              have hL4'h := Lib.hid hL4
              clear hM1 hL4
              go_upto_region 43 with fail
              clear q1' q2' q1 q2
              have hlc : C1.length = mid - a := by have := hM1'h.out.perm.length_eq; rw [List.length_append] at this; have := l1'h.out; have := l3'h.out; omega
              have hlc'h := Lib.hid hlc
              clear hlc
              by_cases t1 : mid < en
              · have t1' : (mid : Int) < (en : Int) := by omega
                by_cases t2 : en < b
                · have t2' : (en : Int) < (b : Int) := by omega
                  have C := hIH'h.out mid en b (P ++ C1) A2 B2 S wr (by rw [List.length_append]; have := hlc'h.out; have := hP'h.out; omega) (by rw [List.length_append]; have := hlc'h.out; have := l2'h.out; have := hP'h.out; have := hen'h.out; omega) (by rw [List.length_append]; have := hlc'h.out; have := l2'h.out; have := l4'h.out; have := hP'h.out; have := hen'h.out; omega) (by omega) (by have := l2'h.out; have := hen'h.out; omega) (by have := l4'h.out; have := hen'h.out; omega) (by have h := hl'h.out; have h2 := hM1'h.out.perm.length_eq; rw [← eA'h.out, ← eB'h.out] at h; simp only [List.length_append] at h h2 ⊢; omega) (fun x hx => hA0'h.out x (by rw [← eA'h.out]; exact List.mem_append_right _ hx)) (fun x hx => hB0'h.out x (by rw [← eB'h.out]; exact List.mem_append_right _ hx)) (by have h := hA'h.out; rw [← eA'h.out] at h; exact (List.pairwise_append.1 h).2.1) (by have h := hB'h.out; rw [← eB'h.out] at h; exact (List.pairwise_append.1 h).2.1) (fun x hx y hy => ha'h.out x (by rw [← eA'h.out]; exact List.mem_append_right _ hx) y (by rw [← eB'h.out]; exact List.mem_append_right _ hy)) (by have h := hL4'h.out; simpa only [List.append_assoc] using h)
                  have C'h := Lib.hid C
                  clear C
                  go_wp2_with fail
                  refine C'h.out.mono ?_
                  rintro e w6 ⟨rfl, C2, hM2, hL5⟩
                  have hfin : SymP key w blk off P A B S (.returned (.tuple #[])) w6 := by
                    refine ⟨rfl, C1 ++ C2, ?_, by simpa only [List.append_assoc] using hL5⟩
                    have h1 := hA'h.out
                    have h2 := hB'h.out
                    have h3 := ha'h.out
                    rw [← eA'h.out] at h1 h3 ⊢
                    rw [← eB'h.out] at h2 h3 ⊢
                    exact Mrg.join h1 h2 h3 hM1'h.out hM2 hp1'h.out hp2'h.out
                  clear hL5 hM2
                  have hfin'h := Lib.hid hfin
                  clear hfin
                  go_wp2
                  refine bodyPost_end (results_none rfl _ _ _) rfl ?_
                  exact hfin'h.out
                · have t2' : ¬ (en : Int) < (b : Int) := by omega
                  obtain ⟨C2, hC2⟩ : ∃ C2, C2 = A2 := ⟨_, rfl⟩
                  have hB20 : B2 = [] := List.eq_nil_of_length_eq_zero (by have := l4'h.out; have := hen'h.out; omega)
                  have hM2 : Mrg key A2 B2 C2 := by rw [hC2, hB20]; exact Mrg.nil_right (by have h := hA'h.out; rw [← eA'h.out] at h; exact (List.pairwise_append.1 h).2.1)
                  have hL5 : Lf w blk off ((P ++ C1) ++ C2 ++ S) wr := by have h := hL4'h.out; rw [hB20, List.append_nil] at h; rw [hC2]; exact h
                  clear hC2 hB20
                  have hfin : SymP key w blk off P A B S (.returned (.tuple #[])) wr := by
                    refine ⟨rfl, C1 ++ C2, ?_, by simpa only [List.append_assoc] using hL5⟩
                    have h1 := hA'h.out
                    have h2 := hB'h.out
                    have h3 := ha'h.out
                    rw [← eA'h.out] at h1 h3 ⊢
                    rw [← eB'h.out] at h2 h3 ⊢
                    exact Mrg.join h1 h2 h3 hM1'h.out hM2 hp1'h.out hp2'h.out
                  clear hL5 hM2
                  have hfin'h := Lib.hid hfin
                  clear hfin
                  go_wp2
                  refine bodyPost_end (results_none rfl _ _ _) rfl ?_
                  exact hfin'h.out
              · have t1' : ¬ (mid : Int) < (en : Int) := by omega
                obtain ⟨C2, hC2⟩ : ∃ C2, C2 = B2 := ⟨_, rfl⟩
                have hA20 : A2 = [] := List.eq_nil_of_length_eq_zero (by have := l2'h.out; have := hen'h.out; omega)
                have hM2 : Mrg key A2 B2 C2 := by rw [hC2, hA20]; exact Mrg.nil_left (by have h := hB'h.out; rw [← eB'h.out] at h; exact (List.pairwise_append.1 h).2.1)
                have hL5 : Lf w blk off ((P ++ C1) ++ C2 ++ S) wr := by have h := hL4'h.out; rw [hA20, List.nil_append] at h; rw [hC2]; exact h
                clear hC2 hA20
                have hfin : SymP key w blk off P A B S (.returned (.tuple #[])) wr := by
                  refine ⟨rfl, C1 ++ C2, ?_, by simpa only [List.append_assoc] using hL5⟩
                  have h1 := hA'h.out
                  have h2 := hB'h.out
                  have h3 := ha'h.out
                  rw [← eA'h.out] at h1 h3 ⊢
                  rw [← eB'h.out] at h2 h3 ⊢
                  exact Mrg.join h1 h2 h3 hM1'h.out hM2 hp1'h.out hp2'h.out
                clear hL5 hM2
                have hfin'h := Lib.hid hfin
                clear hfin
                go_wp2
                refine bodyPost_end (results_none rfl _ _ _) rfl ?_
                exact hfin'h.out
          · have q1' : ¬ (a : Int) < (s : Int) := by omega
            obtain ⟨C1, hC1⟩ : ∃ C1, C1 = B1 := ⟨_, rfl⟩
            have hA10 : A1 = [] := List.eq_nil_of_length_eq_zero (by have := l1'h.out; omega)
            have hM1 : Mrg key A1 B1 C1 := by rw [hC1, hA10]; exact Mrg.nil_left (by have h := hB'h.out; rw [← eB'h.out] at h; exact (List.pairwise_append.1 h).1)
            have hL4 : Lf w blk off (P ++ C1 ++ (A2 ++ B2) ++ S) wr := by have h := hL3'h.out; rw [hA10, List.nil_append] at h; rw [hC1]; exact h
            clear hC1 hA10
            have hM1'h := Lib.hid hM1
            have hL4'h := Lib.hid hL4
            clear hM1 hL4
            go_upto_region 43 with fail
            clear q1' q1
            have hlc : C1.length = mid - a := by have := hM1'h.out.perm.length_eq; rw [List.length_append] at this; have := l1'h.out; have := l3'h.out; omega
            have hlc'h := Lib.hid hlc
            clear hlc
            by_cases t1 : mid < en
            · have t1' : (mid : Int) < (en : Int) := by omega
              by_cases t2 : en < b
              · have t2' : (en : Int) < (b : Int) := by omega
                have C := hIH'h.out mid en b (P ++ C1) A2 B2 S wr (by rw [List.length_append]; have := hlc'h.out; have := hP'h.out; omega) (by rw [List.length_append]; have := hlc'h.out; have := l2'h.out; have := hP'h.out; have := hen'h.out; omega) (by rw [List.length_append]; have := hlc'h.out; have := l2'h.out; have := l4'h.out; have := hP'h.out; have := hen'h.out; omega) (by omega) (by have := l2'h.out; have := hen'h.out; omega) (by have := l4'h.out; have := hen'h.out; omega) (by have h := hl'h.out; have h2 := hM1'h.out.perm.length_eq; rw [← eA'h.out, ← eB'h.out] at h; simp only [List.length_append] at h h2 ⊢; omega) (fun x hx => hA0'h.out x (by rw [← eA'h.out]; exact List.mem_append_right _ hx)) (fun x hx => hB0'h.out x (by rw [← eB'h.out]; exact List.mem_append_right _ hx)) (by have h := hA'h.out; rw [← eA'h.out] at h; exact (List.pairwise_append.1 h).2.1) (by have h := hB'h.out; rw [← eB'h.out] at h; exact (List.pairwise_append.1 h).2.1) (fun x hx y hy => ha'h.out x (by rw [← eA'h.out]; exact List.mem_append_right _ hx) y (by rw [← eB'h.out]; exact List.mem_append_right _ hy)) (by have h := hL4'h.out; simpa only [List.append_assoc] using h)
                have C'h := Lib.hid C
                clear C
                go_wp2_with fail
                refine C'h.out.mono ?_
                rintro e w6 ⟨rfl, C2, hM2, hL5⟩
                have hfin : SymP key w blk off P A B S (.returned (.tuple #[])) w6 := by
                  refine ⟨rfl, C1 ++ C2, ?_, by simpa only [List.append_assoc] using hL5⟩
                  have h1 := hA'h.out
                  have h2 := hB'h.out
                  have h3 := ha'h.out
                  rw [← eA'h.out] at h1 h3 ⊢
                  rw [← eB'h.out] at h2 h3 ⊢
                  exact Mrg.join h1 h2 h3 hM1'h.out hM2 hp1'h.out hp2'h.out
                clear hL5 hM2
                have hfin'h := Lib.hid hfin
                clear hfin
                go_wp2
                refine bodyPost_end (results_none rfl _ _ _) rfl ?_
                exact hfin'h.out
              · have t2' : ¬ (en : Int) < (b : Int) := by omega
                obtain ⟨C2, hC2⟩ : ∃ C2, C2 = A2 := ⟨_, rfl⟩
                have hB20 : B2 = [] := List.eq_nil_of_length_eq_zero (by have := l4'h.out; have := hen'h.out; omega)
                have hM2 : Mrg key A2 B2 C2 := by rw [hC2, hB20]; exact Mrg.nil_right (by have h := hA'h.out; rw [← eA'h.out] at h; exact (List.pairwise_append.1 h).2.1)
                have hL5 : Lf w blk off ((P ++ C1) ++ C2 ++ S) wr := by have h := hL4'h.out; rw [hB20, List.append_nil] at h; rw [hC2]; exact h
                clear hC2 hB20
                have hfin : SymP key w blk off P A B S (.returned (.tuple #[])) wr := by
                  refine ⟨rfl, C1 ++ C2, ?_, by simpa only [List.append_assoc] using hL5⟩
                  have h1 := hA'h.out
                  have h2 := hB'h.out
                  have h3 := ha'h.out
                  rw [← eA'h.out] at h1 h3 ⊢
                  rw [← eB'h.out] at h2 h3 ⊢
                  exact Mrg.join h1 h2 h3 hM1'h.out hM2 hp1'h.out hp2'h.out
                clear hL5 hM2
                have hfin'h := Lib.hid hfin
                clear hfin
                go_wp2
                refine bodyPost_end (results_none rfl _ _ _) rfl ?_
                exact hfin'h.out
            · have t1' : ¬ (mid : Int) < (en : Int) := by omega
              obtain ⟨C2, hC2⟩ : ∃ C2, C2 = B2 := ⟨_, rfl⟩
              have hA20 : A2 = [] := List.eq_nil_of_length_eq_zero (by have := l2'h.out; have := hen'h.out; omega)
              have hM2 : Mrg key A2 B2 C2 := by rw [hC2, hA20]; exact Mrg.nil_left (by have h := hB'h.out; rw [← eB'h.out] at h; exact (List.pairwise_append.1 h).2.1)
              have hL5 : Lf w blk off ((P ++ C1) ++ C2 ++ S) wr := by have h := hL4'h.out; rw [hA20, List.nil_append] at h; rw [hC2]; exact h
              clear hC2 hA20
              have hfin : SymP key w blk off P A B S (.returned (.tuple #[])) wr := by
                refine ⟨rfl, C1 ++ C2, ?_, by simpa only [List.append_assoc] using hL5⟩
                have h1 := hA'h.out
                have h2 := hB'h.out
                have h3 := ha'h.out
                rw [← eA'h.out] at h1 h3 ⊢
                rw [← eB'h.out] at h2 h3 ⊢
                exact Mrg.join h1 h2 h3 hM1'h.out hM2 hp1'h.out hp2'h.out
              clear hL5 hM2
              have hfin'h := Lib.hid hfin
              clear hfin
              go_wp2
              refine bodyPost_end (results_none rfl _ _ _) rfl ?_
              exact hfin'h.out
end Go.Proofs.YtogeohjeabbmaaaDoor

