/-
  The library's sort at rows of uint64: pdqsort, its loop and its calls of itself.
  What a round does is laid down once as a plain fact ('Turn'), with a letter for the round's values; the walk then reckons with letters alone.
-/
import Derived.Test.YtifofdciablljaaDoorSrtD
import Derived.Test.YtifofdciablljaaDoorSrtG
import Derived.Test.YtifofdciablljaaDoorSrtH
import Derived.Test.YtifofdciablljaaDoorSrtI
import Derived.Sort.Walk13a
import Derived.Sort.LotD4
import Derived.Sort.LotB
import Derived.Deep.Cut
set_option linter.unusedSimpArgs false
set_option linter.unusedVariables false
namespace Go.Proofs.YtifofdciablljaaDoor
open Go.RowKit Go.Sort

/-- All that one round may do, over the letter R for its values. -/
structure Turn (d : Array Nat) (a b limit : Nat) (wb wp : Bool) (R : Rd Nat) : Prop where
  s1 : R.d1.size = d.size
  s2 : R.d2.size = d.size
  s3 : R.pi.1.size = d.size
  first : wb = false → R.d1 = breakPatterns d a b ∧ R.lim = limit - 1
  keep : wb = true → R.d1 = d ∧ R.lim = limit
  lim : R.lim ≤ limit
  at' : a ≤ R.pivot ∧ R.pivot < b
  c1 : a ≤ R.c.1 ∧ R.c.1 < b
  choose : choosePivot lt64 R.d1 a b = R.c
  dec : R.c.2 = .decreasing → R.d2 = reverseRange R.d1 a b ∧ R.pivot = (b - 1) - (R.c.1 - a) ∧ R.hint = .increasing
  same : R.c.2 ≠ .decreasing → R.d2 = R.d1 ∧ R.pivot = R.c.1 ∧ R.hint = R.c.2
  part : (wb && wp && decide (R.hint = .increasing)) = true → partialInsertionSort lt64 R.d2 a b = R.pi
  leave : (wb && wp && decide (R.hint = .increasing)) = false → R.pi = (R.d2, false)
  done : ¬ b - a ≤ 12 → ¬ limit = 0 → R.pi.2 = true → pdq lt64 d a b limit wb wp = R.pi.1
  equal : ¬ b - a ≤ 12 → ¬ limit = 0 → R.pi.2 = false → (decide (a > 0) && !lt64 R.pi.1[a - 1]! R.pi.1[R.pivot]!) = true → ∀ mid d4, partitionEqual lt64 R.pi.1 a b R.pivot = (mid, d4) →
    a < mid ∧ mid ≤ b ∧ d4.size = d.size ∧ Go.Sort.Below lt64 mid b d4 ∧ pdq lt64 d a b limit wb wp = pdq lt64 d4 mid b R.lim wb wp
  split : ¬ b - a ≤ 12 → ¬ limit = 0 → R.pi.2 = false → (decide (a > 0) && !lt64 R.pi.1[a - 1]! R.pi.1[R.pivot]!) = false → ∀ mid ap d4, partition lt64 R.pi.1 a b R.pivot = (mid, ap, d4) →
    a ≤ mid ∧ mid < b ∧ d4.size = d.size ∧ Go.Sort.Below lt64 a mid d4 ∧ Go.Sort.Below lt64 (mid + 1) b d4 ∧
    (mid - a < b - mid → ∀ d5, pdq lt64 d4 a mid R.lim true true = d5 → d5.size = d.size ∧ Go.Sort.Below lt64 (mid + 1) b d5 ∧ pdq lt64 d a b limit wb wp = pdq lt64 d5 (mid + 1) b R.lim (decide (mid - a ≥ (b - a) / 8)) ap) ∧
    (¬ mid - a < b - mid → ∀ d5, pdq lt64 d4 (mid + 1) b R.lim true true = d5 → d5.size = d.size ∧ Go.Sort.Below lt64 a mid d5 ∧ pdq lt64 d a b limit wb wp = pdq lt64 d5 a mid R.lim (decide (b - mid ≥ (b - a) / 8)) ap)

theorem pdq_sorts64 : pdq_stmt lt64 := pdq_holds insertionSort_holds heapSort_holds partialInsertionSort_holds (partition_holds lt64) (partitionEqual_holds lt64) reverseRange_holds

/-- Every round has such values. -/
theorem turn64 (d : Array Nat) (a b limit : Nat) (wb wp : Bool) (hab : a < b) (hb : b ≤ d.size) (hB : Go.Sort.Below lt64 a b d) : ∃ R, Turn d a b limit wb wp R := by
  obtain ⟨s1, -, hc, s2, -, hp, s3, B3⟩ := rd_facts (limit := limit) (wb := wb) (wp := wp) swo64 partialInsertionSort_holds reverseRange_holds hab hb hB
  refine ⟨rd lt64 d a b limit wb wp, s1, s2, s3, ?_, ?_, rd_lim_le, hp, hc, rfl, rd_dec, rd_not, fun h => (rd_pi_yes h).symm, rd_pi_no, pdq_done, ?_, ?_⟩
  · rintro rfl; exact rd_false
  · rintro rfl; exact rd_true
  · intro h1 h2 h3 h4 mid d4 hx
    have h5 := h4
    simp only [Bool.and_eq_true, decide_eq_true_eq, Bool.not_eq_true'] at h5
    obtain ⟨r1, r2, r3, r4, -⟩ := round_eq swo64 (partitionEqual_holds lt64) h5.1 hp.1 hp.2 (show b ≤ (rd lt64 d a b limit wb wp).pi.1.size by rw [s3]; exact hb) B3 h5.2 hx
    exact ⟨r1, r2, r3.trans s3, r4, by rw [pdq_eq h1 h2 h3 h4 (by rw [hx]; exact ⟨r1, r2⟩), hx]⟩
  · intro h1 h2 h3 h4 mid ap d4 hx
    obtain ⟨r1, r2, r3, r4, r5, r6, r7⟩ := round_part swo64 (partition_holds lt64) hp.1 hp.2 (show b ≤ (rd lt64 d a b limit wb wp).pi.1.size by rw [s3]; exact hb) B3 hx
    refine ⟨r1, r2, r3.trans s3, r4, r5, ?_, ?_⟩
    · rintro h d5 rfl
      obtain ⟨pL, sL⟩ := pdq_sorts64 swo64 d4 a mid (rd lt64 d a b limit wb wp).lim true true r1 (by rw [r3, s3]; omega) r4
      exact ⟨by rw [pL.1, r3, s3], (r6 _ pL sL).1, by rw [pdq_left h1 h2 h3 h4 (by rw [hx]; exact ⟨r1, r2⟩) (by rw [hx]; exact h), hx]⟩
    · rintro h d5 rfl
      obtain ⟨pL, sL⟩ := pdq_sorts64 swo64 d4 (mid + 1) b (rd lt64 d a b limit wb wp).lim true true (by omega) (by rw [r3, s3]; omega) r5
      exact ⟨by rw [pL.1, r3, s3], (r7 _ pL sL).1, by rw [pdq_right h1 h2 h3 h4 (by rw [hx]; exact ⟨r1, r2⟩) (by rw [hx]; exact h), hx]⟩

theorem two_of {h : Hint} (e : hintCode h = 2) : h = .decreasing := by cases h <;> simp [hintCode] at e ⊢

/-- An eighth of the length, over int and over Nat. -/
theorem eighth64 {x y p q : Nat} (h1 : q ≤ p) (h2 : y ≤ x) : decide (((x : Int) - (y : Int)) / 8 ≤ (p : Int) - (q : Int)) = decide (p - q ≥ (x - y) / 8) :=
  decide_eq_decide.2 ⟨fun h => by omega, fun h => by omega⟩

set_option maxHeartbeats 6400000 in
set_option maxRecDepth 1000000 in
theorem pdq64 : ∀ (N blk off cap len a b limit : Nat) (d : Array Nat) (w : World), d.size = len → b - a < N → Holds e64 w blk off d → blk < w.heap.size → a ≤ b → b ≤ d.size → d.size < 4611686018427387904 → limit < 4611686018427387904 → Go.Sort.Below lt64 a b d →
    Calls Tryd.prog 59 #[.slice (some ⟨blk, off, none⟩) len cap, .int .i64 a, .int .i64 b, .int .i64 limit] w fun e w' =>
      e = .returned (.tuple #[]) ∧ At e64 w blk off (pdq lt64 d a b limit true true) w' := by
  intro N
  induction N with
  | zero => intro _ _ _ _ _ _ _ _ _ _ h; exact absurd h (Nat.not_lt_zero _)
  | succ N ih =>
    intro blk off cap len a b limit d w hlen hN hH hblk hab hb hsz hlimit hB
    obtain rfl := hlen
    have IH := Lib.hid ih
    clear ih
    have HH := Lib.hid hH
    have HS := Lib.hid (At.refl hH)
    clear hH
    go_enter Tryd.func59, Tryd.ntmps59
    go_wp2
    go_loopg [1, 2, 3, 8, 9] (b - a) (fun k v1 v2 v3 v8 v9 wr => ∃ (p q lim : Nat) (wb wp : Bool) (dk : Array Nat), v1 = .int .i64 p ∧ v2 = .int .i64 q ∧ v3 = .int .i64 lim ∧ v8 = .bool wb ∧ v9 = .bool wp ∧
      p ≤ q ∧ q ≤ d.size ∧ q - p ≤ k ∧ k ≤ b - a ∧ lim ≤ limit ∧ dk.size = d.size ∧ Go.Sort.Below lt64 p q dk ∧ At e64 w blk off dk wr ∧ Hid (pdq lt64 dk p q lim wb wp = pdq lt64 d a b limit true true))
    case atStart => exact ⟨a, b, limit, true, true, d, rfl, rfl, rfl, rfl, rfl, hab, hb, Nat.le_refl _, Nat.le_refl _, Nat.le_refl _, rfl, hB, HS.out, rfl⟩
    case round =>
      obtain ⟨p, q, lim, wb, wp, dk, rfl, rfl, rfl, rfl, rfl, hpq, hq, hk, hkN, hlim, hs, hBk, hA, hE⟩ := hrel
      have o : ∀ (d' : Array Nat) (W : World), At e64 w blk off d' W → d'.size = d.size → Holds e64 W blk off d' ∧ blk < W.heap.size := fun _ _ h h' => h.holds HH.out h' hblk
      have O := Lib.hid o
      clear o HS
      have HA := Lib.hid hA
      clear hA
      by_cases h12 : q - p ≤ 12
      · have h12z : (q : Int) - (p : Int) ≤ 12 := by omega
        go_wp2_with fail
        rw [← hs]
        refine (insertion64 blk off cap p q dk _ (O.out _ _ HA.out hs).1 hpq (by omega) (by omega)).mono ?_
        rintro e w1 ⟨rfl, h1⟩
        have H1 := Lib.hid h1
        clear h1
        rw [hs]
        go_wp2
        (try simp only [Exit.inBlock, Exit.then]); refine bodyPost_ret (results_none rfl _ _ _) rfl ?_
        rw [← hE.out, pdq_small h12]
        exact ⟨rfl, HA.out.step hblk (insertionSort_holds swo64 dk p q hpq (by omega)).1.1 H1.out⟩
      · have h12z : ¬ ((q : Int) - (p : Int) ≤ 12) := by omega
        by_cases hl0 : lim = 0
        · subst hl0
          go_wp2_with fail
          refine (heap64 blk off d.size cap dk hs p q _ (O.out _ _ HA.out hs).1 hpq (by omega) (by omega)).mono ?_
          rintro e w1 ⟨rfl, h1⟩
          have H1 := Lib.hid h1
          clear h1
          go_wp2
          (try simp only [Exit.inBlock, Exit.then]); refine bodyPost_ret (results_none rfl _ _ _) rfl ?_
          rw [← hE.out, pdq_heap h12 rfl]
          exact ⟨rfl, HA.out.step hblk (heapSort_holds swo64 dk p q hpq (by omega)).1.1 H1.out⟩
        · obtain ⟨R, T⟩ := turn64 dk p q lim wb wp (by omega) (by omega) hBk
          have HT := Lib.hid T
          have hc1 := HT.out.c1
          have hpv := HT.out.at'
          clear T hBk
          go_upto_if 35 with fail
          go_cut [3] from 19 (fun v3 wc => v3 = .int .i64 (R.lim : Int) ∧ At e64 w blk off R.d1 wc)
          case first =>
            cases wb
            · have e := Lib.hid (HT.out.first rfl)
              go_wp2_with fail
              rw [← hs]
              refine (breaks64 blk off cap p q dk _ (O.out _ _ HA.out hs).1 (O.out _ _ HA.out hs).2 hpq (by omega) (by omega)).mono ?_
              rintro e w1 ⟨rfl, h1⟩
              have H1 := Lib.hid h1
              clear h1
              rw [hs]
              go_wp2
              go_meet
              case rel =>
                refine ⟨?_, HA.out.stepG hblk HT.out.s1 (by rw [e.out.1]; exact H1.out)⟩
                show Value.int .i64 ((lim : Int) - 1) = Value.int .i64 (R.lim : Int)
                rw [e.out.2]
                congr 1
                omega
            · have e := Lib.hid (HT.out.keep rfl)
              go_wp2_with fail
              go_meet
              case rel => exact ⟨by rw [e.out.2], by rw [e.out.1]; exact HA.out⟩
          case rest =>
            obtain ⟨rfl, hA1⟩ := hcut
            have HA1 := Lib.hid hA1
            clear hA1
            have hz1 : R.d1.size = d.size := HT.out.s1.trans hs
            have cp : Calls Tryd.prog 74 #[.slice (some ⟨blk, off, none⟩) d.size cap, .int .i64 p, .int .i64 q] wc fun e w' =>
                e = .returned (.tuple #[.int .i64 R.c.1, .int .i64 (hintCode R.c.2)]) ∧ ∃ n os, w' = grow (Sort.ahead wc n) os := by
              have h := pivot64 blk off cap p q R.d1 wc (O.out _ _ HA1.out hz1).1 (O.out _ _ HA1.out hz1).2 (by omega) (by omega) (by omega)
              rw [HT.out.choose, hz1] at h
              exact h
            have CP := Lib.hid cp
            clear cp
            go_upto_if 50 with (go_at_call 74; refine CP.out.mono ?_; rintro e w2 ⟨rfl, hw2⟩)
            have HA2 := Lib.hid (HA1.out.same HH.out hz1 hblk hw2)
            clear hw2 CP HA1
            go_cut [11, 12] from 19 (fun v11 v12 wc => v11 = .int .i64 (R.pivot : Int) ∧ v12 = .int .i64 (hintCode R.hint) ∧ At e64 w blk off R.d2 wc)
            case first =>
              by_cases hh : R.c.2 = .decreasing
              · have hcode : hintCode R.c.2 = 2 := by rw [hh]; rfl
                have e := Lib.hid (HT.out.dec hh)
                go_wp2_with fail
                rw [← hz1]
                refine (reverse64 blk off cap p q R.d1 _ (O.out _ _ HA2.out hz1).1 hpq (by omega) (by omega)).mono ?_
                rintro e w3 ⟨rfl, h3⟩
                have H3 := Lib.hid h3
                clear h3
                rw [hz1]
                go_wp2
                go_meet
                case rel =>
                  refine ⟨?_, by rw [e.out.2.2]; rfl, by rw [e.out.1]; exact HA2.out.step hblk (by rw [← e.out.1, HT.out.s2, HT.out.s1]) H3.out⟩
                  rw [e.out.2.1]
                  congr 1
                  omega
              · have hcode : ¬ (hintCode R.c.2 = 2) := fun h => hh (two_of h)
                have e := Lib.hid (HT.out.same hh)
                go_wp2_with fail
                go_meet
                case rel => exact ⟨by rw [e.out.2.1], by rw [e.out.2.2], by rw [e.out.1]; exact HA2.out⟩
            case rest =>
              obtain ⟨rfl, rfl, hA3⟩ := hcut
              have HA3 := Lib.hid hA3
              clear hA3 HA2
              have hz2 : R.d2.size = d.size := HT.out.s2.trans hs
              obtain ⟨go, hgo⟩ : ∃ go : Bool, go = (wb && wp && decide (R.hint = .increasing)) := ⟨_, rfl⟩
              have HG := Lib.hid hgo
              clear hgo
              go_upto_region 15 with fail
              go_cut [12, 68] from 19 (fun v12 v68 wx => v12 = .int .i64 (hintCode R.hint) ∧ v68 = .bool go ∧ wx = wc)
              case first =>
                cases wb <;> cases wp <;> cases hh3 : R.hint <;>
                  (have hcode3 := congrArg hintCode hh3
                   simp only [hintCode] at hcode3
                   have HH3 := Lib.hid hh3
                   clear hh3
                   go_wp2_with fail
                   go_meet
                   exact ⟨by simp [HH3.out, hintCode], by simp [HG.out, HH3.out, hintCode], rfl⟩)
              case rest =>
                obtain ⟨rfl, rfl, rfl⟩ := hcut
                go_upto_if 68 with fail
                go_cut [] from 19 (fun wx => R.pi.2 = false ∧ At e64 w blk off R.pi.1 wx)
                case first =>
                  cases go
                  · have e := Lib.hid (HT.out.leave HG.out.symm)
                    go_wp2_with fail
                    go_meet
                    case rel => exact ⟨by rw [e.out], by rw [e.out]; exact HA3.out⟩
                  · have e := Lib.hid (HT.out.part HG.out.symm)
                    have cs : Calls Tryd.prog 76 #[.slice (some ⟨blk, off, none⟩) d.size cap, .int .i64 p, .int .i64 q] wc fun e w' =>
                        e = .returned (.bool R.pi.2) ∧ Left wc blk off R.pi.1 w' := by
                      have h := partial64 blk off cap p q R.d2 wc (O.out _ _ HA3.out hz2).1 (by omega) (by omega) (by omega)
                      rw [e.out, hz2] at h
                      exact h
                    cases hp : R.pi.2
                    · have HP := Lib.hid hp
                      rw [hp] at cs
                      have CS := Lib.hid cs
                      clear cs hp
                      go_wp2_with (go_at_call 76; refine CS.out.mono ?_; rintro e w4 ⟨rfl, hw4⟩)
                      go_meet
                      case rel => exact ⟨HP.out, HA3.out.step hblk (by rw [HT.out.s3, HT.out.s2]) hw4⟩
                    · have HP := Lib.hid hp
                      rw [hp] at cs
                      have CS := Lib.hid cs
                      clear cs hp
                      go_wp2_with (go_at_call 76; refine CS.out.mono ?_; rintro e w4 ⟨rfl, hw4⟩)
                      (try simp only [Exit.inBlock, Exit.then]); refine bodyPost_ret (results_none rfl _ _ _) rfl ?_
                      rw [← hE.out, HT.out.done h12 hl0 HP.out]
                      exact ⟨rfl, HA3.out.step hblk (by rw [HT.out.s3, HT.out.s2]) hw4⟩
                case rest =>
                  obtain ⟨hp2, hA5⟩ := hcut
                  have HP := Lib.hid hp2
                  have HA5 := Lib.hid hA5
                  clear hp2 hA5 HA3 HG
                  have hz3 : R.pi.1.size = d.size := HT.out.s3.trans hs
                  obtain ⟨G, hG⟩ : ∃ G : Nat → Nat, ∀ t, G t = R.pi.1[t]! := ⟨fun t => R.pi.1[t]!, fun _ => rfl⟩
                  have hc : ∀ t, t < d.size → wc.cell? ⟨blk, off + t, none⟩ = some (.int .u64 (G t : Nat)) := fun t ht => by
                    rw [hG]; exact ((O.out _ _ HA5.out hz3).1 t (by omega)).1
                  have hf : ∀ t, t < d.size → wc.frozen? ⟨blk, off + t, none⟩ = false := fun t ht => ((O.out _ _ HA5.out hz3).1 t (by omega)).2
                  have HGG := Lib.hid hG
                  clear hG
                  obtain ⟨eqs, heqs⟩ : ∃ eqs : Bool, eqs = (decide (p > 0) && !lt64 R.pi.1[p - 1]! R.pi.1[R.pivot]!) := ⟨_, rfl⟩
                  have HQ := Lib.hid heqs
                  clear heqs
                  go_upto_region 17 with fail
                  go_cut [87] from 19 (fun v87 wc => v87 = .bool eqs ∧ At e64 w blk off R.pi.1 wc)
                  case first =>
                    rcases Nat.eq_zero_or_pos p with ha0 | ha0
                    · have ha0z : decide ((p : Int) > 0) = false := decide_eq_false (by omega)
                      go_big_quiet (first | (go_at_call 52; refine Calls.quiet_of_same (less64 _ _ _)))
                      go_wp2_with fail
                      go_meet
                      case rel => exact ⟨by rw [HQ.out]; simp [ha0], HA5.out.ahead nq⟩
                    · have ha0z : (p : Int) > 0 := by omega
                      go_big_quiet (first | (go_at_call 52; refine Calls.quiet_of_same (less64 _ _ _)))
                      go_wp2_with fail
                      go_meet
                      case rel => exact ⟨by rw [HQ.out, ← HGG.out, ← HGG.out]; simp [ha0], HA5.out.ahead nq⟩
                  case rest =>
                    obtain ⟨rfl, hA6⟩ := hcut
                    have HA6 := Lib.hid hA6
                    clear hA6 HA5 hc hf
                    cases eqs
                    · obtain ⟨mid, ap, d4, hx⟩ : ∃ mid ap d4, partition lt64 R.pi.1 p q R.pivot = (mid, ap, d4) := ⟨_, _, _, rfl⟩
                      obtain ⟨r1, r2, r3, r4, r5, r6, r7⟩ := HT.out.split h12 hl0 HP.out HQ.out.symm mid ap d4 hx
                      have cq : Calls Tryd.prog 78 #[.slice (some ⟨blk, off, none⟩) d.size cap, .int .i64 p, .int .i64 q, .int .i64 R.pivot] wc fun e w' =>
                          e = .returned (.tuple #[.int .i64 mid, .bool ap]) ∧ Left wc blk off d4 w' := by
                        have h := part64 blk off cap p q R.pivot R.pi.1 wc (O.out _ _ HA6.out hz3).1 hpv.1 hpv.2 (by omega) (by omega)
                        rw [hx, hz3] at h
                        exact h
                      have CQ := Lib.hid cq
                      have R4 := Lib.hid r4
                      have R5 := Lib.hid r5
                      have R6 := Lib.hid r6
                      have R7 := Lib.hid r7
                      clear cq hx r4 r5 r6 r7
                      have hz4 : d4.size = d.size := r3.trans hs
                      go_upto_if 113 with (go_at_call 78; refine CQ.out.mono ?_; rintro e w7 ⟨rfl, hw7⟩)
                      have HA7 := Lib.hid (HA6.out.step hblk (r3.trans HT.out.s3.symm) hw7)
                      clear hw7 CQ HA6
                      by_cases h4 : mid - p < q - mid
                      · have h4z : (mid : Int) - (p : Int) < (q : Int) - (mid : Int) := by omega
                        obtain ⟨d5, hd5⟩ : ∃ d5, pdq lt64 d4 p mid R.lim true true = d5 := ⟨_, rfl⟩
                        obtain ⟨t1, t2, t3⟩ := R6.out h4 d5 hd5
                        have ci := IH.out blk off cap d.size p mid R.lim d4 w7 hz4 (by omega) (O.out _ _ HA7.out hz4).1 (O.out _ _ HA7.out hz4).2 (by omega) (by omega) (by omega) (Nat.lt_of_le_of_lt (Nat.le_trans HT.out.lim hlim) hlimit) R4.out
                        rw [hd5] at ci
                        have CI := Lib.hid ci
                        have T2 := Lib.hid t2
                        have T3 := Lib.hid t3
                        clear ci hd5 t2 t3
                        go_wp2_with (go_at_call 59; refine CI.out.mono ?_; rintro e w8 ⟨rfl, hw8⟩)
                        go_roundg (q - (mid + 1))
                        case measure => omega
                        case rel =>
                          exact ⟨mid + 1, q, R.lim, decide (mid - p ≥ (q - p) / 8), ap, d5, by simp, rfl, rfl, congrArg Value.bool (eighth64 (by omega) (by omega)), rfl, by omega, by omega, Nat.le_refl _, by omega, Nat.le_trans HT.out.lim hlim, t1.trans hs, T2.out, HA7.out.stepG hblk (t1.trans r3.symm) hw8, T3.out.symm.trans hE.out⟩
                      · have h4z : ¬ ((mid : Int) - (p : Int) < (q : Int) - (mid : Int)) := by omega
                        obtain ⟨d5, hd5⟩ : ∃ d5, pdq lt64 d4 (mid + 1) q R.lim true true = d5 := ⟨_, rfl⟩
                        obtain ⟨t1, t2, t3⟩ := R7.out h4 d5 hd5
                        have ci := IH.out blk off cap d.size (mid + 1) q R.lim d4 w7 hz4 (by omega) (O.out _ _ HA7.out hz4).1 (O.out _ _ HA7.out hz4).2 (by omega) (by omega) (by omega) (Nat.lt_of_le_of_lt (Nat.le_trans HT.out.lim hlim) hlimit) R5.out
                        rw [hd5] at ci
                        have CI := Lib.hid ci
                        have T2 := Lib.hid t2
                        have T3 := Lib.hid t3
                        clear ci hd5 t2 t3
                        go_wp2_with (go_at_call 59; refine CI.out.mono ?_; rintro e w8 ⟨rfl, hw8⟩)
                        go_roundg (mid - p)
                        case measure => omega
                        case rel =>
                          exact ⟨p, mid, R.lim, decide (q - mid ≥ (q - p) / 8), ap, d5, rfl, rfl, rfl, congrArg Value.bool (eighth64 (by omega) (by omega)), rfl, by omega, by omega, Nat.le_refl _, by omega, Nat.le_trans HT.out.lim hlim, t1.trans hs, T2.out, HA7.out.stepG hblk (t1.trans r3.symm) hw8, T3.out.symm.trans hE.out⟩
                    · obtain ⟨mid, d4, hx⟩ : ∃ mid d4, partitionEqual lt64 R.pi.1 p q R.pivot = (mid, d4) := ⟨_, _, rfl⟩
                      obtain ⟨r1, r2, r3, r4, r5⟩ := HT.out.equal h12 hl0 HP.out HQ.out.symm mid d4 hx
                      have cq : Calls Tryd.prog 77 #[.slice (some ⟨blk, off, none⟩) d.size cap, .int .i64 p, .int .i64 q, .int .i64 R.pivot] wc fun e w' =>
                          e = .returned (.int .i64 mid) ∧ Left wc blk off d4 w' := by
                        have h := parteq64 blk off cap p q R.pivot R.pi.1 wc (O.out _ _ HA6.out hz3).1 hpv.1 hpv.2 (by omega) (by omega)
                        rw [hx, hz3] at h
                        exact h
                      have CQ := Lib.hid cq
                      have R4 := Lib.hid r4
                      have R5 := Lib.hid r5
                      clear cq hx r4 r5
                      go_wp2_with (go_at_call 77; refine CQ.out.mono ?_; rintro e w7 ⟨rfl, hw7⟩)
                      go_roundg (q - mid)
                      case measure => omega
                      case rel =>
                        exact ⟨mid, q, R.lim, wb, wp, d4, rfl, rfl, rfl, rfl, rfl, r2, hq, Nat.le_refl _, by omega, Nat.le_trans HT.out.lim hlim, r3.trans hs, R4.out, HA6.out.step hblk (r3.trans HT.out.s3.symm) hw7, R5.out.symm.trans hE.out⟩
end Go.Proofs.YtifofdciablljaaDoor
