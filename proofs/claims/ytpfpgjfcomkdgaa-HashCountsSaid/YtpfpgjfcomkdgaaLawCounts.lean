/-
  HashCounts, walked.
-/
import Derived.Test.YtpfpgjfcomkdgaaCountsPure
import Derived.Test.YtpfpgjfcomkdgaaSrtL
import Derived.Deep.RegionHeld3
set_option linter.unusedSimpArgs false
set_option linter.unusedVariables false
namespace Go.Proofs.Ytpfpgjfcomkdgaa
open Go.RowKit Go.Maps

theorem once_len_le (ks : List Nat) : (onceL ks).length ≤ ks.length := by
  rw [← msize_log]
  have : ∀ l : List (Nat × Int), msize l ≤ l.length := by
    intro l
    induction l with
    | nil => exact Nat.le_refl _
    | cons p r ih => obtain ⟨k, v⟩ := p; unfold msize; split <;> simp <;> omega
  exact Nat.le_trans (this _) (by rw [length_log]; exact Nat.le_refl _)

set_option maxRecDepth 100000 in
set_option maxHeartbeats 2000000 in
theorem walk_HashCounts (a0 : Int) (sp : Option Addr) (n cap : Nat) (zs : List Int) (many : Int) (w : World) (w0 : (Lit.int .u64 a0).wf = true) (hc : sp = none → cap = 0) (hcap : n ≤ cap) (h : Sl w sp n (zs.map (Value.int .u64))) (hz : ∀ z ∈ zs, (Lit.int .u64 z).wf = true) (hw2 : (Lit.int .i64 many).wf = true) :
    Calls Try.prog 8 #[.int .u64 a0, .slice sp n cap, .int .i64 many] w fun e w' => e = .returned (.bool true) ∧ Below w.heap.size w w' := by
  obtain ⟨seed, rfl, hs⟩ := nat_of_u64 w0
  rw [u64s_nats hz] at h
  have hk := nats_w64 hz
  have hlen := len_nats h
  have hmax := h.2.1
  unfold maxLen at hmax
  clear w0 hz hw2
  generalize nats zs = keys at *
  obtain ⟨m, hm⟩ : ∃ m : Nat, (min (n : Int) 30).toNat = m := ⟨_, rfl⟩
  have hm30 : m ≤ 30 := by omega
  have hS0 : Sl w sp m (u64s (keys.take m)) := by have := h.take m (by omega); rwa [u64s_take] at this
  have hk64 : W64 (keys.take m) := fun k hk' => hk k (List.mem_of_mem_take hk')
  have hmn : (m : Int) = min (n : Int) 30 := by omega
  clear h hk hlen
  generalize keys.take m = ks at *
  have hs'h := Lib.hid hs
  have hc'h := Lib.hid hc
  have hS0'h := Lib.hid hS0
  have hk64'h := Lib.hid hk64
  have hm'h := Lib.hid hm
  clear hs hc hS0 hk64 hm
  go_enter Try.func8, Try.ntmps8
  go_wp2_with fail
  refine (wakes_any _).mono ?_
  rintro e w1 ⟨rfl, hB1⟩
  have hB1'h := Lib.hid hB1
  clear hB1
  go_wp2_with fail
  rw [hm'h.out]
  refine (clone64_any sp m cap (u64s ks) w1 (by omega) (oneCell_u64s _) hc'h.out (hS0'h.out.below hB1'h.out)).mono ?_
  rintro e w2 ⟨kp, kc, rfl, hB2, hrow2⟩
  clear hmn hcap hmax hm'h
  have hSk := Sl.of_row hrow2 (by unfold maxLen; omega)
  have hnl := row_nil' hrow2
  have hz2 := hB2.size
  have hBw2 := hB1'h.out.trans (hB2.mono hB1'h.out.size)
  have hz12 := hB1'h.out.size
  clear hB2 hrow2
  have hSk'h := Lib.hid hSk
  have hnl'h := Lib.hid hnl
  have hBw2'h := Lib.hid hBw2
  have hz2'h := Lib.hid hz2
  have hz12'h := Lib.hid hz12
  clear hSk hnl hBw2 hz2 hz12
  go_wp2_with fail
  refine (clone64_any kp m kc (u64s ks) w2 (by omega) (oneCell_u64s _) hnl'h.out hSk'h.out).mono ?_
  rintro e w3 ⟨op, oc, rfl, hB3, hrow3⟩
  have hB3'h := Lib.hid hB3
  have hrow3'h := Lib.hid hrow3
  clear hB3 hrow3
  go_wp2_with fail
  refine (sort_own64 w2.heap.size m oc op ks w3 hrow3'h.out (by omega)).mono ?_
  rintro e w4 ⟨rfl, hB4, hrow4⟩
  have hB24 := hB3'h.out.trans hB4
  clear hB4
  have hB24'h := Lib.hid hB24
  have hrow4'h := Lib.hid hrow4
  clear hB24 hrow4
  go_wp2_with fail
  refine (compact_own64 w2.heap.size m oc op ks w4 hrow4'h.out (by omega)).mono ?_
  rintro e w5 ⟨rfl, hB5⟩
  have hB25 := hB24'h.out.trans hB5
  have hSk5 := hSk'h.out.below hB25
  have hBw5 := hBw2'h.out.trans (hB25.mono (Nat.le_trans hz12'h.out hz2'h.out))
  have hkl : ks.length = m := by have := hSk5.1; rw [u64s_length] at this; exact this.symm
  obtain ⟨L, hL⟩ : ∃ L, L = (onceL ks).length := ⟨_, rfl⟩
  rw [← hL]
  clear hB5 hB25
  have hSk5'h := Lib.hid hSk5
  have hBw5'h := Lib.hid hBw5
  have hL'h := Lib.hid hL
  clear hSk5 hBw5 hL
  clear hSk'h hBw2'h hz2'h hz12'h hB3'h hrow3'h hB24'h hrow4'h hnl'h hc'h hS0'h
  rcases Int.lt_or_le many 1 with hlow | hlow
  · have hlow'h := Lib.hid hlow
    clear hlow
    go_wp2_with fail
    refine (deepest_no seed many _ _ hlow'h.out).mono ?_
    rintro e w6 ⟨rfl, hB6⟩
    have hlow := hlow'h.out
    have hB6'h := Lib.hid hB6
    clear hB6
    go_wp2
    go_ret
    exact ⟨rfl, hBw5'h.out.trans (hB6'h.out.mono hBw5'h.out.size)⟩
  · have hlow'h := Lib.hid hlow
    clear hlow
    go_wp2_with fail
    refine (deepest_yes seed m kc many kp ks _ hs'h.out hk64'h.out hlow'h.out hSk5'h.out (by omega)).mono ?_
    rintro e w6 ⟨d, rfl, hd64, hn1, hn2, hB6⟩
    have C := crowd_yes seed d m kc kp ks w6 hs'h.out hk64'h.out hd64 (hSk5'h.out.below hB6) (by omega)
    have hBw6 := hBw5'h.out.trans (hB6.mono hBw5'h.out.size)
    have hSk6 := hSk5'h.out.below hB6
    clear hB6
    have hn1'h := Lib.hid hn1
    have hn2'h := Lib.hid hn2
    have C'h := Lib.hid C
    have hBw6'h := Lib.hid hBw6
    have hSk6'h := Lib.hid hSk6
    clear hn1 hn2 C hBw6 hSk6
    go_wp2_with fail
    refine C'h.out.mono ?_
    rintro e w7 ⟨mb, rfl, hmb, hM, hB7⟩
    clear C'h
    obtain ⟨ps, hps⟩ : ∃ ps, ps = prefixes seed ks d := ⟨_, rfl⟩
    rw [← hps] at hM
    have hk64' := hM.2
    have hpl : ps.length = L := by rw [hps, prefixes_length, hL'h.out]
    have hLm : L ≤ m := by rw [hL'h.out, ← hkl]; exact once_len_le ks
    have hB7' := hBw6'h.out.trans (hB7.mono hBw6'h.out.size)
    have hSk7 := hSk6'h.out.below hB7
    clear hB7
    have hps'h := Lib.hid hps
    have hk64''h := Lib.hid hk64'
    have hB7''h := Lib.hid hB7'
    have hSk7'h := Lib.hid hSk7
    clear hps hk64' hB7' hSk7
    clear hBw6'h hSk6'h hBw5'h hSk5'h
    go_wp2_with (first | (at_range; refine wpList_range_own _ rfl _ 42 rfl 22 3 mapI_keyed Try.underlying42 _ mb (logOf ps).length (mapD (logOf ps)) rfl hM.1 ?_; intro w0 hrg0 hg0 hs0))
    have hb70 : Below w7.heap.size w7 w0 := ⟨hg0.os, hg0.tape, hg0.output, hg0.size, fun i hi => hg0.block i hi (by simp)⟩
    have hmlt := hM.lt
    clear hg0 hM
    go_frame
    go_loopg [13, 14] (Maps.size (mapD (logOf ps))) (fun q va vm wr => ∃ (left : Lit → Bool) (al mo : Nat), wr.ranges (H := Unit) Try.prog 22 (plainElem Try.prog 3) mb w7.heap.size (logOf ps).length (mapD (logOf ps)) left q ∧
      va = .int .i64 (al : Int) ∧ vm = .int .i64 (mo : Int) ∧ Seen ps left al mo ∧ Below w7.heap.size w7 wr)
    case atStart => exact ⟨_, 0, 0, hrg0, rfl, rfl, Seen.start hk64''h.out, hb70⟩
    case round =>
      obtain ⟨left, al, mo, hrg, rfl, rfl, hseen, hbr⟩ := hrel
      obtain ⟨go, rfl⟩ : ∃ go : Nat, go = gk := ⟨_, rfl⟩
      have hbd := hseen.bound
      have hrg'h := Lib.hid hrg
      have hseen'h := Lib.hid hseen
      have hbr'h := Lib.hid hbr
      have hpl'h := Lib.hid hpl
      clear hrg hseen hbr hpl
      clear hrg0 hb70
      go_wp2_with (first | (at_next; refine wpList_next_ranges_ii _ rfl _ rfl 22 3 .u64 .i64 mapI_keyed Try.underlying22 Try.underlying3 mb w7.heap.size (logOf ps).length _ _ _ rfl hrg'h.out ?_ ?_))
      · intro hc0 hl0
        obtain rfl : al = L := by rw [hseen'h.out.all hl0, hpl'h.out]
        have hov : ¬ (many < (mo : Int)) := by
          have h1 := hseen'h.out.over hl0 hlow'h.out
          rw [hps'h.out] at h1
          have h2 := hn1'h.out
          unfold overN at h2
          rw [h2] at h1
          simpa using h1.symm
        have hov2 : (mo : Int) ≤ many := by omega
        have hBr := hB7''h.out.trans (hbr'h.out.mono hB7''h.out.size)
        have hSkr := hSk7'h.out.below hbr'h.out
        clear hbr'h hB7''h hSk7'h hseen'h hrg'h
        have hBr'h := Lib.hid hBr
        have hSkr'h := Lib.hid hSkr
        have hl0'h := Lib.hid hl0
        clear hBr hSkr hl0
        rcases Nat.eq_zero_or_pos d with rfl | hdp
        · have hle := over_none hs'h.out hlow'h.out hn1'h.out
          rw [← hL'h.out] at hle
          go_wp2
          go_ret
          exact ⟨ret_bool (by simp), hBr'h.out⟩
        · obtain ⟨d1, rfl⟩ : ∃ d1, d = d1 + 1 := ⟨d - 1, by omega⟩
          have C := crowd_yes seed d1 m kc kp ks wr hs'h.out hk64'h.out (by omega) hSkr'h.out (by omega)
          have hn3 := hn2'h.out d1 (by omega)
          have C'h := Lib.hid C
          have hn3'h := Lib.hid hn3
          clear C hn3
          clear hn2'h hn1'h hps'h hk64''h hpl'h
          go_wp2_with fail
          refine C'h.out.mono ?_
          rintro e w9 ⟨mb2, rfl, hmb2, hM2, hB9⟩
          clear C'h
          obtain ⟨pt, hpt⟩ : ∃ pt, pt = prefixes seed ks d1 := ⟨_, rfl⟩
          rw [← hpt] at hM2
          have hkp := hM2.2
          have hpl2 : pt.length ≤ 30 := by rw [hpt, prefixes_length, ← hL'h.out]; omega
          have hB10 := hBr'h.out.trans (hB9.mono hBr'h.out.size)
          clear hB9
          have hpt'h := Lib.hid hpt
          have hkp'h := Lib.hid hkp
          have hB10'h := Lib.hid hB10
          clear hpt hkp hB10
          go_wp2_with (first | (at_range; refine wpList_range_own _ rfl _ 42 rfl 22 3 mapI_keyed Try.underlying42 _ mb2 (logOf pt).length (mapD (logOf pt)) rfl hM2.1 ?_; intro v0 hrg0 hg0 hs0))
          have hb90 : Below w9.heap.size w9 v0 := ⟨hg0.os, hg0.tape, hg0.output, hg0.size, fun i hi => hg0.block i hi (by simp)⟩
          have hmlt2 := hM2.lt
          clear hg0 hM2
          go_frame
          go_loopg [14] (Maps.size (mapD (logOf pt))) (fun q vm wr => ∃ (left : Lit → Bool) (al mo : Nat), wr.ranges (H := Unit) Try.prog 22 (plainElem Try.prog 3) mb2 w9.heap.size (logOf pt).length (mapD (logOf pt)) left q ∧
            vm = .int .i64 (mo : Int) ∧ Seen pt left al mo ∧ Below w9.heap.size w9 wr)
          case atStart => exact ⟨_, 0, 0, hrg0, rfl, Seen.start hkp'h.out, hb90⟩
          case round =>
            obtain ⟨lefu, am, mp, hrgu, rfl, hseenu, hbru⟩ := hrel
            obtain ⟨gp, rfl⟩ : ∃ gp : Nat, gp = gk := ⟨_, rfl⟩
            have hbdu := hseenu.bound
            have hrgu'h := Lib.hid hrgu
            have hseenu'h := Lib.hid hseenu
            have hbru'h := Lib.hid hbru
            have hpl2'h := Lib.hid hpl2
            clear hrgu hseenu hbru hpl2
            clear hrg0 hb90
            go_wp2_with (first | (at_next; refine wpList_next_ranges_ii _ rfl _ rfl 22 3 .u64 .i64 mapI_keyed Try.underlying22 Try.underlying3 mb2 w9.heap.size (logOf pt).length _ _ _ rfl hrgu'h.out ?_ ?_))
            · intro hc0 hl0
              have hov : many < (mp : Int) := by
                have h1 := hseenu'h.out.over hl0 hlow'h.out
                rw [hpt'h.out] at h1
                have h2 := hn3'h.out
                unfold overN at h2
                rw [h2] at h1
                simpa using h1.symm
              clear hl0 hc0
              go_wp2
              go_ret
              exact ⟨rfl, hB10'h.out.trans (hbru'h.out.mono hB10'h.out.size)⟩
            · intro x c w10 cnt1 hwx hwc hlx hat hrg1 hlt hg1 hs1 hen
              obtain ⟨xn, rfl, hx64⟩ := nat_of_u64 hwx
              obtain ⟨cx, hcx⟩ : ∃ cx : Nat, cx = pt.count xn := ⟨_, rfl⟩
              obtain rfl : c = (cx : Int) := by
                have h1 := hat (.lit (.int .i64 0))
                rw [atKey_mapD _ xn hkp'h.out] at h1
                injection h1 with h1; injection h1 with _ h1; rw [h1.symm, mget_log, hcx]
              have hcl : cx ≤ pt.length := by rw [hcx]; exact List.count_le_length
              have ss := hseenu'h.out.step (left' := fun z => lefu z && !z.sameKey (Lit.int .u64 (xn : Int))) hlx (by simp [WideAt.sameKey_self (show WideAt.IsKeyLit (Lit.int .u64 (xn : Int)) from trivial)]) (fun k hk => by simp [sameKey_ne (lit_ne (Ne.symm hk))])
              rw [← hcx] at ss
              have hbr1 : Below w9.heap.size w9 w10 := hbru'h.out.trans ⟨hg1.os, hg1.tape, hg1.output, hg1.size, fun i hi => hg1.block i (Nat.lt_of_lt_of_le hi hbru'h.out.size) (by intro e; injection e with e; omega)⟩
              have hp30 := hpl2'h.out
              clear hg1 hat hwc hwx hcx hlx
              have ss'h := Lib.hid ss
              have hrg1'h := Lib.hid hrg1
              have hbr1'h := Lib.hid hbr1
              clear ss hrg1 hbr1
              rcases Nat.le_total mp cx with hmx | hmx
              all_goals
                go_wp2
                go_roundg cnt1
                case measure => exact hlt
                case rel => exact ⟨_, am + cx, max mp cx, hrg1'h.out, by congr 1; omega, ss'h.out, hbr1'h.out⟩
      · intro x c w8 cnt1 hwx hwc hlx hat hrg1 hlt hg1 hs1 hen
        obtain ⟨xn, rfl, hx64⟩ := nat_of_u64 hwx
        obtain ⟨cx, hcx⟩ : ∃ cx : Nat, cx = ps.count xn := ⟨_, rfl⟩
        obtain rfl : c = (cx : Int) := by
          have h1 := hat (.lit (.int .i64 0))
          rw [atKey_mapD _ xn hk64''h.out] at h1
          injection h1 with h1; injection h1 with _ h1; rw [h1.symm, mget_log, hcx]
        have hcl : cx ≤ ps.length := by rw [hcx]; exact List.count_le_length
        have ss := hseen'h.out.step (left' := fun z => left z && !z.sameKey (Lit.int .u64 (xn : Int))) hlx (by simp [WideAt.sameKey_self (show WideAt.IsKeyLit (Lit.int .u64 (xn : Int)) from trivial)]) (fun k hk => by simp [sameKey_ne (lit_ne (Ne.symm hk))])
        rw [← hcx] at ss
        have hbr1 : Below w7.heap.size w7 w8 := hbr'h.out.trans ⟨hg1.os, hg1.tape, hg1.output, hg1.size, fun i hi => hg1.block i (Nat.lt_of_lt_of_le hi hbr'h.out.size) (by intro e; injection e with e; omega)⟩
        have hp30 := hpl'h.out
        clear hg1 hat hwc hwx hcx hlx
        have ss'h := Lib.hid ss
        have hrg1'h := Lib.hid hrg1
        have hbr1'h := Lib.hid hbr1
        clear ss hrg1 hbr1
        rcases Nat.le_total mo cx with hmx | hmx
        all_goals
          go_wp2
          go_roundg cnt1
          case measure => exact hlt
          case rel => exact ⟨_, al + cx, max mo cx, hrg1'h.out, by go_num, by congr 1; omega, ss'h.out, hbr1'h.out⟩
end Go.Proofs.Ytpfpgjfcomkdgaa
