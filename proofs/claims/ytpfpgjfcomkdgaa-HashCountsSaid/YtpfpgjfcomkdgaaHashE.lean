/-
  Package hash: Crowd and Deepest.
-/
import Derived.Test.YtpfpgjfcomkdgaaHashD
import Derived.Maps.RangeWalk
set_option linter.unusedSimpArgs false
set_option linter.unusedVariables false
namespace Go.Proofs.Ytpfpgjfcomkdgaa
open Go.RowKit Go.Maps

theorem crowd_yes (seed nb n cap : Nat) (sp : Option Addr) (keys : List Nat) (w : World) (hs : seed < 2 ^ 64) (hk : W64 keys) (hnb : nb ≤ 64) (hsl : Sl w sp n (u64s keys)) (hbig : n ≤ 4096) :
    Calls Try.prog 24 #[.int .u64 seed, .int .i64 nb, .slice sp n cap] w fun e w' =>
      ∃ mb, e = .returned (.tuple #[.map (some mb), .int .i64 0]) ∧ w.heap.size ≤ mb ∧ MapI w' mb (logOf (prefixes seed keys nb)) ∧ Below w.heap.size w w' := by
  have H1 := Lib.hid (may_any nb w)
  have hm : mayN nb = true := by simp [mayN]; omega
  have HM := Lib.hid hm
  have H2 := Lib.hid (keys_of_any seed n cap sp keys w hsl hbig)
  have H3 := Lib.hid (fun g w' (h : OwnKeys w' w.heap.size g n seed keys none) => counted_any g n seed nb w.heap.size keys none w' hs hk hnb h)
  clear hm hs hk hnb hsl
  go_enter Try.func24, Try.ntmps24
  go_wp2_with fail
  refine H1.out.mono ?_
  rw [HM.out]
  rintro e w' ⟨rfl, rfl⟩
  go_wp2_with fail
  refine H2.out.mono ?_
  rintro e w1 ⟨g, rfl, ho, hb1⟩
  have hC := Lib.hid (H3.out g w1 ho)
  obtain ⟨kb, hbk, hkg, hkb, hn, hn4, hg⟩ := ho
  have hlt := lt_of_heap hg
  clear H3 hkb hg hn
  have HB1 := Lib.hid hb1
  clear hb1
  go_wp2_with fail
  refine hC.out.mono ?_
  rintro e w2 ⟨mb, rfl, hmb, hM, ho2, hk2⟩
  have HM2 := Lib.hid hM
  have HK2 := Lib.hid hk2
  clear hM hk2 ho2
  go_wp2
  go_ret2
  exact ⟨mb, rfl, Nat.le_trans HB1.out.size hmb, HM2.out, HB1.out.trans ⟨HK2.out.os, HK2.out.tape, HK2.out.output, HK2.out.size, fun b hb => HK2.out.block b (Nat.lt_of_lt_of_le hb HB1.out.size) ⟨Nat.lt_of_lt_of_le hb HB1.out.size, by omega⟩⟩⟩
theorem crowd_no (seed : Nat) (nb : Int) (v : Value) (w : World) (hn : mayN nb = false) :
    Calls Try.prog 24 #[.int .u64 seed, .int .i64 nb, v] w fun e w' => e = .returned (.tuple #[.map none, .int .i64 2]) ∧ w' = w := by
  have H1 := Lib.hid (may_any nb w)
  have HM := Lib.hid hn
  clear hn
  go_enter Try.func24, Try.ntmps24
  go_wp2_with fail
  refine H1.out.mono ?_
  rw [HM.out]
  rintro e w' ⟨rfl, rfl⟩
  go_wp2
  go_ret2
  exact ⟨rfl, rfl⟩

theorem closure_any (b : Nat) (xi mi : Int) (w : World) (hc : w.cell? ⟨b, 0, none⟩ = some (.int .i64 mi)) :
    Calls Try.prog 47 #[.int .i64 xi, .pointer (some ⟨b, 0, none⟩)] w fun e w' => e = .returned (.bool (decide (mi < xi))) ∧ w' = w := by
  go_enter Try.func47, Try.ntmps47
  by_cases h : mi < xi
  · go_wp2
    all_goals (go_ret; exact ⟨ret_bool (by simp [h]), rfl⟩)
  · go_wp2
    all_goals (go_ret; exact ⟨ret_bool (by simp [h]), rfl⟩)

def someOver (log : List (Nat × Int)) (mi : Int) : Bool := log.any fun p => decide (mi < mget log p.1)
theorem mhas_iff {log : List (Nat × Int)} {x : Nat} : mhas log x = true ↔ ∃ p ∈ log, p.1 = x := by
  induction log with
  | nil => simp [mhas]
  | cons p r ih =>
    obtain ⟨k, v⟩ := p
    unfold mhas
    rw [Bool.or_eq_true, ih, beq_iff_eq]
    simp
theorem someOver_iff {log : List (Nat × Int)} {mi : Int} : someOver log mi = true ↔ ∃ x, mhas log x = true ∧ mi < mget log x := by
  unfold someOver
  rw [List.any_eq_true]
  constructor
  · rintro ⟨p, hp, h⟩; exact ⟨p.1, mhas_iff.2 ⟨p, hp, rfl⟩, by simpa using h⟩
  · rintro ⟨x, hx, h⟩
    obtain ⟨p, hp, rfl⟩ := mhas_iff.1 hx
    exact ⟨p, hp, by simpa using h⟩

set_option maxHeartbeats 1000000 in
theorem some_any (mb b : Nat) (log : List (Nat × Int)) (mi : Int) (w : World) (hM : MapI w mb log) (hc : w.cell? ⟨b, 0, none⟩ = some (.int .i64 mi)) :
    Calls Try.prog 46 #[.map (some mb), .func (.func 47) #[] #[.pointer (some ⟨b, 0, none⟩)]] w fun e w' => e = .returned (.bool (someOver log mi)) ∧ Below w.heap.size w w' := by
  have hbl := lt_of_cell hc
  go_enter Try.func46, Try.ntmps46
  go_wp2
  go_step3
  go_wp2
  go_step3
  go_wp2_with (first | (at_range; refine wpList_range_own _ rfl _ 42 rfl 22 3 mapI_keyed Try.underlying42 _ mb log.length (mapD log) rfl hM.1 ?_; intro w0 hrg0 hg0 hs0))
  go_frame
  have hcw0 : w0.cell? ⟨b, 0, none⟩ = some (.int .i64 mi) := cell_of_heap (hg0.block b hbl (by simp)) hc
  have hbw0 : Below w.heap.size w w0 := ⟨hg0.os, hg0.tape, hg0.output, hg0.size, fun i hi => hg0.block i hi (by simp)⟩
  have hk64 := hM.2
  clear hg0 hc
  go_loopg [5] (Maps.size (mapD log)) (fun q f wr => ∃ (left : Lit → Bool), wr.ranges (H := Unit) Try.prog 22 (plainElem Try.prog 3) mb w.heap.size log.length (mapD log) left q ∧ f = .bool false ∧
    (∀ k : Nat, mhas log k = true → left (.int .u64 k) = false → mget log k ≤ mi) ∧ (∀ k : Nat, left (.int .u64 k) = true → mhas log k = true) ∧ wr.cell? ⟨b, 0, none⟩ = some (.int .i64 mi) ∧ Below w.heap.size w wr)
  case atStart =>
    refine ⟨Maps.has (mapD log), hrg0, rfl, ?_, ?_, hcw0, hbw0⟩
    · intro k hk hl
      rw [has_mapD log k hk64, hk] at hl; cases hl
    · intro k hl
      rw [has_mapD log k hk64] at hl; exact hl
  case round =>
    obtain ⟨left, hrg, rfl, hno, hle, hcr, hbr⟩ := hrel
    have HNO := Lib.hid hno
    have HLE := Lib.hid hle
    have HB := Lib.hid hbr
    have HRG := Lib.hid hrg
    have HC := Lib.hid hcr
    have HK := Lib.hid hk64
    clear hno hle hbr hrg hcr hrg0 hcw0 hbw0 hk64 hM
    go_wp2_with (first | (at_next; refine wpList_next_ranges_ii _ rfl _ rfl 22 3 .u64 .i64 mapI_keyed Try.underlying22 Try.underlying3 mb w.heap.size log.length _ _ _ rfl HRG.out ?_ ?_))
    · intro hc0 hl0
      go_wp2
      rw [Exit.noGoto_ret]
      go_ret
      refine ⟨ret_bool ?_, HB.out⟩
      symm
      rw [Bool.eq_false_iff]
      intro h
      obtain ⟨x, hx, hlt⟩ := someOver_iff.1 h
      have := HNO.out x hx (hl0 _)
      omega
    · intro x c w1 cnt1 hwx hwc hlx hat hrg1 hlt hg1 hs1 hen
      obtain ⟨xn, rfl, hx64⟩ := nat_of_u64 hwx
      have hc1 : w1.cell? ⟨b, 0, none⟩ = some (.int .i64 mi) := cell_of_heap (hg1.block b (lt_of_cell HC.out) (by intro e; injection e with e; omega)) HC.out
      have hcx : c = mget log xn := by
        have h1 := hat (.lit (.int .i64 0))
        rw [atKey_mapD log xn HK.out] at h1
        injection h1 with h1; injection h1 with _ h1; exact h1.symm
      have hmx := HLE.out xn hlx
      have HCX := Lib.hid hcx
      have HMX := Lib.hid hmx
      have HR1 := Lib.hid hrg1
      have HG1 := Lib.hid hg1
      have hbw1 : Below w.heap.size w w1 := HB.out.trans ⟨hg1.os, hg1.tape, hg1.output, hg1.size, fun i hi => hg1.block i (Nat.lt_of_lt_of_le hi HB.out.size) (by intro e; injection e with e; omega)⟩
      have HB1 := Lib.hid hbw1
      have HCL := Lib.hid (closure_any b c mi w1 hc1)
      clear hwx hwc hlx hat hrg1 hg1 hcx hmx hbw1 hc1
      by_cases hov : mi < c
      · have hd : decide (mi < c) = true := by simpa using hov
        rw [hd] at HCL
        clear hd
        go_wp2_with fail
        refine HCL.out.mono ?_
        rintro e w' ⟨rfl, rfl⟩
        go_wp2
        rw [Exit.noGoto_ret]
        go_ret
        refine ⟨ret_bool ?_, HB1.out⟩
        symm
        exact someOver_iff.2 ⟨xn, HMX.out, by rw [← HCX.out]; exact hov⟩
      · have hd : decide (mi < c) = false := by simpa using hov
        rw [hd] at HCL
        clear hd
        go_wp2_with fail
        refine HCL.out.mono ?_
        rintro e w' ⟨rfl, rfl⟩
        go_wp2
        go_roundg cnt1
        case measure => exact hlt
        case rel =>
          refine ⟨_, HR1.out, rfl, ?_, ?_, cell_of_heap (HG1.out.block b (lt_of_cell HC.out) (by intro e; injection e with e; omega)) HC.out, HB1.out⟩
          · intro k hk hl
            by_cases e : k = xn
            · subst e; rw [← HCX.out]; omega
            · refine HNO.out k hk ?_
              simp only [sameKey_ne (lit_ne (Ne.symm e)), Bool.not_false, Bool.and_true] at hl
              exact hl
          · intro k hl
            simp only [Bool.and_eq_true] at hl
            exact HLE.out k hl.1

def overN (seed : Nat) (keys : List Nat) (many : Int) (nb : Nat) : Bool := someOver (logOf (prefixes seed keys nb)) many
theorem mem_prefix64 {seed : Nat} {keys : List Nat} : prefixes seed keys 64 = hashesOf seed keys := by
  unfold prefixes
  have : (fun h => hPrefix h 64) = fun h => h := by funext h; unfold hPrefix; simp
  rw [this]; simp
theorem hashes_nodup {seed : Nat} {keys : List Nat} (hs : seed < 2 ^ 64) (hk : W64 keys) : (hashesOf seed keys).Nodup := by
  unfold hashesOf
  rw [List.nodup_iff_pairwise_ne, List.pairwise_map]
  refine List.Pairwise.imp_of_mem ?_ (List.nodup_iff_pairwise_ne.1 (once_nodup keys))
  intro a b ha hb hne e
  exact hne (of_inj hs (hk a (mem_onceL.1 ha)) (hk b (mem_onceL.1 hb)) e)
theorem over_last {seed : Nat} {keys : List Nat} {many : Int} (hs : seed < 2 ^ 64) (hk : W64 keys) (hm : 1 ≤ many) : overN seed keys many 64 = false := by
  unfold overN
  rw [Bool.eq_false_iff]
  intro h
  obtain ⟨x, hx, hlt⟩ := someOver_iff.1 h
  rw [mget_log, mem_prefix64] at hlt
  have := List.nodup_iff_count.1 (hashes_nodup hs hk) x
  omega

theorem OwnKeys.below {w w' : World} {base g n seed : Nat} {keys : List Nat} {mp : Option Nat} (h : OwnKeys w base g n seed keys mp) (hb : Below w.heap.size w w') : OwnKeys w' base g n seed keys mp := by
  obtain ⟨kb, h1, h2, h3, h4, h5, h6⟩ := h
  exact ⟨kb, h1, h2, heap_below hb h3 (lt_of_heap h3), h4, h5, heap_below hb h6 (lt_of_heap h6)⟩
set_option maxHeartbeats 1000000 in
theorem deepest_yes (seed n cap : Nat) (many : Int) (sp : Option Addr) (keys : List Nat) (w : World) (hs : seed < 2 ^ 64) (hk : W64 keys) (hm : 1 ≤ many) (hsl : Sl w sp n (u64s keys)) (hbig : n ≤ 4096) :
    Calls Try.prog 26 #[.int .u64 seed, .int .i64 many, .slice sp n cap] w fun e w' =>
      ∃ d : Nat, e = .returned (.tuple #[.int .i64 d, .int .i64 0]) ∧ d ≤ 64 ∧ overN seed keys many d = false ∧ (∀ j, j < d → overN seed keys many j = true) ∧ Below w.heap.size w w' := by
  have hlast := over_last hs hk hm
  have hm1 : decide (many < 1) = false := by simp; omega
  obtain ⟨W1, hW1⟩ : ∃ W1, W1 = w.alloc (.cells #[.int .i64 many] 3) := ⟨_, rfl⟩
  have hb1 : Below w.heap.size w W1 := by rw [hW1]; exact (Below.refl _ _).alloc (Nat.le_refl _) _
  have hz1 : W1.heap.size = w.heap.size + 1 := by rw [hW1]; simp
  have hc1 : W1.cell? ⟨w.heap.size, 0, none⟩ = some (.int .i64 many) := by rw [hW1]; exact (Own1.new (fun _ => False) w _ _ (fun h => h)).cell
  have H2 := Lib.hid (keys_of_any seed n cap sp keys W1 (hsl.below hb1) hbig)
  have H3 := Lib.hid (fun g nb mp w' (h : OwnKeys w' W1.heap.size g n seed keys mp) (hnb : nb ≤ 64) => counted_any g n seed nb W1.heap.size keys mp w' hs hk hnb h)
  have HL := Lib.hid hlast
  clear hlast hsl hm hk hs
  rw [hW1] at H2
  go_enter Try.func26, Try.ntmps26
  go_wp2
  go_step3
  go_wp2_with fail
  refine H2.out.mono ?_
  rw [← hW1]
  rintro e w2 ⟨g, rfl, ho, hb2⟩
  have HB2 := Lib.hid (hb1.trans (hb2.mono hb1.size))
  have HC2 := Lib.hid ((hb2.cell (p := ⟨w.heap.size, 0, none⟩) (by show w.heap.size < _; omega)).trans hc1)
  have HO2 := Lib.hid ho
  clear ho hb2 hb1 hc1 hW1
  go_wp2
  go_step3
  go_wp2
  go_loopg [9] 64 (fun q i wr => ∃ (k : Nat) (mp : Option Nat), k + q = 64 ∧ i = .int .i64 k ∧ (∀ j, j < k → overN seed keys many j = true) ∧ OwnKeys wr W1.heap.size g n seed keys mp ∧ wr.cell? ⟨w.heap.size, 0, none⟩ = some (.int .i64 many) ∧ Below w.heap.size w wr)
  case atStart => exact ⟨0, none, by omega, rfl, fun j hj => by omega, HO2.out, HC2.out, HB2.out⟩
  case round =>
    obtain ⟨k, mp, hk, rfl, hall, ho, hc, hb⟩ := hrel
    have HK := Lib.hid hk
    have hk64 : k ≤ 64 := by omega
    have HA := Lib.hid hall
    have HB := Lib.hid hb
    have HC := Lib.hid hc
    have HCT := Lib.hid (H3.out g k mp wr ho hk64)
    have hgW : W1.heap.size < g := by obtain ⟨kb, h1, h2, _⟩ := ho; omega
    clear hk hall ho hc hb H3 H2
    go_wp2_with fail
    refine HCT.out.mono ?_
    rintro e w3 ⟨mb, rfl, hmb, hM, ho3, hk3⟩
    have hc3 : w3.cell? ⟨w.heap.size, 0, none⟩ = some (.int .i64 many) := hk3.cell (p := ⟨w.heap.size, 0, none⟩) ⟨lt_of_cell HC.out, by show w.heap.size ≠ g; omega⟩ HC.out
    have hb3 : Below w.heap.size w w3 := HB.out.trans ⟨hk3.os, hk3.tape, hk3.output, hk3.size, fun b hb => hk3.block b (Nat.lt_of_lt_of_le hb HB.out.size) ⟨Nat.lt_of_lt_of_le hb HB.out.size, by omega⟩⟩
    have HS := Lib.hid (some_any mb w.heap.size _ many w3 hM hc3)
    have HB3 := Lib.hid hb3
    have HC3 := Lib.hid hc3
    have HO3 := Lib.hid ho3
    have hov : someOver (logOf (prefixes seed keys k)) many = overN seed keys many k := rfl
    rw [hov] at HS
    clear hM hk3 hc3 hb3 ho3 hov HCT
    cases hv : overN seed keys many k with
    | true =>
      have HV := Lib.hid hv
      rw [hv] at HS
      clear hv
      go_wp2_with fail
      refine HS.out.mono ?_
      rintro e w4 ⟨rfl, hb4⟩
      have HB4 := Lib.hid hb4
      clear hb4
      have hk63 : k < 64 := by
        refine Nat.lt_of_le_of_ne hk64 fun e => ?_
        subst e
        have h1 := HV.out
        rw [HL.out] at h1; cases h1
      go_wp2
      go_roundg (gk - 1)
      case measure => have := HK.out; omega
      case rel =>
        refine ⟨k + 1, _, by have := HK.out; omega, by go_num, ?_, HO3.out.below HB4.out, (HB4.out.cell (p := ⟨w.heap.size, 0, none⟩) (lt_of_cell HC3.out)).trans HC3.out, HB3.out.trans (HB4.out.mono HB3.out.size)⟩
        intro j hj
        by_cases e : j = k
        · rw [e]; exact HV.out
        · exact HA.out j (by omega)
    | false =>
      have HV := Lib.hid hv
      rw [hv] at HS
      clear hv
      go_wp2_with fail
      refine HS.out.mono ?_
      rintro e w4 ⟨rfl, hb4⟩
      have HB4 := Lib.hid hb4
      clear hb4
      go_wp2
      rw [Exit.noGoto_ret]
      go_ret2
      exact ⟨k, rfl, hk64, HV.out, HA.out, HB3.out.trans (HB4.out.mono HB3.out.size)⟩

theorem deepest_no (seed : Nat) (many : Int) (v : Value) (w : World) (hm : many < 1) :
    Calls Try.prog 26 #[.int .u64 seed, .int .i64 many, v] w fun e w' => e = .returned (.tuple #[.int .i64 0, .int .i64 2]) ∧ Below w.heap.size w w' := by
  have hb1 : Below w.heap.size w (w.alloc (.cells #[.int .i64 many] 3)) := (Below.refl _ _).alloc (Nat.le_refl _) _
  have HB := Lib.hid hb1
  have hm1 : decide (many < 1) = true := by simpa using hm
  clear hb1 hm
  go_enter Try.func26, Try.ntmps26
  go_wp2
  go_step3
  go_wp2
  rw [Exit.noGoto_ret]
  go_ret2
  exact ⟨rfl, HB.out⟩
end Go.Proofs.Ytpfpgjfcomkdgaa
