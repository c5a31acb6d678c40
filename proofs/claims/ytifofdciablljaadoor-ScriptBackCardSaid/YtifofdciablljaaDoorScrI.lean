/-
  Layer 3 (script): reading: one number.
-/
import Derived.Test.YtifofdciablljaaDoorScrH
import Derived.Defers
import Derived.Recover
import Derived.WalkLawsBesides
import Derived.Deep.RegionWith
import Derived.StillTailTactics
set_option linter.unusedSimpArgs false
set_option linter.unusedVariables false
set_option maxRecDepth 100000
namespace Go.Proofs.YtifofdciablljaaDoor
open Go.RowKit

/-- That bytes are no script's. -/
abbrev Bad : Ending := .panicked [{ v := .iface 79 (.agg #[]), recovered := false }]
theorem need_yes (w : World) : Calls Tryd.prog 65 #[.bool true] w fun e w' => e = .returned (.tuple #[]) ∧ w' = w := by
  go_enter Tryd.func65, Tryd.ntmps65
  go_wp2
  go_end0
  exact ⟨rfl, rfl⟩
theorem need_no (w : World) : Calls Tryd.prog 65 #[.bool false] w fun e w' => e = Bad ∧ w' = w := by
  go_enter Tryd.func65, Tryd.ntmps65
  go_wp2
  exact ⟨rfl, rfl, rfl⟩

/-- The number with whose bytes others begin, from its i-th byte on; and what stands behind it. -/
def rdN (i acc : Nat) : List Nat → Option (Nat × List Nat)
  | [] => none
  | b :: r => if 10 ≤ i ∨ (9 ≤ i ∧ 1 < b) then none else
      if b < 128 then (if 0 < b ∨ i = 0 then some (acc + b % 128 * 128 ^ i, r) else none) else rdN (i + 1) (acc + b % 128 * 128 ^ i) r
def readN (l : List Nat) : Option (Nat × List Nat) := rdN 0 0 l
theorem rdN_cons (i acc b : Nat) (r : List Nat) : rdN i acc (b :: r) = if 10 ≤ i ∨ (9 ≤ i ∧ 1 < b) then none else
      if b < 128 then (if 0 < b ∨ i = 0 then some (acc + b % 128 * 128 ^ i, r) else none) else rdN (i + 1) (acc + b % 128 * 128 ^ i) r := rfl
/-- What reading comes to. -/
def NumP (R : Option (Nat × List Nat)) (bn : Nat) (e : Ending) (p' : Nat) : Prop := match R with
  | some (n, rest) => e = .returned (.int .u64 (n : Int)) ∧ p' + rest.length = bn ∧ p' ≤ bn
  | none => e = Bad
theorem rdN_len : ∀ (l : List Nat) (i acc n : Nat) (r : List Nat), rdN i acc l = some (n, r) → r.length < l.length ∧ ∃ k, r = l.drop k
  | [], _, _, _, _, h => by cases h
  | b :: l, i, acc, n, r, h => by
    unfold rdN at h
    split at h
    · cases h
    · split at h
      · split at h
        · cases h; exact ⟨by simp, 1, rfl⟩
        · cases h
      · obtain ⟨h1, k, hk⟩ := rdN_len l _ _ _ _ h
        exact ⟨by simp; omega, k + 1, by rw [hk]; rfl⟩

/-- The reader's cells. -/
def rdC (v0 v1 v2 v3 v4 : Value) (bp : Option Addr) (bn bc at' : Nat) : Array Value := #[v0, v1, v2, v3, v4, .slice bp bn bc, .int .i64 (at' : Int)]
/-- While a number is read. -/
structure RdI (w : World) (rb : Nat) (v0 v1 v2 v3 v4 : Value) (bp : Option Addr) (bn bc : Nat) (bytes : List Nat) (p : Nat) (wr : World) : Prop where
  blk : wr.heap[rb]? = some (.cells (rdC v0 v1 v2 v3 v4 bp bn bc p) 83)
  by' : w.grownBy wr (some rb)
  sl : Sl wr bp bn (u8s bytes)
  ne : 0 < bn → bp.map (·.block) ≠ some rb
section
variable {w : World} {rb : Nat} {v0 v1 v2 v3 v4 : Value} {bp : Option Addr} {bn bc : Nat} {bytes : List Nat} {p : Nat} {wr : World}
theorem RdI.drew (h : RdI w rb v0 v1 v2 v3 v4 bp bn bc bytes p wr) (q : Nat) : RdI w rb v0 v1 v2 v3 v4 bp bn bc bytes p (wr.drewN q) :=
  ⟨h.blk, ⟨h.by'.os, h.by'.tape, h.by'.output, h.by'.size, h.by'.block⟩, h.sl, h.ne⟩
theorem RdI.at (h : RdI w rb v0 v1 v2 v3 v4 bp bn bc bytes p wr) (p' : Nat) : RdI w rb v0 v1 v2 v3 v4 bp bn bc bytes p' (wr.setCell ⟨rb, 6, none⟩ (.int .i64 (p' : Int))) := by
  obtain ⟨h1, h2, h3, h4⟩ := h
  have hk : ∀ b, b ≠ rb → (wr.setCell ⟨rb, 6, none⟩ (.int .i64 (p' : Int))).heap[b]? = wr.heap[b]? := fun b hb => Below.heap_setCell _ _ _ _ hb
  refine ⟨blk_set (i := 6) _ h1, ⟨h2.os, h2.tape, h2.output, by rw [World.size_setCell]; exact h2.size, fun k hkw hne => (hk k (fun e => hne (by rw [e]))).trans (h2.block k hkw hne)⟩, ?_, h4⟩
  exact ((SlK.of_sl h3).keepP fun h0 b _ hm => hk b (fun e => h4 h0 (by rw [hm, e]))).sl
theorem RdI.c5 (h : RdI w rb v0 v1 v2 v3 v4 bp bn bc bytes p wr) : wr.cell? ⟨rb, 5, none⟩ = some (.slice bp bn bc) := blk_cell (i := 5) h.blk rfl
theorem RdI.c6 (h : RdI w rb v0 v1 v2 v3 v4 bp bn bc bytes p wr) : wr.cell? ⟨rb, 6, none⟩ = some (.int .i64 (p : Int)) := blk_cell (i := 6) h.blk rfl
theorem RdI.f6 (h : RdI w rb v0 v1 v2 v3 v4 bp bn bc bytes p wr) : wr.frozen? ⟨rb, 6, none⟩ = false := blk_free 6 h.blk
end
theorem or_bits {b i acc sh : Nat} (hsh : sh = 7 * i) (hacc : acc < 128 ^ i) (hi : i ≤ 9) (hok : i < 9 ∨ b ≤ 1) (hb : b < 256) :
    bits .or .u64 (acc : Int) (IntKind.u64.wrap (IntKind.u64.wrap (bits .and .u8 (b : Int) 127) * 2 ^ sh)) = ((acc + b % 128 * 128 ^ i : Nat) : Int) := by
  have hand : bits .and .u8 (b : Int) 127 = ((b % 128 : Nat) : Int) := by
    have h1 := u8_and_nat b 127 (by omega) (by omega)
    have h2 : b &&& 127 = b % 128 := Nat.and_two_pow_sub_one_eq_mod b 7
    rw [h2] at h1
    exact h1
  have hp : 128 ^ i = 2 ^ sh := by rw [hsh, Nat.pow_mul]
  have hlt : b % 128 * 128 ^ i < 2 ^ 64 := by
    rcases hok with h | h
    · have h1 : 128 ^ i ≤ 128 ^ 8 := Nat.pow_le_pow_right (by decide) (by omega)
      have h2 : b % 128 ≤ 127 := by omega
      have h3 := Nat.mul_le_mul h2 h1
      exact Nat.lt_of_le_of_lt h3 (by decide)
    · have h1 : 128 ^ i ≤ 128 ^ 9 := Nat.pow_le_pow_right (by decide) hi
      have h2 : b % 128 ≤ 1 := by omega
      have h3 := Nat.mul_le_mul h2 h1
      exact Nat.lt_of_le_of_lt h3 (by decide)
  have hw1 : IntKind.u64.wrap ((b % 128 : Nat) : Int) = ((b % 128 : Nat) : Int) := by rw [IntKind.wrap_u64]; omega
  have hmul : ((b % 128 : Nat) : Int) * 2 ^ sh = ((b % 128 * 128 ^ i : Nat) : Int) := by rw [hp]; push_cast; rfl
  have hw2 : IntKind.u64.wrap ((b % 128 * 128 ^ i : Nat) : Int) = ((b % 128 * 128 ^ i : Nat) : Int) := by
    rw [IntKind.wrap_u64]
    generalize b % 128 * 128 ^ i = y at *
    have : (2 : Nat) ^ 64 = 18446744073709551616 := by decide
    omega
  have ha64 : acc < 2 ^ 64 := Nat.lt_of_lt_of_le hacc (Nat.le_trans (Nat.pow_le_pow_right (by decide) hi) (by decide))
  rw [hand, hw1, hmul, hw2, u64_or_nat _ _ (by simpa using ha64) (by simpa using hlt)]
  congr 1
  rw [hp] at hacc ⊢
  rw [Nat.or_comm, Nat.mul_comm, ← Nat.two_pow_add_eq_or_of_lt hacc]
  omega
set_option maxHeartbeats 2000000 in
theorem number_reads (rb : Nat) (v0 v1 v2 v3 v4 : Value) (bp : Option Addr) (bn bc p : Nat) (bytes : List Nat) (w : World) (h : RdI w rb v0 v1 v2 v3 v4 bp bn bc bytes p w) (hby : ∀ b ∈ bytes, b < 256) (hp : p ≤ bn) :
    Calls Tryd.prog 63 #[.pointer (some ⟨rb, 0, none⟩)] w fun e w' => (∃ p', RdI w rb v0 v1 v2 v3 v4 bp bn bc bytes p' w' ∧
      NumP (readN (bytes.drop p)) bn e p') := by
  have hmax := h.sl.2.1
  unfold maxLen at hmax
  have hbl : bn = bytes.length := by have := h.sl.1; rw [u8s_length] at this; exact this
  obtain ⟨R, hR⟩ : ∃ R, R = readN (bytes.drop p) := ⟨_, rfl⟩
  rw [← hR]
  have h'h := Lib.hid h
  have hby'h := Lib.hid hby
  have hbl'h := Lib.hid hbl
  have hR'h := Lib.hid hR
  clear h hby hbl hR
  go_enter Tryd.func63, Tryd.ntmps63
  go_wp2
  go_loopg [3, 4] 10 (fun q a sv wr => ∃ (i acc sh x : Nat), i + q = 10 ∧ i ≤ 9 ∧ a = .int .u64 (acc : Int) ∧ sv = .int .i64 (sh : Int) ∧ Hid (sh = 7 * i) ∧ Hid (acc < 128 ^ i) ∧ x ≤ bn ∧ Hid (rdN i acc (bytes.drop x) = R) ∧ RdI w rb v0 v1 v2 v3 v4 bp bn bc bytes x wr)
  case atStart => exact ⟨0, 0, 0, p, rfl, by omega, rfl, rfl, rfl, by show 0 < 128 ^ 0; decide, hp, hR'h.out.symm, h'h.out⟩
  case round =>
    obtain ⟨i, acc, sh, x, hq, hi, rfl, rfl, hsh, hacc, hx, hE, hI⟩ := hrel
    obtain ⟨go, rfl⟩ : ∃ go : Nat, go = gk := ⟨_, rfl⟩
    have c5 := hI.c5
    have c6 := hI.c6
    have s64 : (sh : Int) < 64 := by have := hsh.out; omega
    rcases hl : bytes.drop x with _ | ⟨b, r⟩
    · have hxn : ¬ ((x : Int) < (bn : Int)) := by
        have h1 := congrArg List.length hl
        rw [List.length_drop, List.length_nil] at h1
        have := hbl'h.out
        omega
      have hRn : R = none := by rw [← hE.out, hl]; rfl
      have hxd : decide (x < bn) = false := decide_eq_false (by omega)
      have hxz : decide ((x : Int) < (bn : Int)) = false := decide_eq_false hxn
      clear hxn
      have hI'h := Lib.hid hI
      have hl'h := Lib.hid hl
      have hRn'h := Lib.hid hRn
      have hq'h := Lib.hid hq
      clear hI hl hRn hq
      go_wp2_with fail
      go_still_tail 14, (by kernel_rfl)
      change wpList _ _ _ _ _ wr.drew
      go_wp2_with (go_at_call 65; refine (need_no _).mono ?_; rintro e w' ⟨rfl, rfl⟩)
      refine ⟨rfl, x, hI'h.out.drew 1, ?_⟩
      rw [hRn'h.out]
      rfl
    · have hxl : x < bn := by
        have h1 := congrArg List.length hl
        rw [List.length_drop, List.length_cons] at h1
        have := hbl'h.out
        omega
      have hxn : (x : Int) < (bn : Int) := by omega
      have hx0 : (0 : Int) ≤ (x : Int) := by omega
      obtain ⟨bb, bo, hbp, hcs⟩ := hI.sl.some' (by omega)
      have hbx : bytes[x]? = some b := by
        have h1 := congrArg (fun z : List Nat => z[0]?) hl
        simp only [List.getElem?_drop, Nat.add_zero] at h1
        simpa using h1
      have hb256 := hby'h.out b (List.mem_of_getElem? hbx)
      have d1 : wr.cell? ⟨bb, bo + x, none⟩ = some (.int .u8 (b : Int)) := hcs x _ (by unfold u8s; rw [List.getElem?_map, hbx]; rfl)
      have hdr : bytes.drop (x + 1) = r := by rw [List.drop_add_one_eq_tail_drop, hl]; rfl
      subst hbp
      clear hcs
      have hI'h := Lib.hid hI
      have hl'h := Lib.hid hl
      have hdr'h := Lib.hid hdr
      have hbx'h := Lib.hid hbx
      have hq'h := Lib.hid hq
      clear hI hl hdr hbx hq
      go_wp2_with fail
      go_still_tail 14, (by kernel_rfl)
      change wpList _ _ _ _ _ wr.drew
      have d1a : wr.drew.cell? ⟨bb, bo + x, none⟩ = some (.int .u8 (b : Int)) := d1
      have c5a : wr.drew.cell? ⟨rb, 5, none⟩ = some (.slice (some ⟨bb, bo, none⟩) bn bc) := c5
      have c6a : wr.drew.cell? ⟨rb, 6, none⟩ = some (.int .i64 (x : Int)) := c6
      have f6a : wr.drew.frozen? ⟨rb, 6, none⟩ = false := hI'h.out.f6
      obtain ⟨w2, hw2⟩ : ∃ w2, w2 = wr.drew := ⟨_, rfl⟩
      have hI2 : RdI w rb v0 v1 v2 v3 v4 (some ⟨bb, bo, none⟩) bn bc bytes x w2 := by rw [hw2]; exact hI'h.out.drew 1
      rw [← hw2] at d1a c5a c6a f6a ⊢
      clear hw2 d1 c5 c6
      have hI2'h := Lib.hid hI2
      clear hI2
      go_wp2_with (go_at_call 65; refine (need_yes _).mono ?_; rintro e w' ⟨rfl, hw⟩; obtain rfl := hw.symm)
      go_still_tail 10, (by kernel_rfl)
      have d1b : w2.drew.cell? ⟨bb, bo + x, none⟩ = some (.int .u8 (b : Int)) := d1a
      have c5b : w2.drew.cell? ⟨rb, 5, none⟩ = some (.slice (some ⟨bb, bo, none⟩) bn bc) := c5a
      have c6b : w2.drew.cell? ⟨rb, 6, none⟩ = some (.int .i64 (x : Int)) := c6a
      have f6b : w2.drew.frozen? ⟨rb, 6, none⟩ = false := f6a
      obtain ⟨w3, hw3⟩ : ∃ w3, w3 = w2.drew := ⟨_, rfl⟩
      have hI3 : RdI w rb v0 v1 v2 v3 v4 (some ⟨bb, bo, none⟩) bn bc bytes x w3 := by rw [hw3]; exact hI2'h.out.drew 1
      rw [← hw3] at d1b c5b c6b f6b
      change wpList _ _ _ _ _ w2.drew
      rw [← hw3]
      have hI4 := hI3.at (x + 1)
      have e4 : ((x + 1 : Nat) : Int) = (x : Int) + 1 := by omega
      rw [e4] at hI4
      clear hw3 d1a c5a c6a f6a hI3
      have hI4'h := Lib.hid hI4
      have e4'h := Lib.hid e4
      clear hI4 e4
      go_upto_region 5 with fail
      obtain ⟨w5, hw5⟩ : ∃ w5, w5 = w3.setCell ⟨rb, 6, none⟩ (.int .i64 ((x : Int) + 1)) := ⟨_, rfl⟩
      rw [← hw5]
      have hI5 : RdI w rb v0 v1 v2 v3 v4 (some ⟨bb, bo, none⟩) bn bc bytes (x + 1) w5 := by rw [hw5]; exact hI4'h.out
      clear hw5 d1b c5b c6b f6b hI4'h
      have hI5'h := Lib.hid hI5
      clear hI5
      obtain ⟨acc2, hac⟩ : ∃ acc2, acc2 = acc + b % 128 * 128 ^ i := ⟨_, rfl⟩
      by_cases hok : 9 ≤ i ∧ 1 < b
      · have hb1 : ¬ ((b : Int) ≤ 1) := by omega
        have h63 : ¬ ((sh : Int) < 63) := by have := hsh.out; omega
        have hRn : R = none := by
          rw [← hE.out, hl'h.out, rdN_cons, if_pos (.inr hok)]
        clear hac
        have hRn'h := Lib.hid hRn
        clear hRn
        go_wp2_with (go_at_call 65; refine (need_no _).mono ?_; rintro e w' ⟨rfl, hw⟩; obtain rfl := hw.symm)
        refine ⟨rfl, x + 1, hI5'h.out, ?_⟩
        rw [hRn'h.out]
        rfl
      · have hbits := or_bits (b := b) (i := i) (acc := acc) (sh := sh) hsh.out hacc.out hi (by omega) hb256
        rw [← hac] at hbits
        have hac2 : acc2 < 128 ^ (i + 1) := by
          rw [hac, Nat.pow_succ]
          have h1 := hacc.out
          have h2 : b % 128 ≤ 127 := by omega
          have := Nat.mul_le_mul_right (128 ^ i) h2
          have : acc < 128 ^ i := h1
          omega
        have hac'h := Lib.hid hac
        have hac2'h := Lib.hid hac2
        clear hac hac2
        by_cases h9 : i < 9
        · have h63 : (sh : Int) < 63 := by have := hsh.out; omega
          by_cases hlt : b < 128
          ·
            have hlt : (b : Int) < 128 := by omega
            rcases Nat.eq_zero_or_pos b with hb0 | hb0
            · have hbz : decide (0 < b) = false := decide_eq_false (by omega)
              have hbz2 : decide ((0 : Int) < (b : Int)) = false := decide_eq_false (by omega)
              rcases Nat.eq_zero_or_pos i with hi0 | hi0
              · have hsz : ((sh : Int) == 0) = true := by have := hsh.out; simp; omega
                have hRn : R = some (acc2, r) := by
                  rw [← hE.out, hl'h.out]
                  rw [rdN_cons, if_neg (by omega), if_pos (by omega), if_pos (.inr hi0), hac'h.out]
                have hrl : x + 1 + r.length = bn := by have h1 := congrArg List.length hl'h.out; rw [List.length_drop, List.length_cons] at h1; have := hbl'h.out; omega
                have hRn'h := Lib.hid hRn
                have hrl'h := Lib.hid hrl
                have hb0'h := Lib.hid hb0
                have hi0'h := Lib.hid hi0
                clear hRn hrl hb0 hi0
                go_wp2_with (go_at_call 65; refine (need_yes _).mono ?_; rintro e w' ⟨rfl, hw⟩; obtain rfl := hw.symm)
                go_ret
                refine ⟨x + 1, hI5'h.out, ?_⟩
                rw [hRn'h.out]
                exact ⟨rfl, hrl'h.out, by omega⟩
              · have hsz : ((sh : Int) == 0) = false := by have := hsh.out; simp; omega
                have hRn : R = none := by
                  rw [← hE.out, hl'h.out]
                  rw [rdN_cons, if_neg (by omega), if_pos (by omega), if_neg (by omega)]
                have hRn'h := Lib.hid hRn
                have hb0'h := Lib.hid hb0
                have hi0'h := Lib.hid hi0
                clear hRn hb0 hi0
                go_wp2_with (first | (go_at_call 65; refine (need_yes _).mono ?_; rintro e w' ⟨rfl, hw⟩; obtain rfl := hw.symm) | (go_at_call 65; refine (need_no _).mono ?_; rintro e w' ⟨rfl, hw⟩; obtain rfl := hw.symm))
                refine ⟨rfl, x + 1, hI5'h.out, ?_⟩
                rw [hRn'h.out]
                rfl
            · have hbz : ((b : Int) > 0) := by omega
              have hRn : R = some (acc2, r) := by
                rw [← hE.out, hl'h.out]
                rw [rdN_cons, if_neg (by omega), if_pos (by omega), if_pos (.inl hb0), hac'h.out]
              have hrl : x + 1 + r.length = bn := by have h1 := congrArg List.length hl'h.out; rw [List.length_drop, List.length_cons] at h1; have := hbl'h.out; omega
              have hRn'h := Lib.hid hRn
              have hrl'h := Lib.hid hrl
              clear hRn hrl
              go_wp2_with (go_at_call 65; refine (need_yes _).mono ?_; rintro e w' ⟨rfl, hw⟩; obtain rfl := hw.symm)
              go_ret
              refine ⟨x + 1, hI5'h.out, ?_⟩
              rw [hRn'h.out]
              exact ⟨rfl, hrl'h.out, by omega⟩
          · have hltz : ¬ ((b : Int) < 128) := by omega
            have hE2 : rdN (i + 1) acc2 (bytes.drop (x + 1)) = R := by
              rw [← hE.out, hl'h.out, hdr'h.out, hac'h.out, rdN_cons, if_neg (by omega), if_neg hlt]
            have hE2'h := Lib.hid hE2
            clear hE2
            go_wp2_with (go_at_call 65; refine (need_yes _).mono ?_; rintro e w' ⟨rfl, hw⟩; obtain rfl := hw.symm)
            go_roundg (go - 1)
            case measure => have := hq'h.out; omega
            case rel => exact ⟨i + 1, acc2, sh + 7, x + 1, by have := hq'h.out; omega, by omega, rfl, by go_num, by show sh + 7 = 7 * (i + 1); have := hsh.out; omega, hac2'h.out, by omega, hE2'h.out, hI5'h.out⟩
        · have h63 : ¬ ((sh : Int) < 63) := by have := hsh.out; omega
          have hb1 : (b : Int) ≤ 1 := by omega
          have hlt : (b : Int) < 128 := by omega
          rcases Nat.eq_zero_or_pos b with hb0 | hb0
          · have hbz : decide (0 < b) = false := decide_eq_false (by omega)
            have hbz2 : decide ((0 : Int) < (b : Int)) = false := decide_eq_false (by omega)
            rcases Nat.eq_zero_or_pos i with hi0 | hi0
            · have hsz : ((sh : Int) == 0) = true := by have := hsh.out; simp; omega
              have hRn : R = some (acc2, r) := by
                rw [← hE.out, hl'h.out]
                rw [rdN_cons, if_neg (by omega), if_pos (by omega), if_pos (.inr hi0), hac'h.out]
              have hrl : x + 1 + r.length = bn := by have h1 := congrArg List.length hl'h.out; rw [List.length_drop, List.length_cons] at h1; have := hbl'h.out; omega
              have hRn'h := Lib.hid hRn
              have hrl'h := Lib.hid hrl
              have hb0'h := Lib.hid hb0
              have hi0'h := Lib.hid hi0
              clear hRn hrl hb0 hi0
              go_wp2_with (go_at_call 65; refine (need_yes _).mono ?_; rintro e w' ⟨rfl, hw⟩; obtain rfl := hw.symm)
              go_ret
              refine ⟨x + 1, hI5'h.out, ?_⟩
              rw [hRn'h.out]
              exact ⟨rfl, hrl'h.out, by omega⟩
            · have hsz : ((sh : Int) == 0) = false := by have := hsh.out; simp; omega
              have hRn : R = none := by
                rw [← hE.out, hl'h.out]
                rw [rdN_cons, if_neg (by omega), if_pos (by omega), if_neg (by omega)]
              have hRn'h := Lib.hid hRn
              have hb0'h := Lib.hid hb0
              have hi0'h := Lib.hid hi0
              clear hRn hb0 hi0
              go_wp2_with (first | (go_at_call 65; refine (need_yes _).mono ?_; rintro e w' ⟨rfl, hw⟩; obtain rfl := hw.symm) | (go_at_call 65; refine (need_no _).mono ?_; rintro e w' ⟨rfl, hw⟩; obtain rfl := hw.symm))
              refine ⟨rfl, x + 1, hI5'h.out, ?_⟩
              rw [hRn'h.out]
              rfl
          · have hbz : ((b : Int) > 0) := by omega
            have hRn : R = some (acc2, r) := by
              rw [← hE.out, hl'h.out]
              rw [rdN_cons, if_neg (by omega), if_pos (by omega), if_pos (.inl hb0), hac'h.out]
            have hrl : x + 1 + r.length = bn := by have h1 := congrArg List.length hl'h.out; rw [List.length_drop, List.length_cons] at h1; have := hbl'h.out; omega
            have hRn'h := Lib.hid hRn
            have hrl'h := Lib.hid hrl
            clear hRn hrl
            go_wp2_with (go_at_call 65; refine (need_yes _).mono ?_; rintro e w' ⟨rfl, hw⟩; obtain rfl := hw.symm)
            go_ret
            refine ⟨x + 1, hI5'h.out, ?_⟩
            rw [hRn'h.out]
            exact ⟨rfl, hrl'h.out, by omega⟩
end Go.Proofs.YtifofdciablljaaDoor
