/-
  The functions of package ctrl, each by its contract.
-/
import Derived.Test.YtfoohdjgnphdgaaCtrlPure
import Derived.Test.YtfoohdjgnphdgaaLanesC
import Derived.Test.YtfoohdjgnphdgaaCommon
import Derived.Defers
import Derived.Recover
import Derived.WalkLawsBesides
set_option linter.unusedSimpArgs false
set_option linter.unusedVariables false
set_option maxRecDepth 100000
namespace Go.Proofs.Ytfoohdjgnphdgaa
open Go.RowKit

abbrev Boom (z : Int) : Ending := .panicked [{ v := .iface 29 (.int .i64 z), recovered := false }]

theorem need_yes (z : Int) (w : World) : Calls Try.prog 72 #[.bool true, .int .i64 z] w fun e w' => e = .returned (.tuple #[]) ∧ w' = w := by
  go_enter Try.func72, Try.ntmps72
  go_wp2
  go_end0
  exact ⟨rfl, rfl⟩
theorem need_no (z : Int) (w : World) : Calls Try.prog 72 #[.bool false, .int .i64 z] w fun e w' => e = Boom z ∧ w' = w := by
  go_enter Try.func72, Try.ntmps72
  go_wp2
  exact ⟨rfl, rfl, rfl⟩
theorem full_any (x : Nat) (w : World) (hx : x < 2 ^ 64) : Calls Try.prog 61 #[.int .u64 x] w fun e w' => e = .returned (.int .u8 (belowM x 128)) ∧ w' = w := by
  have H := below_any x 128 w hx (by decide)
  have H'h := Lib.hid H
  clear H
  clear hx
  go_enter Try.func61, Try.ntmps61
  go_wp2_with fail
  refine (H'h.out).mono ?_
  rintro e w' ⟨rfl, rfl⟩
  go_wp2
  go_ret
  exact ⟨rfl, rfl⟩
theorem empty_any (x : Nat) (w : World) (hx : x < 2 ^ 64) : Calls Try.prog 62 #[.int .u64 x] w fun e w' => e = .returned (.int .u8 (equalM x 128)) ∧ w' = w := by
  have H := equal_any x 128 w hx (by decide)
  have H'h := Lib.hid H
  clear H
  clear hx
  go_enter Try.func62, Try.ntmps62
  go_wp2_with fail
  refine (H'h.out).mono ?_
  rintro e w' ⟨rfl, rfl⟩
  go_wp2
  go_ret
  exact ⟨rfl, rfl⟩
theorem deleted_any (x : Nat) (w : World) (hx : x < 2 ^ 64) : Calls Try.prog 63 #[.int .u64 x] w fun e w' => e = .returned (.int .u8 (equalM x 254)) ∧ w' = w := by
  have H := equal_any x 254 w hx (by decide)
  have H'h := Lib.hid H
  clear H
  clear hx
  go_enter Try.func63, Try.ntmps63
  go_wp2_with fail
  refine (H'h.out).mono ?_
  rintro e w' ⟨rfl, rfl⟩
  go_wp2
  go_ret
  exact ⟨rfl, rfl⟩
theorem check_any (x : Nat) (w : World) (hx : x < 2 ^ 64) : Calls Try.prog 40 #[.int .u64 x] w fun e w' => e = .returned (.int .i64 (if rightW x = true then 0 else 190)) ∧ w' = w := by
  have H1 := full_any x w hx
  have H2 := empty_any x w hx
  have H3 := deleted_any x w hx
  have hI := check_iff x
  have q1 := belowM_lt' x 128
  have q2 := equalM_lt' x 128
  have q3 := equalM_lt' x 254
  have q4 : belowM x 128 ||| equalM x 128 < 256 := Nat.or_lt_two_pow (n := 8) q1 q2
  have hor1 : bits .or .u8 (belowM x 128 : Int) (equalM x 128 : Int) = ((belowM x 128 ||| equalM x 128 : Nat) : Int) := u8_or_nat _ _ q1 q2
  have hor2 : bits .or .u8 ((belowM x 128 ||| equalM x 128 : Nat) : Int) (equalM x 254 : Int) = (((belowM x 128 ||| equalM x 128) ||| equalM x 254 : Nat) : Int) := u8_or_nat _ _ q4 q3
  generalize hm : (belowM x 128 ||| equalM x 128) ||| equalM x 254 = m at *
  generalize belowM x 128 ||| equalM x 128 = m1 at *
  generalize belowM x 128 = a at *
  generalize equalM x 128 = b at *
  generalize equalM x 254 = c at *
  clear q1 q2 q3 q4 hm
  have H1'h := Lib.hid H1
  have H2'h := Lib.hid H2
  have H3'h := Lib.hid H3
  clear H1 H2 H3
  by_cases h : m = 255
  · rw [if_pos (hI.1 h)]
    subst h
    have hI'h := Lib.hid hI
    have hx'h := Lib.hid hx
    clear hI hx
    go_enter Try.func40, Try.ntmps40
    go_wp2_with fail
    refine (H1'h.out).mono ?_
    rintro e w' ⟨rfl, rfl⟩
    go_wp2_with fail
    refine (H2'h.out).mono ?_
    rintro e w' ⟨rfl, rfl⟩
    go_wp2_with fail
    refine (H3'h.out).mono ?_
    rintro e w' ⟨rfl, rfl⟩
    go_wp2
    go_ret
    exact ⟨rfl, rfl⟩
  · rw [if_neg (fun e => h (hI.2 e))]
    have h1 : ((m : Int) != 255) = true := by simp; omega
    have hI'h := Lib.hid hI
    have hx'h := Lib.hid hx
    have h'h := Lib.hid h
    clear hI hx h
    go_enter Try.func40, Try.ntmps40
    go_wp2_with fail
    refine (H1'h.out).mono ?_
    rintro e w' ⟨rfl, rfl⟩
    go_wp2_with fail
    refine (H2'h.out).mono ?_
    rintro e w' ⟨rfl, rfl⟩
    go_wp2_with fail
    refine (H3'h.out).mono ?_
    rintro e w' ⟨rfl, rfl⟩
    go_wp2
    go_ret
    exact ⟨rfl, rfl⟩
theorem lane_yes (v : Value) (n : Nat) (w : World) (hn : n < 8) : Calls Try.prog 86 #[v, .int .i64 n] w fun e w' => e = .returned (.int .u8 ((2 ^ n : Nat) : Int)) ∧ w' = w := by
  have h8 : n = 0 ∨ n = 1 ∨ n = 2 ∨ n = 3 ∨ n = 4 ∨ n = 5 ∨ n = 6 ∨ n = 7 := by omega
  rcases h8 with rfl | rfl | rfl | rfl | rfl | rfl | rfl | rfl <;> (
    go_enter Try.func86, Try.ntmps86
    go_wp2_with fail
    refine (need_yes _ _).mono ?_
    rintro e w' ⟨rfl, rfl⟩
    go_wp2
    go_ret
    exact ⟨rfl, rfl⟩)
theorem lane_no (v : Value) (n : Int) (w : World) (hn : ¬ (0 ≤ n ∧ n < 8)) : Calls Try.prog 86 #[v, .int .i64 n] w fun e w' => e = Boom 110 ∧ w' = w := by
  by_cases h0 : 0 ≤ n
  · have h8 : ¬ n < 8 := by omega
    go_enter Try.func86, Try.ntmps86
    go_wp2_with fail
    refine (need_no _ _).mono ?_
    rintro e w' ⟨rfl, rfl⟩
    go_wp2
    exact ⟨rfl, rfl, rfl⟩
  · go_enter Try.func86, Try.ntmps86
    go_wp2_with fail
    refine (need_no _ _).mono ?_
    rintro e w' ⟨rfl, rfl⟩
    go_wp2
    exact ⟨rfl, rfl, rfl⟩
/-- Of the blocks that were there one alone turned. -/
def Only (g : Nat) (w w' : World) : Prop := (∀ B, B ≤ g → Below B w w') ∧ ∀ b, b ≠ g → b < w.heap.size → w'.heap[b]? = w.heap[b]?
theorem Only.refl (g : Nat) (w : World) : Only g w w := ⟨fun B _ => Below.refl _ _, fun _ _ _ => rfl⟩
theorem Only.old {g : Nat} {w w1 w' : World} (h1 : Below w.heap.size w w1) (h : Only g w1 w') (hg : g < w.heap.size) : Only g w w' :=
  ⟨fun B hB => (h1.mono (by omega)).trans (h.1 B hB), fun b hb hlt => (h.2 b hb (Nat.lt_of_lt_of_le hlt h1.size)).trans (h1.block b hlt)⟩
theorem Only.new {g : Nat} {w w1 w' : World} (h : Only g w w1) (h1 : Below w1.heap.size w1 w') (hg : g < w.heap.size) : Only g w w' :=
  ⟨fun B hB => (h.1 B hB).trans (h1.mono (by have := (h.1 B hB).size; omega)), fun b hb hlt => (h1.block b (by have := (h.1 0 (Nat.zero_le _)).size; omega)).trans (h.2 b hb hlt)⟩
theorem Only.trans {g : Nat} {w w1 w' : World} (h : Only g w w1) (h1 : Only g w1 w') : Only g w w' :=
  ⟨fun B hB => (h.1 B hB).trans (h1.1 B hB), fun b hb hlt => (h1.2 b hb (by have := (h.1 0 (Nat.zero_le _)).size; omega)).trans (h.2 b hb hlt)⟩
theorem put1_any (x n b : Nat) (hx : x < 2 ^ 64) (hb : b < 256) (hn : n < 8) (sp : Option Addr) (c : Nat) (w : World) (h : Sl w sp 1 [.int .i64 n]) :
    Calls Try.prog 96 #[.int .u64 x, .int .u8 b, .slice sp 1 c] w fun e w' => e = .returned (.tuple #[.int .u64 (setLane x n b), .int .i64 0]) ∧ Below w.heap.size w w' := by
  have H := put_any x b sp 1 c [(n : Int)] w hx hb h
  have h1 : allLanes [(n : Int)] = true := by unfold allLanes isLane; simp; omega
  have h2 : putX x b [(n : Int)] = setLane x n b := by unfold putX; simp
  rw [if_pos h1, h2] at H
  exact H
abbrev HandB (x : Nat) : Obj := .cells #[.int .u64 x] 115 (0, 0)
theorem lput_any (x n b : Nat) (g : Nat) (w : World) (hx : x < 2 ^ 64) (hb : b < 256) (hn : n < 8) (h : w.heap[g]? = some (HandB x)) :
    Calls Try.prog 87 #[.pointer (some ⟨g, 0, none⟩), .int .i64 n, .int .u8 b] w fun e w' => e = .returned (.tuple #[]) ∧ w'.heap[g]? = some (HandB (setLane x n b)) ∧ Only g w w' := by
  have hc : w.cell? ⟨g, 0, none⟩ = some (.int .u64 x) := blk_cell h rfl
  have hgl := lt_of_heap h
  have PA := fun sp c w h => put1_any x n b hx hb hn sp c w h
  have hS : Sl (w.alloc (.cells #[.int .i64 (n : Int)] 3)) (some ⟨w.heap.size, 0, none⟩) 1 [.int .i64 (n : Int)] := Sl.of_blk (World.alloc_heap_new _ _) (by unfold maxLen; simp)
  have hb0 : Below w.heap.size w (w.alloc (.cells #[.int .i64 (n : Int)] 3)) := (Below.refl _ _).alloc (Nat.le_refl _) _
  have PA'h := Lib.hid PA
  have h'h := Lib.hid h
  have hx'h := Lib.hid hx
  have hb'h := Lib.hid hb
  have hS'h := Lib.hid hS
  have hb0'h := Lib.hid hb0
  have hgl'h := Lib.hid hgl
  clear PA h hx hb hS hb0 hgl
  go_enter Try.func87, Try.ntmps87
  go_wp2_with fail
  refine (PA'h.out _ _ _ hS'h.out).mono ?_
  rintro e w2 ⟨rfl, hb2⟩
  have hb3 := below_next hb0'h.out hb2
  have hg2 := heap_below hb3 h'h.out hgl'h.out
  have hc2 : w2.cell? ⟨g, 0, none⟩ = some (.int .u64 x) := blk_cell hg2 rfl
  have hf2 : w2.frozen? ⟨g, 0, none⟩ = false := by simp [World.frozen?, hg2]
  clear hb2 hc
  have hb3'h := Lib.hid hb3
  have hg2'h := Lib.hid hg2
  clear hb3 hg2
  go_wp2_with fail
  refine (need_yes _ _).mono ?_
  rintro e w' ⟨rfl, rfl⟩
  go_wp2
  go_end0
  refine ⟨rfl, blk_set _ hg2'h.out, fun B hB => (hb3'h.out.mono (by have := hgl'h.out; omega)).setCell hB _, fun b hb hlt => ?_⟩
  exact (Below.heap_setCell _ _ _ _ hb).trans (hb3'h.out.block b hlt)
theorem fill_yes (x n b : Nat) (g : Nat) (w : World) (hx : x < 2 ^ 64) (hb : b ≤ 127) (hn : n < 8) (hf : fullAt x n = false) (h : w.heap[g]? = some (HandB x)) :
    Calls Try.prog 91 #[.pointer (some ⟨g, 0, none⟩), .int .i64 n, .int .u8 b] w fun e w' => e = .returned (.tuple #[]) ∧ w'.heap[g]? = some (HandB (setLane x n b)) ∧ Only g w w' := by
  have hc : w.cell? ⟨g, 0, none⟩ = some (.int .u64 x) := blk_cell h rfl
  have L := lane_yes (.pointer (some ⟨g, 0, none⟩)) n w hn
  have F := full_any x w hx
  have P := lput_any x n b g w hx (by omega) hn h
  have hbit := (full_bit x n hn).2 hf
  have h2n : 2 ^ n < 256 := Nat.pow_lt_pow_right (m := n) (n := 8) (by decide) hn
  have hbd : decide ((b : Int) ≤ 127) = true := by simp; omega
  have hand : bits .and .u8 (belowM x 128 : Int) ((2 ^ n : Nat) : Int) = 0 := by rw [u8_and_nat _ _ (belowM_lt' _ _) h2n, hbit]; rfl
  generalize 2 ^ n = p at *
  generalize belowM x 128 = m at *
  clear hbit h2n hf h
  have L'h := Lib.hid L
  have F'h := Lib.hid F
  have P'h := Lib.hid P
  have hx'h := Lib.hid hx
  have hn'h := Lib.hid hn
  clear L F P hx hn
  go_enter Try.func91, Try.ntmps91
  go_wp2_with fail
  refine (L'h.out).mono ?_
  rintro e w' ⟨rfl, rfl⟩
  go_wp2_with fail
  refine (need_yes _ _).mono ?_
  rintro e w' ⟨rfl, rfl⟩
  go_wp2_with fail
  refine (F'h.out).mono ?_
  rintro e w' ⟨rfl, rfl⟩
  go_wp2_with fail
  refine (need_yes _ _).mono ?_
  rintro e w' ⟨rfl, rfl⟩
  go_wp2_with fail
  refine P'h.out.mono ?_
  rintro e w' ⟨rfl, hw1, hw2⟩
  go_wp2
  go_end0
  exact ⟨rfl, hw1, hw2⟩
theorem fill_no (x b : Nat) (lane : Int) (g : Nat) (w : World) (z : Nat) (hx : x < 2 ^ 64) (hb : b < 256) (hz : z = fillE x lane b) (hz0 : z ≠ 0) (h : w.heap[g]? = some (HandB x)) :
    Calls Try.prog 91 #[.pointer (some ⟨g, 0, none⟩), .int .i64 lane, .int .u8 b] w fun e w' => e = Boom z ∧ w' = w := by
  have hc : w.cell? ⟨g, 0, none⟩ = some (.int .u64 x) := blk_cell h rfl
  unfold fillE at hz
  by_cases h1 : 0 ≤ lane ∧ lane < 8
  · obtain ⟨n, rfl⟩ : ∃ n : Nat, lane = (n : Int) := ⟨lane.toNat, by omega⟩
    have hn : n < 8 := by omega
    rw [if_neg (by simp; omega), Int.toNat_natCast] at hz
    have L := lane_yes (.pointer (some ⟨g, 0, none⟩)) n w hn
    by_cases h2 : b ≤ 127
    · have hbd : decide ((b : Int) ≤ 127) = true := by simp; omega
      rw [if_neg (by omega)] at hz
      by_cases h3 : fullAt x n = true
      · rw [if_pos h3] at hz
        subst hz
        have F := full_any x w hx
        have hbit : belowM x 128 &&& 2 ^ n ≠ 0 := fun e => by have := (full_bit x n hn).1 e; rw [h3] at this; cases this
        have h2n : 2 ^ n < 256 := Nat.pow_lt_pow_right (m := n) (n := 8) (by decide) hn
        have hand : bits .and .u8 (belowM x 128 : Int) ((2 ^ n : Nat) : Int) = ((belowM x 128 &&& 2 ^ n : Nat) : Int) := u8_and_nat _ _ (belowM_lt' _ _) h2n
        generalize belowM x 128 &&& 2 ^ n = r at *
        generalize 2 ^ n = p at *
        generalize belowM x 128 = m at *
        have hr : ((r : Int) == 0) = false := by simp; omega
        clear hbit h2n h
        have L'h := Lib.hid L
        have F'h := Lib.hid F
        have hx'h := Lib.hid hx
        have hn'h := Lib.hid hn
        have h3'h := Lib.hid h3
        clear L F hx hn h3
        go_enter Try.func91, Try.ntmps91
        go_wp2_with fail
        refine (L'h.out).mono ?_
        rintro e w' ⟨rfl, rfl⟩
        go_wp2_with fail
        refine (need_yes _ _).mono ?_
        rintro e w' ⟨rfl, rfl⟩
        go_wp2_with fail
        refine (F'h.out).mono ?_
        rintro e w' ⟨rfl, rfl⟩
        go_wp2_with fail
        refine (need_no _ _).mono ?_
        rintro e w' ⟨rfl, rfl⟩
        go_wp2
        exact ⟨rfl, rfl, rfl⟩
      · rw [if_neg h3] at hz; exact absurd hz hz0
    · have hbd : decide ((b : Int) ≤ 127) = false := by simp; omega
      rw [if_pos (by omega)] at hz
      subst hz
      generalize 2 ^ n = p at *
      have L'h := Lib.hid L
      have hx'h := Lib.hid hx
      have hn'h := Lib.hid hn
      clear L hx hn
      go_enter Try.func91, Try.ntmps91
      go_wp2_with fail
      refine (L'h.out).mono ?_
      rintro e w' ⟨rfl, rfl⟩
      go_wp2_with fail
      refine (need_no _ _).mono ?_
      rintro e w' ⟨rfl, rfl⟩
      go_wp2
      exact ⟨rfl, rfl, rfl⟩
  · rw [if_pos h1] at hz
    subst hz
    have L := lane_no (.pointer (some ⟨g, 0, none⟩)) lane w h1
    have L'h := Lib.hid L
    have hx'h := Lib.hid hx
    have h1'h := Lib.hid h1
    clear L hx h1
    go_enter Try.func91, Try.ntmps91
    go_wp2_with fail
    refine (L'h.out).mono ?_
    rintro e w' ⟨rfl, rfl⟩
    go_wp2
    exact ⟨rfl, rfl, rfl⟩
theorem erase_yes (x n : Nat) (g : Nat) (w : World) (hx : x < 2 ^ 64) (hn : n < 8) (hf : fullAt x n = true) (h : w.heap[g]? = some (HandB x)) :
    Calls Try.prog 76 #[.pointer (some ⟨g, 0, none⟩), .int .i64 n] w fun e w' => e = .returned (.tuple #[]) ∧ w'.heap[g]? = some (HandB (setLane x n (eraseB x))) ∧ Only g w w' := by
  have hc : w.cell? ⟨g, 0, none⟩ = some (.int .u64 x) := blk_cell h rfl
  have L := lane_yes (.pointer (some ⟨g, 0, none⟩)) n w hn
  have F := full_any x w hx
  have E := empty_any x w hx
  have P := lput_any x n (eraseB x) g w hx (by unfold eraseB; split <;> decide) hn h
  have hbit : belowM x 128 &&& 2 ^ n ≠ 0 := fun e => by have := (full_bit x n hn).1 e; rw [hf] at this; cases this
  have h2n : 2 ^ n < 256 := Nat.pow_lt_pow_right (m := n) (n := 8) (by decide) hn
  have hand : bits .and .u8 (belowM x 128 : Int) ((2 ^ n : Nat) : Int) = ((belowM x 128 &&& 2 ^ n : Nat) : Int) := u8_and_nat _ _ (belowM_lt' _ _) h2n
  have hse : stopsW x = decide (equalM x 128 ≠ 0) := rfl
  have hx'h := Lib.hid hx
  have hn'h := Lib.hid hn
  have hf'h := Lib.hid hf
  clear hx hn hf
  generalize belowM x 128 &&& 2 ^ n = r at *
  generalize 2 ^ n = p at *
  generalize belowM x 128 = m at *
  generalize equalM x 128 = m2 at *
  have hr : ((r : Int) != 0) = true := by simp; omega
  clear hbit h2n h
  cases hs : stopsW x with
  | true =>
    rw [hs] at hse
    have hm2 : ((m2 : Int) != 0) = true := by have := hse.symm; simp at this; simp; omega
    have he : eraseB x = 128 := by unfold eraseB; rw [if_pos hs]
    rw [he] at P ⊢
    have L'h := Lib.hid L
    have F'h := Lib.hid F
    have P'h := Lib.hid P
    have E'h := Lib.hid E
    have hse'h := Lib.hid hse
    have hs'h := Lib.hid hs
    have he'h := Lib.hid he
    clear L F P E hse hs he
    go_enter Try.func76, Try.ntmps76
    go_wp2_with fail
    refine (F'h.out).mono ?_
    rintro e w' ⟨rfl, rfl⟩
    go_wp2_with fail
    refine (L'h.out).mono ?_
    rintro e w' ⟨rfl, rfl⟩
    go_wp2_with fail
    refine (need_yes _ _).mono ?_
    rintro e w' ⟨rfl, rfl⟩
    go_wp2_with fail
    refine (E'h.out).mono ?_
    rintro e w' ⟨rfl, rfl⟩
    go_wp2_with fail
    refine P'h.out.mono ?_
    rintro e w' ⟨rfl, hw1, hw2⟩
    go_wp2
    go_end0
    exact ⟨rfl, hw1, hw2⟩
  | false =>
    rw [hs] at hse
    have hm2 : ((m2 : Int) != 0) = false := by have := hse.symm; simp at this; simp; omega
    have he : eraseB x = 254 := by unfold eraseB; rw [if_neg (by rw [hs]; simp)]
    rw [he] at P ⊢
    have L'h := Lib.hid L
    have F'h := Lib.hid F
    have P'h := Lib.hid P
    have E'h := Lib.hid E
    have hse'h := Lib.hid hse
    have hs'h := Lib.hid hs
    have he'h := Lib.hid he
    clear L F P E hse hs he
    go_enter Try.func76, Try.ntmps76
    go_wp2_with fail
    refine (F'h.out).mono ?_
    rintro e w' ⟨rfl, rfl⟩
    go_wp2_with fail
    refine (L'h.out).mono ?_
    rintro e w' ⟨rfl, rfl⟩
    go_wp2_with fail
    refine (need_yes _ _).mono ?_
    rintro e w' ⟨rfl, rfl⟩
    go_wp2_with fail
    refine (E'h.out).mono ?_
    rintro e w' ⟨rfl, rfl⟩
    go_wp2_with fail
    refine P'h.out.mono ?_
    rintro e w' ⟨rfl, hw1, hw2⟩
    go_wp2
    go_end0
    exact ⟨rfl, hw1, hw2⟩
theorem erase_no (x : Nat) (lane : Int) (g : Nat) (w : World) (z : Nat) (hx : x < 2 ^ 64) (hz : z = eraseE x lane) (hz0 : z ≠ 0) (h : w.heap[g]? = some (HandB x)) :
    Calls Try.prog 76 #[.pointer (some ⟨g, 0, none⟩), .int .i64 lane] w fun e w' => e = Boom z ∧ w' = w := by
  have hc : w.cell? ⟨g, 0, none⟩ = some (.int .u64 x) := blk_cell h rfl
  have F := full_any x w hx
  unfold eraseE at hz
  by_cases h1 : 0 ≤ lane ∧ lane < 8
  · obtain ⟨n, rfl⟩ : ∃ n : Nat, lane = (n : Int) := ⟨lane.toNat, by omega⟩
    have hn : n < 8 := by omega
    rw [if_neg (by simp; omega), Int.toNat_natCast] at hz
    have L := lane_yes (.pointer (some ⟨g, 0, none⟩)) n w hn
    by_cases h3 : fullAt x n = true
    · rw [if_neg (by simp [h3])] at hz; exact absurd hz hz0
    · rw [if_pos h3] at hz
      subst hz
      have hbit := (full_bit x n hn).2 (by simpa using h3)
      have h2n : 2 ^ n < 256 := Nat.pow_lt_pow_right (m := n) (n := 8) (by decide) hn
      have hand : bits .and .u8 (belowM x 128 : Int) ((2 ^ n : Nat) : Int) = 0 := by rw [u8_and_nat _ _ (belowM_lt' _ _) h2n, hbit]; rfl
      have hx'h := Lib.hid hx
      have hn'h := Lib.hid hn
      have h3'h := Lib.hid h3
      clear hx hn h3
      generalize 2 ^ n = p at *
      generalize belowM x 128 = m at *
      clear hbit h2n h
      have L'h := Lib.hid L
      have F'h := Lib.hid F
      clear L F
      go_enter Try.func76, Try.ntmps76
      go_wp2_with fail
      refine (F'h.out).mono ?_
      rintro e w' ⟨rfl, rfl⟩
      go_wp2_with fail
      refine (L'h.out).mono ?_
      rintro e w' ⟨rfl, rfl⟩
      go_wp2_with fail
      refine (need_no _ _).mono ?_
      rintro e w' ⟨rfl, rfl⟩
      go_wp2
      exact ⟨rfl, rfl, rfl⟩
  · rw [if_pos h1] at hz
    subst hz
    have L := lane_no (.pointer (some ⟨g, 0, none⟩)) lane w h1
    have L'h := Lib.hid L
    have hx'h := Lib.hid hx
    have h1'h := Lib.hid h1
    have F'h := Lib.hid F
    have h'h := Lib.hid h
    clear L hx h1 F h
    go_enter Try.func76, Try.ntmps76
    go_wp2_with fail
    refine (F'h.out).mono ?_
    rintro e w' ⟨rfl, rfl⟩
    go_wp2_with fail
    refine (L'h.out).mono ?_
    rintro e w' ⟨rfl, rfl⟩
    go_wp2
    exact ⟨rfl, rfl, rfl⟩
end Go.Proofs.Ytfoohdjgnphdgaa
