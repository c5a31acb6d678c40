/-
  The exported functions of package ctrl (but for Fills).
-/
import Derived.Test.YtfoohdjgnphdgaaCtrlC
set_option linter.unusedSimpArgs false
set_option linter.unusedVariables false
set_option maxRecDepth 100000
namespace Go.Proofs.Ytfoohdjgnphdgaa
open Go.RowKit

theorem match1_yes (x h g p : Nat) (w : World) (hx : x < 2 ^ 64) (hh : h ≤ 127) (hg : w.heap[g]? = some (HandB x)) (hp : w.cell? ⟨p, 0, none⟩ = some (.int .u8 h)) :
    Calls Try.prog 71 #[.pointer (some ⟨g, 0, none⟩), .pointer (some ⟨p, 0, none⟩)] w fun e w' => e = .returned (.int .u8 (equalM x h)) ∧ Below w.heap.size w w' := by
  have hc : w.cell? ⟨g, 0, none⟩ = some (.int .u64 x) := blk_cell hg rfl
  have E := fun w => equal_any x h w hx (show h < 256 by omega)
  have hd : decide ((h : Int) ≤ 127) = true := by simp; omega
  have E'h := Lib.hid E
  have hx'h := Lib.hid hx
  have hh'h := Lib.hid hh
  have hg'h := Lib.hid hg
  clear E hx hh hg
  go_enter Try.func71, Try.ntmps71
  go_wp2_with fail
  refine (need_yes _ _).mono ?_
  rintro e w' ⟨rfl, rfl⟩
  go_wp2_with fail
  go_region_with (go_at_call 73; refine (E'h.out _).mono ?_; rintro e w' ⟨rfl, rfl⟩)
  all_goals
    first | go_wp2 | skip
    go_ret
    exact ⟨rfl, Below.drew (Below.refl _ _)⟩
theorem match1_no (x h g p : Nat) (w : World) (hh : ¬ h ≤ 127) (hp : w.cell? ⟨p, 0, none⟩ = some (.int .u8 h)) :
    Calls Try.prog 71 #[.pointer (some ⟨g, 0, none⟩), .pointer (some ⟨p, 0, none⟩)] w fun e w' => e = Boom 2 ∧ w' = w := by
  have hd : decide ((h : Int) ≤ 127) = false := by simp; omega
  have hh'h := Lib.hid hh
  clear hh
  go_enter Try.func71, Try.ntmps71
  go_wp2_with fail
  refine (need_no _ _).mono ?_
  rintro e w' ⟨rfl, rfl⟩
  go_wp2
  exact ⟨rfl, rfl, rfl⟩
/-- What Match tells: the lanes, and the error. -/
def matchM (x h : Nat) : Nat := if rightW x = true ∧ h ≤ 127 then equalM x h else 0
def matchE (x h : Nat) : Nat := if rightW x = true then (if h ≤ 127 then 0 else 2) else 190
theorem match_any (x h : Nat) (w : World) (hx : x < 2 ^ 64) (hh : h < 256) :
    Calls Try.prog 49 #[.int .u64 x, .int .u8 h] w fun e w' => e = .returned (.tuple #[.int .u8 (matchM x h), .int .i64 (matchE x h)]) ∧ Below w.heap.size w w' := by
  have hmf : ∀ (fn : Fn) (first cap : Array Value) (w : World), (Instr.makeFunc fn first cap).run Try.prog w = .ok (.func fn first cap) w := fun _ _ _ _ => rfl
  obtain ⟨W, hW⟩ : ∃ W, W = w.alloc (.cells #[.int .u8 h] 5) := ⟨_, rfl⟩
  have hB : Below w.heap.size w W := by rw [hW]; exact (Below.refl _ _).alloc (Nat.le_refl _) _
  have hs : W.heap.size = w.heap.size + 1 := by rw [hW]; simp
  have hp : W.heap[w.heap.size]? = some (.cells #[.int .u8 h] 5 (0, 0)) := by rw [hW]; exact World.alloc_heap_new _ _
  have T : Calls Try.prog 70 #[.int .u64 x, .func (.func 71) #[] #[.pointer (some ⟨w.heap.size, 0, none⟩)]] W fun e w' => e = .returned (.tuple #[.int .u8 (matchM x h), .int .i64 (matchE x h)]) ∧ Below W.heap.size W w' := by
    cases hr : rightW x with
    | false =>
      have e1 : matchM x h = 0 := by unfold matchM; rw [if_neg (by rw [hr]; simp)]
      have e2 : matchE x h = 190 := by unfold matchE; rw [if_neg (by rw [hr]; simp)]
      rw [e1, e2]
      exact tries_notM x _ W hx hr
    | true =>
      by_cases h1 : h ≤ 127
      · have e1 : matchM x h = equalM x h := by unfold matchM; rw [if_pos ⟨hr, h1⟩]
        have e2 : matchE x h = 0 := by unfold matchE; rw [if_pos hr, if_pos h1]
        rw [e1, e2]
        exact tries_yesMatch x _ (equalM x h) W hx hr fun g W1 hg hb1 hh1 => (match1_yes x h g w.heap.size W1 hx h1 hh1 (blk_cell (heap_below hb1 hp (by omega)) rfl)).mono fun e w' ⟨h, hw⟩ => ⟨h, hw.mono (Nat.le_of_lt (lt_of_heap hh1))⟩
      · have e1 : matchM x h = 0 := by unfold matchM; rw [if_neg (fun e => h1 e.2)]
        have e2 : matchE x h = 2 := by unfold matchE; rw [if_pos hr, if_neg h1]
        rw [e1, e2]
        exact tries_noMatch x _ 2 W hx hr fun g W1 hg hb1 hh1 => (match1_no x h g w.heap.size W1 h1 (blk_cell (heap_below hb1 hp (by omega)) rfl)).mono fun e w' ⟨h, hw⟩ => ⟨h, by rw [hw]; exact Below.refl _ _⟩
  generalize matchM x h = m at *
  generalize matchE x h = z at *
  have T'h := Lib.hid T
  have hB'h := Lib.hid hB
  have hs'h := Lib.hid hs
  have hp'h := Lib.hid hp
  have hx'h := Lib.hid hx
  have hh'h := Lib.hid hh
  clear T hB hs hp hx hh
  go_enter Try.func49, Try.ntmps49
  go_wp2_with fail
  rw [← hW]
  refine T'h.out.mono ?_
  rintro e w' ⟨rfl, hb1⟩
  clear hW
  go_wp2
  go_ret2
  exact ⟨rfl, hB'h.out.trans (hb1.mono hB'h.out.size)⟩
/-- What Fill comes to. -/
def fillW' (x : Nat) (lane : Int) (h : Nat) : Nat := if rightW x = true ∧ fillE x lane h = 0 then setLane x lane.toNat h else 0
def fillZ (x : Nat) (lane : Int) (h : Nat) : Nat := if rightW x = true then fillE x lane h else 190
theorem fillE_zero {x : Nat} {lane : Int} {h : Nat} (e : fillE x lane h = 0) : (0 ≤ lane ∧ lane < 8) ∧ h ≤ 127 ∧ fullAt x lane.toNat = false := by
  unfold fillE at e
  by_cases h1 : 0 ≤ lane ∧ lane < 8
  · rw [if_neg (by simpa using h1)] at e
    by_cases h2 : h ≤ 127
    · rw [if_neg (by omega)] at e
      by_cases h3 : fullAt x lane.toNat = true
      · rw [if_pos h3] at e; cases e
      · exact ⟨h1, h2, by simpa using h3⟩
    · rw [if_pos (by omega)] at e; cases e
  · rw [if_pos h1] at e; cases e
theorem erase1_yes (x n g p : Nat) (w : World) (hx : x < 2 ^ 64) (hn : n < 8) (hf : fullAt x n = true) (hg : w.heap[g]? = some (HandB x)) (hp : w.cell? ⟨p, 0, none⟩ = some (.int .i64 n)) :
    Calls Try.prog 75 #[.pointer (some ⟨g, 0, none⟩), .pointer (some ⟨p, 0, none⟩)] w fun e w' => e = .returned (.int .u64 (setLane x n (eraseB x))) ∧ Below g w w' := by
  have F := erase_yes x n g w hx hn hf hg
  have F'h := Lib.hid F
  have hx'h := Lib.hid hx
  have hn'h := Lib.hid hn
  have hf'h := Lib.hid hf
  have hg'h := Lib.hid hg
  clear F hx hn hf hg
  go_enter Try.func75, Try.ntmps75
  go_wp2_with fail
  refine (F'h.out).mono ?_
  rintro e w' ⟨rfl, hw1, hw2⟩
  have hc : w'.cell? ⟨g, 0, none⟩ = some (.int .u64 (setLane x n (eraseB x))) := blk_cell hw1 rfl
  have hw1'h := Lib.hid hw1
  have hw2'h := Lib.hid hw2
  clear hw1 hw2
  go_wp2
  go_ret
  exact ⟨rfl, hw2'h.out.1 g (Nat.le_refl _)⟩
theorem erase1_no (x g p z : Nat) (lane : Int) (w : World) (hx : x < 2 ^ 64) (hz : z = eraseE x lane) (hz0 : z ≠ 0) (hg : w.heap[g]? = some (HandB x)) (hp : w.cell? ⟨p, 0, none⟩ = some (.int .i64 lane)) :
    Calls Try.prog 75 #[.pointer (some ⟨g, 0, none⟩), .pointer (some ⟨p, 0, none⟩)] w fun e w' => e = Boom z ∧ w' = w := by
  have F := erase_no x lane g w z hx hz hz0 hg
  have F'h := Lib.hid F
  have hx'h := Lib.hid hx
  have hz'h := Lib.hid hz
  have hz0'h := Lib.hid hz0
  have hg'h := Lib.hid hg
  clear F hx hz hz0 hg
  go_enter Try.func75, Try.ntmps75
  go_wp2_with fail
  refine (F'h.out).mono ?_
  rintro e w' ⟨rfl, rfl⟩
  go_wp2
  exact ⟨rfl, rfl, rfl⟩
def eraseW' (x : Nat) (lane : Int) : Nat := if rightW x = true ∧ eraseE x lane = 0 then setLane x lane.toNat (eraseB x) else 0
def eraseZ (x : Nat) (lane : Int) : Nat := if rightW x = true then eraseE x lane else 190
theorem eraseE_zero {x : Nat} {lane : Int} (e : eraseE x lane = 0) : (0 ≤ lane ∧ lane < 8) ∧ fullAt x lane.toNat = true := by
  unfold eraseE at e
  by_cases h1 : 0 ≤ lane ∧ lane < 8
  · rw [if_neg (by simpa using h1)] at e
    by_cases h3 : fullAt x lane.toNat = true
    · exact ⟨h1, h3⟩
    · rw [if_pos h3] at e; cases e
  · rw [if_pos h1] at e; cases e
theorem xerase_any (x : Nat) (lane : Int) (w : World) (hx : x < 2 ^ 64) :
    Calls Try.prog 54 #[.int .u64 x, .int .i64 lane] w fun e w' => e = .returned (.tuple #[.int .u64 (eraseW' x lane), .int .i64 (eraseZ x lane)]) ∧ Below w.heap.size w w' := by
  have hmf : ∀ (fn : Fn) (first cap : Array Value) (w : World), (Instr.makeFunc fn first cap).run Try.prog w = .ok (.func fn first cap) w := fun _ _ _ _ => rfl
  obtain ⟨W, hW⟩ : ∃ W, W = w.alloc (.cells #[.int .i64 lane] 3) := ⟨_, rfl⟩
  have hB : Below w.heap.size w W := by rw [hW]; exact (Below.refl _ _).alloc (Nat.le_refl _) _
  have hs : W.heap.size = w.heap.size + 1 := by rw [hW]; simp
  have hp : W.heap[w.heap.size]? = some (.cells #[.int .i64 lane] 3 (0, 0)) := by rw [hW]; exact World.alloc_heap_new _ _
  have T : Calls Try.prog 74 #[.int .u64 x, .func (.func 75) #[] #[.pointer (some ⟨w.heap.size, 0, none⟩)]] W fun e w' => e = .returned (.tuple #[.int .u64 (eraseW' x lane), .int .i64 (eraseZ x lane)]) ∧ Below W.heap.size W w' := by
    cases hr : rightW x with
    | false =>
      have e1 : eraseW' x lane = 0 := by unfold eraseW'; rw [if_neg (by rw [hr]; simp)]
      have e2 : eraseZ x lane = 190 := by unfold eraseZ; rw [if_neg (by rw [hr]; simp)]
      rw [e1, e2]
      exact tries_notU x _ W hx hr
    | true =>
      have e2 : eraseZ x lane = eraseE x lane := by unfold eraseZ; rw [if_pos hr]
      rw [e2]
      by_cases h1 : eraseE x lane = 0
      · obtain ⟨hl, hf⟩ := eraseE_zero h1
        have e1 : eraseW' x lane = setLane x lane.toNat (eraseB x) := by unfold eraseW'; rw [if_pos ⟨hr, h1⟩]
        rw [e1, h1]
        have hln : lane = ((lane.toNat : Nat) : Int) := by omega
        exact tries_yesErase x _ (setLane x lane.toNat (eraseB x)) W hx hr fun g W1 hg hb1 hh1' => (erase1_yes x lane.toNat g w.heap.size W1 hx (by omega) hf hh1' (by rw [← hln]; exact blk_cell (heap_below hb1 hp (by omega)) rfl))
      · have e1 : eraseW' x lane = 0 := by unfold eraseW'; rw [if_neg (fun e => h1 e.2)]
        rw [e1]
        exact tries_noErase x _ (eraseE x lane) W hx hr fun g W1 hg hb1 hh1' => (erase1_no x g w.heap.size _ lane W1 hx rfl h1 hh1' (blk_cell (heap_below hb1 hp (by omega)) rfl)).mono fun e w' ⟨h, hw⟩ => ⟨h, by rw [hw]; exact Below.refl _ _⟩
  generalize eraseW' x lane = m at *
  generalize eraseZ x lane = z at *
  have T'h := Lib.hid T
  have hB'h := Lib.hid hB
  have hs'h := Lib.hid hs
  have hp'h := Lib.hid hp
  have hx'h := Lib.hid hx
  clear T hB hs hp hx
  go_enter Try.func54, Try.ntmps54
  go_wp2_with fail
  rw [← hW]
  refine T'h.out.mono ?_
  rintro e w' ⟨rfl, hb1⟩
  clear hW
  go_wp2
  go_ret2
  exact ⟨rfl, hB'h.out.trans (hb1.mono hB'h.out.size)⟩
theorem new_any (w : World) : Calls Try.prog 42 #[] w fun e w' => e = .returned (.int .u64 (fillW 128)) ∧ w' = w := by
  have F := fill_any 128 w (by decide)
  have F'h := Lib.hid F
  clear F
  go_enter Try.func42, Try.ntmps42
  go_wp2_with fail
  refine (F'h.out).mono ?_
  rintro e w' ⟨rfl, rfl⟩
  go_wp2
  go_ret
  exact ⟨rfl, rfl⟩
end Go.Proofs.Ytfoohdjgnphdgaa
