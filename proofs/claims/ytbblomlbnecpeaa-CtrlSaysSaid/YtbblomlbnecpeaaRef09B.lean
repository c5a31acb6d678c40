/-
  The document's answer for Fills.
-/
import Derived.Test.YtbblomlbnecpeaaRef09
import Derived.Test.YtbblomlbnecpeaaLanesT
set_option linter.unusedSimpArgs false
set_option linter.unusedVariables false
set_option maxRecDepth 100000
namespace Go.Proofs.Ytbblomlbnecpeaa
open Go.RowKit

/-- The first lane that is not full; 8: none. -/
def firstOpen (x : Nat) : Nat := (List.range 8).findIdx fun i => !fullAt x i
theorem firstOpen_le (x : Nat) : firstOpen x ≤ 8 := by unfold firstOpen; have := List.findIdx_le_length (p := fun i => !fullAt x i) (xs := List.range 8); simpa using this
theorem firstOpen_hit {x j : Nat} (hj : j < 8) (h : ∀ i, i < j → fullAt x i = true) (hn : fullAt x j = false) : firstOpen x = j := by
  unfold firstOpen
  refine (List.findIdx_eq (by simpa using hj)).2 ⟨by simp [hn], fun i hi => ?_⟩
  simp [h i hi]
theorem firstOpen_none {x : Nat} (h : ∀ i, i < 8 → fullAt x i = true) : firstOpen x = 8 := by
  unfold firstOpen
  have : (List.range 8).findIdx (fun i => !fullAt x i) = (List.range 8).length := List.findIdx_eq_length.2 (fun i hi => by simp [h i (List.mem_range.1 hi)])
  simpa using this
def rStep (s : Option (Nat × List Nat)) (h : Nat) : Option (Nat × List Nat) :=
  match s with
  | none => none
  | some (x, l) => if h ≤ 127 ∧ firstOpen x < 8 then some (setLane x (firstOpen x) h, l ++ [firstOpen x]) else none
def rfillsK (x : Nat) (hs : List Nat) (k : Nat) : Option (Nat × List Nat) := (hs.take k).foldl rStep (some (x, []))
theorem rfold_none (hs : List Nat) : hs.foldl rStep none = none := by
  induction hs with
  | nil => rfl
  | cons a r ih => exact ih
theorem rfillsK_succ (x : Nat) (hs : List Nat) {k : Nat} (h : k < hs.length) : rfillsK x hs (k + 1) = rStep (rfillsK x hs k) (nthN hs k) := by
  unfold rfillsK
  rw [List.take_succ_eq_append_getElem h, List.foldl_append, nthN_eq h]; rfl
theorem rfillsK_stuck (x : Nat) (hs : List Nat) {k : Nat} (h : rfillsK x hs k = none) (hk : k ≤ hs.length) : rfillsK x hs hs.length = none := by
  unfold rfillsK at *
  have e : hs.take hs.length = hs.take k ++ hs.drop k := by rw [List.take_length, List.take_append_drop]
  rw [e, List.foldl_append, h, rfold_none]
def rfillsT (x : Nat) (hs : List Nat) : Nat × List Nat × Nat := match rfillsK x hs hs.length with | none => (0, [], 2) | some (y, l) => (y, l, 0)
def RFillsP (x : Nat) (hs : List Nat) (w : World) (e : Ending) (w' : World) : Prop :=
  ∃ sp' n' cap', e = .returned (.tuple #[.int .u64 (rfillsT x hs).1, .slice sp' n' cap', .int .i64 (rfillsT x hs).2.2]) ∧ Below w.heap.size w w' ∧
      w'.ownsRow w.heap.size 3 1 (.slice sp' n' cap') (rfillsT x hs).2.1.length (ints (rfillsT x hs).2.1)
/-- What holds at the head of a round. -/
structure RF (x : Nat) (hs : List Nat) (w : World) (k y : Nat) (l : List Nat) (v : Value) (W : World) : Prop where
  at_ : rfillsK x hs k = some (y, l)
  len : l.length = k
  lt : y < 2 ^ 64
  row : W.ownsRow w.heap.size 3 1 v k (ints l)
  old : Below w.heap.size w W
theorem rfills_any (x n cap : Nat) (sp : Option Addr) (hs : List Nat) (w : World) (hx : x < 2 ^ 64) (hby : Bytey hs) (hS : Sl w sp n (u8s hs)) (hn : n ≤ 4096) :
    Calls Try.prog 28 #[.int .u64 x, .slice sp n cap] w (RFillsP x hs w) := by
  have hlen : n = hs.length := by have := hS.1; simpa [u8s] using this
  obtain ⟨i0, hi, hz0, hz1, hz2⟩ := info_parts info_int
  have hx'h := Lib.hid hx
  have hby'h := Lib.hid hby
  have hS'h := Lib.hid hS
  have hlen'h := Lib.hid hlen
  clear hx hby hS hlen
  go_enter Try.func28, Try.ntmps28
  go_wp2_with fail
  go_loopg [0, 7, 13] n (fun q c v i wr => ∃ (k y : Nat) (l : List Nat), k + q = n ∧ i = .int .i64 k ∧ c = .int .u64 y ∧ RF x hs w k y l v wr)
  case atStart => exact ⟨0, x, [], by omega, rfl, rfl, rfl, rfl, hx'h.out, World.ownsRow_nil _ _ _ _, Below.refl _ _⟩
  case round =>
    obtain ⟨k, y, l, hkq, rfl, rfl, hR⟩ := hrel
    by_cases hk : k < n
    · have hkl : k < hs.length := by have := hlen'h.out; omega
      obtain ⟨ab, aoff, rfl, hcs⟩ := (hS'h.out.below hR.old).some' (by omega)
      have c1 : wr.cell? ⟨ab, aoff + k, none⟩ = some (.int .u8 (nthN hs k)) := hcs k _ (u8s_get hkl)
      have hh256 : nthN hs k < 256 := hby'h.out _ (nthN_mem hkl)
      have hnx := rfillsK_succ x hs hkl
      rw [hR.at_] at hnx
      generalize nthN hs k = hh at *
      clear hcs
      obtain ⟨sv, cv, rfl⟩ := row_slice' hR.row
      have hdk : ((k : Int) < (n : Int)) = True := by simp; omega
      have hkq'h := Lib.hid hkq
      have hR'h := Lib.hid hR
      have hkl'h := Lib.hid hkl
      have hnx'h := Lib.hid hnx
      have hh256'h := Lib.hid hh256
      clear hkq hR hkl hnx hh256
      go_wp2_with fail
      obtain ⟨wo, rfl⟩ : ∃ wo : World, wo = wr := ⟨_, rfl⟩
      obtain ⟨go, rfl⟩ : ∃ go : Nat, go = gk := ⟨_, rfl⟩
      go_loopg [10] 8 (fun q i wi => ∃ j : Nat, j + q = 8 ∧ i = .int .i64 j ∧ (∀ i, i < j → fullAt y i = true) ∧ wi = wo)
      case atStart => exact ⟨0, rfl, rfl, fun i hi => absurd hi (by omega), rfl⟩
      case round =>
        obtain ⟨j, hj, rfl, hfull, rfl⟩ := hrel
        have hj8 : j ≤ 8 := by omega
        have hy := hR'h.out.lt
        have hdie : ¬ (hh ≤ 127 ∧ firstOpen y < 8) → rfillsT x hs = (0, [], 2) := fun hno => by
          have : rfillsK x hs hs.length = none := rfillsK_stuck x hs (k := k + 1) (by rw [hnx'h.out]; show (if hh ≤ 127 ∧ _ then _ else _) = _; rw [if_neg hno]) (by have := hkl'h.out; omega)
          unfold rfillsT; rw [this]
        by_cases hjl : j < 8
        · have d1 : decide ((j : Int) < 8) = true := by simp; omega
          have F := rfull_any y j wr hy hjl
          cases hf : fullAt y j with
          | true =>
            rw [hf] at F
            have hj'h := Lib.hid hj
            have hfull'h := Lib.hid hfull
            have hy'h := Lib.hid hy
            have F'h := Lib.hid F
            have hf'h := Lib.hid hf
            have hdie'h := Lib.hid hdie
            clear hj hfull hy F hf hdie
            go_wp2_with (first | (go_at_call 51; refine F'h.out.mono ?_; rintro e w' ⟨rfl, rfl⟩))
            go_roundg (gk - 1)
            case measure => have := hj'h.out; omega
            case rel => exact ⟨j + 1, by have := hj'h.out; omega, by go_num, fun i hi => by
              by_cases e : i = j
              · subst e; exact hf'h.out
              · exact hfull'h.out i (by omega), rfl⟩
          | false =>
            rw [hf] at F
            have hfo := firstOpen_hit hjl hfull hf
            by_cases h127 : hh ≤ 127
            · have d2 : decide ((127 : Int) < (hh : Int)) = false := by simp; omega
              have d3 : ((j : Int) == 8) = false := by simp; omega
              have P := refPut_any y hh j wr hy hh256'h.out hjl
              have hk1 : rfillsK x hs (k + 1) = some (setLane y j hh, l ++ [j]) := by rw [hnx'h.out]; show (if hh ≤ 127 ∧ _ then _ else _) = _; rw [if_pos ⟨h127, by omega⟩, hfo]
              have hy1 := setLane_lt' y j hh hy hh256'h.out
              generalize setLane y j hh = y1 at *
              have hkn := hkq'h.out
              have hj'h := Lib.hid hj
              have hfull'h := Lib.hid hfull
              have hy'h := Lib.hid hy
              have F'h := Lib.hid F
              have hf'h := Lib.hid hf
              have hdie'h := Lib.hid hdie
              have hfo'h := Lib.hid hfo
              have P'h := Lib.hid P
              have hk1'h := Lib.hid hk1
              have hy1'h := Lib.hid hy1
              have h127'h := Lib.hid h127
              clear hj hfull hy F hf hdie hfo P hk1 hy1 h127
              go_wp2_with (first | (go_at_call 51; refine F'h.out.mono ?_; rintro e w' ⟨rfl, rfl⟩) | (go_at_call 52; refine P'h.out.mono ?_; rintro e w2 ⟨rfl, hb2⟩; have hrow2 := ownsRow_next hR'h.out.row hb2; have hold2 := hR'h.out.old.trans (hb2.mono hR'h.out.old.size); have hsz2 := hold2.size) | (at_builtin; refine wpList_append _ rfl (.tmp 36) (.tmp 38) 40 rfl w.heap.size 3 i0 (.int .i64 0) 1 8 Try.underlying40 hi hz0 hz1 hz2 rfl (by decide) (.slice sv k cv) k _ rfl (hrow2.alloc _) ⟨w2.heap.size, 0, none⟩ 1 1 [.int .i64 (j : Int)] rfl rfl (cell_one_new _ _ _) (by simp [Value.oneCell']) (by unfold maxLen; omega) (by omega) (by simp; omega) (by decide) ?_; intro v' w4 hown' hgrow hwh; obtain ⟨g', cap', rfl⟩ := ownsRow_succ hown'))
              have e : ints (l ++ [j]) = ints l ++ [.int .i64 j] := by unfold ints; rw [List.map_append]; rfl
              have hold4 : Below w.heap.size w w4 := (hold2.alloc hsz2 _).grown hgrow (by simp; omega) (fun q hq => (hrow2.lt _ hq).1)
              go_roundg (go - 1)
              case measure => have := hkq'h.out; omega
              case rel => exact ⟨k + 1, y1, l ++ [j], by have := hkq'h.out; omega, by go_num, rfl, hk1'h.out, by rw [List.length_append, hR'h.out.len]; rfl, hy1'h.out, by rw [e]; exact hown', hold4⟩
            · have d2 : decide ((127 : Int) < (hh : Int)) = true := by simp; omega
              have hT := hdie (fun e => h127 e.1)
              have hj'h := Lib.hid hj
              have hfull'h := Lib.hid hfull
              have hy'h := Lib.hid hy
              have F'h := Lib.hid F
              have hf'h := Lib.hid hf
              have hdie'h := Lib.hid hdie
              have hfo'h := Lib.hid hfo
              have hT'h := Lib.hid hT
              have h127'h := Lib.hid h127
              clear hj hfull hy F hf hdie hfo hT h127
              go_wp2_with (first | (go_at_call 51; refine F'h.out.mono ?_; rintro e w' ⟨rfl, rfl⟩))
              go_ret3
              unfold RFillsP
              rw [hT'h.out]
              exact ⟨none, 0, 0, rfl, hR'h.out.old, World.ownsRow_nil _ _ _ _⟩
        · obtain rfl : j = 8 := by omega
          have hfo := firstOpen_none hfull
          have hT := hdie (fun e => by omega)
          by_cases h127 : hh ≤ 127
          · have d2 : decide ((127 : Int) < (hh : Int)) = false := by simp; omega
            have hj'h := Lib.hid hj
            have hfull'h := Lib.hid hfull
            have hy'h := Lib.hid hy
            have hdie'h := Lib.hid hdie
            have hfo'h := Lib.hid hfo
            have hT'h := Lib.hid hT
            have h127'h := Lib.hid h127
            clear hj hfull hy hdie hfo hT h127
            go_wp2
            go_ret3
            unfold RFillsP
            rw [hT'h.out]
            exact ⟨none, 0, 0, rfl, hR'h.out.old, World.ownsRow_nil _ _ _ _⟩
          · have d2 : decide ((127 : Int) < (hh : Int)) = true := by simp; omega
            have hj'h := Lib.hid hj
            have hfull'h := Lib.hid hfull
            have hy'h := Lib.hid hy
            have hdie'h := Lib.hid hdie
            have hfo'h := Lib.hid hfo
            have hT'h := Lib.hid hT
            have h127'h := Lib.hid h127
            clear hj hfull hy hdie hfo hT h127
            go_wp2
            go_ret3
            unfold RFillsP
            rw [hT'h.out]
            exact ⟨none, 0, 0, rfl, hR'h.out.old, World.ownsRow_nil _ _ _ _⟩
    · have hkk : k = n := by omega
      have hat := hR.at_
      have hln := hR.len
      have hT : rfillsT x hs = (y, l, 0) := by unfold rfillsT; rw [← hlen'h.out, ← hkk, hat]
      obtain ⟨sv, cv, rfl⟩ := row_slice' hR.row
      have hdk : ((k : Int) < (n : Int)) = False := by simp; omega
      clear hat
      have hkq'h := Lib.hid hkq
      have hR'h := Lib.hid hR
      have hln'h := Lib.hid hln
      have hT'h := Lib.hid hT
      have hkk'h := Lib.hid hkk
      clear hkq hR hln hT hkk
      go_wp2
      go_ret3
      unfold RFillsP
      rw [hT'h.out]
      exact ⟨_, _, _, rfl, hR'h.out.old, by rw [hln'h.out]; exact hR'h.out.row⟩
end Go.Proofs.Ytbblomlbnecpeaa
