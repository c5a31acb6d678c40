/-
  The library's sort at rows of uint64: turning a range round; the medians.
-/
import Derived.Test.YtifofdciablljaaDoorSrtA
import Derived.Sort.WalkD1
import Derived.Deep.RegionWith
import Derived.Deep.LoopGhost
set_option linter.unusedSimpArgs false
set_option linter.unusedVariables false
namespace Go.Proofs.YtifofdciablljaaDoor
open Go.RowKit Go.Sort

theorem Left.swapE {w W : World} {blk off : Nat} {d : Array Nat} (h : Left w blk off d W) (j k : Nat) (hj : j < d.size) (hk : k < d.size) {a b : Int} (ha : a = (d[k]! : Nat)) (hb : b = (d[j]! : Nat)) :
    Left w blk off (swp d j k) ((W.setCell ⟨blk, off + j, none⟩ (.int .u64 a)).setCell ⟨blk, off + k, none⟩ (.int .u64 b)).drew := (h.swap 0 j k hj hk ha hb).on 1

set_option maxHeartbeats 1600000 in
set_option maxRecDepth 100000 in
theorem reverse64 (blk off cap a b : Nat) (d : Array Nat) (w : World) (hH : Holds e64 w blk off d) (hab : a ≤ b) (hb : b ≤ d.size) (hsz : d.size < 4611686018427387904) :
    Calls Tryd.prog 75 #[.slice (some ⟨blk, off, none⟩) d.size cap, .int .i64 a, .int .i64 b] w fun e w' =>
      e = .returned (.tuple #[]) ∧ Left w blk off (reverseRange d a b) w' := by
  go_enter Tryd.func75, Tryd.ntmps75
  go_wp2
  go_loopg [6, 7] (b - a) (fun k vi vj wr => ∃ (i m : Nat) (dk : Array Nat), vi = .int .i64 (i : Int) ∧ vj = .int .i64 ((m : Int) - 1) ∧ m ≤ d.size ∧ m - i ≤ k ∧ dk.size = d.size ∧ Left w blk off dk wr ∧
    Hid (reverseLoop i (m - 1) dk = reverseLoop a (b - 1) d))
  case atStart => exact ⟨a, b, d, rfl, rfl, hb, Nat.le_refl _, rfl, Left.self hH, rfl⟩
  case round =>
    obtain ⟨i, m, dk, rfl, rfl, hm, hk, hs, hL, hE⟩ := hrel
    by_cases hlt : (i : Int) < (m : Int) - 1
    · obtain ⟨j, rfl⟩ : ∃ j, m = j + 1 := ⟨m - 1, by omega⟩
      have ej : (((j + 1 : Nat) : Int) - 1) = (j : Int) := by omega
      rw [ej] at hlt ⊢
      obtain ⟨G, hG⟩ : ∃ G : Nat → Nat, ∀ t, G t = dk[t]! := ⟨fun t => dk[t]!, fun _ => rfl⟩
      have hc := hL.cell hH hs hG
      have hf := hL.free hH hs
      have HG := Lib.hid hG
      have HL := Lib.hid hL
      have HS := Lib.hid (HL.out.swapE i j (by omega) (by omega) (a := (G j : Int)) (b := (G i : Int)) (by rw [hG]) (by rw [hG]))
      clear hG hL hH
      go_wp2_with fail
      go_region
      go_wp2
      go_roundg (j - (i + 1))
      case measure => omega
      case rel =>
        refine ⟨i + 1, j, swp dk i j, by simp, rfl, by omega, by omega, by rw [size_swp]; exact hs, HS.out, ?_⟩
        have e := hE.out
        rw [Nat.add_sub_cancel, reverseLoop, if_pos (by omega)] at e
        exact e
    · go_wp2
      go_end0
      refine ⟨rfl, ?_⟩
      have e := hE.out
      rw [reverseLoop, if_neg (by omega)] at e
      rw [reverseRange, ← e]
      exact hL

/-- After some draws the counter (a row of one int) reads t; all else as in w. -/
def Cnt (w : World) (sb so t : Nat) (W : World) : Prop := ∃ n, W = putRow (Value.int .i64) (Sort.ahead w n) sb so (one t)
abbrev HasCnt (w : World) (sb so t : Nat) : Prop := Holds (Value.int .i64) w sb so (one t)
theorem Cnt.row {w W : World} {blk off sb so t : Nat} {d : Array Nat} (h : Cnt w sb so t W) (h0 : Holds e64 w blk off d) (hne : sb ≠ blk) : Holds e64 W blk off d := by
  obtain ⟨n, rfl⟩ := h
  intro j hj
  refine ⟨?_, ?_⟩
  · rw [cell?_putRow_other _ _ _ _ _ _ (Or.inl (Ne.symm hne))]; exact (h0 j hj).1
  · rw [frozen?_putRow]; exact (h0 j hj).2
theorem Cnt.has {w W : World} {sb so s t : Nat} (h : Cnt w sb so t W) (h0 : HasCnt w sb so s) : HasCnt W sb so t := by
  obtain ⟨n, rfl⟩ := h
  exact holds_one h0
theorem Cnt.then {w W W' : World} {sb so s t : Nat} (h : Cnt w sb so s W) (h' : Cnt W sb so t W') : Cnt w sb so t W' := by
  obtain ⟨n, rfl⟩ := h
  obtain ⟨m, rfl⟩ := h'
  exact ⟨n + m, one_one w n m sb so s t⟩

set_option maxHeartbeats 1000000 in
set_option maxRecDepth 100000 in
theorem order64 (d : Array Nat) (len : Nat) (hlen : d.size = len) (blk off cap a b sb so s : Nat) (w : World) (hH : Holds e64 w blk off d) (ha : a < d.size) (hb : b < d.size) (hS : HasCnt w sb so s) (hs : s < 4611686018427387904) :
    Calls Tryd.prog 87 #[.slice (some ⟨blk, off, none⟩) len cap, .int .i64 a, .int .i64 b, .pointer (some ⟨sb, so, none⟩)] w fun e w' =>
      e = .returned (.tuple #[.int .i64 (order2 lt64 d a b s).1, .int .i64 (order2 lt64 d a b s).2.1]) ∧ Cnt w sb so (order2 lt64 d a b s).2.2 w' := by
  subst hlen
  obtain ⟨x, hx⟩ : ∃ x, x = d[a]! := ⟨_, rfl⟩
  obtain ⟨y, hy⟩ : ∃ y, y = d[b]! := ⟨_, rfl⟩
  have ca : w.cell? ⟨blk, off + a, none⟩ = some (.int .u64 (x : Nat)) := by rw [hx]; exact (hH a ha).1
  have cb : w.cell? ⟨blk, off + b, none⟩ = some (.int .u64 (y : Nat)) := by rw [hy]; exact (hH b hb).1
  obtain ⟨cs, fs⟩ := one_cell hS
  have o2 : order2 lt64 d a b s = if lt64 y x then (b, a, s + 1) else (a, b, s) := by rw [hx, hy]; rfl
  have HO := Lib.hid o2
  clear o2 hx hy
  go_enter Tryd.func87, Tryd.ntmps87
  go_wp2
  go_region_with (go_at_call 52; refine (less64 _ _ _).mono ?_; rintro e w' ⟨rfl, rfl⟩)
  all_goals (try go_wp2)
  all_goals first
    | (have hlt : lt64 y x = true := by assumption
       go_ret2
       rw [HO.out, hlt]
       refine ⟨rfl, 1, ?_⟩
       rw [if_pos rfl, putRow_ahead, ← one_set hS (s + 1)]
       simp [drew_eq_ahead])
    | (have hlt : lt64 y x = false := by assumption
       go_ret2
       rw [HO.out, hlt]
       refine ⟨rfl, 1, ?_⟩
       rw [if_neg (by decide), putRow_ahead, putRow_self _ _ _ _ _ hS]
       rfl)

theorem order_lt (d : Array Nat) {a b n : Nat} (s : Nat) (ha : a < n) (hb : b < n) : (order2 lt64 d a b s).1 < n ∧ (order2 lt64 d a b s).2.1 < n := by
  unfold order2
  split <;> exact ⟨by assumption, by assumption⟩
theorem order_le (d : Array Nat) (a b s : Nat) : (order2 lt64 d a b s).2.2 ≤ s + 1 := by
  unfold order2
  split <;> simp

set_option maxHeartbeats 1000000 in
set_option maxRecDepth 100000 in
theorem median64 (d : Array Nat) (len : Nat) (hlen : d.size = len) (blk off cap a b c sb so s : Nat) (w : World) (hH : Holds e64 w blk off d) (ha : a < d.size) (hb : b < d.size) (hc : c < d.size) (hne : sb ≠ blk) (hS : HasCnt w sb so s) (hs : s + 3 < 4611686018427387904) :
    Calls Tryd.prog 86 #[.slice (some ⟨blk, off, none⟩) len cap, .int .i64 a, .int .i64 b, .int .i64 c, .pointer (some ⟨sb, so, none⟩)] w fun e w' =>
      e = .returned (.int .i64 (median lt64 d a b c s).1) ∧ Cnt w sb so (median lt64 d a b c s).2 w' := by
  subst hlen
  obtain ⟨r1, hr1⟩ : ∃ r, r = order2 lt64 d a b s := ⟨_, rfl⟩
  obtain ⟨r2, hr2⟩ : ∃ r, r = order2 lt64 d r1.2.1 c r1.2.2 := ⟨_, rfl⟩
  obtain ⟨r3, hr3⟩ : ∃ r, r = order2 lt64 d r1.1 r2.1 r2.2.2 := ⟨_, rfl⟩
  have em : median lt64 d a b c s = (r3.2.1, r3.2.2) := by rw [hr3, hr2, hr1]; rfl
  have l1 : r1.1 < d.size ∧ r1.2.1 < d.size := by rw [hr1]; exact order_lt d s ha hb
  have s1 : r1.2.2 ≤ s + 1 := by rw [hr1]; exact order_le ..
  have l2 : r2.1 < d.size ∧ r2.2.1 < d.size := by rw [hr2]; exact order_lt d _ l1.2 hc
  have s2 : r2.2.2 ≤ s + 2 := by have := order_le d r1.2.1 c r1.2.2; rw [← hr2] at this; omega
  have c1 := Lib.hid (order64 d _ rfl blk off cap a b sb so s w hH ha hb hS (by omega))
  have H1 := Lib.hid hH
  have S1 := Lib.hid hS
  have R1 := Lib.hid hr1
  have R2 := Lib.hid hr2
  have R3 := Lib.hid hr3
  have EM := Lib.hid em
  clear hH hS hr1 hr2 hr3 em
  go_enter Tryd.func86, Tryd.ntmps86
  go_wp2_with (go_at_call_of 87 (Value.int .i64 (b : Int)); refine c1.out.mono ?_; rw [← R1.out]; rintro e w1 ⟨rfl, h1⟩)
  refine (order64 d _ rfl blk off cap r1.2.1 c sb so r1.2.2 w1 (h1.row H1.out hne) l1.2 hc (h1.has S1.out) (by omega)).mono ?_
  rw [← R2.out]
  rintro e w2 ⟨rfl, h2⟩
  have h12 := h1.then h2
  go_wp2_with fail
  refine (order64 d _ rfl blk off cap r1.1 r2.1 sb so r2.2.2 w2 (h12.row H1.out hne) l1.1 l2.1 (h12.has S1.out) (by omega)).mono ?_
  rw [← R3.out]
  rintro e w3 ⟨rfl, h3⟩
  go_wp2
  go_ret
  rw [EM.out]
  exact ⟨rfl, h12.then h3⟩

set_option maxHeartbeats 1000000 in
set_option maxRecDepth 100000 in
theorem adjacent64 (d : Array Nat) (len : Nat) (hlen : d.size = len) (blk off cap a sb so s : Nat) (w : World) (hH : Holds e64 w blk off d) (ha0 : 1 ≤ a) (ha : a + 1 < d.size) (hsz : d.size < 4611686018427387904) (hne : sb ≠ blk) (hS : HasCnt w sb so s) (hs : s + 3 < 4611686018427387904) :
    Calls Tryd.prog 85 #[.slice (some ⟨blk, off, none⟩) len cap, .int .i64 a, .pointer (some ⟨sb, so, none⟩)] w fun e w' =>
      e = .returned (.int .i64 (medianAdjacent lt64 d a s).1) ∧ Cnt w sb so (medianAdjacent lt64 d a s).2 w' := by
  subst hlen
  have c1 := median64 d _ rfl blk off cap (a - 1) a (a + 1) sb so s w hH (by omega) (by omega) ha hne hS hs
  have e1 : ((a - 1 : Nat) : Int) = (a : Int) - 1 := by omega
  have e2 : ((a + 1 : Nat) : Int) = (a : Int) + 1 := by omega
  rw [e1, e2] at c1
  go_enter Tryd.func85, Tryd.ntmps85
  go_wp2_with (go_at_call 86; refine c1.mono ?_; rintro e w1 ⟨rfl, h1⟩)
  go_ret
  exact ⟨rfl, h1⟩
end Go.Proofs.YtifofdciablljaaDoor
