/-
  The free lanes, one by one; Fills.
-/
import Derived.Test.YtfoohdjgnphdgaaCtrlF
import Derived.Deep.RegionHeld3
import Derived.Sort.LoopGhostIn
set_option linter.unusedSimpArgs false
set_option linter.unusedVariables false
set_option maxRecDepth 100000
namespace Go.Proofs.Ytfoohdjgnphdgaa
open Go.RowKit

def freeM (x : Nat) : Nat := equalM x 128 ||| equalM x 254
theorem freeM_lt (x : Nat) : freeM x < 256 := Nat.or_lt_two_pow (n := 8) (equalM_lt' _ _) (equalM_lt' _ _)
theorem free_any (x : Nat) (w : World) : Calls Try.prog 92 #[.int .u64 x] w fun e w' => e = .returned (.func (.func 99) #[] #[.pointer (some ⟨w.heap.size, 0, none⟩)]) ∧ w' = w.alloc (.cells #[.int .u64 x] 104) := by
  go_enter Try.func92, Try.ntmps92
  go_wp2
  go_ret
  exact ⟨rfl, rfl⟩
theorem Foreign.new {S : Nat → Prop} {W W' : World} (h : Below W.heap.size W W') : Foreign S (fun b => S b ∨ (W.heap.size ≤ b ∧ b < W'.heap.size)) W W' :=
  ⟨h.os, h.tape, h.output, h.size, fun _ h => .inl h, fun _ h => h, fun b hb _ => h.block b hb⟩
theorem ints_at {l : List Nat} {j : Nat} (h : j < l.length) : (ints l)[j]? = some (.int .i64 (nthN l j)) := by
  unfold ints; rw [List.getElem?_map, List.getElem?_eq_getElem h, nthN_eq h]; rfl
theorem row_len' {w : World} {base : Nat} {e : TypeId} {size : Nat} {sp : Option Addr} {n cap L : Nat} {xs : List Value} (h : w.ownsRow base e size (.slice sp n cap) L xs) : n = L := by
  rcases h.2 with ⟨h1, h0⟩ | ⟨g, c, cur, h1, _⟩
  · injection h1 with _ h2 _; omega
  · injection h1
theorem free_it (x b : Nat) (w : World) (hx : x < 2 ^ 64) (hb : w.heap[b]? = some (.cells #[.int .u64 x] 104 (0, 0))) :
    SeqIt Fence.wide 0 Try.prog 99 #[.pointer (some ⟨b, 0, none⟩)] (fun n : Nat => #[.int .i64 n]) (lanesOf (freeM x)) (fun _ => False) (fun c => c = b) w := by
  intro l J Jx W hJ hJx hW hY h0
  have hbW := heap_below hW hb (lt_of_heap hb)
  have hbl := lt_of_heap hbW
  have c0 : W.cell? ⟨b, 0, none⟩ = some (.int .u64 x) := blk_cell hbW rfl
  have c0' : W.drew.cell? ⟨b, 0, none⟩ = some (.int .u64 x) := c0
  have E := fun w => empty_any x w hx
  have D := fun w => deleted_any x w hx
  have A := fun w => all_any (freeM x) (freeM_lt x) w
  have hor : bits .or .u8 (equalM x 128 : Int) (equalM x 254 : Int) = ((freeM x : Nat) : Int) := u8_or_nat _ _ (equalM_lt' _ _) (equalM_lt' _ _)
  have hfl := length_lanesOf (freeM x)
  generalize freeM x = m at *
  generalize equalM x 128 = m1 at *
  generalize equalM x 254 = m2 at *
  clear hb hW
  have hfo : Try.prog.follows .mixedOrders = true := by kernel_rfl
  have E'h := Lib.hid E
  have D'h := Lib.hid D
  have A'h := Lib.hid A
  have hbW'h := Lib.hid hbW
  have hbl'h := Lib.hid hbl
  have hJ'h := Lib.hid hJ
  have hJx'h := Lib.hid hJx
  have hY'h := Lib.hid hY
  have h0'h := Lib.hid h0
  have hx'h := Lib.hid hx
  clear E D A hbW hbl hJ hJx hY h0 hx
  refine callsIn_of_wp Try.func99 rfl trivial ?_ rfl
  simp only [Try.ntmps99, List.size_toArray, List.length_cons, List.length_nil, Nat.reduceAdd, Nat.reduceSub, Array.replicate_succ, Array.replicate_zero, List.push_toArray, List.append_toArray, List.nil_append, List.cons_append]
  gi_wp2_with fail
  gi_region_with_o (first | (gi_at_call 62; refine (callsIn_wide.2 (E'h.out _)).mono ?_; rintro e w' ⟨rfl, rfl⟩) | (gi_at_call 63; refine (callsIn_wide.2 (D'h.out _)).mono ?_; rintro e w' ⟨rfl, rfl⟩) | (gi_at_call 100; refine (callsIn_wide.2 (A'h.out _)).mono ?_; rintro e w9 ⟨sp, n, cap, rfl, hB9, hrow9⟩))
  all_goals
    have hB1 := below_next (Below.drew (Below.refl W.heap.size W)) hB9
    obtain rfl := row_len' hrow9
    have hbr := heap_below hB1 hbW'h.out hbl'h.out
    have hJ1 := hJ'h.out 0 _ _ _ _ h0'h.out (Foreign.new hB1)
    have hrc : ∀ j, j < (lanesOf m).length → ∃ rg ro, sp = some ⟨rg, ro, none⟩ ∧ (W.heap.size ≤ rg ∧ rg < w9.heap.size) ∧ w9.cell? ⟨rg, ro + j, none⟩ = some (.int .i64 (nthN (lanesOf m) j)) := by
      intro j hj
      rcases hrow9.2 with ⟨_, h0⟩ | ⟨rg, cp, cur, h1, hg, hh, hq⟩
      · omega
      · injection h1 with h1
        refine ⟨rg, 0, h1, ⟨hg, lt_of_heap hh⟩, ?_⟩
        subst h1
        rw [Nat.zero_add]
        exact row_cell hrow9 hj (ints_at hj)
    clear hB9 hrow9 c0 c0' hB1
    have hbr'h := Lib.hid hbr
    have hJ1'h := Lib.hid hJ1
    have hrc'h := Lib.hid hrc
    clear hbr hJ1 hrc
    gi_wp2
    gi_loopg [12] (lanesOf m).length (fun q i wr => ∃ (k : Nat) (S : Nat → Prop), k + q = (lanesOf m).length ∧ i = .int .i64 k ∧ J k S wr ∧
      ∀ j, j < (lanesOf m).length → ∃ rg ro, sp = some ⟨rg, ro, none⟩ ∧ S rg ∧ wr.cell? ⟨rg, ro + j, none⟩ = some (.int .i64 (nthN (lanesOf m) j)))
    case atStart => exact ⟨0, _, by omega, rfl, hJ1'h.out, fun j hj => by obtain ⟨rg, ro, h1, h2, h3⟩ := hrc'h.out j hj; exact ⟨rg, ro, h1, .inr h2, h3⟩⟩
    case round =>
      obtain ⟨k, S, hk, rfl, hJk, hcs⟩ := hrel
      by_cases hkl : k < (lanesOf m).length
      · obtain ⟨fn, tmps, assign, body, hy, hR⟩ := hY'h.out k _ wr hJk hkl
        obtain ⟨rg, ro, rfl, hS, hc⟩ := hcs k hkl
        have hx1 : (lanesOf m)[k] = nthN (lanesOf m) k := nthN_eq hkl
        rw [hx1] at hy
        have hi1 : (k : Int) < ((lanesOf m).length : Int) := by omega
        clear hx1
        have hk'h := Lib.hid hk
        have hcs'h := Lib.hid hcs
        have hS'h := Lib.hid hS
        have hkl'h := Lib.hid hkl
        have hJk'h := Lib.hid hJk
        clear hk hcs hS hkl hJk
        gi_wp2
        refine hR.mono ?_
        clear hR hy
        rintro e W' (⟨rfl, hJ3, hk3⟩ | ⟨rfl, hJx3, hk3⟩)
        · have hcs3 : ∀ j, j < (lanesOf m).length → ∃ rg' ro', (some ⟨rg, ro, none⟩ : Option Addr) = some ⟨rg', ro', none⟩ ∧ S rg' ∧ W'.cell? ⟨rg', ro' + j, none⟩ = some (.int .i64 (nthN (lanesOf m) j)) := fun j hj => by
            obtain ⟨rg', ro', h1, h2, h3⟩ := hcs'h.out j hj
            exact ⟨rg', ro', h1, h2, hk3.cell (p := ⟨rg', ro' + j, none⟩) (.inr h2) h3⟩
          clear hk3 hc
          have hJ3'h := Lib.hid hJ3
          have hcs3'h := Lib.hid hcs3
          clear hJ3 hcs3
          gi_wp2
          go_roundg (gk - 1)
          case measure => have := hk'h.out; omega
          case rel => exact ⟨k + 1, S, by have := hk'h.out; omega, by go_num, hJ3'h.out, hcs3'h.out⟩
        · clear hk3 hc
          have hJx3'h := Lib.hid hJx3
          clear hJx3
          gi_wp2
          refine bodyPost_ret (results_none rfl _ _ _) rfl ?_
          exact ⟨⟨_, rfl⟩, .inr ⟨_, hJx3'h.out⟩⟩
      · have hke : k = (lanesOf m).length := by omega
        subst hke
        clear hcs hkl hk
        have hJk'h := Lib.hid hJk
        clear hJk
        gi_wp2
        go_end0
        exact ⟨⟨_, rfl⟩, .inl ⟨_, hJk'h.out⟩⟩
theorem enters_free (args : Array Value) (w : World) : (callFunc 99 args).run Try.prog w = .ok (.enter 99 args) w := by
  exact enters_of Try.func99 (by kernel_rfl) rfl args w
end Go.Proofs.Ytfoohdjgnphdgaa
