/-
  The library's stable sort at rows of int: stable, whole, and SortStableFunc.
-/
import Derived.Test.YtogeohjeabbmaaaDoorStbH
import Derived.Test.YtogeohjeabbmaaaDoorStbI
set_option linter.unusedSimpArgs false
set_option linter.unusedVariables false
set_option maxRecDepth 100000
namespace Go.Proofs.YtogeohjeabbmaaaDoor
open Go.RowKit Go.Sort

set_option maxHeartbeats 16000000 in
theorem stableStb (g0 : Array Value) (key : Nat → Int) (m0 : Nat) (blk off cap n : Nat) (d0 : Array Nat) (l0 : List Nat) (w : World) (hH : Holds ei w blk off d0) (hn : d0.size = n) (hl : l0.length = n) (hn80 : n ≤ 80)
    (hC : CmpQ w blk off n 39 g0 key m0) (hm : ∀ x ∈ l0, x < m0) (hD : l0.Pairwise (· < ·)) (hL : Lf w blk off l0 w) :
    Calls Tryd.prog 64 #[.slice (some ⟨blk, off, none⟩) n cap, .int .i64 n, .func (.func 39) #[] g0] w fun e w' => e = .returned (.tuple #[]) ∧ ∃ C, C.Perm l0 ∧ Srt key C ∧ Lf w blk off C w' := by
  have SY := symStb g0 key m0 blk off cap n d0 w hH hn (by omega) hC 4097
  have INS := fun (a b : Nat) (P D S : List Nat) (w1 : World) h1 h2 h3 h4 h5 h6 => insStb g0 key m0 blk off cap a b n d0 P D S w w1 hH hn h1 h2 h3 (by omega) hC h4 h5 h6
  have h0 : SegA key l0 0 l0 := ⟨rfl, Nat.zero_le _, Nat.dvd_zero _, rfl, fun lo _ h => by omega⟩
  have i0 : (0 : Int) ≤ (n : Int) := by omega
  have in80 : (n : Int) ≤ 80 := by omega
  have hH'h := Lib.hid hH
  have hn'h := Lib.hid hn
  have hl'h := Lib.hid hl
  have hC'h := Lib.hid hC
  have hm'h := Lib.hid hm
  have hD'h := Lib.hid hD
  have hL'h := Lib.hid hL
  have SY'h := Lib.hid SY
  have INS'h := Lib.hid INS
  have h0'h := Lib.hid h0
  clear hH hn hl hC hm hD hL SY INS h0
  go_enter Tryd.func64, Tryd.ntmps64
  go_wp2
  go_loopg [7, 8] 80 (fun q v7 v8 wr => ∃ (a : Nat) (l : List Nat), n - a ≤ q ∧ v7 = .int .i64 (a : Int) ∧ v8 = .int .i64 ((a : Int) + 20) ∧ SegA key l0 a l ∧ Lf w blk off l wr)
  case atStart => exact ⟨0, l0, by omega, rfl, rfl, h0'h.out, hL'h.out⟩
  case round =>
    obtain ⟨a, l, hq, rfl, rfl, hS, hLf⟩ := hrel
    have han : a ≤ n := by have := hS.le; have := hl'h.out; omega
    by_cases hlt : a + 20 ≤ n
    · obtain ⟨p1, p2, p3⟩ := hS.parts (b := a + 20) (by omega) (by have := hl'h.out; omega)
      have C := INS'h.out a (a + 20) (l.take a) (sg l0 a (a + 20)) (l0.drop (a + 20)) wr (by rw [← p1]; exact hS.len.trans hl'h.out) p2 (by omega) (fun x hx => hm'h.out x (sg_mem hx)) (sg_rise hD'h.out _ _) (by rw [← p1]; exact hLf)
      rw [show ((a + 20 : Nat) : Int) = (a : Int) + 20 by omega] at C
      have i1 : (a : Int) + 20 ≤ (n : Int) := by omega
      have C'h := Lib.hid C
      have hS'h := Lib.hid hS
      have hq'h := Lib.hid hq
      have hLf'h := Lib.hid hLf
      clear C hS hq hLf
      clear p1 p2 p3
      go_wp2_with fail
      refine C'h.out.mono ?_
      rintro e w2 ⟨rfl, C1, hp, hs, hL2⟩
      have hS2 := hS'h.out.next rfl (by have := hl'h.out; omega) hp hs
      have hS2'h := Lib.hid hS2
      have hL2'h := Lib.hid hL2
      clear hS2 hL2
      clear hp hs
      go_wp2
      go_roundg (gk - 1)
      case measure => have := hq'h.out; omega
      case rel => exact ⟨a + 20, _, by have := hq'h.out; omega, by go_num, by go_num, hS2'h.out, hL2'h.out⟩
    · obtain ⟨p1, p2, p3⟩ := hS.parts (b := n) han (by have := hl'h.out; omega)
      have C := INS'h.out a n (l.take a) (sg l0 a n) (l0.drop n) wr (by rw [← p1]; exact hS.len.trans hl'h.out) p2 (by omega) (fun x hx => hm'h.out x (sg_mem hx)) (sg_rise hD'h.out _ _) (by rw [← p1]; exact hLf)
      have i1 : ¬ (a : Int) + 20 ≤ (n : Int) := by omega
      have C'h := Lib.hid C
      have hS'h := Lib.hid hS
      have hq'h := Lib.hid hq
      have hLf'h := Lib.hid hLf
      clear C hS hq hLf
      clear p1 p2 p3
      go_wp2_with fail
      refine C'h.out.mono ?_
      rintro e w2 ⟨rfl, C1, hp, hs, hL2⟩
      have hS2 : SegE key l0 20 (l.take a ++ C1 ++ l0.drop n) := by
        have := hS'h.out.all (C := C1) (by have := hl'h.out; omega) (by rw [hl'h.out]; exact hp) hs
        rwa [hl'h.out] at this
      generalize l.take a ++ C1 ++ l0.drop n = l1 at hS2 hL2
      have hS2'h := Lib.hid hS2
      have hL2'h := Lib.hid hL2
      clear hS2 hL2
      clear hp hs
      go_wp2
      go_loopg [6] 80 (fun q v6 wr => ∃ (bs : Nat) (l : List Nat), 100 - bs ≤ q ∧ v6 = .int .i64 (bs : Int) ∧ (bs = 20 ∨ bs = 40 ∨ bs = 80) ∧ SegE key l0 bs l ∧ Lf w blk off l wr)
      case atStart => exact ⟨20, l1, by omega, rfl, .inl rfl, hS2'h.out, hL2'h.out⟩
      case round =>
        obtain ⟨bs, l, hq, rfl, hbs, hE, hLf⟩ := hrel
        by_cases hlt2 : bs < n
        · have hbs2 : bs = 20 ∨ bs = 40 := by omega
          have hI := hE.start
          have i2 : (bs : Int) < (n : Int) := by omega
          have b40 : (bs : Int) ≤ 40 := by omega
          have b20 : (20 : Int) ≤ (bs : Int) := by omega
          clear hE hbs
          obtain ⟨go, rfl⟩ : ∃ go : Nat, go = gk := ⟨_, rfl⟩
          have hbs2'h := Lib.hid hbs2
          have hI'h := Lib.hid hI
          have hLf'h := Lib.hid hLf
          have hq'h := Lib.hid hq
          clear hbs2 hI hLf hq
          go_wp2
          go_loopg [7, 8] n (fun q v7 v8 wr => ∃ (a : Nat) (l : List Nat), n - a ≤ q ∧ v7 = .int .i64 (a : Int) ∧ v8 = .int .i64 ((a : Int) + 2 * (bs : Int)) ∧ SegI key l0 bs a l ∧ Lf w blk off l wr)
          case atStart => exact ⟨0, l, by omega, rfl, by go_num, hI'h.out, hLf'h.out⟩
          case round =>
            obtain ⟨a, l, hq2, rfl, rfl, hS, hLf⟩ := hrel
            have han : a ≤ n := by have := hS.le; have := hl'h.out; omega
            by_cases hlt3 : a + 2 * bs ≤ n
            · obtain ⟨P, A, B, S, rfl, h1, h2, h3, h4, h5, h6, h7, h8, h9⟩ := hS.parts (b := a + 2 * bs) hbs2'h.out hD'h.out (by omega) (by rw [Nat.min_eq_left (by have := hl'h.out; omega)])
              have C := SY'h.out a (a + bs) (a + 2 * bs) P A B S wr h1 h2 h3 (by omega) (by omega) (by omega) (by rw [hS.len, hl'h.out]) (fun x hx => hm'h.out x (h7 x hx)) (fun x hx => hm'h.out x (h8 x hx)) h4 h5 h6 hLf
              rw [show ((a + bs : Nat) : Int) = (a : Int) + (bs : Int) by omega, show ((a + 2 * bs : Nat) : Int) = (a : Int) + 2 * (bs : Int) by omega] at C
              have i3 : (a : Int) + 2 * (bs : Int) ≤ (n : Int) := by omega
              have C'h := Lib.hid C
              have hS'h := Lib.hid hS
              have hq2'h := Lib.hid hq2
              have h9'h := Lib.hid h9
              clear C hS hq2 h9
              clear h1 h2 h3 h4 h5 h6 h7 h8 hLf
              go_wp2_with fail
              refine C'h.out.mono ?_
              rintro e w4 ⟨rfl, C2, hM, hL4⟩
              obtain ⟨k1, k2, k3, k4⟩ := h9'h.out C2 hM
              have hS4 := hS'h.out.next hbs2'h.out (by have := hl'h.out; omega) k2 k3 k4
              have hS4'h := Lib.hid hS4
              have hL4'h := Lib.hid hL4
              clear hS4 hL4
              clear k1 k2 k3 k4 hM
              go_wp2
              go_roundg (gk - 1)
              case measure => have := hq2'h.out; omega
              case rel => exact ⟨a + 2 * bs, _, by have := hq2'h.out; omega, by go_num, by go_num, hS4'h.out, hL4'h.out⟩
            · have i3 : ¬ (a : Int) + 2 * (bs : Int) ≤ (n : Int) := by omega
              by_cases hlt4 : a + bs < n
              · obtain ⟨P, A, B, S, rfl, h1, h2, h3, h4, h5, h6, h7, h8, h9⟩ := hS.parts (b := n) hbs2'h.out hD'h.out (by omega) (by rw [Nat.min_eq_right (by have := hl'h.out; omega)]; exact hl'h.out.symm)
                have C := SY'h.out a (a + bs) n P A B S wr h1 h2 h3 (by omega) (by omega) (by omega) (by rw [hS.len, hl'h.out]) (fun x hx => hm'h.out x (h7 x hx)) (fun x hx => hm'h.out x (h8 x hx)) h4 h5 h6 hLf
                rw [show ((a + bs : Nat) : Int) = (a : Int) + (bs : Int) by omega] at C
                have i4 : (a : Int) + (bs : Int) < (n : Int) := by omega
                have C'h := Lib.hid C
                have hS'h := Lib.hid hS
                have hq2'h := Lib.hid hq2
                have h9'h := Lib.hid h9
                clear C hS hq2 h9
                clear h1 h2 h3 h4 h5 h6 h7 h8 hLf
                go_wp2_with fail
                refine C'h.out.mono ?_
                rintro e w4 ⟨rfl, C2, hM, hL4⟩
                obtain ⟨k1, k2, k3, k4⟩ := h9'h.out C2 hM
                have hS4 := hS'h.out.last hbs2'h.out (by have := hl'h.out; omega) k2 (by rw [hl'h.out]; exact k3) (fun lo hi hk => k4 lo hi (by rw [← hl'h.out]; exact hk))
                have hS4'h := Lib.hid hS4
                have hL4'h := Lib.hid hL4
                clear hS4 hL4
                clear k1 k2 k3 k4 hM
                go_wp2
                go_roundg (go - 1)
                case measure => have := hq'h.out; have := hbs2'h.out; omega
                case rel => exact ⟨2 * bs, _, by have := hq'h.out; omega, by go_num, by have := hbs2'h.out; omega, hS4'h.out, hL4'h.out⟩
              · have i4 : ¬ (a : Int) + (bs : Int) < (n : Int) := by omega
                have hS4 := hS.done hbs2'h.out (by have := hl'h.out; omega)
                have hS4'h := Lib.hid hS4
                have hLf'h := Lib.hid hLf
                clear hS4 hLf
                clear hS hq2
                go_wp2
                go_roundg (go - 1)
                case measure => have := hq'h.out; have := hbs2'h.out; omega
                case rel => exact ⟨2 * bs, _, by have := hq'h.out; omega, by go_num, by have := hbs2'h.out; omega, hS4'h.out, hLf'h.out⟩
        · have i2 : ¬ (bs : Int) < (n : Int) := by omega
          have hw := hE.whole (by have := hl'h.out; omega)
          have hw'h := Lib.hid hw
          have hLf'h := Lib.hid hLf
          clear hw hLf
          clear hE hbs
          go_wp2
          go_end0
          exact ⟨rfl, l, hw'h.out.1, hw'h.out.2, hLf'h.out⟩
theorem sortStb (g0 : Array Value) (key : Nat → Int) (m0 : Nat) (blk off cap n : Nat) (d0 : Array Nat) (l0 : List Nat) (w : World) (hH : Holds ei w blk off d0) (hn : d0.size = n) (hl : l0.length = n) (hn80 : n ≤ 80)
    (hC : CmpQ w blk off n 39 g0 key m0) (hm : ∀ x ∈ l0, x < m0) (hD : l0.Pairwise (· < ·)) (hL : Lf w blk off l0 w) :
    Calls Tryd.prog 38 #[.slice (some ⟨blk, off, none⟩) n cap, .func (.func 39) #[] g0] w fun e w' => e = .returned (.tuple #[]) ∧ ∃ C, C.Perm l0 ∧ Srt key C ∧ Lf w blk off C w' := by
  have C := stableStb g0 key m0 blk off cap n d0 l0 w hH hn hl hn80 hC hm hD hL
  clear hH hn hl hn80 hC hm hD hL
  have C'h := Lib.hid C
  clear C
  go_enter Tryd.func38, Tryd.ntmps38
  go_wp2_with fail
  refine C'h.out.mono ?_
  rintro e w2 ⟨rfl, h2⟩
  have h2'h := Lib.hid h2
  clear h2
  go_wp2
  go_end0
  exact ⟨rfl, h2'h.out⟩
/-- No row at all. -/
theorem insStbNil (s g : Value) (w : World) : Calls Tryd.prog 79 #[s, .int .i64 0, .int .i64 0, g] w fun e w' => e = .returned (.tuple #[]) ∧ w' = w := by
  go_enter Tryd.func79, Tryd.ntmps79
  go_wp2
  refine wp_loop_rounds 1 ?_
  rw [rounds_succ]
  go_wp2
  go_end0
  exact ⟨rfl, rfl⟩
theorem stableStbNil (s g : Value) (w : World) : Calls Tryd.prog 64 #[s, .int .i64 0, g] w fun e w' => e = .returned (.tuple #[]) ∧ w' = w := by
  go_enter Tryd.func64, Tryd.ntmps64
  go_wp2
  refine wp_loop_rounds 1 ?_
  rw [rounds_succ]
  go_wp2_with fail
  refine (insStbNil s g w).mono ?_
  rintro e w2 ⟨rfl, hw2⟩
  obtain rfl := hw2.symm
  go_wp2
  refine wp_loop_rounds 1 ?_
  rw [rounds_succ]
  go_wp2
  go_end0
  exact ⟨rfl, rfl⟩
theorem sortStbNil (cap : Nat) (g : Value) (w : World) : Calls Tryd.prog 38 #[.slice none 0 cap, g] w fun e w' => e = .returned (.tuple #[]) ∧ w' = w := by
  go_enter Tryd.func38, Tryd.ntmps38
  go_wp2_with fail
  refine (stableStbNil _ g w).mono ?_
  rintro e w2 ⟨rfl, hw2⟩
  obtain rfl := hw2.symm
  go_wp2
  go_end0
  exact ⟨rfl, rfl⟩
end Go.Proofs.YtogeohjeabbmaaaDoor
