/-
  Several texts of mine in one: OrdP OrdQ.
-/
import Derived.Test.YtogeohjeabbmaaaDoorZd
/-
  Layer 27 (order): Free, walked.
-/
set_option linter.unusedSimpArgs false
set_option linter.unusedVariables false
set_option maxRecDepth 100000
namespace Go.Proofs.YtogeohjeabbmaaaDoor
open Go.RowKit

theorem infoP2 : (Tryd.prog.info? 53).map (fun i => (i.zero, i.size, i.bytes)) = some (some (.agg #[.int .i64 0, .int .i64 0]), 2, 16) := by kernel_rfl
/-- What the loops hold. -/
def FreO (w : World) (l : List Mm) (n : Nat) (i : Nat) (v : Value) (wr : World) : Prop :=
  ∃ out : List (Nat × Nat), Below w.heap.size w wr ∧ out.length ≤ i * 80 ∧ wr.ownsRow w.heap.size 53 2 v out.length (pairsN out) ∧ out ++ freeFrom l (n - i) i = freeFrom l n 0
def FreN (w : World) (l : List Mm) (n i ab : Nat) (a : Array Value) (k : Nat) (v : Value) (wr : World) : Prop :=
  ∃ out : List (Nat × Nat), Below w.heap.size w wr ∧ out.length ≤ i * 80 + k ∧ wr.ownsRow w.heap.size 53 2 v out.length (pairsN out) ∧ (out ++ freeRow l i (n - (i + 1) - k) k) ++ freeFrom l (n - (i + 1)) (i + 1) = freeFrom l n 0 ∧
    wr.heap[ab]? = some (.cells a 39 (0, 0))
theorem row_apart {W : World} {b B : Nat} {e t : TypeId} {k n : Nat} {v : Value} {xs : List Value} {cs : Array Value} (h : W.ownsRow B e k v n xs) (hb : W.heap[b]? = some (.cells cs t (0, 0))) (hne : e ≠ t) : some b ≠ v.ownBlock := by
  intro he
  rcases h.2 with ⟨rfl, -⟩ | ⟨b', cap, cur, rfl, -, hh, -⟩
  · cases he
  · have e1 : b' = b := by injection he with he; exact he.symm
    rw [e1, hb] at hh
    injection hh with hh
    injection hh with _ hh _
    exact hne hh.symm
theorem freeFrom_step {l : List Mm} {n i : Nat} (hi : i < n) (hn : n = l.length) : freeFrom l (n - i) i = freeRow l i (n - (i + 1)) 0 ++ freeFrom l (n - (i + 1)) (i + 1) := by
  obtain ⟨q, hq⟩ : ∃ q, n - i = q + 1 := ⟨n - i - 1, by omega⟩
  rw [hq, show n - (i + 1) = q by omega]
  show freeRow l i (l.length - (i + 1)) 0 ++ freeFrom l q (i + 1) = _
  rw [← hn, show n - (i + 1) = q by omega]
theorem freeRow_step {l : List Mm} {n i k : Nat} (hk : i + 1 + k < n) : freeRow l i (n - (i + 1) - k) k = (if freeB (nthM l i).md (nthM l (i + 1 + k)).md then [(i, i + 1 + k)] else []) ++ freeRow l i (n - (i + 1) - (k + 1)) (k + 1) := by
  obtain ⟨q, hq⟩ : ∃ q, n - (i + 1) - k = q + 1 := ⟨n - (i + 1) - k - 1, by omega⟩
  rw [hq, show n - (i + 1) - (k + 1) = q by omega]
  rfl
set_option maxHeartbeats 8000000 in
theorem free_any (sp : Option Addr) (n cap : Nat) (l : List Mm) (w : World) (hT : Tks w) (h : MsIn w sp n l) (hle : n ≤ cap) :
    Calls Tryd.prog 12 #[.slice sp n cap] w fun e w' => ∃ s' c', e = .returned (.slice s' (freeL l).length c') ∧ Below w.heap.size w w' ∧ w'.ownsRow w.heap.size 53 2 (.slice s' (freeL l).length c') (freeL l).length (pairsN (freeL l)) := by
  cases hck : checkB l with
  | false =>
    refine (free_none sp n cap l w hT h hle hck).mono ?_
    rintro e w' ⟨rfl, hb⟩
    have : freeL l = [] := by unfold freeL; rw [hck]; rfl
    rw [this]
    exact ⟨none, 0, rfl, hb, World.ownsRow_nil _ _ _ _⟩
  | true =>
  have hlen := h.len
  have h80 : n ≤ 80 := by
    unfold checkB at hck
    simp only [Bool.and_eq_true, decide_eq_true_eq] at hck
    omega
  have hfr : freeL l = freeFrom l n 0 := by unfold freeL; rw [hck, ← hlen]; rfl
  rw [hfr]
  have CK := checkM_any sp n cap l w hT h hle
  rw [hck, if_pos rfl] at CK
  have hinf := infoP2
  obtain ⟨i0, hi, hz⟩ := Option.map_eq_some_iff.1 hinf
  have hz0 : i0.zero = some (.agg #[.int .i64 0, .int .i64 0]) := (Prod.mk.inj hz).1
  have hz1 : i0.size = 2 := (Prod.mk.inj (Prod.mk.inj hz).2).1
  have hz2 : i0.bytes = 16 := (Prod.mk.inj (Prod.mk.inj hz).2).2
  clear hz hinf hfr
  have CK'h := Lib.hid CK
  have hT'h := Lib.hid hT
  have h'h := Lib.hid h
  have hle'h := Lib.hid hle
  have hck'h := Lib.hid hck
  have h80'h := Lib.hid h80
  have hlen'h := Lib.hid hlen
  clear CK hT h hle hck h80 hlen
  go_enter Tryd.func12, Tryd.ntmps12
  go_wp2_with fail
  refine CK'h.out.mono ?_
  rintro e W1 ⟨rfl, hB1⟩
  have hB1'h := Lib.hid hB1
  clear hB1
  clear CK'h
  go_wp2
  go_loopg [3, 13] n (fun q v3 v13 wr => ∃ i : Nat, i + q = n ∧ v13 = .int .i64 (i : Int) ∧ FreO w l n i v3 wr)
  case atStart => exact ⟨0, by omega, rfl, [], hB1'h.out, Nat.zero_le _, World.ownsRow_nil _ _ _ _, rfl⟩
  case round =>
    obtain ⟨i, hj, rfl, out, hB, hol, hrow, htot⟩ := hrel
    obtain ⟨s3, c3, rfl⟩ := row_slice' hrow
    by_cases hlt : i < n
    · have i3 : (i : Int) < (n : Int) := by omega
      have i4 : (0 : Int) ≤ (i : Int) := by omega
      have i5 : (i : Int) + 1 ≤ 5000 := by have := h80'h.out; omega
      have i6 : (i : Int) + 1 ≤ (n : Int) := by omega
      have i7 : (n : Int) ≤ (cap : Int) := by have := hle'h.out; omega
      have hS := h'h.out.below hB
      obtain ⟨b, off, rfl⟩ := slk_some hS.sl (by omega)
      have hil : i < l.length := by have := hlen'h.out; omega
      obtain ⟨x, hx0⟩ : ∃ x, x = nthM l i := ⟨_, rfl⟩
      have hcl := fun (j : Nat) (v : Value) (hi : j < 13) (hv : (mmL x)[j]? = some v) => hS.cells hil (i := j) (v := v) hi (by rw [← hx0]; exact hv)
      rw [freeFrom_step hlt hlen'h.out, ← List.append_assoc] at htot
      have AX := fun (y : Mm) W => ahead_any x y W
      have AY := fun (y : Mm) W => ahead_any y x W
      obtain ⟨mx, hmx⟩ : ∃ mx, mx = x.md := ⟨_, rfl⟩
      rw [← hmx] at AX AY
      have hB3 := (Below.refl wr.heap.size wr).alloc (Nat.le_refl _) (.cells (mmA x) 39)
      have hb3 := World.alloc_heap_new wr (.cells (mmA x) 39)
      have hmx2 : mx = (nthM l i).md := by rw [hmx, hx0]
      clear hx0 hS hmx
      obtain ⟨⟨goerx, ⟨opx, kyx, cax, cbx⟩, ⟨errx, valx, donex⟩, prsx, beganx, atx, overx, toldx⟩, ppx, pnx, pcx, tpx, tnx, tcx⟩ := x
      have e0 := hcl 0 _ (by omega) rfl
      have e1 := hcl 1 _ (by omega) rfl
      have e2 := hcl 2 _ (by omega) rfl
      have e3 := hcl 3 _ (by omega) rfl
      have e4 := hcl 4 _ (by omega) rfl
      have e5 := hcl 5 _ (by omega) rfl
      have e6 := hcl 6 _ (by omega) rfl
      have e7 := hcl 7 _ (by omega) rfl
      have e8 := hcl 8 _ (by omega) rfl
      have e9 := hcl 9 _ (by omega) rfl
      have ea := hcl 10 _ (by omega) rfl
      have eb := hcl 11 _ (by omega) rfl
      have ec := hcl 12 _ (by omega) rfl
      simp only [Nat.add_zero] at e0
      simp only [mmA] at *
      clear hcl
      obtain ⟨W3, hW3⟩ : ∃ W3, W3 = wr.alloc (.cells #[.int .i64 goerx, .int .i64 opx, .int .u64 (kyx : Int), .int .u64 (cax : Int), .int .u64 (cbx : Int), .int .i64 errx, .int .u64 (valx : Int), .bool donex, .slice ppx pnx pcx, .int .i64 beganx, .int .i64 atx, .int .i64 overx, .slice tpx tnx tcx] 39) := ⟨_, rfl⟩
      rw [← hW3] at hB3 hb3
      obtain ⟨go, hgo⟩ : ∃ go : Nat, go = gk := ⟨_, rfl⟩
      have hj'h := Lib.hid hj
      have hB'h := Lib.hid hB
      have hol'h := Lib.hid hol
      have hrow'h := Lib.hid hrow
      have htot'h := Lib.hid htot
      have AX'h := Lib.hid AX
      have AY'h := Lib.hid AY
      have hmx2'h := Lib.hid hmx2
      have hB3'h := Lib.hid hB3
      have hb3'h := Lib.hid hb3
      have hil'h := Lib.hid hil
      have hlt'h := Lib.hid hlt
      have hgo'h := Lib.hid hgo
      clear hj hB hol hrow htot AX AY hmx2 hB3 hb3 hil hlt hgo
      go_upto_region 7 with fail
      rw [← hW3]
      clear hW3 e0 e1 e2 e3 e4 e5 e6 e7 e8 e9 ea eb ec
      have hB4 := below_next hB'h.out hB3'h.out
      have hrow4 := ownsRow_next hrow'h.out hB3'h.out
      have hb3 := hb3'h.out
      clear hb3'h hB3'h hB'h hrow'h
      generalize wr.heap.size = ab at hb3 ⊢
      have hB4'h := Lib.hid hB4
      have hrow4'h := Lib.hid hrow4
      have hb3'h := Lib.hid hb3
      clear hB4 hrow4 hb3
      by_cases hce : cap = i + 1
      · subst hce
        have hn1 : n = i + 1 := by have := hlt'h.out; omega
        subst hn1
        go_wp2
        refine wp_loop_rounds 1 ?_
        rw [rounds_succ]
        go_wp2
        go_roundg (go - 1)
        case measure => have := hgo'h.out; have := hj'h.out; omega
        case rel => exact ⟨i + 1, by have := hgo'h.out; have := hj'h.out; omega, by go_num, out, hB4'h.out, by have := hol'h.out; omega, hrow4'h.out, by have h := htot'h.out; rw [Nat.sub_self] at h ⊢; simpa [freeRow] using h⟩
      · obtain ⟨r, hr⟩ : ∃ r, r = n - (i + 1) := ⟨_, rfl⟩
        have i8 : ¬ cap = i + 1 := hce
        go_wp2
        rw [← hr]
        obtain ⟨O, hO⟩ : ∃ O, O = off + (i + 1) * 13 := ⟨_, rfl⟩
        rw [← hO]
        have hr'h := Lib.hid hr
        have hO'h := Lib.hid hO
        clear hr hO
        go_loopg [3, 23] r (fun q v3 v23 wq => ∃ k : Nat, k + q = r ∧ v23 = .int .i64 (k : Int) ∧ FreN w l n i ab #[.int .i64 goerx, .int .i64 opx, .int .u64 (kyx : Int), .int .u64 (cax : Int), .int .u64 (cbx : Int), .int .i64 errx, .int .u64 (valx : Int), .bool donex, .slice ppx pnx pcx, .int .i64 beganx, .int .i64 atx, .int .i64 overx, .slice tpx tnx tcx] k v3 wq)
        case atStart => exact ⟨0, by omega, rfl, out, hB4'h.out, by have := hol'h.out; omega, hrow4'h.out, htot'h.out, hb3'h.out⟩
        case round =>
          obtain ⟨k, hk, rfl, out, hB, hol2, hrow, htot2, hab⟩ := hrel
          obtain ⟨s3, c3, rfl⟩ := row_slice' hrow
          by_cases hlt2 : k < r
          · have hin : i + 1 + k < n := by have := hr'h.out; omega
            have j1 : (k : Int) < (r : Int) := by omega
            have j2 : (0 : Int) ≤ (k : Int) := by omega
            have j3 : (k : Int) + 1 ≤ 5000 := by have := h80'h.out; omega
            have hS := h'h.out.below hB
            have hjl : i + 1 + k < l.length := by have := hlen'h.out; omega
            obtain ⟨y, hy0⟩ : ∃ y, y = nthM l (i + 1 + k) := ⟨_, rfl⟩
            have hcl := fun (j : Nat) (v : Value) (hi : j < 13) (hv : (mmL y)[j]? = some v) => (show wr.cell? ⟨b, O + k * 13 + j, none⟩ = some v by rw [show O + k * 13 + j = off + (i + 1 + k) * 13 + j by rw [hO'h.out]; omega]; exact hS.cells hjl (i := j) (v := v) hi (by rw [← hy0]; exact hv))
            rw [show n - (i + 1) - k = n - (i + 1) - k from rfl, freeRow_step hin, ← hmx2'h.out, ← hy0] at htot2
            have AX := AX'h.out y
            have AY := AY'h.out y
            obtain ⟨p, hp⟩ : ∃ p, p = aheadM mx y.md := ⟨_, rfl⟩
            obtain ⟨p2, hp2⟩ : ∃ p2, p2 = aheadM y.md mx := ⟨_, rfl⟩
            rw [← hp] at AX
            rw [← hp2] at AY
            have hfb : freeB mx y.md = (!p && !p2) := by rw [hp, hp2]; rfl
            rw [hfb] at htot2
            have hB5 := (Below.refl wr.heap.size wr).alloc (Nat.le_refl _) (.cells (mmA y) 39)
            have hb5 := World.alloc_heap_new wr (.cells (mmA y) 39)
            clear hfb hp hp2 hy0 hS
            obtain ⟨⟨goery, ⟨opy, kyy, cay, cby⟩, ⟨erry, valy, doney⟩, prsy, begany, aty, overy, toldy⟩, ppy, pny, pcy, tpy, tny, tcy⟩ := y
            have e0 := hcl 0 _ (by omega) rfl
            have e1 := hcl 1 _ (by omega) rfl
            have e2 := hcl 2 _ (by omega) rfl
            have e3 := hcl 3 _ (by omega) rfl
            have e4 := hcl 4 _ (by omega) rfl
            have e5 := hcl 5 _ (by omega) rfl
            have e6 := hcl 6 _ (by omega) rfl
            have e7 := hcl 7 _ (by omega) rfl
            have e8 := hcl 8 _ (by omega) rfl
            have e9 := hcl 9 _ (by omega) rfl
            have ea := hcl 10 _ (by omega) rfl
            have eb := hcl 11 _ (by omega) rfl
            have ec := hcl 12 _ (by omega) rfl
            simp only [Nat.add_zero] at e0
            simp only [mmA] at *
            clear hcl
            obtain ⟨W5, hW5⟩ : ∃ W5, W5 = wr.alloc (.cells #[.int .i64 goery, .int .i64 opy, .int .u64 (kyy : Int), .int .u64 (cay : Int), .int .u64 (cby : Int), .int .i64 erry, .int .u64 (valy : Int), .bool doney, .slice ppy pny pcy, .int .i64 begany, .int .i64 aty, .int .i64 overy, .slice tpy tny tcy] 39) := ⟨_, rfl⟩
            rw [← hW5] at hB5 hb5
            have hk'h := Lib.hid hk
            have hB'h := Lib.hid hB
            have hol2'h := Lib.hid hol2
            have hrow'h := Lib.hid hrow
            have htot2'h := Lib.hid htot2
            have hab'h := Lib.hid hab
            have AX'h := Lib.hid AX
            have AY'h := Lib.hid AY
            have hB5'h := Lib.hid hB5
            have hb5'h := Lib.hid hb5
            have hin'h := Lib.hid hin
            have hjl'h := Lib.hid hjl
            have hlt2'h := Lib.hid hlt2
            clear hk hB hol2 hrow htot2 hab AX AY hB5 hb5 hin hjl hlt2
            go_upto_region 10 with fail
            rw [← hW5]
            clear hW5 e0 e1 e2 e3 e4 e5 e6 e7 e8 e9 ea eb ec
            have hB6 := below_next hB'h.out hB5'h.out
            have hrow6 := ownsRow_next hrow'h.out hB5'h.out
            have hab6 := heap_below hB5'h.out hab'h.out (lt_of_heap hab'h.out)
            have hB6'h := Lib.hid hB6
            have hrow6'h := Lib.hid hrow6
            have hab6'h := Lib.hid hab6
            clear hB6 hrow6 hab6
            obtain ⟨a0, a1, a2, a3, a4, a5, a6, a7, a8, a9, aa, a_b, ac⟩ := cells13 hb5'h.out
            obtain ⟨b0, b1, b2, b3, b4, b5, b6, b7, b8, b9, ba, bb, bc⟩ := cells13 hab6'h.out
            go_wp2_with fail
            refine (AX'h.out _).mono ?_
            rintro e w7 ⟨rfl, hb7⟩
            have hB7 := below_next hB6'h.out hb7
            have hrow7 := ownsRow_next hrow6'h.out hb7
            have hab7 := heap_below hb7 hab6'h.out (lt_of_heap hab6'h.out)
            have hc7 := heap_below hb7 hb5'h.out (lt_of_heap hb5'h.out)
            clear a0 a1 a2 a3 a4 a5 a6 a7 a8 a9 aa a_b ac b0 b1 b2 b3 b4 b5 b6 b7 b8 b9 ba bb bc hb7
            clear hB6'h hrow6'h hab6'h hb5'h hB5'h hB'h hrow'h hab'h
            have hB7'h := Lib.hid hB7
            have hrow7'h := Lib.hid hrow7
            have hab7'h := Lib.hid hab7
            clear hB7 hrow7 hab7
            cases p with
            | true =>
              clear hc7
              have htot3 : (out ++ freeRow l i (n - (i + 1) - (k + 1)) (k + 1)) ++ freeFrom l (n - (i + 1)) (i + 1) = freeFrom l n 0 := by have h := htot2'h.out; simpa using h
              have htot3'h := Lib.hid htot3
              clear htot3
              go_wp2
              go_roundg (gk - 1)
              case measure => have := hk'h.out; have := hlt2'h.out; omega
              case rel => exact ⟨k + 1, by have := hk'h.out; have := hlt2'h.out; omega, by go_num, out, hB7'h.out, by have := hol2'h.out; omega, hrow7'h.out, htot3'h.out, hab7'h.out⟩
            | false =>
              obtain ⟨a0, a1, a2, a3, a4, a5, a6, a7, a8, a9, aa, a_b, ac⟩ := cells13 hc7
              obtain ⟨b0, b1, b2, b3, b4, b5, b6, b7, b8, b9, ba, bb, bc⟩ := cells13 hab7'h.out
              clear hc7
              go_wp2_with fail
              refine (AY'h.out _).mono ?_
              rintro e w8 ⟨rfl, hb8⟩
              have hB8 := below_next hB7'h.out hb8
              have hrow8 := ownsRow_next hrow7'h.out hb8
              have hab8 := heap_below hb8 hab7'h.out (lt_of_heap hab7'h.out)
              clear a0 a1 a2 a3 a4 a5 a6 a7 a8 a9 aa a_b ac b0 b1 b2 b3 b4 b5 b6 b7 b8 b9 ba bb bc hb8
              clear hB7'h hrow7'h hab7'h
              have hB8'h := Lib.hid hB8
              have hrow8'h := Lib.hid hrow8
              have hab8'h := Lib.hid hab8
              clear hB8 hrow8 hab8
              cases p2 with
              | true =>
                have htot3 : (out ++ freeRow l i (n - (i + 1) - (k + 1)) (k + 1)) ++ freeFrom l (n - (i + 1)) (i + 1) = freeFrom l n 0 := by have h := htot2'h.out; simpa using h
                have htot3'h := Lib.hid htot3
                clear htot3
                go_wp2
                go_roundg (gk - 1)
                case measure => have := hk'h.out; have := hlt2'h.out; omega
                case rel => exact ⟨k + 1, by have := hk'h.out; have := hlt2'h.out; omega, by go_num, out, hB8'h.out, by have := hol2'h.out; omega, hrow8'h.out, htot3'h.out, hab8'h.out⟩
              | false =>
                have htot3 : ((out ++ [(i, i + 1 + k)]) ++ freeRow l i (n - (i + 1) - (k + 1)) (k + 1)) ++ freeFrom l (n - (i + 1)) (i + 1) = freeFrom l n 0 := by have h := htot2'h.out; simpa [List.append_assoc] using h
                have hout : out.length ≤ 9000 := by have := hol2'h.out; have := h80'h.out; have := hr'h.out; have := hlt2'h.out; have := Nat.mul_le_mul_right 80 (Nat.le_of_lt hlt'h.out); omega
                have htot3'h := Lib.hid htot3
                have hout'h := Lib.hid hout
                clear htot3 hout
                have hz8 : w.heap.size ≤ w8.heap.size := hB8'h.out.size
                have hone : ∀ u ∈ ([.int .i64 (i : Int), .int .i64 ((i : Int) + 1 + (k : Int))] : List Value), u.oneCell' = true := by
                  intro u hu
                  simp at hu
                  rcases hu with rfl | rfl <;> rfl
                have hone'h := Lib.hid hone
                clear hone
                go_wp2_with (at_builtin; refine wpList_append_slk _ rfl (.tmp 38) (.tmp 45) 44 rfl w.heap.size 53 i0 _ 2 16 Tryd.underlying44 hi hz0 hz1 hz2 rfl (by decide) _ out.length _ rfl (ownsRow_next hrow8'h.out ((Below.refl _ _).alloc (Nat.le_refl _) _)) (some ⟨w8.heap.size, 0, none⟩) 1 1 _ rfl (SlK.of_blk (k := 2) (n := 1) (World.alloc_heap_new w8 (.cells #[.int .i64 (i : Int), .int .i64 ((i : Int) + 1 + (k : Int))] 53)) rfl (by decide)) hone'h.out (by have := hout'h.out; unfold maxLen; omega) (by have := hout'h.out; omega) (by rw [World.size_alloc]; omega) ?_; intro v9 w9 hown9 hgrow9 hat9)
                go_roundg (gk - 1)
                case measure => have := hk'h.out; have := hlt2'h.out; omega
                case rel =>
                  refine ⟨k + 1, by have := hk'h.out; have := hlt2'h.out; omega, by go_num, out ++ [(i, i + 1 + k)], ?_, ?_, ?_, htot3'h.out, ?_⟩
                  · exact (hB8'h.out.alloc hB8'h.out.size _).grown hgrow9 (by rw [World.size_alloc]; omega) (fun j hj => (hrow8'h.out.lt j hj).1)
                  · rw [List.length_append]; have := hol2'h.out; simp; omega
                  · rw [List.length_append, pairsN_snoc, show ((i + 1 + k : Nat) : Int) = (i : Int) + 1 + (k : Int) by omega]
                    exact hown9
                  · have hrow9 := ownsRow_next hrow8'h.out ((Below.refl w8.heap.size w8).alloc (Nat.le_refl _) (.cells #[.int .i64 (i : Int), .int .i64 ((i : Int) + 1 + (k : Int))] 53))
                    have hab9 := heap_below ((Below.refl w8.heap.size w8).alloc (Nat.le_refl _) (.cells #[.int .i64 (i : Int), .int .i64 ((i : Int) + 1 + (k : Int))] 53)) hab8'h.out (lt_of_heap hab8'h.out)
                    exact (hgrow9.block _ (lt_of_heap hab9) (row_apart hrow9 hab9 (by decide))).trans hab9
          · have hkr : k = r := by omega
            have j1 : ¬ (k : Int) < (r : Int) := by omega
            have hB'h := Lib.hid hB
            have hol2'h := Lib.hid hol2
            have hrow'h := Lib.hid hrow
            have htot2'h := Lib.hid htot2
            have hkr'h := Lib.hid hkr
            clear hB hol2 hrow htot2 hkr
            clear hlt2
            go_wp2
            go_roundg (go - 1)
            case measure => have := hgo'h.out; have := hj'h.out; have := hlt'h.out; omega
            case rel =>
              refine ⟨i + 1, by have := hgo'h.out; have := hj'h.out; have := hlt'h.out; omega, by go_num, out, hB'h.out, ?_, hrow'h.out, ?_⟩
              · have := hol2'h.out; have := hkr'h.out; have := hr'h.out; have := h80'h.out; omega
              · have h := htot2'h.out
                have := hkr'h.out
                have := hr'h.out
                rw [show n - (i + 1) - k = 0 by omega] at h
                simpa [freeRow] using h
    · have hin : i = n := by omega
      have i3 : ¬ (i : Int) < (n : Int) := by omega
      have htot2 : out = freeFrom l n 0 := by
        rw [hin, Nat.sub_self] at htot
        simpa [freeFrom] using htot
      clear htot hin
      have hB'h := Lib.hid hB
      have hrow'h := Lib.hid hrow
      have htot2'h := Lib.hid htot2
      clear hB hrow htot2
      clear hj hol hlt
      go_wp2
      go_ret
      rw [← htot2'h.out]
      exact ⟨s3, c3, rfl, hB'h.out, hrow'h.out⟩
end Go.Proofs.YtogeohjeabbmaaaDoor

/-
  Layer 27 (order), plain: the first order that bears calls out.
-/
set_option linter.unusedSimpArgs false
set_option linter.unusedVariables false
set_option maxRecDepth 100000
namespace Go.Proofs.YtogeohjeabbmaaaDoor
open Go.RowKit

/-- How many calls were not met yet. -/
def unmetK (l : List Mm) (met : Nat → Bool) : Nat := ((List.range l.length).filter fun i => !met i).length
def seekF (l : List Mm) : Nat → (Nat → Bool) → Ps → List Nat → Option (List Nat)
  | 0, met, ps, row => if wholeB l met then some row else none
  | f + 1, met, ps, row => if wholeB l met then some row else (List.range' 0 l.length).findSome? fun n => if mayB l met n && goesB (nthM l n).md ps then seekF l f (markB met n) (stepP (nthM l n).md ps) (row ++ [n]) else none
/-- What is sought behind a call that stands next. -/
def subF (l : List Mm) (f : Nat) (met : Nat → Bool) (ps : Ps) (row : List Nat) (n : Nat) : Option (List Nat) :=
  match f with
  | 0 => none
  | f + 1 => if mayB l met n && goesB (nthM l n).md ps then seekF l f (markB met n) (stepP (nthM l n).md ps) (row ++ [n]) else none
theorem findSome_none {α β : Type} (l : List α) : l.findSome? (fun _ => (none : Option β)) = none := by induction l <;> simp [*]
theorem seekF_eq (l : List Mm) (f : Nat) (met : Nat → Bool) (ps : Ps) (row : List Nat) : seekF l f met ps row = if wholeB l met then some row else (List.range' 0 l.length).findSome? (subF l f met ps row) := by
  cases f with
  | zero =>
    have : (List.range' 0 l.length).findSome? (subF l 0 met ps row) = none := findSome_none _
    rw [this]; rfl
  | succ f => rfl
theorem may_not {l : List Mm} {met : Nat → Bool} {k : Nat} (h : mayB l met k = true) : met k = false := by
  unfold mayB at h
  simp only [Bool.and_eq_true, Bool.not_eq_true'] at h
  exact h.1.2
theorem unmet_mark {l : List Mm} {met : Nat → Bool} {k : Nat} (hk : k < l.length) (h : met k = false) : unmetK l (markB met k) < unmetK l met := by
  unfold unmetK
  have hsub : ((List.range l.length).filter fun i => !markB met k i) = ((List.range l.length).filter fun i => !met i).filter fun i => decide (i ≠ k) := by
    rw [List.filter_filter]
    congr 1
    funext i
    unfold markB
    by_cases e : i = k <;> simp [e]
  rw [hsub]
  have hmem : k ∈ (List.range l.length).filter fun i => !met i := List.mem_filter.2 ⟨List.mem_range.2 hk, by simp [h]⟩
  generalize (List.range l.length).filter (fun i => !met i) = L at hmem
  have := (List.filter_sublist (p := fun i => decide (i ≠ k)) (l := L)).length_le
  rcases Nat.lt_or_eq_of_le this with h1 | h1
  · exact h1
  · have h2 := List.filter_sublist (p := fun i => decide (i ≠ k)) (l := L) |>.eq_of_length h1
    rw [← h2] at hmem
    have := (List.mem_filter.1 hmem).2
    simp at this
theorem unmet_pos {l : List Mm} {met : Nat → Bool} {k : Nat} (hk : k < l.length) (h : met k = false) : 0 < unmetK l met := by have := unmet_mark hk h; omega
/-- What is told is an order that bears the calls out. -/
theorem seek_sound {l : List Mm} : ∀ {f : Nat} {met : Nat → Bool} {ps : Ps} {row r : List Nat}, seekF l f met ps row = some r →
    ∃ os, r = row ++ os ∧ (∀ x ∈ os, x < l.length) ∧ metOk l.length (intsZ os) met = true ∧ ∃ met' ps', alongL l (intsZ os) met ps = some (met', ps') ∧ wholeB l met' = true := by
  intro f
  induction f with
  | zero =>
    intro met ps row r h
    unfold seekF at h
    split at h
    · injection h with h; exact ⟨[], by simp [h], by simp, rfl, met, ps, rfl, by assumption⟩
    · cases h
  | succ f ih =>
    intro met ps row r h
    unfold seekF at h
    split at h
    · injection h with h; exact ⟨[], by simp [h], by simp, rfl, met, ps, rfl, by assumption⟩
    · obtain ⟨n, hn, hs⟩ := List.exists_of_findSome?_eq_some h
      have hnl : n < l.length := by have := List.mem_range'_1.1 hn; omega
      split at hs
      · rename_i hmg
        obtain ⟨os, rfl, h1, h2, met', ps', h3, h4⟩ := ih hs
        have hm := hmg
        simp only [Bool.and_eq_true] at hm
        refine ⟨n :: os, by simp, fun x hx => ?_, ?_, met', ps', ?_, h4⟩
        · rcases List.mem_cons.1 hx with rfl | hx
          · exact hnl
          · exact h1 x hx
        · show metOk l.length ((n : Int) :: intsZ os) met = true
          unfold metOk
          rw [Int.toNat_natCast, may_not hm.1, h2]
          simp; omega
        · show alongL l ((n : Int) :: intsZ os) met ps = _
          unfold alongL
          rw [Int.toNat_natCast, hmg]
          exact h3
      · cases hs
/-- If an order bears the calls out, one is found. -/
theorem seek_complete {l : List Mm} : ∀ {os : List Nat} {f : Nat} {met : Nat → Bool} {ps : Ps} {row : List Nat} {met' : Nat → Bool} {ps' : Ps}, unmetK l met ≤ f → (∀ x ∈ os, x < l.length) → alongL l (intsZ os) met ps = some (met', ps') → wholeB l met' = true → (seekF l f met ps row).isSome = true
  | [], f, met, ps, row, met', ps', _, _, ha, hw => by
    have : (met, ps) = (met', ps') := by injection ha
    injection this with h1 h2
    rw [seekF_eq, h1, hw]
    rfl
  | n :: os, f, met, ps, row, met', ps', hf, hr, ha, hw => by
    have hnl := hr n (List.mem_cons_self ..)
    change alongL l ((n : Int) :: intsZ os) met ps = some (met', ps') at ha
    unfold alongL at ha
    rw [Int.toNat_natCast] at ha
    split at ha
    · rename_i hmg
      have hm := hmg
      simp only [Bool.and_eq_true] at hm
      have h1 := unmet_mark hnl (may_not hm.1)
      obtain ⟨f, rfl⟩ : ∃ f', f = f' + 1 := ⟨f - 1, by omega⟩
      have ih := seek_complete (os := os) (row := row ++ [n]) (show unmetK l (markB met n) ≤ f by omega) (fun x hx => hr x (List.mem_cons_of_mem _ hx)) ha hw
      unfold seekF
      split
      · rfl
      · rw [List.findSome?_isSome_iff]
        exact ⟨n, List.mem_range'_1.2 ⟨Nat.zero_le _, by omega⟩, by rw [hmg]; exact ih⟩
    · cases ha
end Go.Proofs.YtogeohjeabbmaaaDoor

