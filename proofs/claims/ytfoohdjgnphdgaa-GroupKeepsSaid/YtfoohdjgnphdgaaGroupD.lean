/-
  Package group: the lanes that are looked at; Find.
-/
import Derived.Test.YtfoohdjgnphdgaaGroupC
import Derived.Test.YtfoohdjgnphdgaaCtrlI
set_option linter.unusedSimpArgs false
set_option linter.unusedVariables false
set_option maxRecDepth 100000
namespace Go.Proofs.Ytfoohdjgnphdgaa
open Go.RowKit

def looksE (g : Gp) (h : Nat) : Nat := if rightG g = true then (if h ≤ 127 then 0 else 2) else 200
def looksR (g : Gp) (h : Nat) : List Nat := if looksE g h = 0 then looksG g h else []
theorem ints_flat (l : List Nat) : (l.flatMap fun n : Nat => [Value.int .i64 (n : Int)]) = ints l := by
  unfold ints
  induction l with
  | nil => rfl
  | cons a r ih => simp only [List.flatMap_cons, List.map_cons, ih]; rfl
theorem rightG_word {g : Gp} (h : rightG g = true) : rightW g.c = true := by unfold rightG at h; simp at h; exact h.2
def IntRow (base : Nat) (l : List Nat) (z : Value) (w : World) (e : Ending) (w' : World) : Prop :=
  ∃ sp n cap, e = .returned (.tuple #[.slice sp n cap, z]) ∧ Below base w w' ∧ w'.ownsRow base 3 1 (.slice sp n cap) l.length (ints l)
theorem looks_any (g : Gp) (h : Nat) (w : World) (hg : GpOk g) (hh : h < 256) :
    Calls Try.prog 20 #[.agg (gpA g), .int .u8 h] w (IntRow w.heap.size (looksR g h) (.int .i64 (looksE g h)) w) := by
  have C := fun w => gcheck_any g w hg
  obtain ⟨W, hW⟩ : ∃ W, W = w.alloc (.cells (gpA g) 25) := ⟨_, rfl⟩
  have hO := (Hs.nil w).new (gpA g) 25
  rw [← hW] at hO
  unfold gchkE at C
  cases hr : rightG g with
  | false =>
    have e1 : looksE g h = 200 := by unfold looksE; rw [hr]; rfl
    have e2 : looksR g h = [] := by unfold looksR; rw [e1]; rfl
    rw [e1, e2]
    rw [hr] at C
    simp only [Bool.false_eq_true, if_false] at C
    have C'h := Lib.hid C
    have hO'h := Lib.hid hO
    have e1'h := Lib.hid e1
    have e2'h := Lib.hid e2
    have hr'h := Lib.hid hr
    have hg'h := Lib.hid hg
    clear C hO e1 e2 hr hg
    go_enter Try.func20, Try.ntmps20
    go_upto_region 1 with fail
    rw [← hW]
    clear hW
    go_wp2_with (first | (refine wpList_load_row rfl _ _ rfl w.heap.size rfl 25 (gpA g) (0, 0) _ hO'h.out.rows.1 Try.underlying25 rfl infoGp ?_) | (go_at_call 10; refine (C'h.out _).mono ?_; rintro e w2 ⟨rfl, hb2⟩))
    go_ret2
    exact ⟨none, 0, 0, rfl, below_next hO'h.out.old hb2, World.ownsRow_nil _ _ _ _⟩
  | true =>
    rw [hr] at C
    simp only [if_true] at C
    have M := fun w => match_any g.c h w hg.c hh
    have hrw := rightG_word hr
    by_cases h127 : h ≤ 127
    · have e1 : looksE g h = 0 := by unfold looksE; rw [hr, if_pos rfl, if_pos h127]
      have e2 : looksR g h = looksG g h := by unfold looksR; rw [e1]; rfl
      have e3 : matchM g.c h = equalM g.c h := by unfold matchM; rw [if_pos ⟨hrw, h127⟩]
      have e4 : matchE g.c h = 0 := by unfold matchE; rw [if_pos hrw, if_pos h127]
      rw [e1, e2]
      have e5 : lanesOf (equalM g.c h) = looksG g h := equalL_eq _ _
      simp only [e3, e4] at M
      have E := fun w => geach_any (equalM g.c h) w
      have D := fun b w => madeIany (equalM g.c h) b (equalM_lt' _ _) w
      simp only [e5, ints_flat] at D
      generalize equalM g.c h = m at *
      generalize looksG g h = l at *
      have C'h := Lib.hid C
      have hO'h := Lib.hid hO
      have e1'h := Lib.hid e1
      have e2'h := Lib.hid e2
      have hr'h := Lib.hid hr
      have hg'h := Lib.hid hg
      have M'h := Lib.hid M
      have E'h := Lib.hid E
      have D'h := Lib.hid D
      have e3'h := Lib.hid e3
      have e4'h := Lib.hid e4
      have e5'h := Lib.hid e5
      have hrw'h := Lib.hid hrw
      have h127'h := Lib.hid h127
      clear C hO e1 e2 hr hg M E D e3 e4 e5 hrw h127
      go_enter Try.func20, Try.ntmps20
      go_upto_region 1 with fail
      rw [← hW]
      clear hW
      go_wp2_with (first | (refine wpList_load_row rfl _ _ rfl w.heap.size rfl 25 (gpA g) (0, 0) _ hO'h.out.rows.1 Try.underlying25 rfl infoGp ?_) | (go_at_call 10; refine (C'h.out _).mono ?_; rintro e w2 ⟨rfl, hb2⟩; have hO2 := hO'h.out.next hb2; have c2 := gp_ctrl hO2.rows.1; have hO2'h := Lib.hid hO2; clear hO2 hb2) | (go_at_call 49; refine (M'h.out _).mono ?_; rintro e w3 ⟨rfl, hb3⟩; clear c2; have hO3 := hO2'h.out.next hb3; have hO3'h := Lib.hid hO3; clear hO3 hb3) | (go_at_call 47; refine (E'h.out _).mono ?_; rintro e w4 ⟨rfl, hw4⟩; obtain rfl := hw4.symm) | (go_at_call 50; refine (D'h.out _ _ (World.alloc_heap_new _ _)).mono ?_; rintro e w5 ⟨sp, n, cap, rfl, hb5, hrow⟩))
      go_ret2
      have hb := hO3'h.out.old
      have hs := hb.size
      refine ⟨sp, n, cap, rfl, (hb.alloc hs _).trans (hb5.mono (by simp; omega)), ownsRow_mono hrow (by simp; omega)⟩
    · have e1 : looksE g h = 2 := by unfold looksE; rw [hr, if_pos rfl, if_neg h127]
      have e2 : looksR g h = [] := by unfold looksR; rw [e1]; rfl
      have e4 : matchE g.c h = 2 := by unfold matchE; rw [if_pos hrw, if_neg h127]
      rw [e1, e2]
      simp only [e4] at M
      generalize matchM g.c h = m at *
      have C'h := Lib.hid C
      have hO'h := Lib.hid hO
      have e1'h := Lib.hid e1
      have e2'h := Lib.hid e2
      have hr'h := Lib.hid hr
      have hg'h := Lib.hid hg
      have M'h := Lib.hid M
      have e4'h := Lib.hid e4
      have hrw'h := Lib.hid hrw
      have h127'h := Lib.hid h127
      clear C hO e1 e2 hr hg M e4 hrw h127
      go_enter Try.func20, Try.ntmps20
      go_upto_region 1 with fail
      rw [← hW]
      clear hW
      go_wp2_with (first | (refine wpList_load_row rfl _ _ rfl w.heap.size rfl 25 (gpA g) (0, 0) _ hO'h.out.rows.1 Try.underlying25 rfl infoGp ?_) | (go_at_call 10; refine (C'h.out _).mono ?_; rintro e w2 ⟨rfl, hb2⟩; have hO2 := hO'h.out.next hb2; have c2 := gp_ctrl hO2.rows.1; have hO2'h := Lib.hid hO2; clear hO2 hb2) | (go_at_call 49; refine (M'h.out _).mono ?_; rintro e w3 ⟨rfl, hb3⟩; clear c2; have hO3 := hO2'h.out.next hb3; have hO3'h := Lib.hid hO3; clear hO3 hb3))
      go_ret2
      exact ⟨none, 0, 0, rfl, hO3'h.out.old, World.ownsRow_nil _ _ _ _⟩

theorem find1_any (g : Gp) (key n b p : Nat) (w : World) (hn : n < 8) (hb : w.heap[b]? = some (.cells (gpA g) 25 (0, 0))) (hp : w.cell? ⟨p, 0, none⟩ = some (.int .u64 key)) :
    Calls Try.prog 52 #[.int .i64 n, .pointer (some ⟨b, 0, none⟩), .pointer (some ⟨p, 0, none⟩)] w fun e w' => e = .returned (.bool (g.k n == key)) ∧ Below w.heap.size w w' := by
  have ck := gp_key hb hn
  have h0 : (0 : Int) ≤ (n : Int) := by omega
  have h8 : (n : Int) < 8 := by omega
  have e : (g.k n == key) = ((g.k n : Int) == (key : Int)) := by rw [Bool.eq_iff_iff]; simp; omega
  rw [e]
  have e'h := Lib.hid e
  have hb'h := Lib.hid hb
  clear e hb
  go_enter Try.func52, Try.ntmps52
  go_wp2
  go_quiet (fail)
  go_wp2
  go_ret
  exact ⟨rfl, below_drewN' _ _⟩
def findE (g : Gp) (key h : Nat) : Nat := if looksE g h = 0 then (if foundG g key h = true then 0 else 4) else looksE g h
def findL (g : Gp) (key h : Nat) : Nat := if findE g key h = 0 then laneG g key h else 0
def findN (g : Gp) (key h : Nat) : Nat := if findE g key h = 0 then placeG g key h + 1 else 0
theorem findIdx_hit {p : Nat → Bool} {l : List Nat} {k : Nat} (hk : k < l.length) (hno : ∀ j, j < k → p (nthN l j) = false) (h : p (nthN l k) = true) : l.findIdx p = k := by
  refine (List.findIdx_eq hk).2 ⟨by rw [nthN_eq hk]; exact h, fun j hj => ?_⟩
  rw [nthN_eq (by omega)]; exact hno j hj
theorem findIdx_miss {p : Nat → Bool} {l : List Nat} (hno : ∀ j, j < l.length → p (nthN l j) = false) : l.findIdx p = l.length := by
  rw [List.findIdx_eq_length]
  intro x hx
  obtain ⟨j, hj, rfl⟩ := List.mem_iff_getElem.1 hx
  rw [nthN_eq hj]; exact hno j hj
theorem looksG_lt {g : Gp} {h i : Nat} (hi : i ∈ looksG g h) : i < 8 := by unfold looksG at hi; simp at hi; exact hi.1
theorem find_any (g : Gp) (key h : Nat) (w : World) (hg : GpOk g) (hk : key < 2 ^ 64) (hh : h < 256) :
    Calls Try.prog 21 #[.agg (gpA g), .int .u64 key, .int .u8 h] w fun e w' => e = .returned (.tuple #[.int .i64 (findL g key h), .int .i64 (findN g key h), .int .i64 (findE g key h)]) ∧ Below w.heap.size w w' := by
  have L := fun w => looks_any g h w hg hh
  obtain ⟨W, hW⟩ : ∃ W, W = (w.alloc (.cells (gpA g) 25)).alloc (.cells #[.int .u64 key] 22) := ⟨_, rfl⟩
  have hO := (Hs.nil w).new2 (gpA g) #[.int .u64 key] 25 22
  rw [← hW] at hO
  by_cases h0 : looksE g h = 0
  · have e1 : looksR g h = looksG g h := by unfold looksR; rw [if_pos h0]
    rw [h0, e1] at L
    have hmf : ∀ (fn : Fn) (first cap : Array Value) (w : World), (Instr.makeFunc fn first cap).run Try.prog w = .ok (.func fn first cap) w := fun _ _ _ _ => rfl
    have hlt := fun i (hi : i ∈ looksG g h) => looksG_lt hi
    have hfE : findE g key h = if foundG g key h = true then 0 else 4 := by unfold findE; rw [if_pos h0]
    have hyes : ∀ k, k < (looksG g h).length → (∀ j, j < k → (g.k (nthN (looksG g h) j) == key) = false) → (g.k (nthN (looksG g h) k) == key) = true → findE g key h = 0 ∧ findN g key h = k + 1 ∧ findL g key h = nthN (looksG g h) k := fun k hk' hno hy => by
      have hp : placeG g key h = k := findIdx_hit hk' hno hy
      have e : findE g key h = 0 := by rw [hfE, if_pos]; unfold foundG; rw [hp]; simpa using hk'
      refine ⟨e, by unfold findN; rw [if_pos e, hp], by unfold findL laneG; rw [if_pos e, hp]⟩
    have hmiss : (∀ j, j < (looksG g h).length → (g.k (nthN (looksG g h) j) == key) = false) → findE g key h = 4 ∧ findN g key h = 0 ∧ findL g key h = 0 := fun hno => by
      have hp : placeG g key h = (looksG g h).length := findIdx_miss hno
      have e : findE g key h = 4 := by rw [hfE, if_neg]; unfold foundG; rw [hp]; simp
      refine ⟨e, by unfold findN; rw [if_neg (by rw [e]; decide)], by unfold findL; rw [if_neg (by rw [e]; decide)]⟩
    have hlen : (looksG g h).length ≤ 8 := Nat.le_trans (List.length_filter_le _ _) (by simp)
    generalize findE g key h = ze at *
    generalize findN g key h = zn at *
    generalize findL g key h = zl at *
    generalize looksG g h = l at *
    have L'h := Lib.hid L
    have hO'h := Lib.hid hO
    have hlt'h := Lib.hid hlt
    have hyes'h := Lib.hid hyes
    have hmiss'h := Lib.hid hmiss
    have hg'h := Lib.hid hg
    have hh'h := Lib.hid hh
    have hk'h := Lib.hid hk
    have h0'h := Lib.hid h0
    have e1'h := Lib.hid e1
    have hfE'h := Lib.hid hfE
    have hlen'h := Lib.hid hlen
    clear L hO hlt hyes hmiss hg hh hk h0 e1 hfE hlen
    go_enter Try.func21, Try.ntmps21
    go_upto_region 1 with fail
    rw [← hW]
    clear hW
    go_wp2_with (first | (refine wpList_load_row rfl _ _ rfl w.heap.size rfl 25 (gpA g) (0, 0) _ hO'h.out.rows.2.1 Try.underlying25 rfl infoGp ?_) | (go_at_call 20; refine (L'h.out _).mono ?_; rintro e w2 ⟨sp, n, cap, rfl, hb2, hrow⟩))
    obtain rfl := row_len' hrow
    have hO2 := hO'h.out.next hb2
    have hrw : ∀ j, j < l.length → ∃ rb ro, sp = some ⟨rb, ro, none⟩ ∧ w2.cell? ⟨rb, ro + j, none⟩ = some (.int .i64 (nthN l j)) := fun j hj => by
      obtain ⟨b, off, e, hc⟩ := (Sl.of_row hrow (by have := hlen'h.out; unfold maxLen; omega)).some' (by omega)
      exact ⟨b, off, e, hc j _ (ints_at hj)⟩
    clear hb2 hrow
    have hO2'h := Lib.hid hO2
    have hrw'h := Lib.hid hrw
    clear hO2 hrw
    go_loopg [26] l.length (fun q i wr => ∃ k : Nat, k + q = l.length ∧ i = .int .i64 k ∧ (∀ j, j < k → (g.k (nthN l j) == key) = false) ∧ Below w2.heap.size w2 wr)
    case atStart => exact ⟨0, by omega, rfl, fun j hj => absurd hj (by omega), Below.refl _ _⟩
    case round =>
      obtain ⟨k, hq, rfl, hno, hB⟩ := hrel
      by_cases hlt : k < l.length
      · have hi1 : (k : Int) < (l.length : Int) := by omega
        obtain ⟨rb, ro, rfl, hc⟩ := hrw'h.out k hlt
        have c1 : wr.cell? ⟨rb, ro + k, none⟩ = some (.int .i64 (nthN l k)) := (hB.cell (lt_of_cell hc)).trans hc
        have hOr := hO2'h.out.next hB
        have F := find1_any g key (nthN l k) w.heap.size (w.heap.size + 1) wr (hlt'h.out _ (nthN_mem hlt)) hOr.rows.2.1 (blk_cell hOr.rows.1 rfl)
        cases hy : g.k (nthN l k) == key with
        | true =>
          obtain ⟨z1, z2, z3⟩ := hyes'h.out k hlt hno hy
          rw [hy] at F
          have hl9 := hlen'h.out
          have hk9 : k < 9 := by omega
          clear hc hl9
          have F'h := Lib.hid F
          have hOr'h := Lib.hid hOr
          have hno'h := Lib.hid hno
          have hq'h := Lib.hid hq
          have hlt'h := Lib.hid hlt
          have hB'h := Lib.hid hB
          have hy'h := Lib.hid hy
          have z1'h := Lib.hid z1
          have z2'h := Lib.hid z2
          have z3'h := Lib.hid z3
          clear F hOr hno hq hlt hB hy z1 z2 z3
          go_wp2_with (first | (refine F'h.out.mono ?_; rintro e w5 ⟨rfl, hb5⟩))
          refine bodyPost_ret (v := .tuple #[.int .i64 (nthN l k), .int .i64 (k + 1), .int .i64 0]) (by simp [results, Try.results21, go_sem]) rfl ⟨by rw [z1'h.out, z2'h.out, z3'h.out]; rfl, below_next hOr'h.out.old hb5⟩
        | false =>
          rw [hy] at F
          have hk9 : k < 9 := by have := hlen'h.out; omega
          clear hc
          have F'h := Lib.hid F
          have hOr'h := Lib.hid hOr
          have hno'h := Lib.hid hno
          have hq'h := Lib.hid hq
          have hlt'h := Lib.hid hlt
          have hB'h := Lib.hid hB
          have hy'h := Lib.hid hy
          clear F hOr hno hq hlt hB hy
          go_wp2_with (first | (refine F'h.out.mono ?_; rintro e w5 ⟨rfl, hb5⟩))
          go_roundg (gk - 1)
          case measure => have := hq'h.out; omega
          case rel => exact ⟨k + 1, by have := hq'h.out; omega, by go_num, fun j hj => by
            by_cases e : j = k
            · subst e; exact hy'h.out
            · exact hno'h.out j (by omega), below_next hB'h.out hb5⟩
      · have hkk : k = l.length := by omega
        obtain ⟨z1, z2, z3⟩ := hmiss'h.out (by rw [← hkk]; exact hno)
        subst hkk
        have hOr := hO2'h.out.next hB
        have hno'h := Lib.hid hno
        have hq'h := Lib.hid hq
        have hB'h := Lib.hid hB
        have z1'h := Lib.hid z1
        have z2'h := Lib.hid z2
        have z3'h := Lib.hid z3
        have hOr'h := Lib.hid hOr
        clear hno hq hB z1 z2 z3 hOr
        clear hlt
        go_wp2
        refine bodyPost_ret (v := .tuple #[.int .i64 0, .int .i64 0, .int .i64 4]) (by simp [results, Try.results21, go_sem]) rfl ⟨by rw [z1'h.out, z2'h.out, z3'h.out]; rfl, hOr'h.out.old⟩
  · have e1 : looksR g h = [] := by unfold looksR; rw [if_neg h0]
    have z1 : findE g key h = looksE g h := by unfold findE; rw [if_neg h0]
    have z2 : findN g key h = 0 := by unfold findN; rw [z1, if_neg h0]
    have z3 : findL g key h = 0 := by unfold findL; rw [z1, if_neg h0]
    rw [z1, z2, z3]
    rw [e1] at L
    have hz : ((looksE g h : Int) != 0) = true := by simp; omega
    generalize looksE g h = z at *
    have L'h := Lib.hid L
    have hO'h := Lib.hid hO
    have z1'h := Lib.hid z1
    have z2'h := Lib.hid z2
    have z3'h := Lib.hid z3
    have e1'h := Lib.hid e1
    have hg'h := Lib.hid hg
    have hk'h := Lib.hid hk
    have hh'h := Lib.hid hh
    have h0'h := Lib.hid h0
    clear L hO z1 z2 z3 e1 hg hk hh h0
    go_enter Try.func21, Try.ntmps21
    go_upto_region 1 with fail
    rw [← hW]
    clear hW
    go_wp2_with (first | (refine wpList_load_row rfl _ _ rfl w.heap.size rfl 25 (gpA g) (0, 0) _ hO'h.out.rows.2.1 Try.underlying25 rfl infoGp ?_) | (go_at_call 20; refine (L'h.out _).mono ?_; rintro e w2 ⟨sp, n, cap, rfl, hb2, hrow⟩))
    refine bodyPost_ret (v := .tuple #[.int .i64 0, .int .i64 0, .int .i64 z]) (by simp [results, Try.results21, go_sem]) rfl ⟨rfl, (hO'h.out.next hb2).old⟩
end Go.Proofs.Ytfoohdjgnphdgaa
