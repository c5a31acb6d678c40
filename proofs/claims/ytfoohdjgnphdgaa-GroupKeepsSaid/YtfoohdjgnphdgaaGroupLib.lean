/-
  The library's Index, Contains, IndexFunc, ContainsFunc, Delete over slots and numbers.
-/
import Derived.Test.YtfoohdjgnphdgaaPq
import Derived.Deep.RegionLaw
import Derived.Lib.SliceRun
set_option linter.unusedSimpArgs false
set_option linter.unusedVariables false
set_option maxRecDepth 100000
namespace Go.Proofs.Ytfoohdjgnphdgaa
open Go.RowKit

/-! ### Numbers -/
def idxN (x : Nat) (l : List Nat) : Int := if l.contains x = true then (l.idxOf x : Int) else -1
theorem idxN_hit {x : Nat} {l : List Nat} {k : Nat} (hk : k < l.length) (hno : ∀ j, j < k → nthN l j ≠ x) (h : nthN l k = x) : idxN x l = (k : Int) := by
  have hm : x ∈ l := by rw [← h]; exact nthN_mem hk
  unfold idxN
  rw [if_pos (by simpa using hm)]
  congr 1
  have : l.findIdx (· == x) = k := findIdx_hit hk (fun j hj => by have := hno j hj; simpa using this) (by simpa using h)
  exact this
theorem idxN_none {x : Nat} {l : List Nat} (hno : ∀ j, j < l.length → nthN l j ≠ x) : idxN x l = -1 := by
  unfold idxN
  rw [if_neg]
  intro h
  have hm : x ∈ l := by simpa using h
  obtain ⟨j, hj, e⟩ := List.mem_iff_getElem.1 hm
  exact hno j hj (by rw [← nthN_eq hj]; exact e)
theorem idxN_geq (x : Nat) (l : List Nat) : decide ((0 : Int) ≤ idxN x l) = l.contains x := by
  unfold idxN
  cases h : l.contains x with
  | true => rw [if_pos rfl]; simp
  | false => rw [if_neg (by decide)]; decide
theorem indexN_any (sp : Option Addr) (n cap : Nat) (l : List Nat) (x : Nat) (w : World) (h : Sl w sp n (ints l)) :
    Calls Try.prog 58 #[.slice sp n cap, .int .i64 x] w fun e w' => e = .returned (.int .i64 (idxN x l)) ∧ w' = w := by
  have hlen : n = l.length := by have := h.1; unfold ints at this; simpa using this
  have hmax := h.2.1
  unfold maxLen at hmax
  have hlen'h := Lib.hid hlen
  have h'h := Lib.hid h
  clear hlen h
  go_enter Try.func58, Try.ntmps58
  go_wp2
  go_loopg [8] n (fun q i wr => ∃ k : Nat, k + q = n ∧ i = .int .i64 k ∧ (∀ j, j < k → nthN l j ≠ x) ∧ wr = w)
  case atStart => exact ⟨0, by omega, rfl, fun j hj => by omega, rfl⟩
  case round =>
    obtain ⟨k, hk, rfl, hall, rfl⟩ := hrel
    have hkn : k ≤ n := by omega
    by_cases hlt : k < n
    · have hkl : k < l.length := by have := hlen'h.out; omega
      obtain ⟨b, off, rfl, hcs⟩ := h'h.out.some' (by omega)
      have c1 : wr.cell? ⟨b, off + k, none⟩ = some (.int .i64 (nthN l k)) := hcs k _ (ints_at hkl)
      have hi1 : (k : Int) < (n : Int) := by omega
      have h0k : (0 : Int) ≤ (k : Int) := by omega
      clear hcs
      by_cases hv : nthN l k = x
      · have hr := idxN_hit hkl hall hv
        have he : ((x : Int) == (nthN l k : Int)) = true := by rw [hv]; simp
        have hk'h := Lib.hid hk
        have hall'h := Lib.hid hall
        have hr'h := Lib.hid hr
        have hv'h := Lib.hid hv
        have hkl'h := Lib.hid hkl
        clear hk hall hr hv hkl
        go_wp2
        go_ret
        exact ⟨ret_i64 hr'h.out.symm, rfl⟩
      · have hall' : ∀ j, j < k + 1 → nthN l j ≠ x := fun j hj => by
          by_cases e : j = k
          · rw [e]; exact hv
          · exact hall j (by omega)
        have he : ((x : Int) == (nthN l k : Int)) = false := by simp; omega
        have hk'h := Lib.hid hk
        have hall'h := Lib.hid hall
        have hv'h := Lib.hid hv
        have hkl'h := Lib.hid hkl
        have hall''h := Lib.hid hall'
        clear hk hall hv hkl hall'
        go_wp2
        go_roundg (gk - 1)
        case measure => have := hk'h.out; omega
        case rel => exact ⟨k + 1, by have := hk'h.out; omega, by go_num, hall''h.out, rfl⟩
    · have hr := idxN_none (l := l) (x := x) (fun j hj => hall j (by have := hlen'h.out; omega))
      have hd : ¬ ((k : Int) < (n : Int)) := by omega
      have hk'h := Lib.hid hk
      have hall'h := Lib.hid hall
      have hr'h := Lib.hid hr
      clear hk hall hr
      go_wp2
      go_ret
      exact ⟨ret_i64 hr'h.out.symm, rfl⟩
theorem containsN_any (sp : Option Addr) (n cap : Nat) (l : List Nat) (x : Nat) (w : World) (h : Sl w sp n (ints l)) :
    Calls Try.prog 35 #[.slice sp n cap, .int .i64 x] w fun e w' => e = .returned (.bool (l.contains x)) ∧ w' = w := by
  have I := indexN_any sp n cap l x w h
  have hr := idxN_geq x l
  generalize idxN x l = z at *
  generalize l.contains x = b at *
  have I'h := Lib.hid I
  have h'h := Lib.hid h
  have hr'h := Lib.hid hr
  clear I h hr
  go_enter Try.func35, Try.ntmps35
  go_wp2_with (first | (go_at_call 58; refine I'h.out.mono ?_; rintro e w2 ⟨rfl, hw2⟩; obtain rfl := hw2.symm))
  go_ret
  exact ⟨ret_bool hr'h.out, rfl⟩
/-! ### Slots -/
def idxS (p : Sl3 → Bool) (l : List Sl3) : Int := if l.any p = true then (l.findIdx p : Int) else -1
theorem idxS_hit {p : Sl3 → Bool} {l : List Sl3} {k : Nat} (hk : k < l.length) (hno : ∀ j, j < k → p (nthS l j) = false) (h : p (nthS l k) = true) : idxS p l = (k : Int) := by
  unfold idxS
  rw [if_pos (List.any_eq_true.2 ⟨_, nthS_mem hk, h⟩)]
  congr 1
  refine (List.findIdx_eq hk).2 ⟨by rw [nthS_eq hk]; exact h, fun j hj => ?_⟩
  rw [nthS_eq (by omega)]; exact hno j hj
theorem idxS_none {p : Sl3 → Bool} {l : List Sl3} (hno : ∀ j, j < l.length → p (nthS l j) = false) : idxS p l = -1 := by
  unfold idxS
  rw [if_neg]
  intro h
  obtain ⟨s, hs, hp⟩ := List.any_eq_true.1 h
  obtain ⟨j, hj, rfl⟩ := List.mem_iff_getElem.1 hs
  rw [nthS_eq hj, hno j hj] at hp; cases hp
theorem idxS_geq (p : Sl3 → Bool) (l : List Sl3) : decide ((0 : Int) ≤ idxS p l) = l.any p := by
  unfold idxS
  cases h : l.any p with
  | true => rw [if_pos rfl]; simp
  | false => rw [if_neg (by decide)]; decide
theorem eql_sl3 (s t : Sl3) (w : World) : (binOp .eql 38 (.agg (slA s)) (.agg (slA t))).run Try.prog w = .ok (.bool (decide (s = t))) w := by
  rw [run_eql_struct]
  have e : (Op.equalIn 10000 38 (.agg (slA s)) (.agg (slA t))).run Try.prog w = .ok (decide (s = t)) w := by
    have u3 := Try.underlying22
    have a3 := Try.isAgg22
    have z3 := Try.sizeOf22
    have u4 := Try.underlying5
    have a4 := Try.isAgg5
    have z4 := Try.sizeOf5
    rw [show (10000 : Nat) = 9999 + 1 from rfl, run_equalIn_struct w 9999 38 _ _ (by kernel_rfl) (by kernel_rfl)]
    simp only [Program.fieldsOf, Try.underlying38, slA]
    go_simp
    obtain ⟨a, b, c⟩ := s
    obtain ⟨a', b', c'⟩ := t
    by_cases h1 : a = a' <;> by_cases h2 : b = b' <;> by_cases h3 : c = c' <;> simp [h1, h2, h3] <;> omega
  rw [e]; rfl
theorem gfills1_any (s : Sl3) (p key : Nat) (w : World) (hp : w.cell? ⟨p, 0, none⟩ = some (.int .u64 key)) :
    Calls Try.prog 34 #[.agg #[.int .u64 (s.key : Int), .int .u64 (s.val : Int), .int .u8 (s.h2 : Int)], .pointer (some ⟨p, 0, none⟩)] w fun e w' => e = .returned (.bool (s.key == key)) ∧ Below w.heap.size w w' := by
  have e : (s.key == key) = ((s.key : Int) == (key : Int)) := by rw [Bool.eq_iff_iff]; simp; omega
  rw [e]
  have hlt := lt_of_cell hp
  have hp2 : (w.alloc (.cells (slA s) 38)).cell? ⟨p, 0, none⟩ = some (.int .u64 key) := keep_alloc _ _ _ _ hp
  have hO := (Hs.nil w).new (slA s) 38
  have c0 : (w.alloc (.cells (slA s) 38)).cell? ⟨w.heap.size, 0, none⟩ = some (.int .u64 (s.key : Int)) := blk_cell hO.rows.1 rfl
  clear hp
  have e'h := Lib.hid e
  have hO'h := Lib.hid hO
  have hlt'h := Lib.hid hlt
  clear e hO hlt
  go_enter Try.func34, Try.ntmps34
  go_upto_region 1 with fail
  change Code.wp _ _ _ _ (w.alloc (.cells (slA s) 38))
  generalize w.alloc _ = W at *
  go_wp2
  go_ret
  exact ⟨rfl, hO'h.out.old⟩
set_option maxHeartbeats 1000000 in
theorem idxFunS_any (sp : Option Addr) (n cap : Nat) (l : List Sl3) (p key : Nat) (w : World) (h : SlK w 3 sp n (sls l)) (hp : w.cell? ⟨p, 0, none⟩ = some (.int .u64 key)) :
    Calls Try.prog 57 #[.slice sp n cap, .func (.func 34) #[] #[.pointer (some ⟨p, 0, none⟩)]] w fun e w' => e = .returned (.int .i64 (idxS (fun s => s.key == key) l)) ∧ Below w.heap.size w w' := by
  have hlen := sls_len h
  have hmax := h.2.1
  unfold maxLen at hmax
  have hlen'h := Lib.hid hlen
  have h'h := Lib.hid h
  have hp'h := Lib.hid hp
  clear hlen h hp
  go_enter Try.func57, Try.ntmps57
  go_wp2
  go_loopg [8] n (fun q i wr => ∃ k : Nat, k + q = n ∧ i = .int .i64 k ∧ (∀ j, j < k → ((nthS l j).key == key) = false) ∧ Below w.heap.size w wr)
  case atStart => exact ⟨0, by omega, rfl, fun j hj => by omega, Below.refl _ _⟩
  case round =>
    obtain ⟨k, hk, rfl, hall, hB⟩ := hrel
    have hkn : k ≤ n := by omega
    by_cases hlt : k < n
    · have hkl : k < l.length := by have := hlen'h.out; omega
      obtain ⟨b, off, rfl⟩ := sls_some h'h.out (by omega)
      obtain ⟨c1, c2, c3⟩ := sls_cells (h'h.out.below hB) hkl
      have C := gfills1_any (nthS l k) p key wr ((hB.cell (lt_of_cell hp'h.out)).trans hp'h.out)
      have hi1 : (k : Int) < (n : Int) := by omega
      have h0k : (0 : Int) ≤ (k : Int) := by omega
      cases hv : (nthS l k).key == key with
      | true =>
        have hr := idxS_hit (p := fun s => s.key == key) hkl hall hv
        rw [hv] at C
        generalize (nthS l k).key = x1 at *
        generalize (nthS l k).val = x2 at *
        generalize (nthS l k).h2 = x3 at *
        have hk'h := Lib.hid hk
        have hall'h := Lib.hid hall
        have C'h := Lib.hid C
        have hr'h := Lib.hid hr
        have hv'h := Lib.hid hv
        have hkl'h := Lib.hid hkl
        have hB'h := Lib.hid hB
        clear hk hall C hr hv hkl hB
        go_wp2_with (first | (refine C'h.out.mono ?_; rintro e w5 ⟨rfl, hb5⟩))
        go_ret
        exact ⟨ret_i64 hr'h.out.symm, below_next hB'h.out hb5⟩
      | false =>
        have hall' : ∀ j, j < k + 1 → ((nthS l j).key == key) = false := fun j hj => by
          by_cases e : j = k
          · rw [e]; exact hv
          · exact hall j (by omega)
        rw [hv] at C
        generalize (nthS l k).key = x1 at *
        generalize (nthS l k).val = x2 at *
        generalize (nthS l k).h2 = x3 at *
        have hk'h := Lib.hid hk
        have hall'h := Lib.hid hall
        have C'h := Lib.hid C
        have hv'h := Lib.hid hv
        have hkl'h := Lib.hid hkl
        have hall''h := Lib.hid hall'
        have hB'h := Lib.hid hB
        clear hk hall C hv hkl hall' hB
        go_wp2_with (first | (refine C'h.out.mono ?_; rintro e w5 ⟨rfl, hb5⟩))
        go_roundg (gk - 1)
        case measure => have := hk'h.out; omega
        case rel => exact ⟨k + 1, by have := hk'h.out; omega, by go_num, hall''h.out, below_next hB'h.out hb5⟩
    · have hr := idxS_none (l := l) (p := fun s => s.key == key) (fun j hj => hall j (by have := hlen'h.out; omega))
      have hd : ¬ ((k : Int) < (n : Int)) := by omega
      have hk'h := Lib.hid hk
      have hall'h := Lib.hid hall
      have hr'h := Lib.hid hr
      have hB'h := Lib.hid hB
      clear hk hall hr hB
      go_wp2
      go_ret
      exact ⟨ret_i64 hr'h.out.symm, hB'h.out⟩
theorem containsFunS_any (sp : Option Addr) (n cap : Nat) (l : List Sl3) (p key : Nat) (w : World) (h : SlK w 3 sp n (sls l)) (hp : w.cell? ⟨p, 0, none⟩ = some (.int .u64 key)) :
    Calls Try.prog 33 #[.slice sp n cap, .func (.func 34) #[] #[.pointer (some ⟨p, 0, none⟩)]] w fun e w' => e = .returned (.bool (l.any fun s => s.key == key)) ∧ Below w.heap.size w w' := by
  have I := idxFunS_any sp n cap l p key w h hp
  have hr := idxS_geq (fun s => s.key == key) l
  generalize idxS (fun s => s.key == key) l = z at *
  generalize l.any (fun s => s.key == key) = b at *
  have I'h := Lib.hid I
  have h'h := Lib.hid h
  have hr'h := Lib.hid hr
  have hp'h := Lib.hid hp
  clear I h hr hp
  go_enter Try.func33, Try.ntmps33
  go_wp2_with (first | (go_at_call 57; refine I'h.out.mono ?_; rintro e w2 ⟨rfl, hw2⟩))
  go_ret
  exact ⟨ret_bool hr'h.out, hw2⟩
set_option maxHeartbeats 1000000 in
theorem indexS_any (sp : Option Addr) (n cap : Nat) (l : List Sl3) (s : Sl3) (w : World) (h : SlK w 3 sp n (sls l)) :
    Calls Try.prog 36 #[.slice sp n cap, .agg (slA s)] w fun e w' => e = .returned (.int .i64 (idxS (fun t => decide (s = t)) l)) ∧ Below w.heap.size w w' := by
  have hlen := sls_len h
  have hmax := h.2.1
  unfold maxLen at hmax
  have hO := (Hs.nil w).new (slA s) 38
  have h1 : SlK (w.alloc (.cells (slA s) 38)) 3 sp n (sls l) := h.below ((Below.refl _ w).alloc (Nat.le_refl _) _)
  have hlen'h := Lib.hid hlen
  have h'h := Lib.hid h
  have hO'h := Lib.hid hO
  have h1'h := Lib.hid h1
  clear hlen h hO h1
  go_enter Try.func36, Try.ntmps36
  go_upto_region 1 with fail
  change Code.wp _ _ _ _ (w.alloc (.cells (slA s) 38))
  have hO := hO'h.out
  have h1 := h1'h.out
  clear hO'h h1'h
  generalize w.alloc _ = W at hO h1 ⊢
  have hO'h := Lib.hid hO
  have h1'h := Lib.hid h1
  clear hO h1
  go_wp2
  go_loopg [8] n (fun q i wr => ∃ k : Nat, k + q = n ∧ i = .int .i64 k ∧ (∀ j, j < k → decide (s = nthS l j) = false) ∧ ∃ d, wr = W.drewN d)
  case atStart => exact ⟨0, by omega, rfl, fun j hj => by omega, 0, rfl⟩
  case round =>
    obtain ⟨k, hk, rfl, hall, d, rfl⟩ := hrel
    have hkn : k ≤ n := by omega
    by_cases hlt : k < n
    · have hkl : k < l.length := by have := hlen'h.out; omega
      obtain ⟨b, off, rfl⟩ := sls_some h'h.out (by omega)
      obtain ⟨c1, c2, c3⟩ := sls_cells h1'h.out hkl
      have c1' : ∀ q, (W.drewN q).cell? ⟨b, off + k * 3, none⟩ = some (.int .u64 ((nthS l k).key : Int)) := fun q => c1
      have c2' : ∀ q, (W.drewN q).cell? ⟨b, off + k * 3 + 1, none⟩ = some (.int .u64 ((nthS l k).val : Int)) := fun q => c2
      have c3' : ∀ q, (W.drewN q).cell? ⟨b, off + k * 3 + 2, none⟩ = some (.int .u8 ((nthS l k).h2 : Int)) := fun q => c3
      have d1 : ∀ q, (W.drewN q).cell? ⟨w.heap.size, 0, none⟩ = some (.int .u64 (s.key : Int)) := fun q => blk_cell hO'h.out.rows.1 rfl
      have d2 : ∀ q, (W.drewN q).cell? ⟨w.heap.size, 1, none⟩ = some (.int .u64 (s.val : Int)) := fun q => blk_cell hO'h.out.rows.1 rfl
      have d3 : ∀ q, (W.drewN q).cell? ⟨w.heap.size, 2, none⟩ = some (.int .u8 (s.h2 : Int)) := fun q => blk_cell hO'h.out.rows.1 rfl
      have i1 : (k : Int) < (n : Int) := by omega
      have i2 : (0 : Int) ≤ (k : Int) := by omega
      have hq : ∀ w, (binOp .eql 38 (.agg #[.int .u64 (s.key : Int), .int .u64 (s.val : Int), .int .u8 (s.h2 : Int)]) (.agg #[.int .u64 ((nthS l k).key : Int), .int .u64 ((nthS l k).val : Int), .int .u8 ((nthS l k).h2 : Int)])).run Try.prog w = .ok (.bool (decide (s = nthS l k))) w := fun w => eql_sl3 s (nthS l k) w
      clear c1 c2 c3
      by_cases he : s = nthS l k
      · have hr := idxS_hit (p := fun t => decide (s = t)) hkl hall (decide_eq_true he)
        have hx : decide (s = nthS l k) = true := decide_eq_true he
        rw [hx] at hq
        generalize s.key = x1 at *
        generalize s.val = x2 at *
        generalize s.h2 = x3 at *
        generalize (nthS l k).key = y1 at *
        generalize (nthS l k).val = y2 at *
        generalize (nthS l k).h2 = y3 at *
        have hk'h := Lib.hid hk
        have hall'h := Lib.hid hall
        have hr'h := Lib.hid hr
        have hkl'h := Lib.hid hkl
        have he'h := Lib.hid he
        clear hk hall hr hkl he
        clear hx
        go_wp2_with fail
        go_quiet (fail)
        go_wp2
        go_ret
        exact ⟨ret_i64 hr'h.out.symm, (hO'h.out.old.trans (below_drewN' _ _)).trans (below_drewN' _ _)⟩
      · have hall' : ∀ j, j < k + 1 → decide (s = nthS l j) = false := fun j hj => by
          by_cases e : j = k
          · rw [e]; exact decide_eq_false he
          · exact hall j (by omega)
        have hx : decide (s = nthS l k) = false := decide_eq_false he
        rw [hx] at hq
        generalize s.key = x1 at *
        generalize s.val = x2 at *
        generalize s.h2 = x3 at *
        generalize (nthS l k).key = y1 at *
        generalize (nthS l k).val = y2 at *
        generalize (nthS l k).h2 = y3 at *
        have hk'h := Lib.hid hk
        have hall'h := Lib.hid hall
        have hkl'h := Lib.hid hkl
        have hall''h := Lib.hid hall'
        have he'h := Lib.hid he
        clear hk hall hkl hall' he
        clear hx
        go_wp2_with fail
        go_quiet (fail)
        go_wp2
        go_roundg (gk - 1)
        case measure => have := hk'h.out; omega
        case rel => exact ⟨k + 1, by have := hk'h.out; omega, by go_num, hall''h.out, d + nq, rfl⟩
    · have hr := idxS_none (l := l) (p := fun t => decide (s = t)) (fun j hj => hall j (by have := hlen'h.out; omega))
      have hd : ¬ ((k : Int) < (n : Int)) := by omega
      have hk'h := Lib.hid hk
      have hall'h := Lib.hid hall
      have hr'h := Lib.hid hr
      clear hk hall hr
      go_wp2
      go_ret
      exact ⟨ret_i64 hr'h.out.symm, hO'h.out.old.trans (below_drewN' _ _)⟩
end Go.Proofs.Ytfoohdjgnphdgaa
