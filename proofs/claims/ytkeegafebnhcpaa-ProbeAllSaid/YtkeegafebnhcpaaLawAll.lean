/-
  ProbeAll: a row sorted is 0, 1, ..; the walk.
-/
import Derived.Test.YtkeegafebnhcpaaLawSame
import Derived.Test.YtkeegafebnhcpaaLawRows
import Derived.Test.YtkeegafebnhcpaaSortI
import Derived.Deep.AppendLies
import Derived.Deep.Cut
set_option linter.unusedSimpArgs false
set_option linter.unusedVariables false
set_option maxRecDepth 100000
namespace Go.Proofs.Ytkeegafebnhcpaa
open Go.RowKit

theorem rowB_nodup {G : Nat} (hG : goodB G = true) (h : Nat) : (rowB G h).Nodup := by
  unfold List.Nodup
  rw [List.pairwise_iff_getElem]
  intro i j hi hj hij e
  have hi' : i < G := by rwa [rowB_length] at hi
  have hj' : j < G := by rwa [rowB_length] at hj
  have e1 := rowB_at (h := h) hi'
  have e2 := rowB_at (h := h) hj'
  rw [List.getElem?_eq_getElem hi] at e1
  rw [List.getElem?_eq_getElem hj] at e2
  injection e1 with e1
  injection e2 with e2
  have := prB_inj hG h hi' hj' (by rw [← e1, ← e2]; exact e)
  omega
theorem rowB_perm {G : Nat} (hG : goodB G = true) (h : Nat) : (rowB G h).Perm (List.range G) := by
  rw [List.perm_ext_iff_of_nodup (rowB_nodup hG h) List.nodup_range]
  intro a
  rw [List.mem_range]
  constructor
  · intro ha
    unfold rowB at ha
    obtain ⟨i, _, rfl⟩ := List.mem_map.1 ha
    exact prB_lt h i (good_pos hG)
  · intro ha
    unfold rowB
    exact List.mem_map.2 ⟨placeB G h a, List.mem_range.2 (placeB_lt hG h ha), prB_place hG h ha⟩
theorem sorted_row {G : Nat} (hG : goodB G = true) (h : Nat) : ((rowZ G h).mergeSort fun x y => decide (x ≤ y)) = (List.range G).map Int.ofNat := by
  refine List.Perm.eq_of_pairwise (le := fun x y : Int => decide (x ≤ y) = true) (fun a b _ _ h1 h2 => ?_) ?_ ?_ ?_
  · have := of_decide_eq_true h1; have := of_decide_eq_true h2; omega
  · exact List.pairwise_mergeSort (fun a b c h1 h2 => by simp at *; omega) (fun a b => by simp; omega) _
  · rw [List.pairwise_map]
    exact List.pairwise_lt_range.imp fun h => by simp; omega
  · exact (List.mergeSort_perm _ _).trans ((rowB_perm hG h).map _)
theorem nth_range {G k : Nat} (hk : k < G) : nthZ ((List.range G).map Int.ofNat) k = (k : Int) := by
  rw [← nthZ_eq (by simpa using hk)]; simp
set_option maxHeartbeats 2000000 in
theorem walk_ProbeAll (a0 a1 : Int) (w : World) (w0 : (Lit.int .i64 a0).wf = true) (w1 : (Lit.int .u64 a1).wf = true) :
    Calls Try.prog 7 #[.int .i64 a0, .int .u64 a1] w fun e w' => e = .returned (.bool true) ∧ Below w.heap.size w w' := by
  obtain ⟨x, rfl, hx⟩ := nat_of_u64 w1
  have hbd := bd_of_i64 w0
  clear w0 w1
  cases hg : goodG a0 with
  | false =>
    have R := fun w => row_no a0 x w hg hbd
    have C := fun w => check_no a0 w hg hbd
    have hx'h := Lib.hid hx
    have hg'h := Lib.hid hg
    have hbd'h := Lib.hid hbd
    have R'h := Lib.hid R
    have C'h := Lib.hid C
    clear hx hg hbd R C
    go_enter Try.func7, Try.ntmps7
    go_wp2_with fail
    refine (wakes_any _).mono ?_
    rintro e w1 ⟨rfl, hb1⟩
    go_wp2_with fail
    refine (R'h.out _).mono ?_
    rintro e w' ⟨rfl, rfl⟩
    go_wp2_with fail
    refine (C'h.out _).mono ?_
    rintro e w' ⟨rfl, rfl⟩
    go_wp2
    go_ret
    exact ⟨rfl, hb1⟩
  | true =>
    obtain ⟨G, rfl, hG⟩ := good_split hg
    have h1 := good_le hG
    have h0 := good_pos hG
    have R := fun w => row_yes G x w hG hx
    have hsort := sorted_row hG x
    have hgi : (0 : Int) < (G : Int) := by omega
    have hgi2 : (G : Int) ≤ 64 := by omega
    have hx'h := Lib.hid hx
    have hg'h := Lib.hid hg
    have hbd'h := Lib.hid hbd
    have R'h := Lib.hid R
    have hG'h := Lib.hid hG
    have hsort'h := Lib.hid hsort
    clear hx hg hbd R hG hsort
    go_enter Try.func7, Try.ntmps7
    go_upto_region 6 with (first | (go_at_call 8; refine (wakes_any _).mono ?_; rintro e w1 ⟨rfl, hb1⟩) | (go_at_call 19; refine (R'h.out _).mono ?_; rintro e w2 ⟨sp2, cap2, rfl, hb2, hrow2⟩; have hrow2'h := Lib.hid hrow2; clear hrow2))
    obtain ⟨g2, c2, hv2, hlo2, hg2⟩ := hrow2'h.out.form (by omega)
    injection hv2 with hv2a _ hv2c
    subst hv2a hv2c
    have hS2 : Sl w2 (some ⟨g2, 0, none⟩) G ((rowZ G x).map (Value.int .i64)) := Sl.of_row hrow2'h.out (by unfold maxLen; omega)
    have CL := fun w h => cloneI_any (some ⟨g2, 0, none⟩) G cap2 ((rowZ G x).map (Value.int .i64)) w (by omega) (oneCell_ints _ _) (fun h => (by cases h)) h
    have hS2'h := Lib.hid hS2
    have CL'h := Lib.hid CL
    have hb1'h := Lib.hid hb1
    have hb2'h := Lib.hid hb2
    have hlo2'h := Lib.hid hlo2
    have hg2'h := Lib.hid hg2
    clear hS2 CL hb1 hb2 hlo2 hg2
    go_upto_region 7 with (go_at_call 28; refine (CL'h.out _ hS2'h.out).mono ?_; rintro e w3 ⟨sp3, cap3, rfl, hb3, hrow3⟩; have hrow3'h := Lib.hid hrow3; clear hrow3)
    obtain ⟨g3, c3, hv3, hlo3, hg3⟩ := hrow3'h.out.form (by omega)
    injection hv3 with hv3a _ hv3c
    subst hv3a hv3c
    have SO := sortI_own g3 cap3 G w2.heap.size (rowZ G x) w3 (by rw [rowZ_length]) (by rw [rowZ_length]; omega) hrow3'h.out
    rw [hsort'h.out] at SO
    have hb3'h := Lib.hid hb3
    have hlo3'h := Lib.hid hlo3
    have hg3'h := Lib.hid hg3
    have SO'h := Lib.hid SO
    clear hb3 hlo3 hg3 SO
    go_upto_region 8 with (go_at_call 29; refine SO'h.out.mono ?_; rintro e w4 ⟨rfl, hgr4, hrow4⟩; have hrow4'h := Lib.hid hrow4; have hgr4'h := Lib.hid hgr4; clear hrow4 hgr4)
    have hS4 : Sl w4 (some ⟨g3, 0, none⟩) G (((List.range G).map Int.ofNat).map (Value.int .i64)) := Sl.of_row hrow4'h.out (by unfold maxLen; omega)
    have hS5 : Sl w4 (some ⟨g2, 0, none⟩) G ((rowZ G x).map (Value.int .i64)) := (hS2'h.out.below hb3'h.out).keep fun b o hb he ho => (hgr4'h.out.block b hb (by
      intro e
      have e1 : b = g3 := by injection e
      have e2 : g2 = b := by simpa using he
      have := hlo3'h.out; have := hg2'h.out; omega)).trans ho
    have hB4 : Below w.heap.size w w4 := (below_next hb1'h.out (below_next hb2'h.out hb3'h.out)).grown hgr4'h.out (below_next hb1'h.out (below_next hb2'h.out hb3'h.out)).size (fun j hj => by
      cases hj
      have := hlo3'h.out; have := hb1'h.out.size; have := hb2'h.out.size; omega)
    have hS4'h := Lib.hid hS4
    have hS5'h := Lib.hid hS5
    have hB4'h := Lib.hid hB4
    clear hS4 hS5 hB4
    go_wp2
    go_loopg [43] G (fun q i wr => ∃ k : Nat, k + q = G ∧ i = .int .i64 k ∧ wr = w4)
    case atStart => exact ⟨0, by omega, rfl, rfl⟩
    case round =>
      obtain ⟨k, hk, rfl, hw4⟩ := hrel
      obtain rfl := hw4.symm
      by_cases hlt : k < G
      · have c := hS4'h.out.cell (i64s_at (zs := (List.range G).map Int.ofNat) (j := k) (by simpa using hlt))
        rw [nth_range hlt, Nat.zero_add] at c
        have hki : (k : Int) < (G : Int) := by omega
        have hne := ne_self k
        have hk'h := Lib.hid hk
        clear hk
        go_wp2
        go_roundg (gk - 1)
        case measure => have := hk'h.out; omega
        case rel => exact ⟨k + 1, by have := hk'h.out; omega, by go_num, rfl⟩
      · obtain rfl : G = k := by omega
        clear hk
        go_wp2
        go_loopg [54] G (fun q i wr => ∃ k : Nat, k + q = G ∧ i = .int .i64 k ∧ Below w4.heap.size w4 wr)
        case atStart => exact ⟨0, by omega, rfl, Below.refl _ _⟩
        case round =>
          obtain ⟨k, hk, rfl, hbr⟩ := hrel
          by_cases hlt : k < G
          · have hSr := hS5'h.out.below hbr
            have c := hSr.cell (i64s_at (zs := rowZ G x) (j := k) (by rw [rowZ_length]; exact hlt))
            rw [nth_rowZ hlt, Nat.zero_add] at c
            have AT := fun w => at_yes G x k w hG'h.out hx'h.out hlt
            have hgl := prB_lt x k (show 0 < G by omega)
            have PL := fun w => place_yes G x (prB G x k) w hG'h.out hx'h.out hgl
            rw [placeB_pr hG'h.out x hlt] at PL
            have hki : (k : Int) < (G : Int) := by omega
            have hki0 : (0 : Int) ≤ (k : Int) := by omega
            have hne := ne_self k
            have hne2 := ne_self (prB G x k)
            by_cases hk1 : k + 1 < G
            · have NX := fun w => next_yes G (prB G x k) k w hG'h.out hgl hk1
              rw [← prB_next] at NX
              have c' := fun W' (hb : Below wr.heap.size wr W') => (hSr.below hb).cell (i64s_at (zs := rowZ G x) (j := k + 1) (by rw [rowZ_length]; exact hk1))
              have t0 : ((k : Int) == (G : Int) - 1) = false := by simp; omega
              have hne3 := ne_self (prB G x (k + 1))
              rw [nth_rowZ hk1, Nat.zero_add] at c'
              have hki1 : (k : Int) + 1 < (G : Int) := by omega
              generalize prB G x (k + 1) = gn at *
              generalize prB G x k = g at *
              have hk'h := Lib.hid hk
              have hbr'h := Lib.hid hbr
              have hSr'h := Lib.hid hSr
              have AT'h := Lib.hid AT
              have hgl'h := Lib.hid hgl
              have PL'h := Lib.hid PL
              have NX'h := Lib.hid NX
              have c''h := Lib.hid c'
              clear hk hbr hSr AT hgl PL NX c'
              go_wp2_with (first | (go_at_call 24; refine (AT'h.out _).mono ?_; rintro e w10 ⟨rfl, hw10⟩; obtain rfl := hw10.symm) | (go_at_call 25; refine (PL'h.out _).mono ?_; rintro e w11 ⟨rfl, hb11⟩; have c2 := c''h.out _ hb11) | (go_at_call 14; refine (NX'h.out _).mono ?_; rintro e w12 ⟨rfl, hw12⟩; obtain rfl := hw12.symm))
              go_roundg (gk - 1)
              case measure => have := hk'h.out; omega
              case rel => exact ⟨k + 1, by have := hk'h.out; omega, by go_num, below_next hbr'h.out hb11⟩
            · have NX := fun w => next_out G (prB G x k) k w hG'h.out (by omega)
              have t0 : ((k : Int) == (G : Int) - 1) = true := by simp; omega
              generalize prB G x k = g at *
              have hk'h := Lib.hid hk
              have hbr'h := Lib.hid hbr
              have hSr'h := Lib.hid hSr
              have AT'h := Lib.hid AT
              have hgl'h := Lib.hid hgl
              have PL'h := Lib.hid PL
              have NX'h := Lib.hid NX
              clear hk hbr hSr AT hgl PL NX
              go_wp2_with (first | (go_at_call 24; refine (AT'h.out _).mono ?_; rintro e w10 ⟨rfl, hw10⟩; obtain rfl := hw10.symm) | (go_at_call 25; refine (PL'h.out _).mono ?_; rintro e w11 ⟨rfl, hb11⟩) | (go_at_call 14; refine (NX'h.out _).mono ?_; rintro e w12 ⟨rfl, hw12⟩; obtain rfl := hw12.symm))
              go_roundg (gk - 1)
              case measure => have := hk'h.out; omega
              case rel => exact ⟨k + 1, by have := hk'h.out; omega, by go_num, below_next hbr'h.out hb11⟩
          · obtain rfl : G = k := by omega
            clear hk
            go_wp2
            go_ret
            exact ⟨rfl, below_next hB4'h.out hbr⟩
end Go.Proofs.Ytkeegafebnhcpaa
