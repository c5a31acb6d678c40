/-
  Package probe: Far.
-/
import Derived.Test.YtkeegafebnhcpaaProbeC
import Derived.Test.YtkeegafebnhcpaaMarks
set_option linter.unusedSimpArgs false
set_option linter.unusedVariables false
namespace Go.Proofs.Ytkeegafebnhcpaa
open Go.RowKit

def zA (l : List Nat) : Array Value := (zN l).toArray
theorem zero_row (G : Nat) : madeCells #[Value.int .i64 0] G = zA (farL G []) := by
  unfold madeCells zA zN farL farK
  apply Array.ext (by simp)
  intro i h1 h2
  simp
  rw [Nat.mod_one]; rfl
theorem zN_at' {l : List Nat} {j : Nat} (h : j < l.length) : (zN l)[j]? = some (.int .i64 (nthN l j)) := by
  unfold zN; rw [List.getElem?_map, List.getElem?_map, List.getElem?_eq_getElem h, nthN_eq h]; rfl
/-- Between rounds of Far. -/
structure FarM (G B : Nat) (w : World) (l : List Nat) (bs : List Nat) (W : World) : Prop where
  row : W.heap[B]? = some (.cells (zA l) 3 (0, 0))
  var : W.heap[B + 1]? = some (.cells #[.slice (some ⟨B, 0, none⟩) G G] 29 (0, 0))
  nd : bs.Nodup
  marks : ∀ D ∈ bs, B + 2 ≤ D ∧ W.heap[D]? = some (.deferred (some []))
  size : B + 2 ≤ W.heap.size
  old : Below w.heap.size w W
/-- .. and within one. -/
structure FarR (G B : Nat) (w : World) (hs : List Nat) (h : Nat) (bs : List Nat) (j : Nat) (S : Nat → Prop) (W : World) : Prop where
  row : W.heap[B]? = some (.cells (zA (farP G hs h j)) 3 (0, 0))
  mine : ¬ S B
  var : W.heap[B + 1]? = some (.cells #[.slice (some ⟨B, 0, none⟩) G G] 29 (0, 0))
  mine1 : ¬ S (B + 1)
  nd : bs.Nodup
  marks : ∀ D ∈ bs, B + 2 ≤ D ∧ W.heap[D]? = some (.deferred (some [])) ∧ ¬ S D
  size : B + 2 ≤ W.heap.size
  old : Old w.heap.size w S W
theorem FarR.stable (G B : Nat) (w : World) (hs : List Nat) (h : Nat) (bs : List Nat) (j : Nat) : Stable (FarR G B w hs h bs j) := fun S S' W W' i f =>
  ⟨f.heap' i.mine i.row, f.not (lt_of_heap i.row) i.mine, f.heap' i.mine1 i.var, f.not (lt_of_heap i.var) i.mine1, i.nd,
    fun D hD => ⟨(i.marks D hD).1, f.heap' (i.marks D hD).2.2 (i.marks D hD).2.1, f.not (lt_of_heap (i.marks D hD).2.1) (i.marks D hD).2.2⟩, Nat.le_trans i.size f.size, Old.stable _ _ _ _ _ _ i.old f⟩
def farLe (G : Nat) (hs : List Nat) (m : Nat) : Prop := ∀ g, g < G → farK G hs g ≤ m
theorem zA_at {l : List Nat} {i : Nat} (h : i < l.length) : (zA l)[i]? = some (.int .i64 (nthN l i)) := by
  unfold zA; rw [List.getElem?_toArray]; exact zN_at' h
theorem zA_set {l : List Nat} {i x : Nat} : (zA l).setIfInBounds i (.int .i64 x) = zA (l.set i x) := by
  unfold zA zN; rw [List.setIfInBounds_toArray, List.map_set, List.map_set]; rfl
theorem info_i64' : (Try.prog.info? 3).map (fun i => (i.zero, i.size, i.bytes)) = some (some (.int .i64 0), 1, 8) := by kernel_rfl
set_option maxHeartbeats 2000000 in
set_option maxRecDepth 100000 in
theorem far_yes (G n cap : Nat) (sp : Option Addr) (hs : List Nat) (w : World) (hG : goodB G = true) (hk : W64 hs) (h : Sl w sp n (u64s hs)) (hn : n ≤ 4096) :
    Calls Try.prog 12 #[.int .i64 G, .slice sp n cap] w fun e w' => ∃ g c, e = .returned (.tuple #[.slice (some ⟨g, 0, none⟩) G c, .int .i64 0]) ∧ Below w.heap.size w w' ∧ Sl w' (some ⟨g, 0, none⟩) G (zN (farL G hs)) := by
  have h1 := good_le hG
  have h0 := good_pos hG
  have hlen : n = hs.length := by have := h.1; simpa [u64s] using this
  have C := check_yes G w hG
  have hmk := fun w => run_make_row' (P := Try.prog) 29 3 (.int .i64 0) 8 Try.underlying29 info_i64' rfl .i64 .i64 G (by omega) (by omega) w
  refine (callsIn_wide (n := 0)).1 ?_
  refine callsIn_of_wp_marks Try.func12 rfl trivial ?_
  simp only [Try.ntmps12, List.size_toArray, List.length_cons, List.length_nil, Nat.reduceAdd, Nat.reduceSub, Array.replicate_succ, Array.replicate_zero, List.push_toArray, List.append_toArray, List.nil_append, List.cons_append]
  have C'h := Lib.hid C
  have hG'h := Lib.hid hG
  have hk'h := Lib.hid hk
  have h'h := Lib.hid h
  have hlen'h := Lib.hid hlen
  clear C hG hk h hlen
  gi_wp2_with (first | (gi_at_call 23; refine (callsIn_wide.2 C'h.out).mono ?_; rintro e w' ⟨rfl, rfl⟩))
  rw [zero_row]
  obtain ⟨B, hBs⟩ : ∃ B, B = w'.heap.size := ⟨_, rfl⟩
  obtain ⟨W0, hW0⟩ : ∃ W0, W0 = ((w'.alloc (.cells (zA (farL G [])) 3)).alloc (.cells #[.slice (some ⟨w'.heap.size, 0, none⟩) G G] 29)) := ⟨_, rfl⟩
  have hz : W0.heap.size = B + 2 := by rw [hW0, hBs]; simp
  have hb0 : Below w'.heap.size w' W0 := by rw [hW0]; exact ((Below.refl _ _).alloc (Nat.le_refl _) _).alloc (by simp) _
  have b0 : W0.heap[B]? = some (.cells (zA (farL G [])) 3 (0, 0)) := by
    rw [hW0, hBs]; exact (Below.heap_alloc _ _ _ (by simp)).trans (World.alloc_heap_new _ _)
  have b1 : W0.heap[B + 1]? = some (.cells #[.slice (some ⟨B, 0, none⟩) G G] 29 (0, 0)) := by
    rw [hW0, hBs]; exact heap_alloc2_new w' _ _
  have hfull : farL G (hs.take n) = farL G hs := by rw [List.take_of_length_le (by have := hlen'h.out; omega)]
  rw [← hW0, ← hBs]
  clear hW0 hmk
  have hb0'h := Lib.hid hb0
  have b0'h := Lib.hid b0
  have b1'h := Lib.hid b1
  have hfull'h := Lib.hid hfull
  have hz'h := Lib.hid hz
  have hBs'h := Lib.hid hBs
  clear hb0 b0 b1 hfull hz hBs
  refine wpIn_loop_ghost_k (fun q a' W => ∃ (k : Nat) (bs : List Nat) (u9 u10 u11 u22 u23 u24 u25 u26 u27 u28 u29 u30 u31 u32 u33 u34 u35 u36 u37 : Value), a' = { tmps := #[.int .i64 G, .slice sp n cap, undef, undef, .slice none 0 0, .int .i64 0, .int .i64 0, .pointer (some ⟨B + 1, 0, none⟩), undef, u9, u10, u11, .int .i64 G, .int .i64 0, .int .i64 0, .bool false, undef, .int .i64 G, .slice (some ⟨B, 0, none⟩) G G, .slice sp n cap, .int .i64 n, .int .i64 k, u22, u23, u24, u25, u26, u27, u28, u29, u30, u31, u32, u33, u34, u35, u36, u37, undef], defers := marksOf bs } ∧ k + q = n ∧ FarM G B w' (farL G (hs.take k)) bs W) n ?_ ?_
  · exact ⟨0, [], _, _, _, _, _, _, _, _, _, _, _, _, _, _, _, _, _, _, _, rfl, by omega, b0'h.out, b1'h.out, List.nodup_nil, fun D hD => absurd hD (by simp), by rw [hz'h.out]; omega, hb0'h.out⟩
  · rintro q a' W ⟨k, bs, u9, u10, u11, u22, u23, u24, u25, u26, u27, u28, u29, u30, u31, u32, u33, u34, u35, u36, u37, rfl, hkq, hM⟩ J K hJ hKK
    by_cases hlt : k < n
    · have hkl : k < hs.length := by have := hlen'h.out; omega
      obtain ⟨ab, aoff, rfl, hcs⟩ := (h'h.out.below hM.old).some' (by omega)
      have c1 : W.cell? ⟨ab, aoff + k, none⟩ = some (.int .u64 (nthN hs k)) := hcs k _ (u64s_at hkl)
      have hx64 : nthN hs k < 2 ^ 64 := hk'h.out _ (nthN_mem hkl)
      have hnx : hs.take (k + 1) = hs.take k ++ [nthN hs k] := by rw [List.take_succ_eq_append_getElem hkl, nthN_eq hkl]
      have hle : farLe G (hs.take k) 262144 := fun g hg => by have := farK_le hG'h.out (hs.take k) hg; have := List.length_take_le k hs; omega
      clear hcs
      generalize nthN hs k = x at *
      generalize hs.take k = pre at *
      have A := all_any G x W
      have hkq'h := Lib.hid hkq
      have hM'h := Lib.hid hM
      have A'h := Lib.hid A
      have hx64'h := Lib.hid hx64
      have hnx'h := Lib.hid hnx
      have hkl'h := Lib.hid hkl
      have hle'h := Lib.hid hle
      clear hkq hM A hx64 hnx hkl hle
      gi_wp2_with (first | (gi_at_call 30; refine (callsIn_wide.2 A'h.out).mono ?_; rintro e w2 ⟨rfl, rfl⟩))
      obtain ⟨W1, hW1⟩ : ∃ W1, W1 = ((W.alloc (.cells #[.int .i64 G] 3)).alloc (.cells #[.int .u64 x] 26)) := ⟨_, rfl⟩
      have hz1 : W1.heap.size = W.heap.size + 2 := by rw [hW1]; simp
      have hbw1 : Below W.heap.size W W1 := by rw [hW1]; exact ((Below.refl _ _).alloc (Nat.le_refl _) _).alloc (by simp) _
      have e1 : W1.cell? ⟨W.heap.size, 0, none⟩ = some (.int .i64 G) := by
        rw [hW1]; exact keep_alloc _ _ _ _ (blk_cell (World.alloc_heap_new _ _) rfl)
      have e2 : W1.cell? ⟨W.heap.size + 1, 0, none⟩ = some (.int .u64 x) := by
        rw [hW1]; exact blk_cell (heap_alloc2_new W _ _) rfl
      rw [← hW1]
      clear hW1
      have hM := hM'h.out
      have hBo : w'.heap.size ≤ B := Nat.le_of_eq hBs'h.out.symm
      have hR0 : FarR G B w' pre x bs 0 (fun _ => False) W1 := by
        refine ⟨?_, fun h => h, heap_below hbw1 hM.var (lt_of_heap hM.var), fun h => h, hM.nd, fun D hD => ⟨(hM.marks D hD).1, heap_below hbw1 (hM.marks D hD).2 (lt_of_heap (hM.marks D hD).2), fun h => h⟩, by have := hM.size; omega, ⟨hM.old.trans (hbw1.mono hM.old.size), Nat.le_refl _, fun b hb h => h⟩⟩
        rw [farP_zero]; exact heap_below hbw1 hM.row (lt_of_heap hM.row)
      have hlenp := pairsB_length G x
      have hWB : B + 2 ≤ W.heap.size := hM.size
      clear hM
      have e1'h := Lib.hid e1
      have e2'h := Lib.hid e2
      have hbw1'h := Lib.hid hbw1
      have hR0'h := Lib.hid hR0
      clear e1 e2 hbw1 hR0
      refine' wpIn_range rfl (fun h => by cases h) rfl trivial enters_all (all_it G x W.heap.size hG'h.out hx64'h.out W1 e1'h.out e2'h.out) (by intro b hb; exact hb.elim) (fun _ => rfl)
        (by rintro b (rfl | rfl) <;> exact ⟨by omega, fun h => h⟩)
        (FarR G B w' pre x bs) noXp (FarR.stable _ _ _ _ _ _) noXp_stable hR0'h.out
        (AxOf _ (FarR G B w' pre x bs)) (AxOf.stable (FarR.stable _ _ _ _ _ _)) ?assign ?body ?done (fun _ _ _ _ _ _ _ _ _ h _ => h.elim)
      case assign =>
        intro l j S W2 hj hl hr hSb hI
        rw [pairsB_at hj]
        clear hr
        gi_wp2
        exact ⟨⟨rfl, hI⟩, Kept.refl _ _⟩
      case body =>
        rintro l j S a2 W2 r hj hl hlr hr hSb ⟨rfl, hI⟩
        have hjG : j < G := by omega
        have hp := prB_lt x j h0
        have v1 : W2.cell? ⟨B + 1, 0, none⟩ = some (.slice (some ⟨B, 0, none⟩) G G) := blk_cell hI.var rfl
        have v2 : W2.cell? ⟨B, prB G x j, none⟩ = some (.int .i64 (farK G pre (prB G x j))) := by
          have := blk_cell (i := prB G x j) hI.row (zA_at (by rw [farP_length]; exact hp))
          rwa [farP_at hG'h.out hjG] at this
        have f2 : W2.frozen? ⟨B, prB G x j, none⟩ = false := blk_free _ hI.row
        have hfl := hle'h.out (prB G x j) hp
        have hs := blk_set (i := prB G x j) (.int .i64 ((farK G pre (prB G x j) + j : Nat) : Int)) hI.row
        rw [zA_set, farP_next hG'h.out hjG] at hs
        have ho := fun b (hb : b ≠ B) => Below.heap_setCell W2 ⟨B, prB G x j, none⟩ (.int .i64 ((farK G pre (prB G x j) + j : Nat) : Int)) b hb
        have hK2 : Kept (fun b => (b = W.heap.size ∨ b = W.heap.size + 1) ∨ S b) W2 (W2.setCell ⟨B, prB G x j, none⟩ (.int .i64 ((farK G pre (prB G x j) + j : Nat) : Int))) :=
          Kept.setCell _ _ _ _ (fun hh => by
            rcases hh with (hh | hh) | hh
            · have e : B = W.heap.size := hh
              omega
            · have e : B = W.heap.size + 1 := hh
              omega
            · exact hI.mine hh)
        have hN : FarR G B w' pre x bs (j + 1) S (W2.setCell ⟨B, prB G x j, none⟩ (.int .i64 ((farK G pre (prB G x j) + j : Nat) : Int))) :=
          ⟨hs, hI.mine, (ho _ (by omega)).trans hI.var, hI.mine1, hI.nd, fun D hD => ⟨(hI.marks D hD).1, (ho _ (by have := (hI.marks D hD).1; omega)).trans (hI.marks D hD).2.1, (hI.marks D hD).2.2⟩, by rw [World.size_setCell]; exact hI.size, hI.old.set (p := ⟨B, prB G x j, none⟩) hBo _⟩
        have hi1 : (prB G x j : Int) < (G : Int) := by omega
        have hi2 : (0 : Int) ≤ (prB G x j : Int) := by omega
        have hcast : ((farK G pre (prB G x j) + j : Nat) : Int) = (farK G pre (prB G x j) : Int) + (j : Int) := by omega
        rw [hcast] at hK2 hN
        clear hs ho hlr hr
        have hK2'h := Lib.hid hK2
        have hN'h := Lib.hid hN
        have hI'h := Lib.hid hI
        have hcast'h := Lib.hid hcast
        clear hK2 hN hI hcast
        gi_wp2
        exact ⟨hK2'h.out, hN'h.out⟩
      case done =>
        rintro D S W3 hD hSD hr hI hK3
        rw [hlenp] at hI
        have hrow := hI.row
        rw [farP_full hG'h.out] at hrow
        have hMn : FarM G B w' (farL G (pre ++ [x])) (D :: bs) W3 := ⟨hrow, hI.var, List.nodup_cons.2 ⟨fun hm => (hI.marks D hm).2.2 hSD, hI.nd⟩, fun D' hD' => by
          rcases List.mem_cons.1 hD' with rfl | hD'
          · exact ⟨by omega, hK3⟩
          · exact ⟨(hI.marks D' hD').1, (hI.marks D' hD').2.1⟩, hI.size, hI.old.below⟩
        clear hr hI hrow hK3
        have hMn'h := Lib.hid hMn
        clear hMn
        gi_wp2
        refine Handed.intro (q - 1) (by have := hkq'h.out; omega) (hJ _ _ _ ⟨k + 1, D :: bs, _, _, _, _, _, _, _, _, _, _, _, _, _, _, _, _, _, _, _, rfl, by have := hkq'h.out; omega, by rw [hnx'h.out]; exact hMn'h.out⟩)
    · have hkk : k = n := by omega
      have v1 : W.cell? ⟨B + 1, 0, none⟩ = some (.slice (some ⟨B, 0, none⟩) G G) := blk_cell hM.var rfl
      rw [hkk, hfull'h.out] at hM
      have hBo : w'.heap.size ≤ B := Nat.le_of_eq hBs'h.out.symm
      have hrow : (shutAll bs W).heap[B]? = some (.cells (zA (farL G hs)) 3 (0, 0)) := (shutAll_other (fun hb => by have := (hM.marks B hb).1; omega)).trans hM.row
      have hsl : Sl (shutAll bs W) (some ⟨B, 0, none⟩) G (zN (farL G hs)) := by
        have := Sl.of_blk hrow (by simp [zA, zN, farL, maxLen]; omega)
        simpa [zA, zN_length, farL_length] using this
      have hbl : Below w'.heap.size w' (shutAll bs W) := below_shutAll hM.old (fun D hD => by have := (hM.marks D hD).1; omega)
      have hnd := hM.nd
      have hmk := fun D hD => (hM.marks D hD).2
      have hM'h := Lib.hid hM
      have hkk'h := Lib.hid hkk
      have hrow'h := Lib.hid hrow
      have hsl'h := Lib.hid hsl
      have hbl'h := Lib.hid hbl
      have hnd'h := Lib.hid hnd
      have hmk'h := Lib.hid hmk
      have hkq'h := Lib.hid hkq
      clear hM hkk hrow hsl hbl hnd hmk hkq
      dsimp only
      gi_wp2
      exact post_marks (.inl rfl) hnd'h.out hmk'h.out (results_tmp2 rfl _ _ _) ⟨B, ⟨G, rfl⟩, hbl'h.out, hsl'h.out⟩
end Go.Proofs.Ytkeegafebnhcpaa
