/-
  The document's answer for layer 3: a script's bytes.
-/
import Derived.Test.YtifofdciablljaaDoorDocF
import Derived.Test.YtifofdciablljaaDoorQ5
set_option linter.unusedSimpArgs false
set_option linter.unusedVariables false
set_option maxRecDepth 100000
namespace Go.Proofs.YtifofdciablljaaDoor
open Go.RowKit

/-- While numbers' bytes are put behind each other. -/
def EncD (W1 : World) (L : List Nat) (m : Nat) (ov : Value) (wr : World) : Prop :=
  ∃ n sp c, ov = .slice sp n c ∧ n = (L.flatMap numB).length ∧ wr.ownsRow W1.heap.size 5 1 ov n (u8s (L.flatMap numB)) ∧ Below W1.heap.size W1 wr ∧ L.length ≤ m ∧ ∀ n ∈ L, n < 2 ^ 64
theorem EncD.parts {W1 : World} {L : List Nat} {m n : Nat} {sp : Option Addr} {c : Nat} {wr : World} (h : EncD W1 L m (.slice sp n c) wr) : wr.ownsRow W1.heap.size 5 1 (.slice sp n c) n (u8s (L.flatMap numB)) ∧ n = (L.flatMap numB).length ∧ Below W1.heap.size W1 wr ∧ L.length ≤ m ∧ ∀ n ∈ L, n < 2 ^ 64 := by
  obtain ⟨n', sp', c', e, h1, h2, h3⟩ := h
  injection e with e1 e2 e3
  subst e2
  exact ⟨h2, h1, h3⟩
theorem EncD.next {W1 : World} {L : List Nat} {m : Nat} {ov : Value} {wr wr' : World} (h : EncD W1 L m ov wr) (hb : Below wr.heap.size wr wr') : EncD W1 L m ov wr' := by
  obtain ⟨n', sp', c', e, h1, h2, h3, h4⟩ := h
  exact ⟨n', sp', c', e, h1, ownsRow_next h2 hb, below_next h3 hb, h4⟩
theorem EncD.le {W1 : World} {L L' : List Nat} {m m' : Nat} {ov : Value} {wr : World} (h : EncD W1 L m ov wr) (hL : L = L') (hm : m ≤ m') : EncD W1 L' m' ov wr := by
  subst hL
  obtain ⟨n', sp', c', e, h1, h2, h3, h4, h5⟩ := h
  exact ⟨n', sp', c', e, h1, h2, h3, Nat.le_trans h4 hm, h5⟩
theorem EncD.low {W1 : World} {L : List Nat} {m : Nat} {ov : Value} {wr : World} (h : EncD W1 L m ov wr) : Below W1.heap.size W1 wr := by
  obtain ⟨n', sp', c', e, h1, h2, h3, h4⟩ := h
  exact h3
theorem flat_snoc (L : List Nat) (x : Nat) : (L ++ [x]).flatMap numB = L.flatMap numB ++ numB x := by simp
theorem EncD.snoc {W1 : World} {L : List Nat} {m x n : Nat} {v v' : Value} {w w9 : World} (ho : w9.ownsRow W1.heap.size 5 1 v' (n + (numB x).length) (u8s (L.flatMap numB) ++ u8s (numB x))) (hg : w.grownBy w9 v.ownBlock)
    (hb : Below W1.heap.size W1 w) (hr : w.ownsRow W1.heap.size 5 1 v n (u8s (L.flatMap numB))) (hn : n = (L.flatMap numB).length) (hx : x < 2 ^ 64) (hl : L.length ≤ m) (h64 : ∀ n ∈ L, n < 2 ^ 64) : EncD W1 (L ++ [x]) (m + 1) v' w9 := by
  rw [u8s_app, ← flat_snoc] at ho
  obtain ⟨sp, c, e⟩ := row_slice' ho
  refine ⟨n + (numB x).length, sp, c, e, by rw [flat_snoc, List.length_append, hn], ho, hb.grown hg hb.size (fun q hq => (hr.lt q hq).1), by rw [List.length_append]; simp; omega, fun n hn => ?_⟩
  rcases List.mem_append.1 hn with hn | hn
  · exact h64 n hn
  · obtain rfl : n = x := by simpa using hn
    exact hx
theorem EncD.one {W1 V V' : World} {x : Nat} (hV : Below W1.heap.size W1 V) (hx : x < 2 ^ 64) {sp : Option Addr} {c : Nat} (hb : Below V.heap.size V V') (hr : V'.ownsRow V.heap.size 5 1 (.slice sp (numB x).length c) (numB x).length (u8s (numB x))) : EncD W1 [x] 1 (.slice sp (numB x).length c) V' := by
  have e : ([x] : List Nat).flatMap numB = numB x := by simp
  refine ⟨_, sp, c, rfl, by rw [e], by rw [e]; exact ownsRow_mono hr hV.size, below_next hV hb, Nat.le_refl _, fun n hn => ?_⟩
  obtain rfl : n = x := by simpa using hn
  exact hx
def rowsE (rows : List CRow) (j : Nat) : List Nat := (rows.take j).flatMap fun r => encL r.cs
theorem rowsE_succ {rows : List CRow} {j : Nat} (h : j < rows.length) : rowsE rows (j + 1) = rowsE rows j ++ encL (nthR rows j).cs := by
  have e : rows[j] = nthR rows j := by have := nthR_at h; rw [List.getElem?_eq_getElem h] at this; injection this
  unfold rowsE
  rw [List.take_succ_eq_append_getElem h, List.flatMap_append, e]
  simp
theorem encS_rows (s : Sm) {gN sN : Nat} (hg : s.goers = (gN : Int)) (hs : s.slabs = (sN : Int)) (hp : s.pn = s.picks.length) : encS s.scr = [gN, sN, s.seed] ++ rowsE s.rows s.rows.length ++ [s.pn] ++ s.picks.take s.pn := by
  unfold encS rowsE Sm.scr
  simp only [hg, hs, Int.toNat_natCast, List.take_length, List.flatMap_map, hp]
  simp
set_option maxHeartbeats 8000000 in
theorem dencode_any (s : Sm) (w : World) (h : SmIn w s) (hr : rightS s.scr = true) :
    Calls Tryd.prog 24 #[.agg (smA s)] w fun e w' => NumAt w (bytesS s.scr) e w' := by
  obtain ⟨W1, hW1⟩ : ∃ W1, W1 = w.alloc (.cells (smA s) 26) := ⟨_, rfl⟩
  have hB1 : Below w.heap.size w W1 := by rw [hW1]; exact (Below.refl _ _).alloc (Nat.le_refl _) _
  have hb1 : W1.heap[w.heap.size]? = some (.cells (smA s) 26 (0, 0)) := by rw [hW1]; exact World.alloc_heap_new _ _
  have hA := h.below hB1
  have hlnr := h.rows.len
  have hpnr := h.pn
  have hfew := h.rows.few
  have hmany := h.many
  have hseed := h.seed
  have hshort := h.rows.short
  have hk64 := h.w64
  have hallC : ∀ r ∈ s.rows, ∀ c ∈ r.cs, rightC c = true ∧ CalOk c := fun r hr' c hc => by
    unfold rightS at hr
    simp only [Bool.and_eq_true, decide_eq_true_eq, List.all_eq_true] at hr
    exact ⟨hr.2.2 c (List.mem_flatten.2 ⟨r.cs, List.mem_map.2 ⟨r, hr', rfl⟩, hc⟩), h.rows.ok r hr' c hc⟩
  obtain ⟨⟨gN, hgN⟩, ⟨sN, hsN⟩⟩ : (∃ gN : Nat, s.goers = (gN : Int)) ∧ ∃ sN : Nat, s.slabs = (sN : Int) := by
    unfold rightS headS sizesS at hr
    simp only [Bool.and_eq_true, decide_eq_true_eq] at hr
    have h1 : (1 : Int) ≤ s.goers := hr.1.1.1.1.1.1
    have h2 : (2 : Int) ≤ s.slabs := hr.1.1.1.1.2
    exact ⟨⟨s.goers.toNat, (Int.toNat_of_nonneg (by omega)).symm⟩, ⟨s.slabs.toNat, (Int.toNat_of_nonneg (by omega)).symm⟩⟩
  have hg64 : gN < 2 ^ 64 := by have := h.g; omega
  have hs64 : sN < 2 ^ 64 := by have := h.sl; omega
  obtain ⟨i0, hi, hz, hs, hby⟩ := info_parts info_clone8
  have hend := encS_rows s hgN hsN hpnr
  obtain ⟨T, hT⟩ : ∃ T, T = bytesS s.scr := ⟨_, rfl⟩
  have hT2 : T = (encS s.scr).flatMap numB := hT
  rw [hend] at hT2
  rw [← hT]
  clear hend hT hr h
  obtain ⟨g, sb, seed, lp, ln, lc, rows, pp, pn, pc, ps⟩ := s
  simp only at hgN hsN
  subst hgN hsN
  simp only [smA] at *
  obtain ⟨x0, x1, x2, x3, x4⟩ := cells5' hb1
  have q1 : IntKind.u64.wrap (gN : Int) = (gN : Int) := by rw [IntKind.wrap_u64]; omega
  have q2 : IntKind.u64.wrap (sN : Int) = (sN : Int) := by rw [IntKind.wrap_u64]; omega
  have hxl := lt_of_heap hb1
  have hB1'h := Lib.hid hB1
  have hb1'h := Lib.hid hb1
  have hA'h := Lib.hid hA
  have hlnr'h := Lib.hid hlnr
  have hpnr'h := Lib.hid hpnr
  have hfew'h := Lib.hid hfew
  have hmany'h := Lib.hid hmany
  have hseed'h := Lib.hid hseed
  have hshort'h := Lib.hid hshort
  have hallC'h := Lib.hid hallC
  have hg64'h := Lib.hid hg64
  have hs64'h := Lib.hid hs64
  have hT2'h := Lib.hid hT2
  have hk64'h := Lib.hid hk64
  clear hB1 hb1 hA hlnr hpnr hfew hmany hseed hshort hallC hg64 hs64 hT2 hk64
  go_enter Tryd.func24, Tryd.ntmps24
  go_upto_region 1 with fail
  change Code.wp _ _ _ _ (w.alloc (.cells #[.int .i64 (gN : Int), .int .i64 (sN : Int), .int .u64 (seed : Int), .slice lp ln lc, .slice pp pn pc] 26))
  rw [← hW1]
  clear hW1
  refine wp_region_heldF (fun w' => Below W1.heap.size W1 w') 99 (by kernel_rfl) ?_
  have R := (Below.refl W1.heap.size W1).drew
  generalize W1.drew = V0 at R ⊢
  refine wpAnyF_take (i := 0) (v := .pointer (some ⟨w.heap.size, 0, none⟩)) rfl (by kernel_rfl) (by kernel_rfl) (by kernel_rfl) (by kernel_rfl) (fun _ _ _ h => h) (Or.inl ⟨by kernel_rfl, fun w hSw => by (try dsimp only at hSw); go_simp⟩) R ?_; try simp only [Act.put, List.getElem_toArray, List.getElem_cons_succ, List.getElem_cons_zero, List.setIfInBounds_toArray, List.set_cons_zero, List.set_cons_succ]
  refine wpAnyF_take (i := 1) (v := .int .i64 (gN : Int)) rfl (by kernel_rfl) (by kernel_rfl) (by kernel_rfl) (by kernel_rfl) (fun _ _ _ h => h) (Or.inl ⟨by kernel_rfl, fun w hSw => by have hcc := (hSw.cell hxl).trans x0; (try dsimp only at hSw); go_simp⟩) R ?_; try simp only [Act.put, List.getElem_toArray, List.getElem_cons_succ, List.getElem_cons_zero, List.setIfInBounds_toArray, List.set_cons_zero, List.set_cons_succ]
  refine wpAnyF_take (i := 2) (v := .int .u64 (gN : Int)) rfl (by kernel_rfl) (by kernel_rfl) (by kernel_rfl) (by kernel_rfl) (fun _ _ _ h => h) (Or.inl ⟨by kernel_rfl, fun w hSw => by (try dsimp only at hSw); go_simp⟩) R ?_; try simp only [Act.put, List.getElem_toArray, List.getElem_cons_succ, List.getElem_cons_zero, List.setIfInBounds_toArray, List.set_cons_zero, List.set_cons_succ]
  refine wpAnyF_take (i := 4) (v := .pointer (some ⟨w.heap.size, 1, none⟩)) rfl (by kernel_rfl) (by kernel_rfl) (by kernel_rfl) (by kernel_rfl) (fun _ _ _ h => h) (Or.inl ⟨by kernel_rfl, fun w hSw => by (try dsimp only at hSw); go_simp⟩) R ?_; try simp only [Act.put, List.getElem_toArray, List.getElem_cons_succ, List.getElem_cons_zero, List.setIfInBounds_toArray, List.set_cons_zero, List.set_cons_succ]
  refine wpAnyF_take (i := 5) (v := .int .i64 (sN : Int)) rfl (by kernel_rfl) (by kernel_rfl) (by kernel_rfl) (by kernel_rfl) (fun _ _ _ h => h) (Or.inl ⟨by kernel_rfl, fun w hSw => by have hcc := (hSw.cell hxl).trans x1; (try dsimp only at hSw); go_simp⟩) R ?_; try simp only [Act.put, List.getElem_toArray, List.getElem_cons_succ, List.getElem_cons_zero, List.setIfInBounds_toArray, List.set_cons_zero, List.set_cons_succ]
  refine wpAnyF_take (i := 6) (v := .int .u64 (sN : Int)) rfl (by kernel_rfl) (by kernel_rfl) (by kernel_rfl) (by kernel_rfl) (fun _ _ _ h => h) (Or.inl ⟨by kernel_rfl, fun w hSw => by (try dsimp only at hSw); go_simp⟩) R ?_; try simp only [Act.put, List.getElem_toArray, List.getElem_cons_succ, List.getElem_cons_zero, List.setIfInBounds_toArray, List.set_cons_zero, List.set_cons_succ]
  refine wpAnyF_take (i := 9) (v := .pointer (some ⟨w.heap.size, 2, none⟩)) rfl (by kernel_rfl) (by kernel_rfl) (by kernel_rfl) (by kernel_rfl) (fun _ _ _ h => h) (Or.inl ⟨by kernel_rfl, fun w hSw => by (try dsimp only at hSw); go_simp⟩) R ?_; try simp only [Act.put, List.getElem_toArray, List.getElem_cons_succ, List.getElem_cons_zero, List.setIfInBounds_toArray, List.set_cons_zero, List.set_cons_succ]
  refine wpAnyF_take (i := 10) (v := .int .u64 (seed : Int)) rfl (by kernel_rfl) (by kernel_rfl) (by kernel_rfl) (by kernel_rfl) (fun _ _ _ h => h) (Or.inl ⟨by kernel_rfl, fun w hSw => by have hcc := (hSw.cell hxl).trans x2; (try dsimp only at hSw); go_simp⟩) R ?_; try simp only [Act.put, List.getElem_toArray, List.getElem_cons_succ, List.getElem_cons_zero, List.setIfInBounds_toArray, List.set_cons_zero, List.set_cons_succ]
  clear x0 x1 x2
  refine wpAnyF_one (i := 3) (by kernel_rfl) rfl (fun K hK => ?_); go_simp
  refine (dnum_any gN hg64'h.out V0).mono ?_
  rintro e V1 ⟨sp1, c1, rfl, hV1, hrow1⟩
  have hE1 := EncD.one R hg64'h.out hV1 hrow1
  have R1 := below_next R hV1
  clear R hV1 hrow1
  dsimp only
  refine hK.out _ _ (fun _ => R1) ?_; clear hK K; try simp only [Act.put, List.getElem_toArray, List.getElem_cons_succ, List.getElem_cons_zero, List.setIfInBounds_toArray, List.set_cons_zero, List.set_cons_succ]
  refine wpAnyF_one (i := 7) (by kernel_rfl) rfl (fun K hK => ?_); go_simp
  refine (dnum_any sN hs64'h.out V1).mono ?_
  rintro e V2 ⟨sp2, c2, rfl, hV2, hrow2⟩
  have hE2 := hE1.next hV2
  have R2 := below_next R1 hV2
  clear R1 hV2 hE1
  dsimp only
  refine hK.out _ _ (fun _ => R2) ?_; clear hK K; try simp only [Act.put, List.getElem_toArray, List.getElem_cons_succ, List.getElem_cons_zero, List.setIfInBounds_toArray, List.set_cons_zero, List.set_cons_succ]
  obtain ⟨hrowo, hno, hBo, hlo, h64o⟩ := EncD.parts hE2
  have hl10 : (numB sN).length ≤ 10 := numB_ten hs64'h.out
  have hl11 : (numB gN).length ≤ 10 := numB_ten hg64'h.out
  refine wpAnyF_one (i := 8) (by kernel_rfl) rfl (fun K hK => ?_)
  refine step_append_slk _ rfl (.tmp 15) (.tmp 19) 38 rfl W1.heap.size 5 i0 (.int .u8 0) 1 1 Tryd.underlying38 hi hz hs hby rfl (by decide) _ _ _ rfl hrowo sp2 _ c2 _ rfl (SlK.of_row hrow2 (by unfold maxLen; omega)) (u8s_one _) (by unfold maxLen; omega) (by omega) hBo.size ?_
  intro v3 V3 hown3 hgrow3 hwh3
  have hE3 := EncD.snoc hown3 hgrow3 hBo hrowo hno hs64'h.out hlo h64o
  obtain ⟨n3, sp3, c3, rfl, -⟩ := hE3
  have hE3 := EncD.snoc hown3 hgrow3 hBo hrowo hno hs64'h.out hlo h64o
  clear hrowo hno hBo hlo h64o hown3 hgrow3 hwh3 hrow2 hE2
  have R3 := hE3.low
  refine hK.out _ _ (fun _ => R3) ?_; clear hK K; try simp only [Act.put, List.getElem_toArray, List.getElem_cons_succ, List.getElem_cons_zero, List.setIfInBounds_toArray, List.set_cons_zero, List.set_cons_succ]
  refine wpAnyF_one (i := 11) (by kernel_rfl) rfl (fun K hK => ?_); go_simp
  refine (dnum_any seed hseed'h.out V3).mono ?_
  rintro e V4 ⟨sp4, c4, rfl, hV4, hrow4⟩
  have hE4 := hE3.next hV4
  have R4 := below_next R3 hV4
  clear R3 hV4 hE3 R2
  dsimp only
  refine hK.out _ _ (fun _ => R4) ?_; clear hK K; try simp only [Act.put, List.getElem_toArray, List.getElem_cons_succ, List.getElem_cons_zero, List.setIfInBounds_toArray, List.set_cons_zero, List.set_cons_succ]
  obtain ⟨hrowo, hno, hBo, hlo, h64o⟩ := EncD.parts hE4
  have hl12 : (numB seed).length ≤ 10 := numB_ten hseed'h.out
  have hn3' := flat_numB _ h64o
  have hn3l : ([gN] ++ [sN] : List Nat).length = 2 := rfl
  refine wpAnyF_one (i := 12) (by kernel_rfl) rfl (fun K hK => ?_)
  refine step_append_slk _ rfl (.tmp 20) (.tmp 23) 38 rfl W1.heap.size 5 i0 (.int .u8 0) 1 1 Tryd.underlying38 hi hz hs hby rfl (by decide) _ _ _ rfl hrowo sp4 _ c4 _ rfl (SlK.of_row hrow4 (by unfold maxLen; omega)) (u8s_one _) (by unfold maxLen; omega) (by omega) hBo.size ?_
  intro v5 V5 hown5 hgrow5 hwh5
  have hE5 := EncD.snoc hown5 hgrow5 hBo hrowo hno hseed'h.out hlo h64o
  obtain ⟨n5, sp5, c5, rfl, -⟩ := hE5
  have hE5 := EncD.snoc hown5 hgrow5 hBo hrowo hno hseed'h.out hlo h64o
  clear hrowo hno hBo hlo h64o hown5 hgrow5 hwh5 hrow4 hE4 hn3' hn3l hl10 hl11 hl12 R4
  have R5 := hE5.low
  refine hK.out _ _ (fun _ => R5) ?_; clear hK K; try simp only [Act.put, List.getElem_toArray, List.getElem_cons_succ, List.getElem_cons_zero, List.setIfInBounds_toArray, List.set_cons_zero, List.set_cons_succ]
  refine wpAnyF_take (i := 13) (v := .slice sp5 n5 c5) rfl (by kernel_rfl) (by kernel_rfl) (by kernel_rfl) (by kernel_rfl) (fun _ _ _ h => h) (Or.inl ⟨by kernel_rfl, fun w hSw => by (try dsimp only at hSw); go_simp⟩) R5 ?_; try simp only [Act.put, List.getElem_toArray, List.getElem_cons_succ, List.getElem_cons_zero, List.setIfInBounds_toArray, List.set_cons_zero, List.set_cons_succ]
  refine wpAnyF_done (by kernel_rfl) ?_ _
  have hE6 := hE5.le (L' := [gN, sN, seed] ++ rowsE rows 0) (m' := 3 + 265 * 0) (by unfold rowsE; simp) (by omega)
  have x3 := (R5.cell (p := ⟨w.heap.size, 3, none⟩) hxl).trans x3
  clear hE5 R5 q1 q2 x4
  have hE6'h := Lib.hid hE6
  have hxl'h := Lib.hid hxl
  clear hE6 hxl
  go_wp2
  go_loopg [28, 3] ln (fun q ix ov wr => ∃ j : Nat, j + q = ln ∧ ix = .int .i64 (j : Int) ∧ EncD W1 ([gN, sN, seed] ++ rowsE rows j) (3 + 265 * j) ov wr)
  case atStart => exact ⟨0, by omega, rfl, hE6'h.out⟩
  case round =>
    obtain ⟨j, hj, rfl, hE⟩ := hrel
    clear hE6'h x3
    obtain ⟨gj, rfl⟩ : ∃ gj : Nat, gj = gk := ⟨_, rfl⟩
    obtain ⟨n0, sp0, c0, rfl, -⟩ := id hE
    by_cases hlt : j < ln
    · have i1 : (j : Int) < (ln : Int) := by omega
      have i2 : (0 : Int) ≤ (j : Int) := by omega
      have i3 : (j : Int) + 1 ≤ 9223372036854775807 := by have := hfew'h.out; omega
      have hR := hA'h.out.rows.below hE.low
      obtain ⟨b, o, hsp, k0⟩ := hR.head hlt
      subst hsp
      have hjl : j < rows.length := by have := hlnr'h.out; omega
      obtain ⟨x, hx⟩ : ∃ x, x = nthR rows j := ⟨_, rfl⟩
      have hmem : x ∈ rows := by rw [hx]; exact nthR_mem hjl
      have hxl := hR.rlen hmem
      have hsh := hshort'h.out x hmem
      have hsucc := rowsE_succ hjl
      rw [← hx] at k0 hsucc
      have hsl0 := hA'h.out.rows.each x hmem
      have hxc := hallC'h.out x hmem
      obtain ⟨xp, xl, xc, cs⟩ := x
      simp only at hxl hsh k0 hsucc hsl0 hxc
      have hxl64 : xl < 2 ^ 64 := by omega
      have q1 : IntKind.u64.wrap (xl : Int) = (xl : Int) := by rw [IntKind.wrap_u64]; omega
      clear hx hR hmem
      have hj'h := Lib.hid hj
      have hE'h := Lib.hid hE
      have hxl'h := Lib.hid hxl
      have hsh'h := Lib.hid hsh
      have hsucc'h := Lib.hid hsucc
      have hsl0'h := Lib.hid hsl0
      have hxc'h := Lib.hid hxc
      have hxl64'h := Lib.hid hxl64
      clear hj hE hxl hsh hsucc hsl0 hxc hxl64
      have hmb : 3 + 265 * j ≤ 9000 := by have := hfew'h.out; omega
      have D := dnum_any (xl) hxl64'h.out wr
      have D'h := Lib.hid D
      clear D
      go_wp2_with fail
      refine D'h.out.mono ?_
      rintro e wq ⟨spq, cq, rfl, hBq, hrowq⟩
      obtain ⟨hrowo, hno, hBo, hlo, h64o⟩ := EncD.parts hE'h.out
      have hl10 : (numB (xl)).length ≤ 10 := numB_ten hxl64'h.out
      have hfl := flat_numB _ h64o
      have hslq := SlK.of_row hrowq (by unfold maxLen; omega)
      have hrowo2 := ownsRow_next hrowo hBq
      have hBo2 := below_next hBo hBq
      have hmov := hBo2.size
      obtain ⟨lq, hlq⟩ : ∃ lq, lq = (numB (xl)).length := ⟨_, rfl⟩
      rw [← hlq] at hslq hl10 ⊢
      have hm1 : n0 + lq ≤ maxLen := by unfold maxLen; omega
      have hm2 : (n0 + lq) * 1 ≤ 140737488355328 := by omega
      clear hrowo hBo hBq hrowq D'h hfl hl10
      have hslq'h := Lib.hid hslq
      have hrowo2'h := Lib.hid hrowo2
      have hBo2'h := Lib.hid hBo2
      have hlo'h := Lib.hid hlo
      have h64o'h := Lib.hid h64o
      have hmov'h := Lib.hid hmov
      have hno'h := Lib.hid hno
      have hm1'h := Lib.hid hm1
      have hm2'h := Lib.hid hm2
      have hlq'h := Lib.hid hlq
      clear hslq hrowo2 hBo2 hlo h64o hmov hno hm1 hm2 hlq
      go_wp2_with (at_builtin; refine wpList_append_slk _ rfl (.tmp 32) (.tmp 36) 38 rfl W1.heap.size 5 i0 (.int .u8 0) 1 1 Tryd.underlying38 hi hz hs hby rfl (by decide) _ _ _ rfl hrowo2'h.out spq _ cq _ rfl hslq'h.out (u8s_one _) hm1'h.out hm2'h.out hmov'h.out ?_; intro v9 w9 hown9 hgrow9 hwh9; have hown9'h := Lib.hid hown9; have hgrow9'h := Lib.hid hgrow9; clear hown9 hgrow9 hwh9)
      have hE9 := EncD.snoc (by have := hown9'h.out; rw [hlq'h.out] at this; exact this) hgrow9'h.out hBo2'h.out hrowo2'h.out hno'h.out hxl64'h.out hlo'h.out h64o'h.out
      clear hslq'h hrowo2'h hBo2'h hlo'h h64o'h hmov'h hno'h hm1'h hm2'h hlq'h hown9'h hgrow9'h
      clear hmb q1
      have hE1 := hE9.le (L' := [gN, sN, seed] ++ rowsE rows j ++ [xl] ++ (cs.take 0).flatMap encC) (m' := 3 + 265 * j + 1 + 4 * 0) (by simp) (by omega)
      clear hE9 hE'h k0
      have hE1'h := Lib.hid hE1
      clear hE1
      go_loopg [40, 3] xl (fun q ix ov wr => ∃ i : Nat, i + q = xl ∧ ix = .int .i64 (i : Int) ∧ EncD W1 ([gN, sN, seed] ++ rowsE rows j ++ [xl] ++ (cs.take i).flatMap encC) (3 + 265 * j + 1 + 4 * i) ov wr)
      case atStart => exact ⟨0, by omega, rfl, hE1'h.out⟩
      case round =>
        obtain ⟨i, hi', rfl, hE⟩ := hrel
        clear hE1'h
        obtain ⟨gi, rfl⟩ : ∃ gi : Nat, gi = gk := ⟨_, rfl⟩
        obtain ⟨n1, sp1, c1, rfl, -⟩ := id hE
        by_cases hlt2 : i < xl
        · have i4 : (i : Int) < (xl : Int) := by omega
          have i5 : (0 : Int) ≤ (i : Int) := by omega
          have i6 : (i : Int) + 1 ≤ 9223372036854775807 := by have := hsh'h.out; have := hxl'h.out; omega
          have hil : i < cs.length := by have := hxl'h.out; omega
          have hS2 := hsl0'h.out.below hE.low
          obtain ⟨b2, o2, rfl⟩ := slk_some hS2 (by omega)
          obtain ⟨d1, d2, d3, d4⟩ := cals_cells hS2 hil
          obtain ⟨c, hc⟩ : ∃ c, c = nthCal cs i := ⟨_, rfl⟩
          have hcr := hxc'h.out (nthCal cs i) (nthCal_mem hil)
          have htk : (cs.take (i + 1)).flatMap encC = (cs.take i).flatMap encC ++ encC c := by
            rw [List.take_succ_eq_append_getElem hil, nthCal_eq hil, List.flatMap_append, hc]; simp
          rw [← hc] at d1 d2 d3 d4 hcr
          clear hc hS2
          have ht0 : 0 ≤ takesI c.op := by
            have := hcr.1
            unfold rightC at this
            simp only [Bool.and_eq_true, decide_eq_true_eq] at this
            exact this.1
          have hop := takesI_some ht0
          have htr := takesI_range c.op
          obtain ⟨oN, hoN⟩ : ∃ oN : Nat, c.op = (oN : Int) := ⟨c.op.toNat, by omega⟩
          obtain ⟨t, ht⟩ : ∃ t : Nat, takesI c.op = (t : Int) := ⟨(takesI c.op).toNat, by omega⟩
          have ht3 : t ≤ 3 := by omega
          have henc : encC c = oN :: (wordsC c).take t := by unfold encC; rw [ht, hoN]; rfl
          have ho64 : oN < 2 ^ 64 := by omega
          have hw64 : ∀ x ∈ wordsC c, x < 2 ^ 64 := fun x hx => by
            unfold wordsC at hx
            have h1 := hcr.2.key
            have h2 := hcr.2.a
            have h3 := hcr.2.b
            simp at hx
            rcases hx with rfl | rfl | rfl <;> assumption
          have q1 : IntKind.u64.wrap (oN : Int) = (oN : Int) := by rw [IntKind.wrap_u64]; omega
          have hwc : wordsC c = [c.key, c.a, c.b] := rfl
          rw [hoN] at d1 ht
          rw [henc] at htk
          obtain ⟨ws, hws⟩ : ∃ ws, ws = wordsC c := ⟨_, rfl⟩
          rw [← hws] at htk hw64 hwc
          clear henc hcr ht0 hop htr hws
          obtain ⟨op, key, ca, cb⟩ := c
          simp only at hoN d1 d2 d3 d4 ht hwc
          subst hoN
          obtain ⟨V, hV⟩ : ∃ V, V = wr.alloc (.cells #[.int .i64 (oN : Int), .int .u64 (key : Int), .int .u64 (ca : Int), .int .u64 (cb : Int)] 57) := ⟨_, rfl⟩
          have hB3 : Below wr.heap.size wr V := by rw [hV]; exact (Below.refl _ _).alloc (Nat.le_refl _) _
          have hbV : V.heap[wr.heap.size]? = some (.cells #[.int .i64 (oN : Int), .int .u64 (key : Int), .int .u64 (ca : Int), .int .u64 (cb : Int)] 57 (0, 0)) := by rw [hV]; exact World.alloc_heap_new _ _
          have hEV := hE.next hB3
          clear hB3 hE
          have hi''h := Lib.hid hi'
          have hEV'h := Lib.hid hEV
          have hbV'h := Lib.hid hbV
          have htk'h := Lib.hid htk
          have ht'h := Lib.hid ht
          have ht3'h := Lib.hid ht3
          have ho64'h := Lib.hid ho64
          have hw64'h := Lib.hid hw64
          have hwc'h := Lib.hid hwc
          clear hi' hEV hbV htk ht ht3 ho64 hw64 hwc
          go_upto_region 9 with fail
          rw [← hV]
          clear hV d1 d2 d3 d4
          have a0 : V.cell? ⟨wr.heap.size, 0, none⟩ = some (.int .i64 (oN : Int)) := blk_cell (i := 0) hbV'h.out rfl
          have hmb : 3 + 265 * j + 1 + 4 * i ≤ 9000 := by have := hfew'h.out; have := hsh'h.out; have := hxl'h.out; omega
          have D := dnum_any (oN) ho64'h.out V
          have D'h := Lib.hid D
          clear D
          go_wp2_with fail
          refine D'h.out.mono ?_
          rintro e wq ⟨spq, cq, rfl, hBq, hrowq⟩
          obtain ⟨hrowo, hno, hBo, hlo, h64o⟩ := EncD.parts hEV'h.out
          have hl10 : (numB (oN)).length ≤ 10 := numB_ten ho64'h.out
          have hfl := flat_numB _ h64o
          have hslq := SlK.of_row hrowq (by unfold maxLen; omega)
          have hrowo2 := ownsRow_next hrowo hBq
          have hBo2 := below_next hBo hBq
          have hmov := hBo2.size
          obtain ⟨lq, hlq⟩ : ∃ lq, lq = (numB (oN)).length := ⟨_, rfl⟩
          rw [← hlq] at hslq hl10 ⊢
          have hm1 : n1 + lq ≤ maxLen := by unfold maxLen; omega
          have hm2 : (n1 + lq) * 1 ≤ 140737488355328 := by omega
          clear hrowo hBo hrowq D'h hfl hl10
          have hbq := heap_below hBq hbV'h.out (lt_of_heap hbV'h.out)
          clear hBq
          have hslq'h := Lib.hid hslq
          have hrowo2'h := Lib.hid hrowo2
          have hBo2'h := Lib.hid hBo2
          have hlo'h := Lib.hid hlo
          have h64o'h := Lib.hid h64o
          have hmov'h := Lib.hid hmov
          have hno'h := Lib.hid hno
          have hm1'h := Lib.hid hm1
          have hm2'h := Lib.hid hm2
          have hlq'h := Lib.hid hlq
          have hbq'h := Lib.hid hbq
          clear hslq hrowo2 hBo2 hlo h64o hmov hno hm1 hm2 hlq hbq
          go_wp2_with (at_builtin; refine wpList_append_slk _ rfl (.tmp 44) (.tmp 48) 38 rfl W1.heap.size 5 i0 (.int .u8 0) 1 1 Tryd.underlying38 hi hz hs hby rfl (by decide) _ _ _ rfl hrowo2'h.out spq _ cq _ rfl hslq'h.out (u8s_one _) hm1'h.out hm2'h.out hmov'h.out ?_; intro v9 w9 hown9 hgrow9 hwh9; have hown9'h := Lib.hid hown9; have hgrow9'h := Lib.hid hgrow9; clear hown9 hgrow9 hwh9)
          have hbx9 := (hgrow9'h.out.block _ (lt_of_heap hbq'h.out) (fun e => blk_apart hrowo2'h.out hbq'h.out (by decide) _ e.symm rfl)).trans hbq'h.out
          have hE9 := EncD.snoc (by have := hown9'h.out; rw [hlq'h.out] at this; exact this) hgrow9'h.out hBo2'h.out hrowo2'h.out hno'h.out ho64'h.out hlo'h.out h64o'h.out
          clear hslq'h hrowo2'h hBo2'h hlo'h h64o'h hmov'h hno'h hm1'h hm2'h hlq'h hown9'h hgrow9'h hbq'h
          clear hmb q1 a0 hEV'h hbV'h
          obtain ⟨n2, sp2, c2, hv2, -⟩ := id hE9
          subst hv2
          refine wp_region_heldF (fun w' => Below w9.heap.size w9 w') 99 (by kernel_rfl) ?_
          have R := (Below.refl w9.heap.size w9).drew
          generalize w9.drew = V0 at R ⊢
          refine wpAnyF_take (i := 0) (v := .pointer (some ⟨wr.heap.size, 1, none⟩)) rfl (by kernel_rfl) (by kernel_rfl) (by kernel_rfl) (by kernel_rfl) (fun _ _ _ h => h) (Or.inl ⟨by kernel_rfl, fun w hSw => by (try dsimp only at hSw); go_simp⟩) R ?_; try simp only [Act.put, List.getElem_toArray, List.getElem_cons_succ, List.getElem_cons_zero, List.setIfInBounds_toArray, List.set_cons_zero, List.set_cons_succ]
          refine wpAnyF_take (i := 1) (v := .int .u64 (key : Int)) rfl (by kernel_rfl) (by kernel_rfl) (by kernel_rfl) (by kernel_rfl) (fun _ _ _ h => h) (Or.inl ⟨by kernel_rfl, fun w hSw => by have hcc := blk_cell (i := 1) (heap_below hSw hbx9 (lt_of_heap hbx9)) rfl; (try dsimp only at hSw); go_simp⟩) R ?_; try simp only [Act.put, List.getElem_toArray, List.getElem_cons_succ, List.getElem_cons_zero, List.setIfInBounds_toArray, List.set_cons_zero, List.set_cons_succ]
          refine wpAnyF_take (i := 2) (v := .pointer (some ⟨wr.heap.size, 2, none⟩)) rfl (by kernel_rfl) (by kernel_rfl) (by kernel_rfl) (by kernel_rfl) (fun _ _ _ h => h) (Or.inl ⟨by kernel_rfl, fun w hSw => by (try dsimp only at hSw); go_simp⟩) R ?_; try simp only [Act.put, List.getElem_toArray, List.getElem_cons_succ, List.getElem_cons_zero, List.setIfInBounds_toArray, List.set_cons_zero, List.set_cons_succ]
          refine wpAnyF_take (i := 3) (v := .int .u64 (ca : Int)) rfl (by kernel_rfl) (by kernel_rfl) (by kernel_rfl) (by kernel_rfl) (fun _ _ _ h => h) (Or.inl ⟨by kernel_rfl, fun w hSw => by have hcc := blk_cell (i := 2) (heap_below hSw hbx9 (lt_of_heap hbx9)) rfl; (try dsimp only at hSw); go_simp⟩) R ?_; try simp only [Act.put, List.getElem_toArray, List.getElem_cons_succ, List.getElem_cons_zero, List.setIfInBounds_toArray, List.set_cons_zero, List.set_cons_succ]
          refine wpAnyF_take (i := 4) (v := .pointer (some ⟨wr.heap.size, 3, none⟩)) rfl (by kernel_rfl) (by kernel_rfl) (by kernel_rfl) (by kernel_rfl) (fun _ _ _ h => h) (Or.inl ⟨by kernel_rfl, fun w hSw => by (try dsimp only at hSw); go_simp⟩) R ?_; try simp only [Act.put, List.getElem_toArray, List.getElem_cons_succ, List.getElem_cons_zero, List.setIfInBounds_toArray, List.set_cons_zero, List.set_cons_succ]
          refine wpAnyF_take (i := 5) (v := .int .u64 (cb : Int)) rfl (by kernel_rfl) (by kernel_rfl) (by kernel_rfl) (by kernel_rfl) (fun _ _ _ h => h) (Or.inl ⟨by kernel_rfl, fun w hSw => by have hcc := blk_cell (i := 3) (heap_below hSw hbx9 (lt_of_heap hbx9)) rfl; (try dsimp only at hSw); go_simp⟩) R ?_; try simp only [Act.put, List.getElem_toArray, List.getElem_cons_succ, List.getElem_cons_zero, List.setIfInBounds_toArray, List.set_cons_zero, List.set_cons_succ]
          refine wpAnyF_take (i := 7) (v := .pointer (some ⟨wr.heap.size, 0, none⟩)) rfl (by kernel_rfl) (by kernel_rfl) (by kernel_rfl) (by kernel_rfl) (fun _ _ _ h => h) (Or.inl ⟨by kernel_rfl, fun w hSw => by (try dsimp only at hSw); go_simp⟩) R ?_; try simp only [Act.put, List.getElem_toArray, List.getElem_cons_succ, List.getElem_cons_zero, List.setIfInBounds_toArray, List.set_cons_zero, List.set_cons_succ]
          refine wpAnyF_take (i := 8) (v := .int .i64 (oN : Int)) rfl (by kernel_rfl) (by kernel_rfl) (by kernel_rfl) (by kernel_rfl) (fun _ _ _ h => h) (Or.inl ⟨by kernel_rfl, fun w hSw => by have hcc := blk_cell (i := 0) (heap_below hSw hbx9 (lt_of_heap hbx9)) rfl; (try dsimp only at hSw); go_simp⟩) R ?_; try simp only [Act.put, List.getElem_toArray, List.getElem_cons_succ, List.getElem_cons_zero, List.setIfInBounds_toArray, List.set_cons_zero, List.set_cons_succ]
          refine wpAnyF_take (i := 12) (v := .int .i64 0) rfl (by kernel_rfl) (by kernel_rfl) (by kernel_rfl) (by kernel_rfl) (fun _ _ _ h => h) (Or.inl ⟨by kernel_rfl, fun w hSw => by (try dsimp only at hSw); go_simp⟩) R ?_; try simp only [Act.put, List.getElem_toArray, List.getElem_cons_succ, List.getElem_cons_zero, List.setIfInBounds_toArray, List.set_cons_zero, List.set_cons_succ]
          refine wpAnyF_two (i := 6) (j := 9) (by kernel_rfl) rfl rfl (fun K hK => ?_) (fun K hK => ?_)
          · go_simp
            have hEA := hE9.next (below_next R ((Below.refl V0.heap.size V0).alloc (Nat.le_refl _) (.cells #[.int .u64 (key : Int), .int .u64 (ca : Int), .int .u64 (cb : Int)] 22)))
            have R1 := below_next R ((Below.refl V0.heap.size V0).alloc (Nat.le_refl _) (.cells #[.int .u64 (key : Int), .int .u64 (ca : Int), .int .u64 (cb : Int)] 22))
            have hbw : (V0.alloc (.cells #[.int .u64 (key : Int), .int .u64 (ca : Int), .int .u64 (cb : Int)] 22)).heap[V0.heap.size]? = some (.cells #[.int .u64 (key : Int), .int .u64 (ca : Int), .int .u64 (cb : Int)] 22 (0, 0)) := World.alloc_heap_new _ _
            clear R
            refine hK.out _ _ (fun _ => R1) ?_; clear hK K; try simp only [Act.put, List.getElem_toArray, List.getElem_cons_succ, List.getElem_cons_zero, List.setIfInBounds_toArray, List.set_cons_zero, List.set_cons_succ]
            generalize V0.heap.size = bw at hbw ⊢
            generalize V0.alloc _ = VA at hEA R1 hbw ⊢
            refine wpAnyF_one (i := 9) (by kernel_rfl) rfl (fun K hK => ?_); go_simp
            refine (dtakes_any (oN : Int) VA).mono ?_
            rintro e VB ⟨rfl, hVB⟩
            rw [hVB, ht'h.out]
            clear hVB
            dsimp only
            refine hK.out _ _ (fun _ => R1) ?_; clear hK K; try simp only [Act.put, List.getElem_toArray, List.getElem_cons_succ, List.getElem_cons_zero, List.setIfInBounds_toArray, List.set_cons_zero, List.set_cons_succ]
            have j1 : (t : Int) ≤ 3 := by have := ht3'h.out; omega
            have j2 : ¬ (t : Int) < 0 := by omega
            refine wpAnyF_take (i := 10) (v := .slice (some ⟨bw, 0, none⟩) t 3) rfl (by kernel_rfl) (by kernel_rfl) (by kernel_rfl) (by kernel_rfl) (fun _ _ _ h => h) (Or.inl ⟨by kernel_rfl, fun w hSw => by (try dsimp only at hSw); go_simp⟩) R1 ?_; try simp only [Act.put, List.getElem_toArray, List.getElem_cons_succ, List.getElem_cons_zero, List.setIfInBounds_toArray, List.set_cons_zero, List.set_cons_succ]
            refine wpAnyF_take (i := 11) (v := .int .i64 (t : Int)) rfl (by kernel_rfl) (by kernel_rfl) (by kernel_rfl) (by kernel_rfl) (fun _ _ _ h => h) (Or.inl ⟨by kernel_rfl, fun w hSw => by (try dsimp only at hSw); go_simp⟩) R1 ?_; try simp only [Act.put, List.getElem_toArray, List.getElem_cons_succ, List.getElem_cons_zero, List.setIfInBounds_toArray, List.set_cons_zero, List.set_cons_succ]
            refine wpAnyF_done (by kernel_rfl) ?_ _
            have hEB := hEA.le (L' := [gN, sN, seed] ++ rowsE rows j ++ [xl] ++ (cs.take i).flatMap encC ++ [oN] ++ ws.take 0) (m' := 3 + 265 * j + 1 + 4 * i + 1 + 0) (by simp) (by omega)
            clear hEA R1 hbx9 hE9 j1 j2
            have hEB'h := Lib.hid hEB
            have hbw'h := Lib.hid hbw
            clear hEB hbw
            go_wp2
            go_loopg [62, 3] t (fun q kx ov wr => ∃ k : Nat, k + q = t ∧ kx = .int .i64 (k : Int) ∧ EncD W1 ([gN, sN, seed] ++ rowsE rows j ++ [xl] ++ (cs.take i).flatMap encC ++ [oN] ++ ws.take k) (3 + 265 * j + 1 + 4 * i + 1 + k) ov wr ∧ wr.heap[bw]? = some (.cells #[.int .u64 (key : Int), .int .u64 (ca : Int), .int .u64 (cb : Int)] 22 (0, 0)))
            case atStart => exact ⟨0, by omega, rfl, hEB'h.out, hbw'h.out⟩
            case round =>
              obtain ⟨k, hk, rfl, hE, hbk⟩ := hrel
              clear hEB'h hbw'h
              obtain ⟨gw, rfl⟩ : ∃ gw : Nat, gw = gk := ⟨_, rfl⟩
              obtain ⟨n3, sp3, c3, rfl, -⟩ := id hE
              by_cases hlt3 : k < t
              · have i7 : (k : Int) < (t : Int) := by omega
                have i8 : (0 : Int) ≤ (k : Int) := by omega
                have i9 : (k : Int) + 1 ≤ 100 := by have := ht3'h.out; omega
                have hkw : k < ws.length := by rw [hwc'h.out]; have := ht3'h.out; simp; omega
                obtain ⟨x, hx⟩ : ∃ x, ws[k]? = some x := ⟨_, List.getElem?_eq_getElem hkw⟩
                have hx64 := hw64'h.out x (List.mem_of_getElem? hx)
                have g1 : wr.cell? ⟨bw, k, none⟩ = some (.int .u64 (x : Int)) := by
                  refine blk_cell (i := k) hbk ?_
                  rw [hwc'h.out] at hx
                  have : #[Value.int .u64 (key : Int), .int .u64 (ca : Int), .int .u64 (cb : Int)] = (([key, ca, cb] : List Nat).map fun n : Nat => Value.int .u64 (n : Int)).toArray := rfl
                  rw [this]
                  simp only [List.getElem?_toArray, List.getElem?_map, hx, Option.map_some]
                have hnx : ws.take (k + 1) = ws.take k ++ [x] := by
                  rw [List.take_succ_eq_append_getElem hkw]
                  rw [List.getElem?_eq_getElem hkw] at hx
                  injection hx with hx
                  rw [hx]
                have hmb : 3 + 265 * j + 1 + 4 * i + 1 + k ≤ 9000 := by have := hfew'h.out; have := hsh'h.out; have := hxl'h.out; have := ht3'h.out; omega
                clear hx
                have hk'h := Lib.hid hk
                have hx64'h := Lib.hid hx64
                have hnx'h := Lib.hid hnx
                have hE'h := Lib.hid hE
                have hbk'h := Lib.hid hbk
                clear hk hx64 hnx hE hbk
                have D := dnum_any (x) hx64'h.out wr
                have D'h := Lib.hid D
                clear D
                go_wp2_with fail
                refine D'h.out.mono ?_
                rintro e wq ⟨spq, cq, rfl, hBq, hrowq⟩
                obtain ⟨hrowo, hno, hBo, hlo, h64o⟩ := EncD.parts hE'h.out
                have hl10 : (numB (x)).length ≤ 10 := numB_ten hx64'h.out
                have hfl := flat_numB _ h64o
                have hslq := SlK.of_row hrowq (by unfold maxLen; omega)
                have hrowo2 := ownsRow_next hrowo hBq
                have hBo2 := below_next hBo hBq
                have hmov := hBo2.size
                obtain ⟨lq, hlq⟩ : ∃ lq, lq = (numB (x)).length := ⟨_, rfl⟩
                rw [← hlq] at hslq hl10 ⊢
                have hm1 : n3 + lq ≤ maxLen := by unfold maxLen; omega
                have hm2 : (n3 + lq) * 1 ≤ 140737488355328 := by omega
                clear hrowo hBo hrowq D'h hfl hl10
                have hbq := heap_below hBq hbk'h.out (lt_of_heap hbk'h.out)
                clear hBq
                have hslq'h := Lib.hid hslq
                have hrowo2'h := Lib.hid hrowo2
                have hBo2'h := Lib.hid hBo2
                have hlo'h := Lib.hid hlo
                have h64o'h := Lib.hid h64o
                have hmov'h := Lib.hid hmov
                have hno'h := Lib.hid hno
                have hm1'h := Lib.hid hm1
                have hm2'h := Lib.hid hm2
                have hlq'h := Lib.hid hlq
                have hbq'h := Lib.hid hbq
                clear hslq hrowo2 hBo2 hlo h64o hmov hno hm1 hm2 hlq hbq
                go_wp2_with (at_builtin; refine wpList_append_slk _ rfl (.tmp 66) (.tmp 68) 38 rfl W1.heap.size 5 i0 (.int .u8 0) 1 1 Tryd.underlying38 hi hz hs hby rfl (by decide) _ _ _ rfl hrowo2'h.out spq _ cq _ rfl hslq'h.out (u8s_one _) hm1'h.out hm2'h.out hmov'h.out ?_; intro v9 w9 hown9 hgrow9 hwh9; have hown9'h := Lib.hid hown9; have hgrow9'h := Lib.hid hgrow9; clear hown9 hgrow9 hwh9)
                have hbx9 := (hgrow9'h.out.block _ (lt_of_heap hbq'h.out) (fun e => blk_apart hrowo2'h.out hbq'h.out (by decide) _ e.symm rfl)).trans hbq'h.out
                have hE9 := EncD.snoc (by have := hown9'h.out; rw [hlq'h.out] at this; exact this) hgrow9'h.out hBo2'h.out hrowo2'h.out hno'h.out hx64'h.out hlo'h.out h64o'h.out
                clear hslq'h hrowo2'h hBo2'h hlo'h h64o'h hmov'h hno'h hm1'h hm2'h hlq'h hown9'h hgrow9'h hbq'h
                clear hmb
                have hE8 := hE9.le (L' := [gN, sN, seed] ++ rowsE rows j ++ [xl] ++ (cs.take i).flatMap encC ++ [oN] ++ ws.take (k + 1)) (m' := 3 + 265 * j + 1 + 4 * i + 1 + (k + 1)) (by rw [hnx'h.out]; simp) (by omega)
                clear hE9 hE'h hbk'h
                go_roundg (gw - 1)
                case measure => have := hk'h.out; omega
                case rel => exact ⟨k + 1, by have := hk'h.out; omega, by go_num, hE8, hbx9⟩
              · have i7 : ¬ (k : Int) < (t : Int) := by omega
                obtain rfl : k = t := by omega
                have hE8 := hE.le (L' := [gN, sN, seed] ++ rowsE rows j ++ [xl] ++ (cs.take (i + 1)).flatMap encC) (m' := 3 + 265 * j + 1 + 4 * (i + 1)) (by rw [htk'h.out]; simp) (by have := ht3'h.out; omega)
                clear hE hbk hk
                have hE8'h := Lib.hid hE8
                clear hE8
                go_wp2
                go_roundg (gi - 1)
                case measure => have := hi''h.out; omega
                case rel => exact ⟨i + 1, by have := hi''h.out; omega, by go_num, hE8'h.out⟩
          · go_simp
            refine (dtakes_any (oN : Int) V0).mono ?_
            rintro e VB ⟨rfl, hVB⟩
            rw [hVB, ht'h.out]
            clear hVB
            dsimp only
            refine hK.out _ _ (fun _ => R) ?_; clear hK K; try simp only [Act.put, List.getElem_toArray, List.getElem_cons_succ, List.getElem_cons_zero, List.setIfInBounds_toArray, List.set_cons_zero, List.set_cons_succ]
            refine wpAnyF_one (i := 6) (by kernel_rfl) rfl (fun K hK => ?_); go_simp
            have hEA := hE9.next (below_next R ((Below.refl V0.heap.size V0).alloc (Nat.le_refl _) (.cells #[.int .u64 (key : Int), .int .u64 (ca : Int), .int .u64 (cb : Int)] 22)))
            have R1 := below_next R ((Below.refl V0.heap.size V0).alloc (Nat.le_refl _) (.cells #[.int .u64 (key : Int), .int .u64 (ca : Int), .int .u64 (cb : Int)] 22))
            have hbw : (V0.alloc (.cells #[.int .u64 (key : Int), .int .u64 (ca : Int), .int .u64 (cb : Int)] 22)).heap[V0.heap.size]? = some (.cells #[.int .u64 (key : Int), .int .u64 (ca : Int), .int .u64 (cb : Int)] 22 (0, 0)) := World.alloc_heap_new _ _
            clear R
            refine hK.out _ _ (fun _ => R1) ?_; clear hK K; try simp only [Act.put, List.getElem_toArray, List.getElem_cons_succ, List.getElem_cons_zero, List.setIfInBounds_toArray, List.set_cons_zero, List.set_cons_succ]
            generalize V0.heap.size = bw at hbw ⊢
            generalize V0.alloc _ = VA at hEA R1 hbw ⊢
            have j1 : (t : Int) ≤ 3 := by have := ht3'h.out; omega
            have j2 : ¬ (t : Int) < 0 := by omega
            refine wpAnyF_take (i := 10) (v := .slice (some ⟨bw, 0, none⟩) t 3) rfl (by kernel_rfl) (by kernel_rfl) (by kernel_rfl) (by kernel_rfl) (fun _ _ _ h => h) (Or.inl ⟨by kernel_rfl, fun w hSw => by (try dsimp only at hSw); go_simp⟩) R1 ?_; try simp only [Act.put, List.getElem_toArray, List.getElem_cons_succ, List.getElem_cons_zero, List.setIfInBounds_toArray, List.set_cons_zero, List.set_cons_succ]
            refine wpAnyF_take (i := 11) (v := .int .i64 (t : Int)) rfl (by kernel_rfl) (by kernel_rfl) (by kernel_rfl) (by kernel_rfl) (fun _ _ _ h => h) (Or.inl ⟨by kernel_rfl, fun w hSw => by (try dsimp only at hSw); go_simp⟩) R1 ?_; try simp only [Act.put, List.getElem_toArray, List.getElem_cons_succ, List.getElem_cons_zero, List.setIfInBounds_toArray, List.set_cons_zero, List.set_cons_succ]
            refine wpAnyF_done (by kernel_rfl) ?_ _
            have hEB := hEA.le (L' := [gN, sN, seed] ++ rowsE rows j ++ [xl] ++ (cs.take i).flatMap encC ++ [oN] ++ ws.take 0) (m' := 3 + 265 * j + 1 + 4 * i + 1 + 0) (by simp) (by omega)
            clear hEA R1 hbx9 hE9 j1 j2
            have hEB'h := Lib.hid hEB
            have hbw'h := Lib.hid hbw
            clear hEB hbw
            go_wp2
            go_loopg [62, 3] t (fun q kx ov wr => ∃ k : Nat, k + q = t ∧ kx = .int .i64 (k : Int) ∧ EncD W1 ([gN, sN, seed] ++ rowsE rows j ++ [xl] ++ (cs.take i).flatMap encC ++ [oN] ++ ws.take k) (3 + 265 * j + 1 + 4 * i + 1 + k) ov wr ∧ wr.heap[bw]? = some (.cells #[.int .u64 (key : Int), .int .u64 (ca : Int), .int .u64 (cb : Int)] 22 (0, 0)))
            case atStart => exact ⟨0, by omega, rfl, hEB'h.out, hbw'h.out⟩
            case round =>
              obtain ⟨k, hk, rfl, hE, hbk⟩ := hrel
              clear hEB'h hbw'h
              obtain ⟨gw, rfl⟩ : ∃ gw : Nat, gw = gk := ⟨_, rfl⟩
              obtain ⟨n3, sp3, c3, rfl, -⟩ := id hE
              by_cases hlt3 : k < t
              · have i7 : (k : Int) < (t : Int) := by omega
                have i8 : (0 : Int) ≤ (k : Int) := by omega
                have i9 : (k : Int) + 1 ≤ 100 := by have := ht3'h.out; omega
                have hkw : k < ws.length := by rw [hwc'h.out]; have := ht3'h.out; simp; omega
                obtain ⟨x, hx⟩ : ∃ x, ws[k]? = some x := ⟨_, List.getElem?_eq_getElem hkw⟩
                have hx64 := hw64'h.out x (List.mem_of_getElem? hx)
                have g1 : wr.cell? ⟨bw, k, none⟩ = some (.int .u64 (x : Int)) := by
                  refine blk_cell (i := k) hbk ?_
                  rw [hwc'h.out] at hx
                  have : #[Value.int .u64 (key : Int), .int .u64 (ca : Int), .int .u64 (cb : Int)] = (([key, ca, cb] : List Nat).map fun n : Nat => Value.int .u64 (n : Int)).toArray := rfl
                  rw [this]
                  simp only [List.getElem?_toArray, List.getElem?_map, hx, Option.map_some]
                have hnx : ws.take (k + 1) = ws.take k ++ [x] := by
                  rw [List.take_succ_eq_append_getElem hkw]
                  rw [List.getElem?_eq_getElem hkw] at hx
                  injection hx with hx
                  rw [hx]
                have hmb : 3 + 265 * j + 1 + 4 * i + 1 + k ≤ 9000 := by have := hfew'h.out; have := hsh'h.out; have := hxl'h.out; have := ht3'h.out; omega
                clear hx
                have hk'h := Lib.hid hk
                have hx64'h := Lib.hid hx64
                have hnx'h := Lib.hid hnx
                have hE'h := Lib.hid hE
                have hbk'h := Lib.hid hbk
                clear hk hx64 hnx hE hbk
                have D := dnum_any (x) hx64'h.out wr
                have D'h := Lib.hid D
                clear D
                go_wp2_with fail
                refine D'h.out.mono ?_
                rintro e wq ⟨spq, cq, rfl, hBq, hrowq⟩
                obtain ⟨hrowo, hno, hBo, hlo, h64o⟩ := EncD.parts hE'h.out
                have hl10 : (numB (x)).length ≤ 10 := numB_ten hx64'h.out
                have hfl := flat_numB _ h64o
                have hslq := SlK.of_row hrowq (by unfold maxLen; omega)
                have hrowo2 := ownsRow_next hrowo hBq
                have hBo2 := below_next hBo hBq
                have hmov := hBo2.size
                obtain ⟨lq, hlq⟩ : ∃ lq, lq = (numB (x)).length := ⟨_, rfl⟩
                rw [← hlq] at hslq hl10 ⊢
                have hm1 : n3 + lq ≤ maxLen := by unfold maxLen; omega
                have hm2 : (n3 + lq) * 1 ≤ 140737488355328 := by omega
                clear hrowo hBo hrowq D'h hfl hl10
                have hbq := heap_below hBq hbk'h.out (lt_of_heap hbk'h.out)
                clear hBq
                have hslq'h := Lib.hid hslq
                have hrowo2'h := Lib.hid hrowo2
                have hBo2'h := Lib.hid hBo2
                have hlo'h := Lib.hid hlo
                have h64o'h := Lib.hid h64o
                have hmov'h := Lib.hid hmov
                have hno'h := Lib.hid hno
                have hm1'h := Lib.hid hm1
                have hm2'h := Lib.hid hm2
                have hlq'h := Lib.hid hlq
                have hbq'h := Lib.hid hbq
                clear hslq hrowo2 hBo2 hlo h64o hmov hno hm1 hm2 hlq hbq
                go_wp2_with (at_builtin; refine wpList_append_slk _ rfl (.tmp 66) (.tmp 68) 38 rfl W1.heap.size 5 i0 (.int .u8 0) 1 1 Tryd.underlying38 hi hz hs hby rfl (by decide) _ _ _ rfl hrowo2'h.out spq _ cq _ rfl hslq'h.out (u8s_one _) hm1'h.out hm2'h.out hmov'h.out ?_; intro v9 w9 hown9 hgrow9 hwh9; have hown9'h := Lib.hid hown9; have hgrow9'h := Lib.hid hgrow9; clear hown9 hgrow9 hwh9)
                have hbx9 := (hgrow9'h.out.block _ (lt_of_heap hbq'h.out) (fun e => blk_apart hrowo2'h.out hbq'h.out (by decide) _ e.symm rfl)).trans hbq'h.out
                have hE9 := EncD.snoc (by have := hown9'h.out; rw [hlq'h.out] at this; exact this) hgrow9'h.out hBo2'h.out hrowo2'h.out hno'h.out hx64'h.out hlo'h.out h64o'h.out
                clear hslq'h hrowo2'h hBo2'h hlo'h h64o'h hmov'h hno'h hm1'h hm2'h hlq'h hown9'h hgrow9'h hbq'h
                clear hmb
                have hE8 := hE9.le (L' := [gN, sN, seed] ++ rowsE rows j ++ [xl] ++ (cs.take i).flatMap encC ++ [oN] ++ ws.take (k + 1)) (m' := 3 + 265 * j + 1 + 4 * i + 1 + (k + 1)) (by rw [hnx'h.out]; simp) (by omega)
                clear hE9 hE'h hbk'h
                go_roundg (gw - 1)
                case measure => have := hk'h.out; omega
                case rel => exact ⟨k + 1, by have := hk'h.out; omega, by go_num, hE8, hbx9⟩
              · have i7 : ¬ (k : Int) < (t : Int) := by omega
                obtain rfl : k = t := by omega
                have hE8 := hE.le (L' := [gN, sN, seed] ++ rowsE rows j ++ [xl] ++ (cs.take (i + 1)).flatMap encC) (m' := 3 + 265 * j + 1 + 4 * (i + 1)) (by rw [htk'h.out]; simp) (by have := ht3'h.out; omega)
                clear hE hbk hk
                have hE8'h := Lib.hid hE8
                clear hE8
                go_wp2
                go_roundg (gi - 1)
                case measure => have := hi''h.out; omega
                case rel => exact ⟨i + 1, by have := hi''h.out; omega, by go_num, hE8'h.out⟩
        · have i4 : ¬ (i : Int) < (xl : Int) := by omega
          obtain rfl : i = xl := by omega
          have hEn := hE.le (L' := [gN, sN, seed] ++ rowsE rows (j + 1)) (m' := 3 + 265 * (j + 1)) (by
            rw [hsucc'h.out, hxl'h.out, List.take_length]
            unfold encL
            simp) (by have := hsh'h.out; have := hxl'h.out; omega)
          clear hE hi'
          have hEn'h := Lib.hid hEn
          clear hEn
          go_wp2
          go_roundg (gj - 1)
          case measure => have := hj'h.out; omega
          case rel => exact ⟨j + 1, by have := hj'h.out; omega, by go_num, hEn'h.out⟩
    · have i1 : ¬ (j : Int) < (ln : Int) := by omega
      obtain rfl : j = ln := by omega
      obtain ⟨-, -, -, -, x4⟩ := cells5' (heap_below hE.low hb1'h.out (lt_of_heap hb1'h.out))
      have hp64 : pn < 2 ^ 64 := by have := hmany'h.out; omega
      have q1 : IntKind.u64.wrap (pn : Int) = (pn : Int) := by rw [IntKind.wrap_u64]; omega
      have hmb : 3 + 265 * j ≤ 9000 := by have := hfew'h.out; omega
      clear hj
      have hp64'h := Lib.hid hp64
      have hE'h := Lib.hid hE
      clear hp64 hE
      have D := dnum_any (pn) hp64'h.out wr
      have D'h := Lib.hid D
      clear D
      go_wp2_with fail
      refine D'h.out.mono ?_
      rintro e wq ⟨spq, cq, rfl, hBq, hrowq⟩
      obtain ⟨hrowo, hno, hBo, hlo, h64o⟩ := EncD.parts hE'h.out
      have hl10 : (numB (pn)).length ≤ 10 := numB_ten hp64'h.out
      have hfl := flat_numB _ h64o
      have hslq := SlK.of_row hrowq (by unfold maxLen; omega)
      have hrowo2 := ownsRow_next hrowo hBq
      have hBo2 := below_next hBo hBq
      have hmov := hBo2.size
      obtain ⟨lq, hlq⟩ : ∃ lq, lq = (numB (pn)).length := ⟨_, rfl⟩
      rw [← hlq] at hslq hl10 ⊢
      have hm1 : n0 + lq ≤ maxLen := by unfold maxLen; omega
      have hm2 : (n0 + lq) * 1 ≤ 140737488355328 := by omega
      clear hrowo hBo hBq hrowq D'h hfl hl10
      have hslq'h := Lib.hid hslq
      have hrowo2'h := Lib.hid hrowo2
      have hBo2'h := Lib.hid hBo2
      have hlo'h := Lib.hid hlo
      have h64o'h := Lib.hid h64o
      have hmov'h := Lib.hid hmov
      have hno'h := Lib.hid hno
      have hm1'h := Lib.hid hm1
      have hm2'h := Lib.hid hm2
      have hlq'h := Lib.hid hlq
      clear hslq hrowo2 hBo2 hlo h64o hmov hno hm1 hm2 hlq
      go_upto_region 18 with (at_builtin; refine wpList_append_slk _ rfl (.tmp 73) (.tmp 78) 38 rfl W1.heap.size 5 i0 (.int .u8 0) 1 1 Tryd.underlying38 hi hz hs hby rfl (by decide) _ _ _ rfl hrowo2'h.out spq _ cq _ rfl hslq'h.out (u8s_one _) hm1'h.out hm2'h.out hmov'h.out ?_; intro v9 w9 hown9 hgrow9 hwh9; have hown9'h := Lib.hid hown9; have hgrow9'h := Lib.hid hgrow9; clear hown9 hgrow9 hwh9)
      have hE9 := EncD.snoc (by have := hown9'h.out; rw [hlq'h.out] at this; exact this) hgrow9'h.out hBo2'h.out hrowo2'h.out hno'h.out hp64'h.out hlo'h.out h64o'h.out
      clear hslq'h hrowo2'h hBo2'h hlo'h h64o'h hmov'h hno'h hm1'h hm2'h hlq'h hown9'h hgrow9'h
      clear hmb q1 x4
      have hE1 := hE9.le (L' := [gN, sN, seed] ++ rowsE rows j ++ [pn] ++ ps.take 0) (m' := 3 + 265 * j + 1 + 0) (by simp) (by omega)
      obtain ⟨-, -, -, -, x4⟩ := cells5' (heap_below hE9.low hb1'h.out (lt_of_heap hb1'h.out))
      clear hE9 hE'h
      have hE1'h := Lib.hid hE1
      clear hE1
      go_wp2
      go_loopg [83, 3] pn (fun q ix ov wr => ∃ k : Nat, k + q = pn ∧ ix = .int .i64 (k : Int) ∧ EncD W1 ([gN, sN, seed] ++ rowsE rows j ++ [pn] ++ ps.take k) (3 + 265 * j + 1 + k) ov wr)
      case atStart => exact ⟨0, by omega, rfl, hE1'h.out⟩
      case round =>
        obtain ⟨k, hk, rfl, hE⟩ := hrel
        clear hE1'h x4
        obtain ⟨gw, rfl⟩ : ∃ gw : Nat, gw = gk := ⟨_, rfl⟩
        obtain ⟨n3, sp3, c3, rfl, -⟩ := id hE
        by_cases hlt3 : k < pn
        · have i7 : (k : Int) < (pn : Int) := by omega
          have i8 : (0 : Int) ≤ (k : Int) := by omega
          have i9 : (k : Int) + 1 ≤ 9223372036854775807 := by have := hmany'h.out; omega
          have hkl : k < ps.length := by have := hpnr'h.out; simp only [Sm.scr] at this; omega
          have hP := hA'h.out.picks.below hE.low
          obtain ⟨b, o, hsp, -⟩ := hP.some' (by simp only; omega)
          simp only at hsp hP
          subst hsp
          have g1 := nthU_cell hP hkl
          have hnx : ps.take (k + 1) = ps.take k ++ [nthU ps k] := by rw [List.take_succ_eq_append_getElem hkl, nthU_eq hkl]
          have hx64 : nthU ps k < 2 ^ 64 := hk64'h.out _ (List.mem_of_getElem? (nthU_at hkl))
          obtain ⟨x, hx⟩ : ∃ x, x = nthU ps k := ⟨_, rfl⟩
          rw [← hx] at g1 hnx hx64
          have hmb : 3 + 265 * j + 1 + k ≤ 9000 := by have := hfew'h.out; have := hmany'h.out; omega
          clear hP hx
          have hk'h := Lib.hid hk
          have hx64'h := Lib.hid hx64
          have hnx'h := Lib.hid hnx
          have hE'h := Lib.hid hE
          clear hk hx64 hnx hE
          have D := dnum_any (x) hx64'h.out wr
          have D'h := Lib.hid D
          clear D
          go_wp2_with fail
          refine D'h.out.mono ?_
          rintro e wq ⟨spq, cq, rfl, hBq, hrowq⟩
          obtain ⟨hrowo, hno, hBo, hlo, h64o⟩ := EncD.parts hE'h.out
          have hl10 : (numB (x)).length ≤ 10 := numB_ten hx64'h.out
          have hfl := flat_numB _ h64o
          have hslq := SlK.of_row hrowq (by unfold maxLen; omega)
          have hrowo2 := ownsRow_next hrowo hBq
          have hBo2 := below_next hBo hBq
          have hmov := hBo2.size
          obtain ⟨lq, hlq⟩ : ∃ lq, lq = (numB (x)).length := ⟨_, rfl⟩
          rw [← hlq] at hslq hl10 ⊢
          have hm1 : n3 + lq ≤ maxLen := by unfold maxLen; omega
          have hm2 : (n3 + lq) * 1 ≤ 140737488355328 := by omega
          clear hrowo hBo hBq hrowq D'h hfl hl10
          have hslq'h := Lib.hid hslq
          have hrowo2'h := Lib.hid hrowo2
          have hBo2'h := Lib.hid hBo2
          have hlo'h := Lib.hid hlo
          have h64o'h := Lib.hid h64o
          have hmov'h := Lib.hid hmov
          have hno'h := Lib.hid hno
          have hm1'h := Lib.hid hm1
          have hm2'h := Lib.hid hm2
          have hlq'h := Lib.hid hlq
          clear hslq hrowo2 hBo2 hlo h64o hmov hno hm1 hm2 hlq
          go_wp2_with (at_builtin; refine wpList_append_slk _ rfl (.tmp 87) (.tmp 89) 38 rfl W1.heap.size 5 i0 (.int .u8 0) 1 1 Tryd.underlying38 hi hz hs hby rfl (by decide) _ _ _ rfl hrowo2'h.out spq _ cq _ rfl hslq'h.out (u8s_one _) hm1'h.out hm2'h.out hmov'h.out ?_; intro v9 w9 hown9 hgrow9 hwh9; have hown9'h := Lib.hid hown9; have hgrow9'h := Lib.hid hgrow9; clear hown9 hgrow9 hwh9)
          have hE9 := EncD.snoc (by have := hown9'h.out; rw [hlq'h.out] at this; exact this) hgrow9'h.out hBo2'h.out hrowo2'h.out hno'h.out hx64'h.out hlo'h.out h64o'h.out
          clear hslq'h hrowo2'h hBo2'h hlo'h h64o'h hmov'h hno'h hm1'h hm2'h hlq'h hown9'h hgrow9'h
          clear hmb
          have hE8 := hE9.le (L' := [gN, sN, seed] ++ rowsE rows j ++ [pn] ++ ps.take (k + 1)) (m' := 3 + 265 * j + 1 + (k + 1)) (by rw [hnx'h.out]; simp) (by omega)
          clear hE9 hE'h
          go_roundg (gw - 1)
          case measure => have := hk'h.out; omega
          case rel => exact ⟨k + 1, by have := hk'h.out; omega, by go_num, hE8⟩
        · have i7 : ¬ (k : Int) < (pn : Int) := by omega
          obtain rfl : k = pn := by omega
          obtain ⟨hrowo, hno, hBo, -, -⟩ := EncD.parts hE
          have hTT : T = ([gN, sN, seed] ++ rowsE rows j ++ [k] ++ ps.take k).flatMap numB := by rw [hT2'h.out, hlnr'h.out]
          have hfin : NumAt w T (.returned (.slice sp3 n3 c3)) wr := by
            rw [hTT]
            refine ⟨sp3, c3, by rw [hno], below_next hB1'h.out hBo, ?_⟩
            rw [← hno]
            exact ownsRow_mono hrowo hB1'h.out.size
          clear hrowo hno hBo hE hk hTT
          have hfin'h := Lib.hid hfin
          clear hfin
          go_wp2
          go_ret
          exact hfin'h.out
end Go.Proofs.YtifofdciablljaaDoor
