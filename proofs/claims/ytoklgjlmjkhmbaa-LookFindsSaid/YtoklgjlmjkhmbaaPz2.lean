/-
  Several texts of mine in one: RowLaw TabW TabF TabT FindsPure FindsLink.
-/
import Derived.Test.YtoklgjlmjkhmbaaSlK
import Derived.Lib.AppendZeros
import Derived.Laws.CopyRow
import Derived.Laws.AppendOwn
import Derived.Test.YtoklgjlmjkhmbaaPz0
import Derived.Test.YtoklgjlmjkhmbaaHeld
import Derived.Deep.OwnRows
import Derived.Test.YtoklgjlmjkhmbaaLookI
import Derived.Test.YtoklgjlmjkhmbaaPz1
/-
  append of zeros, and copy, at rows whose elements take several cells.
-/
set_option linter.unusedSimpArgs false
set_option linter.unusedVariables false
namespace Go.Proofs.Ytoklgjlmjkhmbaa
open Go.RowKit

section
variable {P : Program}
theorem run_append_zeros_grow (w : World) (t tn ty e : TypeId) (i : TypeInfo) (z : Value) (k kn : IntKind) (ht : P.underlying t = some (.slice e)) (htn : P.underlying tn = some (.int kn)) (hi : P.info? e = some i) (hz : i.zero = some z)
    (b : Addr) (sLen sCap : Nat) (olds : List Value) (hlo : olds.length = sLen * i.size) (holds : ∀ j v, olds[j]? = some v → w.cell? (b.add j) = some v)
    (m : Nat) (h0 : 0 < m) (hs : 0 < i.size) (hg : sCap < sLen + m) (h63 : sLen + m ≤ 4611686018427387904) (hm48 : m * i.bytes ≤ 140737488355328) (hfit : Builtin.nextslicecap (sLen + m) sCap * i.bytes ≤ 281474976710656) :
    (Builtin.append_ #[t, tn] ty #[.slice (some b) sLen sCap, .int k m]).run P w =
      .ok (.slice (some ⟨w.heap.size, 0, none⟩) (sLen + m) (grownCap w (sLen + m) sCap e))
        (w.drew.alloc (.cells (olds.toArray ++ Builtin.zeroCells z.cells m ++ Builtin.zeroCells z.cells (grownCap w (sLen + m) sCap e - (sLen + m))) e)) := by
  have hn : ¬ (sLen + m ≤ sCap) := by omega
  have hm : m ≠ 0 := by omega
  have hw : IntKind.i64.wrap (m : Int) = m := by rw [IntKind.wrap_i64]; omega
  have h63' : ¬ (9223372036854775807 < (m : Int)) := by omega
  have h63'' : ¬ (9223372036854775807 < ((sLen : Int) + (m : Int))) := by omega
  have h48' : ¬ (281474976710656 < Builtin.nextslicecap (sLen + m) sCap * i.bytes) := by omega
  have h48i : ¬ (281474976710656 < (m : Int) * (i.bytes : Int)) := by
    rw [← Int.natCast_mul]
    omega
  have hneg : ¬ ((m : Int) < 0) := by omega
  have hns : ¬ (m * i.size = 0) := Nat.mul_ne_zero hm (by omega)
  have hfo := run_firstCells_some (P := P) w.drew i.size sLen b sLen sCap olds hlo (by simpa using holds)
  simp [Builtin.append_, run_underlying ht, run_underlying htn, sizeOf, typeInfo, zeroValue, hi, hz, asInt, asIntOf, hw, hm, hn, hneg, hns, h63', h63'', h48', h48i, Question.forced, hfo, newRow, grownCap, Builtin.lenOf]
  try (congr 2; apply Array.ext'; simp [List.append_assoc])
theorem run_copy_rowk (w : World) (dT sT ty elem : TypeId) (K g o dLen dCap : Nat) (a : Addr) (sLen sCap : Nat) (cur : Array Value) (t : TypeId) (cs : List Value)
    (hu : P.underlying dT = some (.slice elem)) (hs : (P.info? elem).map (·.size) = some K)
    (hg : w.heap[g]? = some (.cells cur t (0, 0))) (hn : cs.length = Nat.min sLen dLen * K)
    (hsrc : ∀ j v, cs[j]? = some v → w.cell? (a.add j) = some v) (hfit : o + cs.length ≤ cur.size) (h1 : ∀ v ∈ cs, v.oneCell' = true) :
    (Builtin.copy_ #[dT, sT] ty #[.slice (some ⟨g, o, none⟩) dLen dCap, .slice (some a) sLen sCap]).run P w =
      .ok (goInt (Nat.min sLen dLen)) (w.setRow g (cur.toList.take o ++ cs ++ cur.toList.drop (o + cs.length)).toArray) := by
  have hl := run_loadCells_list (P := P) w a cs hsrc
  have hst := run_storeCells_at P g o t cs 0 cur w hg (by simpa using hfit) h1
  cases hq : P.info? elem with
  | none => simp [hq] at hs
  | some i =>
    have hi : i.size = K := by simpa [hq] using hs
    simp [Builtin.copy_, run_underlying hu, Builtin.lenOf, Builtin.firstCells, sizeOf, typeInfo, hq, hi, ← hn, hl, hst]
theorem wp_copy_run' (w : World) {o : Oper} {a : Act} {K : Act → World → Prop} {Q : Exit → Act → World → Prop} (d s : Operand) (t t' : TypeId)
    (ho : o.op = .call { callee := .builtin .copy, args := #[d, s], argTypes := #[t, t'] }) (v u : Value) (hd : a.eval d = v) (hs : a.eval s = u) {v' : Value} {w' : World}
    (hr : (Builtin.copy_ #[t, t'] o.type #[v, u]).run P w = .ok v' w') (h : K (a.put o.dst v') w') : o.wp P a w K Q := by
  unfold Oper.wp execOp
  simp only [ho, resolve, invoke, builtin, Sem.run_bind, Sem.run_pure, Result.andThen_ok, List.map_toArray, List.map_cons, List.map_nil, hd, hs, hr]
  exact h
theorem wpList_copy_run' (w : World) {ops : Array Oper} {rest : List Oper} {o : Oper} {a : Act} {Q : Exit → Act → World → Prop} (hgd : o.guard = none) (d s : Operand) (t t' : TypeId)
    (ho : o.op = .call { callee := .builtin .copy, args := #[d, s], argTypes := #[t, t'] }) (v u : Value) (hd : a.eval d = v) (hs : a.eval s = u) {v' : Value} {w' : World}
    (hr : (Builtin.copy_ #[t, t'] o.type #[v, u]).run P w = .ok v' w') (h : wpList P ops Q rest (a.put o.dst v') w') : wpList P ops Q (o :: rest) a w :=
  wpList_plain hgd fun _ hK => wp_copy_run' w d s t t' ho v u hd hs hr (hK _ _ h)
theorem step_copy_run' {ops : Array Oper} {o : Oper} {a : Act} {w : World} {K : Act → World → Prop} {Q : Exit → Act → World → Prop} {E : Prop}
    (hg : o.guard = none) (d x : Operand) (dT sT : TypeId) (hop : o.op = Op.call { callee := Callee.builtin Builtin.copy, args := #[d, x], argTypes := #[dT, sT] })
    (v u : Value) (hd : a.eval d = v) (hx : a.eval x = u) {v' : Value} {w' : World} (hr : (Builtin.copy_ #[dT, sT] o.type #[v, u]).run P w = .ok v' w') (hK : K (a.put o.dst v') w') :
    if Region.wanted o (yielded ops a.tmps) = true then Oper.wp P o a w K Q else E := by
  have hw : Region.wanted o (yielded ops a.tmps) = true := by simp [Region.wanted, hg]
  rw [if_pos hw]
  exact wp_copy_run' w d x dT sT hop v u hd hx hr hK
end
end Go.Proofs.Ytoklgjlmjkhmbaa

/-
  Package layout: a table's words; the library's Concat at rows of words.
-/
set_option linter.unusedSimpArgs false
set_option linter.unusedVariables false
set_option maxRecDepth 100000
namespace Go.Proofs.Ytoklgjlmjkhmbaa
open Go.RowKit

theorem info_w64 : (Try.prog.info? 29).map (fun i => (i.zero, i.size, i.bytes)) = some (some (.int .u64 0), 1, 8) := by kernel_rfl
theorem info_w64p : ∃ i : TypeInfo, Try.prog.info? 29 = some i ∧ i.zero = some (.int .u64 0) ∧ i.size = 1 ∧ i.bytes = 8 := by
  cases h : Try.prog.info? 29 with
  | none => have := info_w64; rw [h] at this; cases this
  | some i =>
    have := info_w64
    rw [h] at this
    simp at this
    exact ⟨i, rfl, this.1, this.2.1, this.2.2⟩
section
variable {P : Program}
/-- append of zeros where there is room. -/
theorem run_zeros_room (w : World) (t tn ty e : TypeId) (i : TypeInfo) (z : Value) (k kn : IntKind) (ht : P.underlying t = some (.slice e)) (htn : P.underlying tn = some (.int kn)) (hi : P.info? e = some i) (hz : i.zero = some z)
    (g sLen sCap : Nat) (cur : Array Value) (hg : w.heap[g]? = some (.cells cur e (0, 0))) (m : Nat) (h0 : 0 < m) (hs : 0 < i.size) (hroom : sLen + m ≤ sCap) (hsz : cur.size = sCap * i.size) (hzs : z.cells.size = i.size) (h63 : (m : Int) ≤ 9223372036854775807) (hm48 : m * i.bytes ≤ 281474976710656)
    (h1 : ∀ u ∈ (Builtin.zeroCells z.cells m).toList, u.oneCell' = true) :
    (Builtin.append_ #[t, tn] ty #[.slice (some ⟨g, 0, none⟩) sLen sCap, .int k m]).run P w =
      .ok (.slice (some ⟨g, 0, none⟩) (sLen + m) sCap) (w.setRow g (cur.toList.take (sLen * i.size) ++ (Builtin.zeroCells z.cells m).toList ++ cur.toList.drop (sLen * i.size + (Builtin.zeroCells z.cells m).toList.length)).toArray) := by
  have hlz : (Builtin.zeroCells z.cells m).toList.length = m * i.size := by rw [Array.length_toList, size_zeroCells, hzs]
  have hfit : sLen * i.size + (Builtin.zeroCells z.cells m).toList.length ≤ cur.size := by
    rw [hlz, hsz, ← Nat.add_mul]; exact Nat.mul_le_mul_right _ hroom
  have hst := run_storeCells_at P g (sLen * i.size) e (Builtin.zeroCells z.cells m).toList 0 cur w hg (by simpa using hfit) h1
  simp only [Nat.add_zero] at hst
  have hm : m ≠ 0 := by omega
  have hw : IntKind.i64.wrap (m : Int) = m := by rw [IntKind.wrap_i64]; omega
  have h63' : ¬ (9223372036854775807 < (m : Int)) := by omega
  have hneg : ¬ ((m : Int) < 0) := by omega
  have hns : ¬ (m * i.size = 0) := Nat.mul_ne_zero hm (by omega)
  have h48i : ¬ (281474976710656 < (m : Int) * (i.bytes : Int)) := by
    rw [← Int.natCast_mul]
    omega
  simp [Builtin.append_, run_underlying ht, run_underlying htn, sizeOf, typeInfo, zeroValue, hi, hz, asInt, asIntOf, hw, hm, hneg, hns, h63', h48i, hroom, Addr.add_lit, hst]
end
theorem zeros_list (m : Nat) : (Builtin.zeroCells (Value.int .u64 0).cells m).toList = u64s (List.replicate m 0) := by
  unfold Builtin.zeroCells u64s
  apply List.ext_getElem?
  intro j
  simp [Value.cells]
  by_cases h : j < m
  · rw [List.getElem?_range h, List.getElem?_replicate, if_pos h]; simp [Nat.mod_one]
  · rw [List.getElem?_eq_none (by simp; omega), List.getElem?_replicate, if_neg h]; rfl
theorem u64s_one' (l : List Nat) : ∀ v ∈ u64s l, v.oneCell' = true := by
  unfold u64s; intro v hv; obtain ⟨k, _, rfl⟩ := List.mem_map.1 hv; rfl
theorem u64s_app (a b : List Nat) : u64s a ++ u64s b = u64s (a ++ b) := by unfold u64s; rw [List.map_append]
/-- Noughts behind a row of one's own. -/
theorem zeros_own (B g n cap m : Nat) (ws : List Nat) (ty : TypeId) (w : World) (h : w.ownsRow B 29 1 (.slice (some ⟨g, 0, none⟩) n cap) n (u64s ws)) (h0 : 0 < m) (hm : n + m ≤ 4096) (hB : B ≤ w.heap.size) :
    ∃ v' w', (Builtin.append_ #[22, 3] ty #[.slice (some ⟨g, 0, none⟩) n cap, .int .i64 m]).run Try.prog w = .ok v' w' ∧ w'.ownsRow B 29 1 v' (n + m) (u64s (ws ++ List.replicate m 0)) ∧ Below B w w' := by
  obtain ⟨i0, hi, hz, hs, hby⟩ := info_w64p
  have hl := h.1
  rw [u64s_length, Nat.mul_one] at hl
  rcases h.2 with ⟨hv, _⟩ | ⟨g', cap', cur, hv, hb, hg, h1, h2, h3, h4⟩
  · cases hv
  · cases hv
    rw [Nat.mul_one] at h3 h4
    by_cases hr : n + m ≤ cap
    · have R := run_zeros_room w 22 3 ty 29 i0 _ .i64 .i64 Try.underlying22 Try.underlying3 hi hz g n cap cur hg m h0 (by omega) hr (by rw [hs, Nat.mul_one]; exact h3) (by rw [hs]; rfl) (by omega) (by rw [hby]; omega) (by rw [zeros_list]; exact u64s_one' _)
      rw [zeros_list, hs, Nat.mul_one, h4, u64s_app] at R
      refine ⟨_, _, R, ?_, below_setRow' (Below.refl _ _) hb _⟩
      have hlen : (u64s (ws ++ List.replicate m 0)).length = n + m := by rw [u64s_length, List.length_append, List.length_replicate, hl]
      refine ⟨by rw [hlen, Nat.mul_one], .inr ⟨g, cap, _, rfl, hb, setRow_heap _ _ _ _ _ _ hg, by omega, h2, ?_, ?_⟩⟩
      · rw [Nat.mul_one, List.size_toArray, List.length_append, hlen, List.length_drop, u64s_length, List.length_replicate, Array.length_toList]; omega
      · rw [Nat.mul_one, ← hlen]; simp
    · have hz1 : ∀ q, (Builtin.zeroCells (Value.int .u64 0).cells q).size = q := fun q => by rw [size_zeroCells]; simp [Value.cells]
      have hfit := nextslicecap_le (need := n + m) (old := cap) (by omega)
      have R := run_append_zeros_grow w 22 3 ty 29 i0 _ .i64 .i64 Try.underlying22 Try.underlying3 hi hz ⟨g, 0, none⟩ n cap (u64s ws) (by rw [u64s_length, hl, hs, Nat.mul_one]) (fun j v hj => by
          have hj2 : j < n := by have := (List.getElem?_eq_some_iff.1 hj).1; rw [u64s_length] at this; omega
          have hadd : (⟨g, 0, none⟩ : Addr).add j = ⟨g, j, none⟩ := by unfold Addr.add; split <;> simp_all
          rw [hadd]
          refine blk_cell hg ?_
          rw [← h4, List.getElem?_take, if_pos hj2] at hj
          simpa using hj) m h0 (by omega) (by omega) (by omega) (by rw [hby]; omega) (by rw [hby]; omega)
      have hge := grownCap_ge w (n + m) cap 29
      have hle := grownCap_le_maxLen w (n + m) cap 29 (by unfold maxLen; omega)
      generalize grownCap w (n + m) cap 29 = gc at *
      refine ⟨_, _, R, ?_, (Below.drew (Below.refl _ _)).alloc (Nat.le_trans hB (Nat.le_refl _)) _⟩
      have hlen : (u64s (ws ++ List.replicate m 0)).length = n + m := by rw [u64s_length, List.length_append, List.length_replicate, hl]
      refine ⟨by rw [hlen, Nat.mul_one], .inr ⟨w.heap.size, gc, _, rfl, hB, World.alloc_heap_new _ _, hge, hle, ?_, ?_⟩⟩
      · rw [Array.size_append, Array.size_append, hz1, hz1, List.size_toArray, u64s_length, hl, Nat.mul_one]; omega
      · rw [Nat.mul_one, Array.toList_append, Array.toList_append, zeros_list, ← hlen, List.take_append_of_le_length (by simp [u64s_length])]
        rw [show ((u64s ws).toArray.toList) = u64s ws from rfl, u64s_app, List.take_length]
/-- Grow of nothing. -/
theorem grow64_any (m : Nat) (w : World) (h0 : 0 < m) (hm : m ≤ 4096) :
    Calls Try.prog 80 #[.slice none 0 0, .int .i64 m] w fun e w' => ∃ s c, e = .returned (.slice s 0 c) ∧ Below w.heap.size w w' ∧ w'.ownsRow w.heap.size 29 1 (.slice s 0 c) 0 (u64s []) ∧ s ≠ none := by
  obtain ⟨i0, hi, hz, hs, hby⟩ := info_w64p
  have R := fun ty => Lib.run_append_nil_zeros w 22 3 ty 29 i0 _ .i64 .i64 Try.underlying22 Try.underlying3 hi hz m h0 (by omega) (by omega) (by rw [hby]; omega)
  have hge := grownCap_ge w m 0 29
  have hle := grownCap_le_maxLen w m 0 29 (by unfold maxLen; omega)
  have hz1 : ∀ q, (Builtin.zeroCells (Value.int .u64 0).cells q).size = q := fun q => by rw [size_zeroCells]; simp [Value.cells]
  generalize grownCap w m 0 29 = gc at *
  have hrow : (w.drew.alloc (.cells (Builtin.zeroCells (Value.int .u64 0).cells m ++ Builtin.zeroCells (Value.int .u64 0).cells (gc - m)) 29)).ownsRow w.heap.size 29 1 (.slice (some ⟨w.heap.size, 0, none⟩) 0 gc) 0 (u64s []) :=
    ⟨rfl, .inr ⟨w.heap.size, gc, _, rfl, Nat.le_refl _, World.alloc_heap_new _ _, Nat.zero_le _, hle, by rw [Array.size_append, hz1, hz1]; omega, by simp [u64s]⟩⟩
  have hB : Below w.heap.size w (w.drew.alloc (.cells (Builtin.zeroCells (Value.int .u64 0).cells m ++ Builtin.zeroCells (Value.int .u64 0).cells (gc - m)) 29)) := (Below.drew (Below.refl _ _)).alloc (Nat.le_refl _) _
  obtain ⟨W, hW⟩ : ∃ W, W = w.drew.alloc (.cells (Builtin.zeroCells (Value.int .u64 0).cells m ++ Builtin.zeroCells (Value.int .u64 0).cells (gc - m)) 29) := ⟨_, rfl⟩
  rw [← hW] at hrow hB R
  have h1 : ¬ ((m : Int) < 0) := by omega
  have h2 : (0 : Int) < (m : Int) := by omega
  have h3 : (m : Int) ≤ (gc : Int) := by omega
  clear hW
  have hrow'h := Lib.hid hrow
  have hB'h := Lib.hid hB
  have R'h := Lib.hid R
  have hge'h := Lib.hid hge
  have hle'h := Lib.hid hle
  clear hrow hB R hge hle
  go_enter Try.func80, Try.ntmps80
  go_wp2_with (at_builtin; refine Lib.wpList_append_run _ rfl _ _ _ _ rfl _ _ rfl rfl _ _ (R'h.out _) ?_)
  go_ret
  exact ⟨_, _, rfl, hB'h.out, hrow'h.out, by simp⟩
/-! ### slices.Concat at rows of words -/
structure RowW where
  sp : Option Addr
  len : Nat
  cap : Nat
  ws : List Nat
def rwV (r : RowW) : Value := .slice r.sp r.len r.cap
def nthR (l : List RowW) (k : Nat) : RowW := l.getD k ⟨none, 0, 0, []⟩
theorem nthR_at {l : List RowW} {k : Nat} (h : k < l.length) : l[k]? = some (nthR l k) := by
  unfold nthR; rw [List.getD_eq_getElem?_getD, List.getElem?_eq_getElem h]; rfl
theorem nthR_mem {l : List RowW} {k : Nat} (h : k < l.length) : nthR l k ∈ l := List.mem_of_getElem? (nthR_at h)
def catW (rows : List RowW) (k : Nat) : List Nat := (rows.take k).flatMap (·.ws)
theorem catW_succ {rows : List RowW} {k : Nat} (h : k < rows.length) : catW rows (k + 1) = catW rows k ++ (nthR rows k).ws := by
  have e : rows[k] = nthR rows k := by have := nthR_at h; rw [List.getElem?_eq_getElem h] at this; injection this
  unfold catW; rw [List.take_succ_eq_append_getElem h, List.flatMap_append, e]; simp
theorem catW_le {rows : List RowW} (hr : ∀ r ∈ rows, r.ws.length ≤ 64) : ∀ k, k ≤ rows.length → (catW rows k).length ≤ 64 * k
  | 0, _ => by simp [catW]
  | k + 1, h => by
    rw [catW_succ (by omega), List.length_append]
    have := catW_le hr k (by omega)
    have := hr _ (nthR_mem (show k < rows.length by omega))
    omega
set_option maxHeartbeats 2000000 in
theorem concat64_any (sp : Option Addr) (n cap : Nat) (rows : List RowW) (w : World) (hS : Sl w sp n (rows.map rwV)) (hR : ∀ r ∈ rows, Sl w r.sp r.len (u64s r.ws)) (hn : n ≤ 8) (hr64 : ∀ r ∈ rows, r.ws.length ≤ 64) (hpos : 0 < (catW rows n).length) :
    Calls Try.prog 55 #[.slice sp n cap] w fun e w' => ∃ s c, e = .returned (.slice s (catW rows n).length c) ∧ Below w.heap.size w w' ∧ w'.ownsRow w.heap.size 29 1 (.slice s (catW rows n).length c) (catW rows n).length (u64s (catW rows n)) := by
  have hlen : n = rows.length := by have := hS.1; simpa using this
  have hle := catW_le hr64 n (by omega)
  obtain ⟨i0, hi, hz, hs, hby⟩ := info_w64p
  have hrl : ∀ r ∈ rows, r.len = r.ws.length := fun r hr => by have := (hR r hr).1; rw [u64s_length] at this; exact this
  have hS'h := Lib.hid hS
  have hR'h := Lib.hid hR
  have hr64'h := Lib.hid hr64
  have hlen'h := Lib.hid hlen
  have hpos'h := Lib.hid hpos
  have hrl'h := Lib.hid hrl
  have hle'h := Lib.hid hle
  clear hS hR hr64 hlen hpos hrl hle
  go_enter Try.func55, Try.ntmps55
  go_wp2
  go_loopg [3, 11] n (fun q sz i wr => ∃ k : Nat, k + q = n ∧ i = .int .i64 k ∧ sz = .int .i64 ((catW rows k).length : Nat) ∧ Below w.heap.size w wr)
  case atStart => exact ⟨0, by omega, rfl, rfl, Below.refl _ _⟩
  case round =>
    obtain ⟨k, hq, rfl, rfl, hB⟩ := hrel
    by_cases hlt : k < n
    · have hkl : k < rows.length := by have := hlen'h.out; omega
      obtain ⟨rb, ro, rfl, hcs⟩ := ((SlK.of_sl hS'h.out).below hB).sl.some' (by omega)
      have c1 : wr.cell? ⟨rb, ro + k, none⟩ = some (.slice (nthR rows k).sp (nthR rows k).len (nthR rows k).cap) := hcs k _ (by rw [List.getElem?_map, nthR_at hkl]; rfl)
      have hcl := catW_succ hkl
      have hc64 := catW_le hr64'h.out k (by omega)
      have hc65 := catW_le hr64'h.out (k + 1) (by omega)
      have hl := hrl'h.out _ (nthR_mem hkl)
      have hnx : ((catW rows k).length : Int) + ((nthR rows k).len : Int) = ((catW rows (k + 1)).length : Nat) := by rw [hcl, List.length_append, hl]; push_cast; rfl
      generalize (catW rows k).length = a at *
      obtain ⟨b, hbe⟩ : ∃ b, b = (catW rows (k + 1)).length := ⟨_, rfl⟩
      rw [← hbe] at hnx hc65
      generalize nthR rows k = r at *
      obtain ⟨rs, rl, rc, rws⟩ := r
      simp only at c1 hnx
      have hi1 : (k : Int) < (n : Int) := by omega
      have h0k : (0 : Int) ≤ (k : Int) := by omega
      have hb0 : ¬ ((b : Int) < 0) := by omega
      have hwr : IntKind.i64.wrap (b : Int) = (b : Int) := Go.IntWalk.i64_in _ (by omega)
      have hnx2 : IntKind.i64.wrap ((a : Int) + (rl : Int)) = (b : Int) := by rw [hnx]; exact hwr
      have hnx3 : RowKit.wrap64 ((a : Int) + (rl : Int)) = (b : Int) := (Go.IntWalk.i64_left _).symm.trans hnx2
      clear hlt hcs hcl hl hwr
      have hq'h := Lib.hid hq
      have hB'h := Lib.hid hB
      have hkl'h := Lib.hid hkl
      have hc64'h := Lib.hid hc64
      have hc65'h := Lib.hid hc65
      have hnx'h := Lib.hid hnx
      have hbe'h := Lib.hid hbe
      clear hq hB hkl hc64 hc65 hnx hbe
      go_wp2
      go_roundg (gk - 1)
      case measure => have := hq'h.out; omega
      case rel => exact ⟨k + 1, by have := hq'h.out; omega, by go_num, by rw [← hbe'h.out], hB'h.out⟩
    · have hkn : k = n := by omega
      subst hkn
      have hi1 : ¬ (k : Int) < (k : Int) := by omega
      have G := grow64_any (catW rows k).length wr hpos'h.out (by have := hle'h.out; omega)
      clear hlt
      have hq'h := Lib.hid hq
      have hB'h := Lib.hid hB
      have G'h := Lib.hid G
      clear hq hB G
      go_wp2_with (go_at_call 80; refine G'h.out.mono ?_; rintro e w5 ⟨s5, c5, rfl, hb5, hrow5, hns⟩)
      have B5 := below_next hB'h.out hb5
      have hrow5 := ownsRow_mono hrow5 hB'h.out.size
      clear hb5 hns hB'h G'h
      obtain ⟨go, rfl⟩ : ∃ go : Nat, go = gk := ⟨_, rfl⟩
      have B5'h := Lib.hid B5
      have hrow5'h := Lib.hid hrow5
      clear B5 hrow5
      go_loopg [6, 27] k (fun q x i wr => ∃ (j : Nat) (v : Value), v = x ∧ j + q = k ∧ i = .int .i64 j ∧ Below w.heap.size w wr ∧ wr.ownsRow w.heap.size 29 1 v (catW rows j).length (u64s (catW rows j)))
      case atStart => exact ⟨0, _, rfl, by omega, rfl, B5'h.out, hrow5'h.out⟩
      case round =>
        obtain ⟨j, v, rfl, hq2, rfl, hB, hrow⟩ := hrel
        clear B5'h hrow5'h
        by_cases hlt : j < k
        · have hjl : j < rows.length := by have := hlen'h.out; omega
          obtain ⟨rb, ro, rfl, hcs⟩ := ((SlK.of_sl hS'h.out).below hB).sl.some' (by omega)
          have c1 : wr.cell? ⟨rb, ro + j, none⟩ = some (.slice (nthR rows j).sp (nthR rows j).len (nthR rows j).cap) := hcs j _ (by rw [List.getElem?_map, nthR_at hjl]; rfl)
          have hcl := catW_succ hjl
          have hc64 := catW_le hr64'h.out j (by omega)
          have hl := hrl'h.out _ (nthR_mem hjl)
          have hrS := (SlK.of_sl (hR'h.out _ (nthR_mem hjl))).below hB
          have hw64 := hr64'h.out _ (nthR_mem hjl)
          generalize catW rows j = A at *
          obtain ⟨A', hA'⟩ : ∃ A', A' = catW rows (j + 1) := ⟨_, rfl⟩
          rw [← hA'] at hcl
          generalize nthR rows j = r at *
          obtain ⟨rs, rl, rc, rws⟩ := r
          simp only at c1 hl hrS hw64 hcl
          have hi1 : (j : Int) < (k : Int) := by omega
          have h0k : (0 : Int) ≤ (j : Int) := by omega
          have hone := u64s_one' rws
          have hAl : (A ++ rws).length = A.length + rl := by rw [List.length_append, hl]
          have hrl64 : rl ≤ 64 := by omega
          clear hlt hcs hl hw64
          have hq2'h := Lib.hid hq2
          have hB'h := Lib.hid hB
          have hrow'h := Lib.hid hrow
          have hrS'h := Lib.hid hrS
          have hone'h := Lib.hid hone
          have hcl'h := Lib.hid hcl
          have hjl'h := Lib.hid hjl
          have hAl'h := Lib.hid hAl
          have hA''h := Lib.hid hA'
          clear hq2 hB hrow hrS hone hcl hjl hAl hA'
          go_wp2_with (at_builtin; refine wpList_append_slk _ rfl (.tmp 31) (.tmp 32) 22 rfl w.heap.size 29 i0 (.int .u64 0) 1 8 Try.underlying22 hi hz hs hby rfl (by decide) v A.length _ rfl hrow'h.out rs rl rc _ rfl hrS'h.out hone'h.out (by unfold maxLen; omega) (by omega) hB'h.out.size ?_; intro v' w9 hown' hgrow hwh)
          have B9 : Below w.heap.size w w9 := hB'h.out.grown hgrow hB'h.out.size (fun q hq => And.left <| hrow'h.out.lt q hq)
          rw [u64s_app, ← hAl'h.out, ← hcl'h.out] at hown'
          clear hgrow hwh
          have B9'h := Lib.hid B9
          have hown''h := Lib.hid hown'
          clear B9 hown'
          go_wp2
          go_roundg (gk - 1)
          case measure => have := hq2'h.out; omega
          case rel => exact ⟨j + 1, v', rfl, by have := hq2'h.out; omega, by go_num, B9'h.out, by rw [← hA''h.out]; exact hown''h.out⟩
        · have hjk : j = k := by omega
          subst hjk
          have hi1 : ¬ (j : Int) < (j : Int) := by omega
          obtain ⟨s9, c9, rfl, -, -, -⟩ := row_form hrow
          clear hlt
          have hq2'h := Lib.hid hq2
          have hB'h := Lib.hid hB
          have hrow'h := Lib.hid hrow
          clear hq2 hB hrow
          go_wp2
          go_ret
          exact ⟨s9, c9, rfl, hB'h.out, hrow'h.out⟩
/-- Noughts behind words. -/
theorem padded_any (B g cap : Nat) (ws : List Nat) (w : World) (h : w.ownsRow B 29 1 (.slice (some ⟨g, 0, none⟩) 38 cap) 38 (u64s ws)) (hB : B ≤ w.heap.size) :
    Calls Try.prog 54 #[.slice (some ⟨g, 0, none⟩) 38 cap] w fun e w' => ∃ s c, e = .returned (.slice s 40 c) ∧ Below B w w' ∧ w'.ownsRow B 29 1 (.slice s 40 c) 40 (u64s (ws ++ [0, 0])) := by
  have R := fun ty => zeros_own B g 38 cap 2 ws ty w h (by decide) (by decide) hB
  have R'h := Lib.hid R
  clear R
  go_enter Try.func54, Try.ntmps54
  go_wp2_with (at_builtin; obtain ⟨v', w', hr, hrow, hb⟩ := R'h.out _; refine Lib.wpList_append_run _ rfl _ _ _ _ rfl _ _ rfl rfl _ _ hr ?_)
  obtain ⟨s9, c9, rfl, -, -, -⟩ := row_form hrow
  go_ret
  exact ⟨s9, c9, rfl, hb, hrow⟩
end Go.Proofs.Ytoklgjlmjkhmbaa

/-
  Package layout: which tables may be flat.
-/
set_option linter.unusedSimpArgs false
set_option linter.unusedVariables false
set_option maxRecDepth 100000
namespace Go.Proofs.Ytoklgjlmjkhmbaa
open Go.RowKit

/-! ### tables -/
structure Tb where
  cnt : Nat
  depth : Int
  pfx : Nat
  can : Int
  live : Int
  ct : Nat → Nat
  ks : Nat → Nat
  vs : Nat → Nat
structure TbOk (t : Tb) : Prop where
  cnt : t.cnt < 2 ^ 64
  depth : -9223372036854775808 ≤ t.depth ∧ t.depth ≤ 9223372036854775807
  pfx : t.pfx < 2 ^ 64
  can : -9223372036854775808 ≤ t.can ∧ t.can ≤ 9223372036854775807
  live : -9223372036854775808 ≤ t.live ∧ t.live ≤ 9223372036854775807
  ct : ∀ i, t.ct i < 2 ^ 64
  ks : ∀ i, t.ks i < 2 ^ 64
  vs : ∀ i, t.vs i < 2 ^ 64
def tbA (t : Tb) : Array Value := #[.int .u64 (t.cnt : Int), .int .i64 t.depth, .int .u64 (t.pfx : Int), .int .i64 t.can, .int .i64 t.live, .int .u64 (t.ct 0 : Int), .int .u64 (t.ct 1 : Int),
  .int .u64 (t.ks 0 : Int), .int .u64 (t.ks 1 : Int), .int .u64 (t.ks 2 : Int), .int .u64 (t.ks 3 : Int), .int .u64 (t.ks 4 : Int), .int .u64 (t.ks 5 : Int), .int .u64 (t.ks 6 : Int), .int .u64 (t.ks 7 : Int), .int .u64 (t.ks 8 : Int), .int .u64 (t.ks 9 : Int), .int .u64 (t.ks 10 : Int), .int .u64 (t.ks 11 : Int), .int .u64 (t.ks 12 : Int), .int .u64 (t.ks 13 : Int), .int .u64 (t.ks 14 : Int), .int .u64 (t.ks 15 : Int),
  .int .u64 (t.vs 0 : Int), .int .u64 (t.vs 1 : Int), .int .u64 (t.vs 2 : Int), .int .u64 (t.vs 3 : Int), .int .u64 (t.vs 4 : Int), .int .u64 (t.vs 5 : Int), .int .u64 (t.vs 6 : Int), .int .u64 (t.vs 7 : Int), .int .u64 (t.vs 8 : Int), .int .u64 (t.vs 9 : Int), .int .u64 (t.vs 10 : Int), .int .u64 (t.vs 11 : Int), .int .u64 (t.vs 12 : Int), .int .u64 (t.vs 13 : Int), .int .u64 (t.vs 14 : Int), .int .u64 (t.vs 15 : Int)]
theorem tbA_size (t : Tb) : (tbA t).size = 39 := rfl
theorem info_tb : (Try.prog.info? 59).map (·.size) = some 39 := by kernel_rfl
def inB (n most : Int) : Bool := decide (0 ≤ n) && decide (n ≤ most)
theorem flat1_any (n most : Int) (w : World) : Calls Try.prog 79 #[.int .i64 n, .int .i64 most] w fun e w' => e = .returned (.bool (inB n most)) ∧ w' = w := by
  unfold inB
  by_cases h1 : 0 ≤ n
  · by_cases h2 : n ≤ most
    · rw [decide_eq_true h1, decide_eq_true h2]
      go_enter Try.func79, Try.ntmps79
      go_wp2
      go_ret
      exact ⟨rfl, rfl⟩
    · rw [decide_eq_true h1, decide_eq_false h2]
      go_enter Try.func79, Try.ntmps79
      go_wp2
      go_ret
      exact ⟨rfl, rfl⟩
  · rw [decide_eq_false h1, Bool.false_and]
    go_enter Try.func79, Try.ntmps79
    go_wp2
    go_ret
    exact ⟨rfl, rfl⟩
def shB (t : Tb) : Bool := ((t.pfx : Int) / 2 ^ t.depth.toNat == 0)
def flatB (t : Tb) : Bool := inB t.depth 5 && (shB t && (inB t.can 14 && inB t.live 14))
set_option maxHeartbeats 4000000 in
theorem flat_any (t : Tb) (w : World) : Calls Try.prog 53 #[.agg (tbA t)] w fun e w' => e = .returned (.bool (flatB t)) ∧ Below w.heap.size w w' := by
  have D := fun w => flat1_any t.depth 5 w
  have C := fun w => flat1_any t.can 14 w
  have Lv := fun w => flat1_any t.live 14 w
  have H0 := (Hs.nil w).new (tbA t) 59
  obtain ⟨W0, hW0⟩ : ∃ W0, W0 = w.alloc (.cells (tbA t) 59) := ⟨_, rfl⟩
  rw [← hW0] at H0
  have q1 : W0.cell? ⟨w.heap.size, 1, none⟩ = some (.int .i64 t.depth) := blk_cell H0.rows.1 rfl
  have q2 : W0.cell? ⟨w.heap.size, 2, none⟩ = some (.int .u64 (t.pfx : Int)) := blk_cell H0.rows.1 rfl
  have q3 : W0.cell? ⟨w.heap.size, 3, none⟩ = some (.int .i64 t.can) := blk_cell H0.rows.1 rfl
  have q4 : W0.cell? ⟨w.heap.size, 4, none⟩ = some (.int .i64 t.live) := blk_cell H0.rows.1 rfl
  unfold flatB
  cases e1 : inB t.depth 5 with
  | false =>
    rw [e1] at D
    rw [Bool.false_and]
    have D'h := Lib.hid D
    have C'h := Lib.hid C
    have Lv'h := Lib.hid Lv
    have H0'h := Lib.hid H0
    have e1'h := Lib.hid e1
    clear D C Lv H0 e1
    go_enter Try.func53, Try.ntmps53
    go_upto_region 1 with fail
    rw [← hW0]
    clear hW0
    go_wp2_with (go_at_call 79; first | (with_reducible refine (D'h.out _).mono ?_; rintro e w2 ⟨rfl, rfl⟩) | (with_reducible refine (C'h.out _).mono ?_; rintro e w2 ⟨rfl, rfl⟩) | (with_reducible refine (Lv'h.out _).mono ?_; rintro e w2 ⟨rfl, rfl⟩))
    go_ret
    exact ⟨rfl, H0'h.out.old⟩
  | true =>
    have hd : 0 ≤ t.depth ∧ t.depth ≤ 5 := by unfold inB at e1; simpa using e1
    have d0 := hd.1
    have d64 : t.depth ≤ 64 := by omega
    rw [e1] at D
    rw [Bool.true_and]
    cases e2 : shB t with
    | false =>
      have z1 : ((t.pfx : Int) / 2 ^ t.depth.toNat == 0) = false := e2
      rw [Bool.false_and]
      have D'h := Lib.hid D
      have C'h := Lib.hid C
      have Lv'h := Lib.hid Lv
      have H0'h := Lib.hid H0
      have e1'h := Lib.hid e1
      have e2'h := Lib.hid e2
      have hd'h := Lib.hid hd
      clear D C Lv H0 e1 e2 hd
      go_enter Try.func53, Try.ntmps53
      go_upto_region 1 with fail
      rw [← hW0]
      clear hW0
      go_wp2_with (go_at_call 79; first | (with_reducible refine (D'h.out _).mono ?_; rintro e w2 ⟨rfl, rfl⟩) | (with_reducible refine (C'h.out _).mono ?_; rintro e w2 ⟨rfl, rfl⟩) | (with_reducible refine (Lv'h.out _).mono ?_; rintro e w2 ⟨rfl, rfl⟩))
      go_ret
      exact ⟨rfl, H0'h.out.old⟩
    | true =>
      have z1 : ((t.pfx : Int) / 2 ^ t.depth.toNat == 0) = true := e2
      rw [Bool.true_and]
      cases e3 : inB t.can 14 with
      | false =>
        rw [e3] at C
        rw [Bool.false_and]
        have D'h := Lib.hid D
        have C'h := Lib.hid C
        have Lv'h := Lib.hid Lv
        have H0'h := Lib.hid H0
        have e1'h := Lib.hid e1
        have e2'h := Lib.hid e2
        have e3'h := Lib.hid e3
        have hd'h := Lib.hid hd
        clear D C Lv H0 e1 e2 e3 hd
        go_enter Try.func53, Try.ntmps53
        go_upto_region 1 with fail
        rw [← hW0]
        clear hW0
        go_wp2_with (go_at_call 79; first | (with_reducible refine (D'h.out _).mono ?_; rintro e w2 ⟨rfl, rfl⟩) | (with_reducible refine (C'h.out _).mono ?_; rintro e w2 ⟨rfl, rfl⟩) | (with_reducible refine (Lv'h.out _).mono ?_; rintro e w2 ⟨rfl, rfl⟩))
        go_ret
        exact ⟨rfl, H0'h.out.old⟩
      | true =>
        rw [e3] at C
        rw [Bool.true_and]
        obtain ⟨lv, elv⟩ : ∃ lv, inB t.live 14 = lv := ⟨_, rfl⟩
        rw [elv] at Lv ⊢
        have D'h := Lib.hid D
        have C'h := Lib.hid C
        have Lv'h := Lib.hid Lv
        have H0'h := Lib.hid H0
        have e1'h := Lib.hid e1
        have e2'h := Lib.hid e2
        have e3'h := Lib.hid e3
        have hd'h := Lib.hid hd
        have elv'h := Lib.hid elv
        clear D C Lv H0 e1 e2 e3 hd elv
        go_enter Try.func53, Try.ntmps53
        go_upto_region 1 with fail
        rw [← hW0]
        clear hW0
        go_wp2_with (go_at_call 79; first | (with_reducible refine (D'h.out _).mono ?_; rintro e w2 ⟨rfl, rfl⟩) | (with_reducible refine (C'h.out _).mono ?_; rintro e w2 ⟨rfl, rfl⟩) | (with_reducible refine (Lv'h.out _).mono ?_; rintro e w2 ⟨rfl, rfl⟩))
        go_ret
        exact ⟨rfl, H0'h.out.old⟩
end Go.Proofs.Ytoklgjlmjkhmbaa

/-
  Package layout: a table's words.
-/
set_option linter.unusedSimpArgs false
set_option linter.unusedVariables false
set_option maxRecDepth 100000
namespace Go.Proofs.Ytoklgjlmjkhmbaa
open Go.RowKit

/-- A slice of a part of a block. -/
theorem sl_part {w : World} {b off n : Nat} {cs : Array Value} {t : TypeId} {fz : Nat × Nat} {vals : List Value} (h : w.heap[b]? = some (.cells cs t fz)) (hv : (cs.toList.drop off).take n = vals) (hl : vals.length = n) (hm : n ≤ maxLen) : Sl w (some ⟨b, off, none⟩) n vals := by
  refine ⟨hl.symm, hm, .inr ⟨b, off, rfl, fun j u hu => ?_⟩⟩
  refine blk_cell h ?_
  rw [← hv, List.getElem?_take] at hu
  split at hu
  · rw [List.getElem?_drop] at hu; simpa using hu
  · cases hu
def rng16 (f : Nat → Nat) : List Nat := [f 0, f 1, f 2, f 3, f 4, f 5, f 6, f 7, f 8, f 9, f 10, f 11, f 12, f 13, f 14, f 15]
def tabL (t : Tb) (d1 cn lv : Nat) : List Nat := [t.cnt, d1, cn, lv] ++ ([t.ct 0, t.ct 1] ++ (rng16 t.ks ++ rng16 t.vs))
theorem flat_parts {t : Tb} (h : flatB t = true) : (0 ≤ t.depth ∧ t.depth ≤ 5) ∧ (0 ≤ t.can ∧ t.can ≤ 14) ∧ (0 ≤ t.live ∧ t.live ≤ 14) := by
  unfold flatB inB at h
  simp at h
  exact ⟨h.1, h.2.2.1, h.2.2.2⟩
set_option maxHeartbeats 4000000 in
theorem tableWords_yes (t : Tb) (w : World) (hk : TbOk t) (hf : flatB t = true) : Calls Try.prog 28 #[.agg (tbA t)] w fun e w' => ∃ d1 cn lv s c, d1 < 2 ^ 64 ∧ cn < 2 ^ 64 ∧ lv < 2 ^ 64 ∧ e = .returned (.tuple #[.slice s 40 c, .int .i64 0]) ∧ Below w.heap.size w w' ∧ w'.ownsRow w.heap.size 29 1 (.slice s 40 c) 40 (u64s (tabL t d1 cn lv ++ [0, 0])) := by
  obtain ⟨⟨a1, a2⟩, ⟨a3, a4⟩, ⟨a5, a6⟩⟩ := flat_parts hf
  have F := fun w => flat_any t w
  rw [hf] at F
  have H0 := (Hs.nil w).new (tbA t) 59
  obtain ⟨W0, hW0⟩ : ∃ W0, W0 = w.alloc (.cells (tbA t) 59) := ⟨_, rfl⟩
  rw [← hW0] at H0
  obtain ⟨dn, hdn⟩ : ∃ dn : Nat, t.depth = dn := ⟨t.depth.toNat, by omega⟩
  obtain ⟨cn, hcn⟩ : ∃ cn : Nat, t.can = cn := ⟨t.can.toNat, by omega⟩
  obtain ⟨lv, hlv⟩ : ∃ lv : Nat, t.live = lv := ⟨t.live.toNat, by omega⟩
  have F'h := Lib.hid F
  have H0'h := Lib.hid H0
  have hk'h := Lib.hid hk
  have hf'h := Lib.hid hf
  clear F H0 hk hf
  go_enter Try.func28, Try.ntmps28
  go_upto_region 1 with fail
  rw [← hW0]
  clear hW0
  go_upto_region 3 with (first | guard_target = wpList _ _ _ (Oper.mk _ (.load _ (.tmp 1)) _ _ _ _ :: _) _ _; refine wpList_load_row rfl 59 (.tmp 1) rfl (w.heap.size) rfl 59 (tbA t) (0, 0) _ H0'h.out.rows.1 Try.underlying59 rfl info_tb ?_ | (go_at_call 53; refine (F'h.out _).mono ?_; rintro e w2 ⟨rfl, hb2⟩))
  have H2 := H0'h.out.next hb2
  have q0 : w2.cell? ⟨w.heap.size, 0, none⟩ = some (.int .u64 (t.cnt : Int)) := blk_cell H2.rows.1 rfl
  have q1 : w2.cell? ⟨w.heap.size, 1, none⟩ = some (.int .i64 (dn : Int)) := by rw [← hdn]; exact blk_cell H2.rows.1 rfl
  have q2 : w2.cell? ⟨w.heap.size, 2, none⟩ = some (.int .u64 (t.pfx : Int)) := blk_cell H2.rows.1 rfl
  have q3 : w2.cell? ⟨w.heap.size, 3, none⟩ = some (.int .i64 (cn : Int)) := by rw [← hcn]; exact blk_cell H2.rows.1 rfl
  have q4 : w2.cell? ⟨w.heap.size, 4, none⟩ = some (.int .i64 (lv : Int)) := by rw [← hlv]; exact blk_cell H2.rows.1 rfl
  have w1 : IntKind.u64.wrap (dn : Int) = (dn : Int) := by rw [IntKind.wrap_u64]; omega
  have w2' : IntKind.u64.wrap (cn : Int) = (cn : Int) := by rw [IntKind.wrap_u64]; omega
  have w3 : IntKind.u64.wrap (lv : Int) = (lv : Int) := by rw [IntKind.wrap_u64]; omega
  have hcn14 : cn ≤ 14 := by omega
  have hlv14 : lv ≤ 14 := by omega
  have hdn5 : dn ≤ 5 := by omega
  clear hb2 hdn hcn hlv a1 a2 a3 a4 a5 a6 H0'h
  have H2'h := Lib.hid H2
  have hcn14'h := Lib.hid hcn14
  have hlv14'h := Lib.hid hlv14
  have hdn5'h := Lib.hid hdn5
  clear H2 hcn14 hlv14 hdn5
  go_upto_region 4 with fail
  obtain ⟨d1, hd1, hX⟩ : ∃ d1 : Nat, d1 < 2 ^ 64 ∧ bits .or .u64 (dn : Int) (IntKind.u64.wrap ((t.pfx : Int) * 256)) = (d1 : Int) := by
    refine ⟨dn ||| (t.pfx * 256 % 2 ^ 64), Nat.or_lt_two_pow (by have := hdn5'h.out; omega) (Nat.mod_lt _ (by decide)), ?_⟩
    have e : IntKind.u64.wrap ((t.pfx : Int) * 256) = ((t.pfx * 256 % 2 ^ 64 : Nat) : Int) := by rw [IntKind.wrap_u64]; omega
    rw [e, u64_or_nat _ _ (by have := hdn5'h.out; omega) (Nat.mod_lt _ (by decide))]
  rw [hX]
  have H3 := (H2'h.out.new #[.int .u64 (t.cnt : Int), .int .u64 (d1 : Int), .int .u64 (cn : Int), .int .u64 (lv : Int)] 29).drew
  change Code.wp _ _ _ _ (w2.alloc (.cells #[.int .u64 (t.cnt : Int), .int .u64 (d1 : Int), .int .u64 (cn : Int), .int .u64 (lv : Int)] 29))
  refine wp_region_heldQ (fun w' => w'.heap[w.heap.size]? = some (.cells (tbA t) 59 (0, 0))) 99 (by kernel_rfl) ?_
  obtain ⟨bh, hbh⟩ : ∃ bh, bh = w2.heap.size := ⟨_, rfl⟩
  rw [← hbh] at H3 ⊢
  generalize (w2.alloc _).drew = V0 at H3 ⊢
  clear hX hbh q0 q1 q2 q3 q4 H2'h
  have R := H3.rows.2.1
  refine wpAnyF_take (i := 0) (v := .slice (some ⟨bh, 0, none⟩) 4 4) rfl (by kernel_rfl) (by kernel_rfl) (by kernel_rfl) (by kernel_rfl) (fun _ _ _ h => h) (Or.inl ⟨by kernel_rfl, fun w hSw => by (try dsimp only at hSw); go_simp⟩) R ?_; try simp only [Act.put, List.getElem_toArray, List.getElem_cons_succ, List.getElem_cons_zero, List.setIfInBounds_toArray, List.set_cons_zero, List.set_cons_succ]
  refine wpAnyF_take (i := 1) (v := .pointer (some ⟨w.heap.size, 5, none⟩)) rfl (by kernel_rfl) (by kernel_rfl) (by kernel_rfl) (by kernel_rfl) (fun _ _ _ h => h) (Or.inl ⟨by kernel_rfl, fun w hSw => by (try dsimp only at hSw); go_simp⟩) R ?_; try simp only [Act.put, List.getElem_toArray, List.getElem_cons_succ, List.getElem_cons_zero, List.setIfInBounds_toArray, List.set_cons_zero, List.set_cons_succ]
  refine wpAnyF_take (i := 2) (v := .slice (some ⟨w.heap.size, 5, none⟩) 2 2) rfl (by kernel_rfl) (by kernel_rfl) (by kernel_rfl) (by kernel_rfl) (fun _ _ _ h => h) (Or.inl ⟨by kernel_rfl, fun w hSw => by (try dsimp only at hSw); go_simp⟩) R ?_; try simp only [Act.put, List.getElem_toArray, List.getElem_cons_succ, List.getElem_cons_zero, List.setIfInBounds_toArray, List.set_cons_zero, List.set_cons_succ]
  refine wpAnyF_take (i := 3) (v := .pointer (some ⟨w.heap.size, 7, none⟩)) rfl (by kernel_rfl) (by kernel_rfl) (by kernel_rfl) (by kernel_rfl) (fun _ _ _ h => h) (Or.inl ⟨by kernel_rfl, fun w hSw => by (try dsimp only at hSw); go_simp⟩) R ?_; try simp only [Act.put, List.getElem_toArray, List.getElem_cons_succ, List.getElem_cons_zero, List.setIfInBounds_toArray, List.set_cons_zero, List.set_cons_succ]
  refine wpAnyF_take (i := 4) (v := .slice (some ⟨w.heap.size, 7, none⟩) 16 16) rfl (by kernel_rfl) (by kernel_rfl) (by kernel_rfl) (by kernel_rfl) (fun _ _ _ h => h) (Or.inl ⟨by kernel_rfl, fun w hSw => by (try dsimp only at hSw); go_simp⟩) R ?_; try simp only [Act.put, List.getElem_toArray, List.getElem_cons_succ, List.getElem_cons_zero, List.setIfInBounds_toArray, List.set_cons_zero, List.set_cons_succ]
  refine wpAnyF_take (i := 5) (v := .pointer (some ⟨w.heap.size, 23, none⟩)) rfl (by kernel_rfl) (by kernel_rfl) (by kernel_rfl) (by kernel_rfl) (fun _ _ _ h => h) (Or.inl ⟨by kernel_rfl, fun w hSw => by (try dsimp only at hSw); go_simp⟩) R ?_; try simp only [Act.put, List.getElem_toArray, List.getElem_cons_succ, List.getElem_cons_zero, List.setIfInBounds_toArray, List.set_cons_zero, List.set_cons_succ]
  refine wpAnyF_take (i := 6) (v := .slice (some ⟨w.heap.size, 23, none⟩) 16 16) rfl (by kernel_rfl) (by kernel_rfl) (by kernel_rfl) (by kernel_rfl) (fun _ _ _ h => h) (Or.inl ⟨by kernel_rfl, fun w hSw => by (try dsimp only at hSw); go_simp⟩) R ?_; try simp only [Act.put, List.getElem_toArray, List.getElem_cons_succ, List.getElem_cons_zero, List.setIfInBounds_toArray, List.set_cons_zero, List.set_cons_succ]
  refine wpAnyF_one (i := 7) (by kernel_rfl) rfl (fun K hK => ?_)
  go_simp
  have H4 := H3.new #[.slice (some ⟨bh, 0, none⟩) 4 4, .slice (some ⟨w.heap.size, 5, none⟩) 2 2, .slice (some ⟨w.heap.size, 7, none⟩) 16 16, .slice (some ⟨w.heap.size, 23, none⟩) 16 16] 22
  generalize V0.alloc _ = V1 at H4 ⊢
  obtain ⟨bx, hbx⟩ : ∃ bx, bx = V0.heap.size := ⟨_, rfl⟩
  rw [← hbx] at H4 ⊢
  clear R H3 hbx
  have R := H4.rows.2.2.1
  refine hK.out _ _ (fun _ => R) ?_; clear hK K; try simp only [Act.put, List.getElem_toArray, List.getElem_cons_succ, List.getElem_cons_zero, List.setIfInBounds_toArray, List.set_cons_zero, List.set_cons_succ]
  refine wpAnyF_one (i := 8) (by kernel_rfl) rfl (fun K hK => ?_)
  go_simp
  have C := concat64_any (some ⟨bx, 0, none⟩) 4 4 [⟨some ⟨bh, 0, none⟩, 4, 4, [t.cnt, d1, cn, lv]⟩, ⟨some ⟨w.heap.size, 5, none⟩, 2, 2, [t.ct 0, t.ct 1]⟩, ⟨some ⟨w.heap.size, 7, none⟩, 16, 16, rng16 t.ks⟩, ⟨some ⟨w.heap.size, 23, none⟩, 16, 16, rng16 t.vs⟩] V1 (sl_part (off := 0) H4.rows.1 rfl rfl (by decide)) (fun r hr => by
    rcases List.mem_cons.1 hr with rfl | hr
    · exact sl_part (off := 0) (n := 4) H4.rows.2.1 rfl rfl (show (4 : Nat) ≤ maxLen by decide)
    rcases List.mem_cons.1 hr with rfl | hr
    · exact sl_part (off := 5) (n := 2) H4.rows.2.2.1 rfl rfl (show (2 : Nat) ≤ maxLen by decide)
    rcases List.mem_cons.1 hr with rfl | hr
    · exact sl_part (off := 7) (n := 16) H4.rows.2.2.1 rfl rfl (show (16 : Nat) ≤ maxLen by decide)
    rw [List.mem_singleton.1 hr]
    exact sl_part (off := 23) (n := 16) H4.rows.2.2.1 rfl rfl (show (16 : Nat) ≤ maxLen by decide)) (by decide) (fun r hr => by
    rcases List.mem_cons.1 hr with rfl | hr
    · exact Nat.le_of_ble_eq_true rfl
    rcases List.mem_cons.1 hr with rfl | hr
    · exact Nat.le_of_ble_eq_true rfl
    rcases List.mem_cons.1 hr with rfl | hr
    · exact Nat.le_of_ble_eq_true rfl
    rw [List.mem_singleton.1 hr]
    exact Nat.le_of_ble_eq_true rfl) (Nat.lt_of_lt_of_le (by decide : 0 < 38) (Nat.le_of_ble_eq_true rfl))
  refine (show Calls Try.prog 55 #[.slice (some ⟨bx, 0, none⟩) 4 4] V1 (fun e w' => ∃ s c, e = .returned (.slice s 38 c) ∧ Below V1.heap.size V1 w' ∧ w'.ownsRow V1.heap.size 29 1 (.slice s 38 c) 38 (u64s (tabL t d1 cn lv))) from C).mono ?_
  clear C
  rintro e V2 ⟨s9, c9, rfl, hb2, hrow2⟩
  obtain ⟨g9, cur9, rfl, hge9, -, -, -, -, -⟩ := row_block hrow2 (by decide)
  dsimp only
  have H5 := H4.next hb2
  clear R
  have R := H5.rows.2.2.1
  refine hK.out _ _ (fun _ => R) ?_; clear hK K; try simp only [Act.put, List.getElem_toArray, List.getElem_cons_succ, List.getElem_cons_zero, List.setIfInBounds_toArray, List.set_cons_zero, List.set_cons_succ]
  refine wpAnyF_one (i := 9) (by kernel_rfl) rfl (fun K hK => ?_)
  go_simp
  refine (padded_any V1.heap.size g9 c9 (tabL t d1 cn lv) V2 hrow2 hb2.size).mono ?_
  rintro e V3 ⟨s10, c10, rfl, hb3, hrow3⟩
  dsimp only
  have hlt1 : w.heap.size < V1.heap.size := H4.lt _ (List.mem_cons_of_mem _ (List.mem_cons_of_mem _ (List.mem_cons_self ..)))
  have B3 : Below w.heap.size w V3 := H5.old.trans (hb3.mono (Nat.le_of_lt hlt1))
  have R3 : V3.heap[w.heap.size]? = some (.cells (tbA t) 59 (0, 0)) := (hb3.block _ hlt1).trans R
  refine hK.out _ _ (fun _ => R3) ?_; clear hK K; try simp only [Act.put, List.getElem_toArray, List.getElem_cons_succ, List.getElem_cons_zero, List.setIfInBounds_toArray, List.set_cons_zero, List.set_cons_succ]
  refine wpAnyF_one (i := 10) (by kernel_rfl) rfl (fun K hK => ?_); go_simp
  refine hK.out _ _ (fun _ => R3) ?_; clear hK K; try simp only [Act.put, List.getElem_toArray, List.getElem_cons_succ, List.getElem_cons_zero, List.setIfInBounds_toArray, List.set_cons_zero, List.set_cons_succ]
  refine wpAnyF_one (i := 11) (by kernel_rfl) rfl (fun K hK => ?_); go_simp
  refine hK.out _ _ (fun _ => R3) ?_; clear hK K; try simp only [Act.put, List.getElem_toArray, List.getElem_cons_succ, List.getElem_cons_zero, List.setIfInBounds_toArray, List.set_cons_zero, List.set_cons_succ]
  refine wpAnyF_done (by kernel_rfl) ?_ _
  refine noPanic_normal ?_
  have hrow4 := ownsRow_mono hrow3 (Nat.le_of_lt hlt1)
  clear R R3 hb3 hrow3 H4 H5 hb2 hrow2
  have B3'h := Lib.hid B3
  have hrow4'h := Lib.hid hrow4
  clear B3 hrow4
  go_wp2
  go_ret2
  exact ⟨d1, cn, lv, s10, c10, hd1, by have := hcn14'h.out; omega, by have := hlv14'h.out; omega, rfl, B3'h.out, hrow4'h.out⟩
theorem tableWords_no (t : Tb) (w : World) (hf : flatB t = false) : Calls Try.prog 28 #[.agg (tbA t)] w fun e w' => e = .returned (.tuple #[.slice none 0 0, .int .i64 260]) ∧ Below w.heap.size w w' := by
  have F := fun w => flat_any t w
  rw [hf] at F
  have H0 := (Hs.nil w).new (tbA t) 59
  obtain ⟨W0, hW0⟩ : ∃ W0, W0 = w.alloc (.cells (tbA t) 59) := ⟨_, rfl⟩
  rw [← hW0] at H0
  have F'h := Lib.hid F
  have H0'h := Lib.hid H0
  have hf'h := Lib.hid hf
  clear F H0 hf
  go_enter Try.func28, Try.ntmps28
  go_upto_region 1 with fail
  rw [← hW0]
  clear hW0
  go_wp2_with (first | guard_target = wpList _ _ _ (Oper.mk _ (.load _ (.tmp 1)) _ _ _ _ :: _) _ _; refine wpList_load_row rfl 59 (.tmp 1) rfl (w.heap.size) rfl 59 (tbA t) (0, 0) _ H0'h.out.rows.1 Try.underlying59 rfl info_tb ?_ | (go_at_call 53; refine (F'h.out _).mono ?_; rintro e w2 ⟨rfl, hb2⟩))
  go_ret2
  exact ⟨rfl, (H0'h.out.next hb2).old⟩
end Go.Proofs.Ytoklgjlmjkhmbaa

/-
  LookFinds: what all loads come to, in plain Lean.
-/
set_option linter.unusedSimpArgs false
set_option linter.unusedVariables false
set_option maxRecDepth 100000
namespace Go.Proofs.Ytoklgjlmjkhmbaa
open Go.RowKit

theorem lanes_cons : ∀ m : Fin 256, m.val ≠ 0 → lanesOf m.val = firstLane m.val :: lanesOf (dropM m.val) := by decide +kernel
theorem lanes_zero : lanesOf 0 = [] := by decide
theorem lanes_some : ∀ m : Fin 256, m.val ≠ 0 → lanesOf m.val ≠ [] := by decide +kernel
/-- The word of a slab. -/
def slabW (ws : List Nat) (slab i : Nat) : Nat := nthN ws (16 + 40 * slab + i)
def keyW (ws : List Nat) (slab g i : Nat) : Nat := slabW ws slab (6 + (8 * g + i))
def valW (ws : List Nat) (slab g i : Nat) : Nat := slabW ws slab (22 + (8 * g + i))
theorem onS_phase (s : Sg) (p : Int) : onS { s with phase := p } = onS s := by unfold onS; rfl
theorem lanes_none (ws : List Nat) (slab g : Nat) : ∀ (k m : Nat) (s : Sg), m ≤ k → m < 256 → s.left = m → s.slab = (slab : Int) → grpS s = g → (∀ i ∈ lanesOf m, keyW ws slab g i ≠ s.key) →
    ∀ q n, runF ws (q + (lanesOf m).length) (onS s) n = runF ws q (onS { s with left := 0 }) (n + (lanesOf m).length)
  | k, m, s, hk, hm, hl, hs, hg, hno, q, n => by
    by_cases h0 : m = 0
    · subst h0
      rw [lanes_zero]
      have : ({ s with left := 0 } : Sg) = s := by cases s; simp at hl; subst hl; rfl
      rw [this]; rfl
    · obtain ⟨k, rfl⟩ : ∃ k', k = k' + 1 := ⟨k - 1, by omega⟩
      have hc := lanes_cons ⟨m, hm⟩ h0
      have hd := dropM_less ⟨m, hm⟩ h0
      simp only at hc hd
      rw [hc, List.length_cons]
      have hon : onS s = { s with phase := 2 } := by unfold onS; rw [if_pos (by rw [hl]; exact h0)]
      have hcell : cellS { s with phase := 2 } = 16 + 40 * slab + (6 + (8 * g + firstLane m)) := by
        have : grpS { s with phase := 2 } = g := hg
        unfold cellS wordS
        rw [this]
        simp [hs, hl]
      have hkey := hno (firstLane m) (by rw [hc]; exact List.mem_cons_self ..)
      unfold keyW slabW at hkey
      rw [hon, show q + ((lanesOf (dropM m)).length + 1) = (q + (lanesOf (dropM m)).length) + 1 by omega, runF_step (by unfold hasS; simp), hcell]
      have htk : takeS { s with phase := 2 } (nthN ws (16 + 40 * slab + (6 + (8 * g + firstLane m)))) = onS { s with left := dropM m } := by
        unfold takeS
        rw [if_neg (show ¬ ((2 : Int) = 0) by decide), if_neg (show ¬ ((2 : Int) = 1) by decide), if_pos rfl, if_neg hkey]
        simp only [hl]
        exact onS_phase { s with left := dropM m } 2
      rw [htk, lanes_none ws slab g k (dropM m) { s with left := dropM m } (by omega) (by omega) rfl hs hg (fun i hi => hno i (by rw [hc]; exact List.mem_cons_of_mem _ hi)) q (n + 1)]
      congr 1
      omega
theorem lanes_hit (ws : List Nat) (slab g : Nat) : ∀ (k m : Nat) (s : Sg) (i : Nat), m ≤ k → m < 256 → s.left = m → s.slab = (slab : Int) → grpS s = g → ((lanesOf m).find? fun i => keyW ws slab g i == s.key) = some i →
    ∃ N m', 2 ≤ N ∧ N ≤ (lanesOf m).length + 1 ∧ ∀ q n, runF ws (q + N) (onS s) n = runF ws q { s with phase := 4, left := m', value := valW ws slab g i, found := true } (n + N)
  | k, m, s, i, hk, hm, hl, hs, hg, hfi => by
    by_cases h0 : m = 0
    · subst h0; rw [lanes_zero] at hfi; cases hfi
    · obtain ⟨k, rfl⟩ : ∃ k', k = k' + 1 := ⟨k - 1, by omega⟩
      have hc := lanes_cons ⟨m, hm⟩ h0
      have hd := dropM_less ⟨m, hm⟩ h0
      simp only at hc hd
      rw [hc, List.find?_cons] at hfi
      rw [hc, List.length_cons]
      have hon : onS s = { s with phase := 2 } := by unfold onS; rw [if_pos (by rw [hl]; exact h0)]
      have hcell : cellS { s with phase := 2 } = 16 + 40 * slab + (6 + (8 * g + firstLane m)) := by
        have : grpS { s with phase := 2 } = g := hg
        unfold cellS wordS
        rw [this]
        simp [hs, hl]
      by_cases hkey : keyW ws slab g (firstLane m) = s.key
      · have hb : (keyW ws slab g (firstLane m) == s.key) = true := by simp [hkey]
        rw [hb] at hfi
        have hfi : firstLane m = i := by simpa using hfi
        refine ⟨2, m, by omega, by omega, fun q n => ?_⟩
        rw [hon, show q + 2 = (q + 1) + 1 by omega, runF_step (by unfold hasS; simp), hcell]
        have htk : takeS { s with phase := 2 } (nthN ws (16 + 40 * slab + (6 + (8 * g + firstLane m)))) = { s with phase := 3 } := by
          unfold takeS
          unfold keyW slabW at hkey
          rw [if_neg (show ¬ ((2 : Int) = 0) by decide), if_neg (show ¬ ((2 : Int) = 1) by decide), if_pos rfl, if_pos hkey]
        have hcell3 : cellS { s with phase := 3 } = 16 + 40 * slab + (22 + (8 * g + firstLane m)) := by
          have : grpS { s with phase := 3 } = g := hg
          unfold cellS wordS
          rw [this]
          simp [hs, hl]
        rw [htk, runF_step (by unfold hasS; simp), hcell3]
        have htk3 : takeS { s with phase := 3 } (nthN ws (16 + 40 * slab + (22 + (8 * g + firstLane m)))) = { s with phase := 4, left := m, value := valW ws slab g i, found := true } := by
          unfold takeS
          rw [if_neg (show ¬ ((3 : Int) = 0) by decide), if_neg (show ¬ ((3 : Int) = 1) by decide), if_neg (show ¬ ((3 : Int) = 2) by decide), if_pos rfl, hfi]
          unfold valW slabW
          cases s; simp at hl; subst hl; rfl
        rw [htk3]
      · have hb : (keyW ws slab g (firstLane m) == s.key) = false := by simp [hkey]
        rw [hb] at hfi
        obtain ⟨N, m', h2, h3, hrun⟩ := lanes_hit ws slab g k (dropM m) { s with left := dropM m } i (by omega) (by omega) rfl hs hg hfi
        refine ⟨N + 1, m', by omega, by omega, fun q n => ?_⟩
        rw [hon, show q + (N + 1) = (q + N) + 1 by omega, runF_step (by unfold hasS; simp), hcell]
        have htk : takeS { s with phase := 2 } (nthN ws (16 + 40 * slab + (6 + (8 * g + firstLane m)))) = onS { s with left := dropM m } := by
          unfold takeS
          unfold keyW slabW at hkey
          rw [if_neg (show ¬ ((2 : Int) = 0) by decide), if_neg (show ¬ ((2 : Int) = 1) by decide), if_pos rfl, if_neg hkey]
          simp only [hl]
          exact onS_phase { s with left := dropM m } 2
        rw [htk, hrun q (n + 1)]
        congr 1
        omega
/-- What a group has of a key. -/
def hitW (ws : List Nat) (slab g key h2 : Nat) : Option Nat := (lanesOf (equalM (slabW ws slab (4 + g)) h2)).find? fun i => keyW ws slab g i == key
/-- What a row has of a key. -/
def lookW (ws : List Nat) (slab key h2 : Nat) : List Nat → Bool × Nat
  | [] => (false, 0)
  | g :: l => match hitW ws slab g key h2 with
    | some i => (true, valW ws slab g i)
    | none => if equalM (slabW ws slab (4 + g)) 128 ≠ 0 then (false, 0) else lookW ws slab key h2 l
/-- Behind the load of a control word. -/
theorem group_step (ws : List Nat) (slab : Nat) (s : Sg) (h1 : s.phase = 1) (hs : s.slab = (slab : Int)) (q n : Nat) :
    runF ws (q + 1) s n = runF ws q (onS { s with ctrl := slabW ws slab (4 + grpS s), left := equalM (slabW ws slab (4 + grpS s)) (s.hash % 128) }) (n + 1) := by
  rw [runF_step (by unfold hasS; rw [h1]; decide)]
  have hcell : cellS s = 16 + 40 * slab + (4 + grpS s) := by unfold cellS wordS; rw [if_pos h1, hs]; rfl
  have htk : takeS s (nthN ws (16 + 40 * slab + (4 + grpS s))) = onS { s with ctrl := nthN ws (16 + 40 * slab + (4 + grpS s)), left := equalM (nthN ws (16 + 40 * slab + (4 + grpS s))) (s.hash % 128) } := by
    unfold takeS
    rw [if_neg (by rw [h1]; decide), if_pos h1]
  rw [hcell, htk]
  rfl
theorem last_step (ws : List Nat) (slab : Nat) (s : Sg) (h4 : s.phase = 4) (hs : s.slab = (slab : Int)) (hb : s.began = slabW ws slab 0) (q n : Nat) :
    runF ws (q + 1) s n = ({ s with phase := 5 }, n + 1) := by
  rw [runF_step (by unfold hasS; rw [h4]; decide)]
  have hcell : cellS s = 16 + 40 * slab + 0 := by unfold cellS wordS; rw [if_neg (by rw [h4]; decide), if_neg (by rw [h4]; decide), if_neg (by rw [h4]; decide), hs]; rfl
  rw [hcell]
  have htk : takeS s (nthN ws (16 + 40 * slab + 0)) = { s with phase := 5 } := by
    unfold takeS
    rw [if_neg (by rw [h4]; decide), if_neg (by rw [h4]; decide), if_neg (by rw [h4]; decide), if_neg (by rw [h4]; decide), if_pos (by rw [hb]; rfl)]
  rw [htk, runF_stop (by unfold hasS; simp)]
/-- What a group makes of a look. -/
theorem group_run (ws : List Nat) (slab g key h2 : Nat) (s : Sg) (h1 : s.phase = 1) (hs : s.slab = (slab : Int)) (hg : grpS s = g) (hk : s.key = key) (hh : s.hash % 128 = h2) (hfd : s.found = false) (hv : s.value = 0) :
    match hitW ws slab g key h2 with
    | some i => ∃ N s', 3 ≤ N ∧ N ≤ (lanesOf (equalM (slabW ws slab (4 + g)) h2)).length + 2 ∧ s'.phase = 4 ∧ s'.slab = (slab : Int) ∧ s'.began = s.began ∧ s'.found = true ∧ s'.value = valW ws slab g i ∧ ∀ q n, runF ws (q + N) s n = runF ws q s' (n + N)
    | none => ∀ q n, runF ws (q + (1 + (lanesOf (equalM (slabW ws slab (4 + g)) h2)).length)) s n = runF ws q (onS { s with ctrl := slabW ws slab (4 + g), left := 0 }) (n + (1 + (lanesOf (equalM (slabW ws slab (4 + g)) h2)).length)) := by
  have hstep := group_step ws slab s h1 hs
  rw [hg, hh] at hstep
  obtain ⟨c, hc⟩ : ∃ c, c = slabW ws slab (4 + g) := ⟨_, rfl⟩
  unfold hitW
  rw [← hc] at hstep ⊢
  have hm : equalM c h2 < 256 := equalM_lt8 c h2
  cases hf : (lanesOf (equalM c h2)).find? fun i => keyW ws slab g i == key with
  | some i =>
    obtain ⟨N, m', a1, a2, hrun⟩ := lanes_hit ws slab g (equalM c h2) (equalM c h2) { s with ctrl := c, left := equalM c h2 } i (Nat.le_refl _) hm rfl hs hg (by simp only [hk]; exact hf)
    refine ⟨N + 1, { s with ctrl := c, phase := 4, left := m', value := valW ws slab g i, found := true }, by omega, by omega, rfl, hs, rfl, rfl, rfl, fun q n => ?_⟩
    rw [show q + (N + 1) = (q + N) + 1 by omega, hstep (q + N) n, hrun q (n + 1)]
    congr 1
    omega
  | none =>
    intro q n
    have hno : ∀ i ∈ lanesOf (equalM c h2), keyW ws slab g i ≠ s.key := fun i hi e => by
      rw [List.find?_eq_none] at hf
      exact hf i hi (by simp [e, hk])
    rw [show q + (1 + (lanesOf (equalM c h2)).length) = (q + (lanesOf (equalM c h2)).length) + 1 by omega, hstep _ n, lanes_none ws slab g (equalM c h2) (equalM c h2) { s with ctrl := c, left := equalM c h2 } (Nat.le_refl _) hm rfl hs hg hno q (n + 1)]
    congr 1
    omega
structure FindsR (ws : List Nat) (slab key hash : Nat) (r : Sg × Nat) : Prop where
  over : r.1.phase = 5
  has : (r.1.found, r.1.value) = lookW ws slab key (hash % 128) (rowB 2 (hash / 128))
  lo : 1 ≤ r.2
  hi : r.2 ≤ mostS ws slab hash + 1
theorem most_two (ws : List Nat) (slab hash : Nat) (hev : slabW ws slab 0 % 2 ≠ 1) (h : equalM (slabW ws slab (4 + prB 2 (hash / 128) 0)) 128 = 0) :
    mostS ws slab hash = 2 + (1 + (lanesOf (equalM (slabW ws slab (4 + prB 2 (hash / 128) 0)) (hash % 128))).length) + (1 + (lanesOf (equalM (slabW ws slab (4 + prB 2 (hash / 128) 1)) (hash % 128))).length) := by
  have e : groupsOf ws slab (hash / 128) = [slabW ws slab (4 + prB 2 (hash / 128) 0), slabW ws slab (4 + prB 2 (hash / 128) 1)] := by
    have h' : equalM (ctlW ws slab (hash / 128) 0) 128 = 0 := h
    unfold groupsOf; rw [if_pos h']; rfl
  have hev' : ¬ nthN ws (16 + 40 * slab) % 2 = 1 := hev
  unfold mostS
  rw [if_neg hev', e]
  unfold accK
  simp; omega
theorem most_one (ws : List Nat) (slab hash : Nat) (hev : slabW ws slab 0 % 2 ≠ 1) (h : equalM (slabW ws slab (4 + prB 2 (hash / 128) 0)) 128 ≠ 0) :
    mostS ws slab hash = 2 + (1 + (lanesOf (equalM (slabW ws slab (4 + prB 2 (hash / 128) 0)) (hash % 128))).length) := by
  have e : groupsOf ws slab (hash / 128) = [slabW ws slab (4 + prB 2 (hash / 128) 0)] := by
    have h' : ¬ equalM (ctlW ws slab (hash / 128) 0) 128 = 0 := h
    unfold groupsOf; rw [if_neg h']; rfl
  have hev' : ¬ nthN ws (16 + 40 * slab) % 2 = 1 := hev
  unfold mostS
  rw [if_neg hev', e]
  unfold accK
  simp
theorem runs_finds (ws : List Nat) (slab key hash : Nat) (hev : slabW ws slab 0 % 2 ≠ 1) : FindsR ws slab key hash (runS ws slab key hash) := by
  have hrow : rowB 2 (hash / 128) = [prB 2 (hash / 128) 0, prB 2 (hash / 128) 1] := rfl
  obtain ⟨g0, hg0⟩ : ∃ g0, g0 = prB 2 (hash / 128) 0 := ⟨_, rfl⟩
  obtain ⟨g1, hg1⟩ : ∃ g1, g1 = prB 2 (hash / 128) 1 := ⟨_, rfl⟩
  have hbegin : ∀ q, runF ws (q + 1) (beginS slab key hash) 0 = runF ws q ⟨1, slab, key, hash, slabW ws slab 0, 0, 0, 0, 0, false⟩ 1 := fun q => by
    rw [runF_step (show hasS (beginS (slab : Int) key hash) = true from rfl)]
    have hcell : cellS (beginS slab key hash) = 16 + 40 * slab + 0 := rfl
    rw [hcell]
    congr 1
    show takeS _ (slabW ws slab 0) = _
    unfold takeS
    rw [if_pos (show (beginS (slab : Int) key hash).phase = 0 from rfl), if_neg hev]
    rfl
  obtain ⟨s0, hs0⟩ : ∃ s0 : Sg, s0 = ⟨1, slab, key, hash, slabW ws slab 0, 0, 0, 0, 0, false⟩ := ⟨_, rfl⟩
  have G0 := group_run ws slab g0 key (hash % 128) s0 (by rw [hs0]) (by rw [hs0]) (by rw [hs0, hg0]; rfl) (by rw [hs0]) (by rw [hs0]) (by rw [hs0]) (by rw [hs0])
  have hl0 := length_lanesOf (equalM (slabW ws slab (4 + g0)) (hash % 128))
  have hl1 := length_lanesOf (equalM (slabW ws slab (4 + g1)) (hash % 128))
  unfold runS
  rw [show (1000 : Nat) = 999 + 1 from rfl, hbegin, ← hs0]
  have hlook : lookW ws slab key (hash % 128) (rowB 2 (hash / 128)) = match hitW ws slab g0 key (hash % 128) with
    | some i => (true, valW ws slab g0 i)
    | none => if equalM (slabW ws slab (4 + g0)) 128 ≠ 0 then (false, 0) else lookW ws slab key (hash % 128) [g1] := by
    rw [hrow, hg0, hg1]; rfl
  cases e0 : hitW ws slab g0 key (hash % 128) with
  | some i =>
    rw [e0] at G0 hlook
    obtain ⟨N, s', a1, a2, a3, a4, a5, a6, a7, hrun⟩ := G0
    have hr : runF ws 999 s0 1 = ({ s' with phase := 5 }, 1 + N + 1) := by
      rw [show 999 = (998 - N + 1) + N by omega, hrun, last_step ws slab s' a3 a4 (by rw [a5, hs0])]
    rw [hr]
    refine ⟨rfl, by rw [hlook]; simp only [a6, a7], by show 1 ≤ 1 + N + 1; omega, ?_⟩
    show 1 + N + 1 ≤ _
    by_cases he : equalM (slabW ws slab (4 + g0)) 128 = 0
    · rw [hg0] at he a2; rw [most_two ws slab hash hev he]; omega
    · rw [hg0] at he a2; rw [most_one ws slab hash hev he]; omega
  | none =>
    rw [e0] at G0 hlook
    simp only at G0 hlook
    by_cases he : equalM (slabW ws slab (4 + g0)) 128 = 0
    · rw [if_neg (by simpa using he)] at hlook
      obtain ⟨s1, hs1⟩ : ∃ s1 : Sg, s1 = onS { s0 with ctrl := slabW ws slab (4 + g0), left := 0 } := ⟨_, rfl⟩
      have es1 : s1 = ⟨1, slab, key, hash, slabW ws slab 0, 1, slabW ws slab (4 + g0), 0, 0, false⟩ := by
        rw [hs1, hs0]; unfold onS
        rw [if_neg (by simp), if_neg (by simp [he])]; rfl
      have G1 := group_run ws slab g1 key (hash % 128) s1 (by rw [es1]) (by rw [es1]) (by rw [es1, hg1]; rfl) (by rw [es1]) (by rw [es1]) (by rw [es1]) (by rw [es1])
      have hlook1 : lookW ws slab key (hash % 128) [g1] = match hitW ws slab g1 key (hash % 128) with
        | some i => (true, valW ws slab g1 i)
        | none => if equalM (slabW ws slab (4 + g1)) 128 ≠ 0 then (false, 0) else (false, 0) := rfl
      rw [hlook1] at hlook
      have he' := he
      rw [hg0] at he'
      have hmost := most_two ws slab hash hev he'
      rw [← hg0, ← hg1] at hmost
      cases e1 : hitW ws slab g1 key (hash % 128) with
      | some i =>
        rw [e1] at G1 hlook
        obtain ⟨N, s', a1, a2, a3, a4, a5, a6, a7, hrun⟩ := G1
        have hr : runF ws 999 s0 1 = ({ s' with phase := 5 }, 1 + (1 + (lanesOf (equalM (slabW ws slab (4 + g0)) (hash % 128))).length) + N + 1) := by
          rw [show 999 = ((998 - N - (1 + (lanesOf (equalM (slabW ws slab (4 + g0)) (hash % 128))).length)) + 1 + N) + (1 + (lanesOf (equalM (slabW ws slab (4 + g0)) (hash % 128))).length) by omega, G0, ← hs1, hrun, last_step ws slab s' a3 a4 (by rw [a5, es1])]
        rw [hr]
        refine ⟨rfl, by rw [hlook]; simp only [a6, a7], by show 1 ≤ _; omega, ?_⟩
        show 1 + (1 + _) + N + 1 ≤ _
        rw [hmost]; omega
      | none =>
        rw [e1] at G1 hlook
        simp only at G1 hlook
        have hon : onS { s1 with ctrl := slabW ws slab (4 + g1), left := 0 } = { s1 with ctrl := slabW ws slab (4 + g1), left := 0, phase := 4 } := by
          unfold onS
          rw [if_neg (by simp), if_pos (.inr (by rw [es1]))]
        have hr : runF ws 999 s0 1 = ({ s1 with ctrl := slabW ws slab (4 + g1), left := 0, phase := 5 }, 1 + (1 + (lanesOf (equalM (slabW ws slab (4 + g0)) (hash % 128))).length) + (1 + (lanesOf (equalM (slabW ws slab (4 + g1)) (hash % 128))).length) + 1) := by
          rw [show 999 = ((998 - (1 + (lanesOf (equalM (slabW ws slab (4 + g1)) (hash % 128))).length) - (1 + (lanesOf (equalM (slabW ws slab (4 + g0)) (hash % 128))).length)) + 1 + (1 + (lanesOf (equalM (slabW ws slab (4 + g1)) (hash % 128))).length)) + (1 + (lanesOf (equalM (slabW ws slab (4 + g0)) (hash % 128))).length) by omega, G0, ← hs1, G1, hon, last_step ws slab _ rfl (by rw [es1]) (by rw [es1])]
        rw [hr]
        refine ⟨rfl, by rw [hlook, es1]; split <;> rfl, by show 1 ≤ _; omega, ?_⟩
        show 1 + (1 + _) + (1 + _) + 1 ≤ _
        rw [hmost]; omega
    · rw [if_pos he] at hlook
      have hon : onS { s0 with ctrl := slabW ws slab (4 + g0), left := 0 } = { s0 with ctrl := slabW ws slab (4 + g0), left := 0, phase := 4 } := by
        unfold onS
        rw [if_neg (by simp), if_pos (.inl he)]
      have hr : runF ws 999 s0 1 = ({ s0 with ctrl := slabW ws slab (4 + g0), left := 0, phase := 5 }, 1 + (1 + (lanesOf (equalM (slabW ws slab (4 + g0)) (hash % 128))).length) + 1) := by
        rw [show 999 = ((998 - (1 + (lanesOf (equalM (slabW ws slab (4 + g0)) (hash % 128))).length)) + 1) + (1 + (lanesOf (equalM (slabW ws slab (4 + g0)) (hash % 128))).length) by omega, G0, hon, last_step ws slab _ rfl (by rw [hs0]) (by rw [hs0])]
      rw [hr]
      refine ⟨rfl, by rw [hlook, hs0], by show 1 ≤ _; omega, ?_⟩
      show 1 + (1 + _) + 1 ≤ _
      rw [hg0] at he
      have := most_one ws slab hash hev he
      rw [this, hg0]; omega
/-- At an odd counter one begins anew. -/
theorem runs_odd (ws : List Nat) (slab key hash : Nat) (hod : slabW ws slab 0 % 2 = 1) : (runS ws slab key hash).1.phase = 6 ∧ (runS ws slab key hash).1.found = false ∧ (runS ws slab key hash).2 = 1 := by
  have h : runS ws slab key hash = ({ beginS slab key hash with phase := 6 }, 1) := by
    unfold runS
    rw [show (1000 : Nat) = 999 + 1 from rfl, runF_step (show hasS (beginS (slab : Int) key hash) = true from rfl)]
    have hcell : cellS (beginS slab key hash) = 16 + 40 * slab + 0 := rfl
    rw [hcell]
    have : takeS (beginS slab key hash) (nthN ws (16 + 40 * slab + 0)) = { beginS slab key hash with phase := 6 } := by
      show takeS _ (slabW ws slab 0) = _
      unfold takeS
      rw [if_pos (show (beginS (slab : Int) key hash).phase = 0 from rfl), if_pos hod]
    rw [this, runF_stop (by unfold hasS; simp)]
  rw [h]
  exact ⟨rfl, rfl, rfl⟩
end Go.Proofs.Ytoklgjlmjkhmbaa

/-
  LookFinds: what a table's words hold; a group of a table; in plain Lean.
-/
set_option linter.unusedSimpArgs false
set_option linter.unusedVariables false
set_option maxRecDepth 100000
namespace Go.Proofs.Ytoklgjlmjkhmbaa
open Go.RowKit

/-- The cells with a table's words in a slab. -/
def wsT (slab : Nat) (tw : List Nat) : List Nat := List.replicate (16 + 40 * slab) 0 ++ (tw ++ List.replicate (80 - 40 * slab) 0)
theorem wsT_len {slab : Nat} {tw : List Nat} (hs : slab < 2) (ht : tw.length = 40) : (wsT slab tw).length = 136 := by
  unfold wsT; simp [ht] <;> omega
theorem slabW_at {slab i : Nat} {tw : List Nat} (ht : tw.length = 40) (hi : i < 40) : slabW (wsT slab tw) slab i = nthN tw i := by
  unfold slabW wsT nthN
  rw [List.getD_eq_getElem?_getD, List.getD_eq_getElem?_getD, List.getElem?_append_right (by rw [List.length_replicate]; omega), List.length_replicate, List.getElem?_append_left (by omega)]
  congr 2
  omega
theorem tabL_len (t : Tb) (d1 cn lv : Nat) : (tabL t d1 cn lv ++ [0, 0]).length = 40 := rfl
/-- A group of a table. -/
def grpT (t : Tb) (r : Nat) : Gp := ⟨t.ct r, fun i => t.ks (8 * r + i), fun i => t.vs (8 * r + i)⟩
theorem grpT_ok {t : Tb} (h : TbOk t) (r : Nat) : GpOk (grpT t r) := ⟨h.ct r, fun i => h.ks _, fun i => h.vs _⟩
theorem two_cases {r : Nat} (h : r < 2) : r = 0 ∨ r = 1 := by omega
theorem ctrl_at (t : Tb) (d1 cn lv slab : Nat) {r : Nat} (hr : r < 2) : slabW (wsT slab (tabL t d1 cn lv ++ [0, 0])) slab (4 + r) = (grpT t r).c := by
  rw [slabW_at (tabL_len t d1 cn lv) (by omega)]
  rcases two_cases hr with rfl | rfl <;> rfl
theorem key_at (t : Tb) (d1 cn lv slab : Nat) {r i : Nat} (hr : r < 2) (hi : i < 8) : keyW (wsT slab (tabL t d1 cn lv ++ [0, 0])) slab r i = (grpT t r).k i := by
  unfold keyW
  rw [slabW_at (tabL_len t d1 cn lv) (by omega)]
  rcases two_cases hr with rfl | rfl <;> rcases lane8 hi with rfl | rfl | rfl | rfl | rfl | rfl | rfl | rfl <;> rfl
theorem val_at (t : Tb) (d1 cn lv slab : Nat) {r i : Nat} (hr : r < 2) (hi : i < 8) : valW (wsT slab (tabL t d1 cn lv ++ [0, 0])) slab r i = (grpT t r).v i := by
  unfold valW
  rw [slabW_at (tabL_len t d1 cn lv) (by omega)]
  rcases two_cases hr with rfl | rfl <;> rcases lane8 hi with rfl | rfl | rfl | rfl | rfl | rfl | rfl | rfl <;> rfl
theorem cnt_at (t : Tb) (d1 cn lv slab : Nat) : slabW (wsT slab (tabL t d1 cn lv ++ [0, 0])) slab 0 = t.cnt := by
  rw [slabW_at (tabL_len t d1 cn lv) (by omega)]; rfl
theorem find_idx {α : Type} (p : α → Bool) : ∀ l : List α, l.find? p = l[l.findIdx p]?
  | [] => rfl
  | a :: l => by
    rw [List.find?_cons, List.findIdx_cons]
    cases h : p a with
    | true => rfl
    | false => simpa using find_idx p l
theorem find_congr {α : Type} {p q : α → Bool} : ∀ {l : List α}, (∀ a ∈ l, p a = q a) → l.find? p = l.find? q
  | [], _ => rfl
  | a :: l, h => by
    rw [List.find?_cons, List.find?_cons, h a (List.mem_cons_self ..), find_congr fun b hb => h b (List.mem_cons_of_mem _ hb)]
theorem looksG_lt8 {g : Gp} {h i : Nat} (hi : i ∈ looksG g h) : i < 8 := by
  unfold looksG at hi
  simpa using List.mem_range.1 (List.mem_filter.1 hi).1
theorem hit_is (t : Tb) (d1 cn lv slab key h2 : Nat) {r : Nat} (hr : r < 2) :
    hitW (wsT slab (tabL t d1 cn lv ++ [0, 0])) slab r key h2 = if foundG (grpT t r) key h2 = true then some (laneG (grpT t r) key h2) else none := by
  have e1 : hitW (wsT slab (tabL t d1 cn lv ++ [0, 0])) slab r key h2 = (looksG (grpT t r) h2).find? fun i => (grpT t r).k i == key := by
    unfold hitW
    rw [ctrl_at t d1 cn lv slab hr, equalL_eq]
    unfold looksG
    refine find_congr ?_
    intro i hi
    have h8 : i < 8 := by simpa using List.mem_range.1 (List.mem_filter.1 hi).1
    rw [key_at t d1 cn lv slab hr h8]
  rw [e1, find_idx]
  unfold foundG laneG placeG
  by_cases hlt : (looksG (grpT t r) h2).findIdx (fun i => (grpT t r).k i == key) < (looksG (grpT t r) h2).length
  · rw [decide_eq_true hlt, if_pos rfl, List.getElem?_eq_getElem hlt, nthN_eq hlt]
  · rw [decide_eq_false hlt, if_neg (by decide), List.getElem?_eq_none (by omega)]
theorem lane_lt {g : Gp} {key h : Nat} (hf : foundG g key h = true) : laneG g key h < 8 := by
  unfold foundG at hf
  unfold laneG
  have hlt : placeG g key h < (looksG g h).length := by simpa using hf
  exact looksG_lt8 (nthN_mem hlt)
theorem empty_is (t : Tb) (d1 cn lv slab : Nat) {r : Nat} (hr : r < 2) : equalM (slabW (wsT slab (tabL t d1 cn lv ++ [0, 0])) slab (4 + r)) 128 ≠ 0 ↔ emptyN (grpT t r) ≠ 0 := by
  rw [ctrl_at t d1 cn lv slab hr]
  have hlt := equalM_lt8 (grpT t r).c 128
  have e : emptyN (grpT t r) = (lanesOf (equalM (grpT t r).c 128)).length := by rw [equalL_eq]; rfl
  rw [e]
  constructor
  · intro h h0
    exact lanes_some ⟨_, hlt⟩ h (List.length_eq_zero_iff.1 h0)
  · intro h h0
    rw [h0] at h
    exact h rfl
theorem find_of {g : Gp} {key h : Nat} (hr : rightG g = true) (hh : h ≤ 127) : findE g key h = (if foundG g key h = true then 0 else 4) ∧ findL g key h = (if foundG g key h = true then laneG g key h else 0) := by
  have e1 : looksE g h = 0 := by unfold looksE; rw [if_pos hr, if_pos hh]
  have e2 : findE g key h = (if foundG g key h = true then 0 else 4) := by unfold findE; rw [if_pos e1]
  refine ⟨e2, ?_⟩
  unfold findL
  rw [e2]
  by_cases hf : foundG g key h = true
  · rw [if_pos hf, if_pos rfl, if_pos hf]
  · rw [if_neg hf, if_neg (by decide), if_neg hf]
theorem find_not {g : Gp} {key h : Nat} (hr : rightG g = false) : findE g key h = 200 := by
  have e1 : looksE g h = 200 := by unfold looksE; rw [if_neg (by rw [hr]; decide)]
  unfold findE; rw [e1, if_neg (by decide)]
end Go.Proofs.Ytoklgjlmjkhmbaa

