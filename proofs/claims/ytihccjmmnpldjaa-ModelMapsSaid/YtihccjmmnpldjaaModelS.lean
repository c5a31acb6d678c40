/-
  Package model: an iterator over what calls come to.
-/
import Derived.Test.YtihccjmmnpldjaaModelR
import Derived.Test.YtihccjmmnpldjaaKitH
import Derived.Test.YtihccjmmnpldjaaFlat
import Derived.Sort.LoopGhostIn
set_option linter.unusedSimpArgs false
set_option linter.unusedVariables false
set_option maxRecDepth 100000
namespace Go.Proofs.Ytihccjmmnpldjaa
open Go.RowKit

def clL (c : Cl) : List Value := [.int .i64 c.op, .int .u64 (c.key : Int), .int .u64 (c.a : Int), .int .u64 (c.b : Int)]
theorem clL_len (c : Cl) : (clL c).length = 4 := rfl
abbrev cls (l : List Cl) : List Value := l.flatMap clL
/-- What a call is told, and whether it is of an Op. -/
def toldA (c : Cl) (ps : Ps) : An := if isOp c then tellA c ps else ⟨0, 0, false⟩
def DoesAll (B tb : Nat) (sp : Option Addr) (ps : Ps) (a : An) (ok : Bool) (w : World) (e : Ending) (w' : World) : Prop :=
  ∃ sp' n' cap', e = .returned (.tuple #[.agg (anA a none 0 0), .bool ok]) ∧ Tab w' B tb sp' n' cap' ps ∧ KeptT tb sp w w' ∧ NewOr sp sp' w.heap.size
theorem next_no {c : Cl} (h : isOp c = false) (ps : Ps) : nextP c ps = ps := by
  unfold isOp at h
  have h' : ¬ (1 ≤ c.op ∧ c.op ≤ 7) := by simpa using h
  unfold nextP
  rw [if_neg (by omega), if_neg (by omega), if_neg (by omega), if_neg (by omega)]
theorem does_all (B tb : Nat) (sp : Option Addr) (n cap : Nat) (ps : Ps) (c : Cl) (w : World) (h : Tab w B tb sp n cap ps) (hup : upB ps = true) (hn : n ≤ 4096) (h6 : c.op ≠ 6) :
    Calls Try.prog 27 #[.pointer (some ⟨tb, 0, none⟩), .agg (clA c)] w (DoesAll B tb sp (nextP c ps) (toldA c ps) (isOp c) w) := by
  cases ho : isOp c with
  | true =>
    refine (does_any B tb sp n cap ps c w h hup hn ho).mono ?_
    rintro e w' ⟨sp', n', cap', sq, nq, cq, rfl, hT, hK, hN, _, _, _, _, hx⟩
    obtain ⟨rfl, rfl, rfl⟩ := hx (by simpa using h6)
    exact ⟨sp', n', cap', by unfold toldA; rw [if_pos ho], hT, hK, hN⟩
  | false =>
    have ho' : ¬ (1 ≤ c.op ∧ c.op ≤ 7) := by unfold isOp at ho; simpa using ho
    refine (does_no B tb sp n cap ps c w h ho').mono ?_
    rintro e w' ⟨rfl, hb⟩
    exact ⟨sp, n, cap, by unfold toldA; rw [if_neg (by rw [ho]; decide)], by rw [next_no ho]; exact h.below hb, KeptT.of_below hb, .inl rfl⟩
/-! ### what the iterator tells -/
def toldV (l : List Cl) (ps : Ps) (k : Nat) : Array Value := match l[k]? with
  | some c => #[.agg (anA (toldA c (mapP l ps k)) none 0 0), .bool (isOp c)]
  | none => #[.agg (anA ⟨0, 0, false⟩ none 0 0), .bool false]
theorem toldV_at {l : List Cl} {k : Nat} {c : Cl} (h : l[k]? = some c) (ps : Ps) : toldV l ps k = #[.agg (anA (toldA c (mapP l ps k)) none 0 0), .bool (isOp c)] := by unfold toldV; rw [h]
structure AnsY (B tb : Nat) (l : List Cl) (ps : Ps) (vs : Vs) (S : Nat → Prop) (W : World) : Prop where
  told : ∀ k v, vs[k]? = some v → v = toldV l ps k
  mine : S tb
  tab : ∃ sp n cap, Tab W B tb sp n cap (mapP l ps vs.length) ∧ ∀ b, sp.map (·.block) = some b → S b
theorem AnsY.keeps (B tb : Nat) (l : List Cl) (ps : Ps) (RO : Nat → Prop) : KeepsY RO (AnsY B tb l ps) := by
  rintro vs S W W' ⟨h1, h2, sp, n, cap, hT, hs⟩ hk
  refine ⟨h1, h2, sp, n, cap, hT.keep fun b hb => ?_, hs⟩
  rcases hb with rfl | hb
  · exact hk.block _ (lt_of_heap hT.tbl) (.inr h2)
  · exact hk.block _ (hT.spot b hb) (.inr (hs b hb))
theorem told_snoc {l : List Cl} {ps : Ps} {vs : Vs} {v : Array Value} (h : ∀ k v, vs[k]? = some v → v = toldV l ps k) (hv : v = toldV l ps vs.length) : ∀ k u, (vs ++ [v])[k]? = some u → u = toldV l ps k := by
  intro k u hu
  rcases Nat.lt_trichotomy k vs.length with hlt | e | hlt
  · rw [List.getElem?_append_left hlt] at hu; exact h k u hu
  · subst e; rw [List.getElem?_append_right (Nat.le_refl _), Nat.sub_self] at hu; simp at hu; rw [← hu]; exact hv
  · rw [List.getElem?_append_right (by omega)] at hu
    have : k - vs.length = (k - vs.length - 1) + 1 := by omega
    rw [this] at hu; simp at hu
/-- What the iterator reads, and leaves alone. -/
def ansRO (bt bl : Nat) (slc : Option Addr) (nc : Nat) : Nat → Prop := fun b => b = bt ∨ b = bl ∨ (0 < nc ∧ slc.map (·.block) = some b)
structure AnsR (bt bl tb : Nat) (slc : Option Addr) (nc capc : Nat) (l : List Cl) (W : World) : Prop where
  t : W.heap[bt]? = some (.cells #[.pointer (some ⟨tb, 0, none⟩)] 63 (0, 0))
  s : W.heap[bl]? = some (.cells #[.slice slc nc capc] 25 (0, 0))
  c : SlK W 4 slc nc (cls l)
theorem AnsR.keep {bt bl tb : Nat} {slc : Option Addr} {nc capc : Nat} {l : List Cl} {W W' : World} (h : AnsR bt bl tb slc nc capc l W) (hk : ∀ b, b < W.heap.size → ansRO bt bl slc nc b → W'.heap[b]? = W.heap[b]?) : AnsR bt bl tb slc nc capc l W' := by
  refine ⟨(hk bt (lt_of_heap h.t) (.inl rfl)).trans h.t, (hk bl (lt_of_heap h.s) (.inr (.inl rfl))).trans h.s, ?_⟩
  by_cases h0 : nc = 0
  · exact ⟨h.c.1, h.c.2.1, .inl h0⟩
  · exact h.c.keep fun b o hb e ho => (hk b hb (.inr (.inr ⟨by omega, e⟩))).trans ho
theorem AnsR.lt {bt bl tb : Nat} {slc : Option Addr} {nc capc : Nat} {l : List Cl} {W : World} (h : AnsR bt bl tb slc nc capc l W) : ∀ b, ansRO bt bl slc nc b → b < W.heap.size := by
  rintro b (rfl | rfl | ⟨h0, e⟩)
  · exact lt_of_heap h.t
  · exact lt_of_heap h.s
  · obtain ⟨b', off, rfl, hc⟩ := h.c.some' h0
    cases e
    have h1 := h.c.1
    have hne : cls l ≠ [] := fun e => by rw [e] at h1; simp at h1; omega
    obtain ⟨u, us, hu⟩ := List.exists_cons_of_ne_nil hne
    have := lt_of_cell (hc 0 u (by rw [hu]; rfl))
    exact this
/-- One round's foreign step: a block of one's own, and what the call did. -/
theorem foreign_does {B tb : Nat} {sp sp' : Option Addr} {n' cap' : Nat} {ps' : Ps} {S : Nat → Prop} {wr wa w3 : World} (hb : Below wr.heap.size wr wa) (hk : KeptT tb sp wa w3) (hT : Tab w3 B tb sp' n' cap' ps') (hN : NewOr sp sp' wa.heap.size) (hS : S tb) (hs : ∀ b, sp.map (·.block) = some b → S b) :
    Foreign S (fun b => S b ∨ sp'.map (·.block) = some b) wr w3 := by
  have h1 := hb.size
  refine ⟨hk.os.trans hb.os, hk.tape.trans hb.tape, hk.output.trans hb.output, Nat.le_trans h1 hk.size, fun b h => .inl h, fun b h => ?_, fun b hlt hn => (hk.block b (by omega) ⟨fun e => hn (e ▸ hS), fun e => hn (hs b e)⟩).trans (hb.block b hlt)⟩
  rcases h with h | h
  · exact .inl h
  · rcases hN with e | e
    · rw [e] at h; exact .inl (hs b h)
    · refine .inr ⟨?_, hT.spot b h⟩
      cases sp' with
      | none => cases h
      | some a => have := e a rfl; simp at h; omega
set_option maxHeartbeats 4000000 in
theorem answers_it (B bt bl tb : Nat) (sp0 slc : Option Addr) (n0 cap0 nc capc : Nat) (l : List Cl) (ps : Ps) (w : World) (hR : AnsR bt bl tb slc nc capc l w) (hT : Tab w B tb sp0 n0 cap0 ps) (hup : upB ps = true)
    (h6 : ∀ c ∈ l, c.op ≠ 6) (hn : ps.length + l.length ≤ 4096) (hap : ∀ b, ansRO bt bl slc nc b → b ≠ tb ∧ sp0.map (·.block) ≠ some b) :
    SeqItH Fence.wide 0 Try.prog 41 #[.pointer (some ⟨bl, 0, none⟩), .pointer (some ⟨bt, 0, none⟩)] l.length (AnsY B tb l ps) (fun b => b = tb ∨ sp0.map (·.block) = some b) (ansRO bt bl slc nc) w := by
  intro ly J Jx W hJ hJx hW hY h0
  have hRW : AnsR bt bl tb slc nc capc l W := hR.keep fun b hb _ => hW.block b hb
  have hTW := hT.below hW
  have hlen : nc = l.length := slk_len clL_len (by decide) hR.c
  have hlt0 := hR.lt
  have hY0 : AnsY B tb l ps [] (fun b => b = tb ∨ sp0.map (·.block) = some b) W := ⟨fun k v h => by simp at h, .inl rfl, sp0, n0, cap0, hTW, fun b h => .inr h⟩
  have c1 : W.cell? ⟨bl, 0, none⟩ = some (.slice slc nc capc) := blk_cell hRW.s rfl
  have hmax := hR.c.2.1
  unfold maxLen at hmax
  have hR'h := Lib.hid hR
  have hT'h := Lib.hid hT
  have hW'h := Lib.hid hW
  have hRW'h := Lib.hid hRW
  have hTW'h := Lib.hid hTW
  have hlen'h := Lib.hid hlen
  have hlt0'h := Lib.hid hlt0
  have hY0'h := Lib.hid hY0
  have h0'h := Lib.hid h0
  have hup'h := Lib.hid hup
  have h6'h := Lib.hid h6
  have hap'h := Lib.hid hap
  have hJ'h := Lib.hid hJ
  have hJx'h := Lib.hid hJx
  clear hR hT hW hRW hTW hlen hlt0 hY0 h0 hup h6 hap hJ hJx
  refine callsIn_of_wp Try.func41 rfl trivial ?_ rfl
  simp only [Try.ntmps41, List.size_toArray, List.length_cons, List.length_nil, Nat.reduceAdd, Nat.reduceSub, Array.replicate_succ, Array.replicate_zero, List.push_toArray, List.append_toArray, List.nil_append, List.cons_append]
  gi_wp2
  gi_loopg [8] nc (fun q i wr => ∃ (j : Nat) (S : Nat → Prop) (vs : Vs), j + q = nc ∧ i = .int .i64 j ∧ vs.length = j ∧ (∀ b, ansRO bt bl slc nc b → ¬ S b) ∧ AnsY B tb l ps vs S wr ∧ J vs S wr ∧ AnsR bt bl tb slc nc capc l wr ∧ W.heap.size ≤ wr.heap.size)
  case atStart => exact ⟨0, _, [], by omega, rfl, rfl, fun b hb h => h.elim (hap'h.out b hb).1 (hap'h.out b hb).2, hY0'h.out, h0'h.out, hRW'h.out, Nat.le_refl _⟩
  case round =>
    obtain ⟨j, S, vs, hj, rfl, hvs, hro, hYr, hJr, hRr, hsz⟩ := hrel
    have hjn : j ≤ nc := by omega
    have hj'h := Lib.hid hj
    have hvs'h := Lib.hid hvs
    have hro'h := Lib.hid hro
    have hYr'h := Lib.hid hYr
    have hJr'h := Lib.hid hJr
    have hRr'h := Lib.hid hRr
    clear hj hvs hro hYr hJr hRr
    by_cases hlt : j < nc
    · have hjl : j < l.length := by have := hlen'h.out; omega
      obtain ⟨c, hc⟩ : ∃ c, l[j]? = some c := ⟨_, List.getElem?_eq_getElem hjl⟩
      obtain ⟨b, off, rfl⟩ := slk_some hRr'h.out.c (by omega)
      have x0 := slk_cell0 clL_len hRr'h.out.c hc (by decide) rfl
      have x1 := slk_cell clL_len hRr'h.out.c hc (i := 1) (by decide) rfl
      have x2 := slk_cell clL_len hRr'h.out.c hc (i := 2) (by decide) rfl
      have x3 := slk_cell clL_len hRr'h.out.c hc (i := 3) (by decide) rfl
      have c1 : wr.cell? ⟨bl, 0, none⟩ = some (.slice (some ⟨b, off, none⟩) nc capc) := blk_cell hRr'h.out.s rfl
      have i1 : (j : Int) < (nc : Int) := by omega
      have i2 : (0 : Int) ≤ (j : Int) := by omega
      have c2 : ∀ o, (wr.alloc o).cell? ⟨bt, 0, none⟩ = some (.pointer (some ⟨tb, 0, none⟩)) := fun o => keep_alloc _ _ _ _ (blk_cell hRr'h.out.t rfl)
      obtain ⟨hsp, hSt, sp, n, cap, hTr, hsS⟩ := hYr'h.out
      have hupr := up_mapP (l := l) hup'h.out vs.length
      have hlr : n ≤ 4096 := by have := len_mapP l ps vs.length; have := hTr.row.len; have := hvs'h.out; omega
      have hba : Below wr.heap.size wr (wr.alloc (.cells (clA c) 33)) := (Below.refl _ _).alloc (Nat.le_refl _) _
      have D := does_all B tb sp n cap _ c _ (hTr.below hba) hupr hlr (h6'h.out c (List.mem_of_getElem? hc))
      have hm : mapP l ps (j + 1) = nextP c (mapP l ps j) := mapP_succ hc
      have hv := toldV_at hc ps
      rw [hvs'h.out] at D
      obtain ⟨a, ha⟩ : ∃ a, a = toldA c (mapP l ps j) := ⟨_, rfl⟩
      obtain ⟨ok, hok⟩ : ∃ ok, ok = isOp c := ⟨_, rfl⟩
      rw [← hm, ← ha, ← hok] at D
      rw [← ha, ← hok] at hv
      have hc'h := Lib.hid hc
      have hsp'h := Lib.hid hsp
      have hTr'h := Lib.hid hTr
      have hsS'h := Lib.hid hsS
      have hba'h := Lib.hid hba
      have D'h := Lib.hid D
      have hm'h := Lib.hid hm
      have hv'h := Lib.hid hv
      have ha'h := Lib.hid ha
      have hok'h := Lib.hid hok
      have hSt'h := Lib.hid hSt
      clear hc hsp hTr hsS hba D hm hv ha hok hSt
      clear hupr hlr
      gi_wp2_with fail
      refine (callsIn_wide.2 D'h.out).mono ?_
      rintro e w3 ⟨sp', n', cap', rfl, hT3, hK3, hN3⟩
      have hf := foreign_does hba'h.out hK3 hT3 hN3 hSt'h.out hsS'h.out
      have hJ3 := hJ'h.out vs _ _ _ _ hJr'h.out hf
      have hY3 : AnsY B tb l ps (vs ++ [toldV l ps j]) (fun b => S b ∨ sp'.map (·.block) = some b) w3 := ⟨told_snoc hsp'h.out (by rw [hvs'h.out]), .inl hSt'h.out, sp', n', cap', by rw [List.length_append, hvs'h.out]; exact hT3, fun b h => .inr h⟩
      have hR3 := hRr'h.out.keep (W' := w3) fun b hb hbr => hf.block b hb (hro'h.out b hbr)
      have hro3 : ∀ q, ansRO bt bl (some ⟨b, off, none⟩) nc q → ¬ (S q ∨ sp'.map (·.block) = some q) := fun q hq => hf.not (hRr'h.out.lt q hq) (hro'h.out q hq)
      have hz3 := hf.size
      obtain ⟨fn, tmps, assign, body, hy, hR⟩ := hY vs (toldV l ps j) _ w3 hJ3 (by rw [hvs'h.out]; exact hjl) hY3
      rw [hv'h.out] at hy
      have hT3'h := Lib.hid hT3
      have hK3'h := Lib.hid hK3
      have hN3'h := Lib.hid hN3
      have hf'h := Lib.hid hf
      have hJ3'h := Lib.hid hJ3
      have hY3'h := Lib.hid hY3
      have hR3'h := Lib.hid hR3
      have hro3'h := Lib.hid hro3
      have hR'h := Lib.hid hR
      clear hT3 hK3 hN3 hf hJ3 hY3 hR3 hro3 hR
      clear x0 x1 x2 x3 c1 c2 hY
      gi_wp2_with fail
      refine hR'h.out.mono ?_
      clear hy
      rintro e W' (⟨rfl, hJ4, hk4⟩ | ⟨rfl, hJ4, hk4⟩)
      · have hY4 := AnsY.keeps B tb l ps _ _ _ _ _ hY3'h.out hk4
        have hR4 := hR3'h.out.keep (W' := W') fun q hq hqr => hk4.block q hq (.inl hqr)
        have hz4 := hk4.size
        have hJ4'h := Lib.hid hJ4
        have hk4'h := Lib.hid hk4
        have hY4'h := Lib.hid hY4
        have hR4'h := Lib.hid hR4
        clear hJ4 hk4 hY4 hR4
        gi_wp2
        gi_roundg (gk - 1)
        case measure => have := hj'h.out; omega
        case rel => exact ⟨j + 1, _, vs ++ [toldV l ps j], by have := hj'h.out; omega, by go_num, by rw [List.length_append, hvs'h.out]; rfl, hro3'h.out, hY4'h.out, hJ4'h.out, hR4'h.out, by omega⟩
      · have hY4 := AnsY.keeps B tb l ps _ _ _ _ _ hY3'h.out hk4
        have hJ4'h := Lib.hid hJ4
        have hk4'h := Lib.hid hk4
        have hY4'h := Lib.hid hY4
        clear hJ4 hk4 hY4
        gi_wp2
        refine bodyPost_ret (results_none rfl _ _ _) rfl ?_
        exact ⟨⟨_, rfl⟩, .inr ⟨_, _, hY4'h.out, hJ4'h.out⟩⟩
    · have hjk : j = nc := by omega
      have i1 : ¬ (j : Int) < (nc : Int) := by omega
      have hjk'h := Lib.hid hjk
      clear hjk
      clear hY
      gi_wp2
      refine bodyPost_end (results_none rfl _ _ _) rfl ?_
      exact ⟨⟨_, rfl⟩, .inl ⟨_, vs, by rw [hvs'h.out, hjk'h.out]; exact hlen'h.out, hYr'h.out, hJr'h.out⟩⟩
theorem enters_answers (args : Array Value) (w : World) : (callFunc 41 args).run Try.prog w = .ok (.enter 41 args) w := by
  exact enters_of Try.func41 (by kernel_rfl) rfl args w
theorem answers_any (tb : Nat) (slc : Option Addr) (nc capc : Nat) (w : World) :
    Calls Try.prog 31 #[.pointer (some ⟨tb, 0, none⟩), .slice slc nc capc] w fun e w' => e = .returned (.func (.func 41) #[] #[.pointer (some ⟨w.heap.size + 1, 0, none⟩), .pointer (some ⟨w.heap.size, 0, none⟩)]) ∧
      w' = (w.alloc (.cells #[.pointer (some ⟨tb, 0, none⟩)] 63)).alloc (.cells #[.slice slc nc capc] 25) := by
  go_enter Try.func31, Try.ntmps31
  go_wp2
  go_ret
  exact ⟨rfl, rfl⟩
end Go.Proofs.Ytihccjmmnpldjaa
