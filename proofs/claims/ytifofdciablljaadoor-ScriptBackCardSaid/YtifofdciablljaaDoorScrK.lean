/-
  Layer 3 (script): reading: rows of calls, and all of a script: what it comes to, and what lies in memory meanwhile.
-/
import Derived.Test.YtifofdciablljaaDoorScrJ
set_option linter.unusedSimpArgs false
set_option linter.unusedVariables false
set_option maxRecDepth 100000
namespace Go.Proofs.YtifofdciablljaaDoor
open Go.RowKit

def listR : Nat → List Nat → Option (List Cal × List Nat)
  | 0, l => some ([], l)
  | k + 1, l => match callR l with
    | none => none
    | some (c, l') => match listR k l' with
      | none => none
      | some (cs, l'') => some (c :: cs, l'')
def listsR : Nat → Nat → List Nat → Option (List (List Cal) × List Nat)
  | 0, _, l => some ([], l)
  | g + 1, left, l => match mostR left l with
    | none => none
    | some (n, l1) => match listR n l1 with
      | none => none
      | some (cs, l2) => match listsR g (left - n) l2 with
        | none => none
        | some (ls, l3) => some (cs :: ls, l3)
def endR (g sb : Nat) (seed : Nat) (ls : List (List Cal)) (l : List Nat) : Option (Scr × List Nat) := match mostR 4096 l with
  | none => none
  | some (n, l1) => match readW n l1 with
    | none => none
    | some (ps, l2) => if rightS ⟨(g : Int), (sb : Int), seed, ls, ps⟩ = true then some (⟨(g : Int), (sb : Int), seed, ls, ps⟩, l2) else none
def restR (g sb : Nat) (seed : Nat) (ls : List (List Cal)) (k left : Nat) (l : List Nat) : Option (Scr × List Nat) := match listsR k left l with
  | none => none
  | some (ls', l') => endR g sb seed (ls ++ ls') l'
def scriptR (l : List Nat) : Option (Scr × List Nat) := match mostR 8 l with
  | none => none
  | some (g, l1) => match mostR 128 l1 with
    | none => none
    | some (sb, l2) => match readN l2 with
      | none => none
      | some (seed, l3) => restR g sb seed [] g 64 l3

theorem callR_drop {l : List Nat} {c : Cal} {r : List Nat} (h : callR l = some (c, r)) : ∃ k, r = l.drop k := by
  unfold callR at h
  cases hm : mostR 7 l with
  | none => rw [hm] at h; cases h
  | some x =>
    obtain ⟨o, l1⟩ := x
    rw [hm] at h
    simp only at h
    obtain ⟨k1, hk1⟩ := readN_drop (mostR_le hm).2
    split at h
    · cases h
    · have hw : ∀ (k : Nat) (l ws l' : List Nat), readW k l = some (ws, l') → ∃ j, l' = l.drop j := by
        intro k
        induction k with
        | zero => intro l ws l' h; simp [readW] at h; exact ⟨0, h.2.symm⟩
        | succ k ih =>
          intro l ws l' h
          rw [readW] at h
          cases hn : readN l with
          | none => rw [hn] at h; cases h
          | some y =>
            obtain ⟨n, l2⟩ := y
            rw [hn] at h
            simp only at h
            cases hk : readW k l2 with
            | none => rw [hk] at h; cases h
            | some z =>
              obtain ⟨ns, l3⟩ := z
              rw [hk] at h
              cases h
              obtain ⟨j1, hj1⟩ := readN_drop hn
              obtain ⟨j2, hj2⟩ := ih _ _ _ hk
              exact ⟨j1 + j2, by rw [hj2, hj1, List.drop_drop]⟩
      cases hk : readW (takesI (o : Int)).toNat l1 with
      | none => rw [hk] at h; cases h
      | some z =>
        obtain ⟨ns, l3⟩ := z
        rw [hk] at h
        cases h
        obtain ⟨j, hj⟩ := hw _ _ _ _ hk
        exact ⟨k1 + j, by rw [hj, hk1, List.drop_drop]⟩
theorem readW_some : ∀ (k : Nat) (l ws l' : List Nat), (∀ b ∈ l, b < 256) → readW k l = some (ws, l') → ws.length = k ∧ (∀ n ∈ ws, n < 2 ^ 64) ∧ ∃ j, l' = l.drop j
  | 0, l, ws, l', _, h => by simp [readW] at h; obtain ⟨rfl, rfl⟩ := h; exact ⟨rfl, by simp, 0, rfl⟩
  | k + 1, l, ws, l', hb, h => by
    rw [readW] at h
    cases hn : readN l with
    | none => rw [hn] at h; cases h
    | some y =>
      obtain ⟨n, l2⟩ := y
      rw [hn] at h
      simp only at h
      obtain ⟨j1, hj1⟩ := readN_drop hn
      cases hk : readW k l2 with
      | none => rw [hk] at h; cases h
      | some z =>
        obtain ⟨ns, l3⟩ := z
        rw [hk] at h
        cases h
        obtain ⟨h1, h2, j2, hj2⟩ := readW_some k l2 ns l' (fun b hb' => hb b (List.mem_of_mem_drop (by rw [hj1] at hb'; exact hb'))) hk
        refine ⟨by simp [h1], fun x hx => ?_, j1 + j2, by rw [hj2, hj1, List.drop_drop]⟩
        rcases List.mem_cons.1 hx with rfl | hx
        · exact readN_lt hb hn
        · exact h2 x hx
/-- A call that was read may be. -/
theorem callR_ok {l : List Nat} {c : Cal} {r : List Nat} (hb : ∀ b ∈ l, b < 256) (h : callR l = some (c, r)) : CalOk c := by
  unfold callR at h
  cases hm : mostR 7 l with
  | none => rw [hm] at h; cases h
  | some x =>
    obtain ⟨o, l1⟩ := x
    rw [hm] at h
    simp only at h
    obtain ⟨ho, hr⟩ := mostR_le hm
    obtain ⟨k1, hk1⟩ := readN_drop hr
    split at h
    · cases h
    · cases hk : readW (takesI (o : Int)).toNat l1 with
      | none => rw [hk] at h; cases h
      | some z =>
        obtain ⟨ns, l3⟩ := z
        rw [hk] at h
        cases h
        obtain ⟨-, h2, -⟩ := readW_some _ l1 ns r (fun b hb' => hb b (List.mem_of_mem_drop (by rw [hk1] at hb'; exact hb'))) hk
        have hg : ∀ i, ns.getD i 0 < 2 ^ 64 := by
          intro i
          rw [List.getD_eq_getElem?_getD]
          cases hi : ns[i]? with
          | none => exact Nat.two_pow_pos _
          | some x => exact h2 x (List.mem_of_getElem? hi)
        exact ⟨by show (-9223372036854775808 : Int) ≤ (o : Int); omega, by show (o : Int) ≤ 9223372036854775807; omega, hg 0, hg 1, hg 2⟩

/-! ### Rows of one's own, beside each other -/
theorem ownsRow_other {W W' : World} {base : Nat} {e : TypeId} {size : Nat} {v : Value} {n : Nat} {xs : List Value} {row : Option Nat} (h : W.ownsRow base e size v n xs) (hg : W.grownBy W' row) (hne : ∀ g, v.ownBlock = some g → row ≠ some g) :
    W'.ownsRow base e size v n xs := by
  obtain ⟨h1, h2⟩ := h
  refine ⟨h1, h2.imp id ?_⟩
  rintro ⟨g, cap, cur, hv, hb, hh, r⟩
  refine ⟨g, cap, cur, hv, hb, (hg.block g (lt_of_heap hh) (fun e => ?_)).trans hh, r⟩
  exact hne g (by rw [hv]; rfl) e.symm
/-- Rows of elements of other types lie in other blocks. -/
theorem ownsRow_apart {W : World} {b b' : Nat} {e e' : TypeId} {k k' : Nat} {v v' : Value} {n n' : Nat} {xs xs' : List Value} (h : W.ownsRow b e k v n xs) (h' : W.ownsRow b' e' k' v' n' xs') (hne : e ≠ e') : ∀ g, v.ownBlock = some g → v'.ownBlock ≠ some g := by
  intro g hg hg'
  rcases h.2 with ⟨hv, _⟩ | ⟨g1, c1, cur1, hv, _, hh, _⟩
  · rw [hv] at hg; cases hg
  · rcases h'.2 with ⟨hv', _⟩ | ⟨g2, c2, cur2, hv', _, hh', _⟩
    · rw [hv'] at hg'; cases hg'
    · rw [hv] at hg
      rw [hv'] at hg'
      have e1 : g1 = g := by injection hg
      have e2 : g2 = g := by injection hg'
      rw [e1] at hh
      rw [e2, hh] at hh'
      injection hh' with hh'
      injection hh' with _ hh' _
      exact hne hh'
/-- What lies in memory while a script is read. -/
structure ScI (w : World) (rb : Nat) (v0 v1 v2 : Value) (bp : Option Addr) (bn bc : Nat) (bytes : List Nat) (lv pv : Value) (rows : List CRow) (ps : List Nat) (p : Nat) (wr : World) : Prop where
  rd : RdI w rb v0 v1 v2 lv pv bp bn bc bytes p wr
  outer : wr.ownsRow w.heap.size 55 1 lv rows.length (rows.map crV)
  inner : ∀ r ∈ rows, wr.ownsRow w.heap.size 57 4 (crV r) r.len (cals r.cs)
  len : ∀ r ∈ rows, r.len = r.cs.length ∧ r.cs.length ≤ 64 ∧ ∀ c ∈ r.cs, CalOk c
  picks : wr.ownsRow w.heap.size 22 1 pv ps.length (u64s ps)
  low : rb < w.heap.size
section
variable {w : World} {rb : Nat} {v0 v1 v2 lv pv : Value} {bp : Option Addr} {bn bc : Nat} {bytes : List Nat} {rows : List CRow} {ps : List Nat} {p p' : Nat} {wr wr' : World}
/-- A step that touches the reader alone. -/
theorem ScI.step {u0 u1 u2 : Value} (h : ScI w rb v0 v1 v2 bp bn bc bytes lv pv rows ps p wr) (h' : RdI wr rb u0 u1 u2 lv pv bp bn bc bytes p' wr') : ScI w rb u0 u1 u2 bp bn bc bytes lv pv rows ps p' wr' := by
  have hne : ∀ {e : TypeId} {k : Nat} {v : Value} {n : Nat} {xs : List Value}, wr.ownsRow w.heap.size e k v n xs → ∀ g, v.ownBlock = some g → some rb ≠ some g := fun hr g hg e => by
    have h1 := (hr.lt g hg).1
    have h2 := h.low
    injection e with e
    omega
  exact ⟨h.rd.then h', ownsRow_other h.outer h'.by' (hne h.outer), fun r hr => ownsRow_other (h.inner r hr) h'.by' (hne (h.inner r hr)), h.len, ownsRow_other h.picks h'.by' (hne h.picks), h.low⟩
theorem ScI.wide (h : ScI w rb v0 v1 v2 bp bn bc bytes lv pv rows ps p wr) (hb : Below wr.heap.size wr wr') : ScI w rb v0 v1 v2 bp bn bc bytes lv pv rows ps p wr' :=
  ⟨h.rd.wide hb, ownsRow_next h.outer hb, fun r hr => ownsRow_next (h.inner r hr) hb, h.len, ownsRow_next h.picks hb, h.low⟩
/-- A step that touches the reader and what is new. -/
theorem ScI.jump {W0 : World} (h : ScI w rb v0 v1 v2 bp bn bc bytes lv pv rows ps p W0) (h' : RdI W0 rb v0 v1 v2 lv pv bp bn bc bytes p' wr) : ScI w rb v0 v1 v2 bp bn bc bytes lv pv rows ps p' wr := h.step h'
/-- A finished row of calls is laid behind the others (ahead of the store). -/
theorem ScI.row {r : CRow} {lv' : Value} (h : ScI w rb v0 v1 v2 bp bn bc bytes lv pv rows ps p wr) (hw : RdI w rb v0 v1 v2 lv pv bp bn bc bytes p w ∨ True) (hr : wr.ownsRow w.heap.size 57 4 (crV r) r.len (cals r.cs)) (hl : r.len = r.cs.length ∧ r.cs.length ≤ 64 ∧ ∀ c ∈ r.cs, CalOk c)
    (ho : wr'.ownsRow w.heap.size 55 1 lv' (rows.length + 1) (rows.map crV ++ [crV r])) (hg : wr.grownBy wr' lv.ownBlock) (hrd : RdI w rb v0 v1 v2 lv pv bp bn bc bytes p wr') :
    RdI w rb v0 v1 v2 lv pv bp bn bc bytes p wr' ∧ wr'.ownsRow w.heap.size 55 1 lv' (rows ++ [r]).length ((rows ++ [r]).map crV) ∧ (∀ x ∈ rows ++ [r], wr'.ownsRow w.heap.size 57 4 (crV x) x.len (cals x.cs)) ∧
    (∀ x ∈ rows ++ [r], x.len = x.cs.length ∧ x.cs.length ≤ 64 ∧ ∀ c ∈ x.cs, CalOk c) ∧ wr'.ownsRow w.heap.size 22 1 pv ps.length (u64s ps) := by
  have hne : ∀ (x : CRow), wr.ownsRow w.heap.size 57 4 (crV x) x.len (cals x.cs) → ∀ g, (crV x).ownBlock = some g → lv.ownBlock ≠ some g := fun x hx => ownsRow_apart hx h.outer (by decide)
  refine ⟨hrd, by simpa using ho, fun x hx => ?_, fun x hx => ?_, ownsRow_other h.picks hg (ownsRow_apart h.picks h.outer (by decide))⟩
  · rcases List.mem_append.1 hx with hx | hx
    · exact ownsRow_other (h.inner x hx) hg (hne x (h.inner x hx))
    · obtain rfl : x = r := by simpa using hx
      exact ownsRow_other hr hg (hne x hr)
  · rcases List.mem_append.1 hx with hx | hx
    · exact h.len x hx
    · obtain rfl : x = r := by simpa using hx
      exact hl
/-- The script that was read, as it lies. -/
theorem ScI.script {lp : Option Addr} {ln lc : Nat} {pp : Option Addr} {pn pc : Nat} {g sb seed : Nat} (h : ScI w rb v0 v1 v2 bp bn bc bytes (.slice lp ln lc) (.slice pp pn pc) rows ps p wr) (hg : g ≤ 8) (hsb : sb ≤ 128) (hseed : seed < 2 ^ 64) (hn : rows.length ≤ 16) (hp : ps.length ≤ 4200) (h64 : W64 ps) :
    SmIn wr ⟨(g : Int), (sb : Int), seed, lp, ln, lc, rows, pp, pn, pc, ps⟩ := by
  obtain ⟨s1, c1, e1, k1, k2, -⟩ := row_form h.outer
  obtain ⟨s2, c2, e2, k3, k4, -⟩ := row_form h.picks
  have hln : ln = rows.length := by injection e1
  have hpn : pn = ps.length := by injection e2
  have hlc : c1 = lc := by injection e1 with a b c; exact c.symm
  have hpc : c2 = pc := by injection e2 with a b c; exact c.symm
  have hls : s1 = lp := by injection e1 with a b c; exact a.symm
  have hps : s2 = pp := by injection e2 with a b c; exact a.symm
  subst hlc hpc hls hps hln hpn
  have m1 : rows.length ≤ maxLen := by unfold maxLen; omega
  have m2 : ps.length ≤ maxLen := by unfold maxLen; omega
  have m3 : -9223372036854775808 ≤ (g : Int) ∧ (g : Int) ≤ 9223372036854775807 := by omega
  have m4 : -9223372036854775808 ≤ (sb : Int) ∧ (sb : Int) ≤ 9223372036854775807 := by omega
  refine ⟨⟨SlK.of_row h.outer m1, fun r hr => ?_, fun r hr => ?_, fun r hr => ?_, fun r hr => (h.len r hr).2.2, hn, fun r hr => by have := (h.len r hr).2.1; omega⟩,
    (SlK.of_row h.picks m2).sl, h64, hseed, m3, m4, k2, k1, k4, k3, hp⟩
  · exact SlK.of_row (h.inner r hr) (by have := h.len r hr; unfold maxLen; omega)
  · exact row_nil' (h.inner r hr)
  · obtain ⟨s3, c3, e3, k5, -, -⟩ := row_form (h.inner r hr)
    unfold crV at e3
    injection e3 with a b c
    rw [c]; exact k5
end
end Go.Proofs.YtifofdciablljaaDoor
