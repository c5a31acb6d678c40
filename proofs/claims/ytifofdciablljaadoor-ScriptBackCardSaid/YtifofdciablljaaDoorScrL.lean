/-
  Layer 3 (script): reading: all of a script.
-/
import Derived.Test.YtifofdciablljaaDoorScrK
import Derived.ScopeJumps
import Derived.Test.YtifofdciablljaaDoorRoundF
set_option linter.unusedSimpArgs false
set_option linter.unusedVariables false
set_option maxRecDepth 100000
namespace Go.Proofs.YtifofdciablljaaDoor
open Go.RowKit

def listsIn (rb : Nat) (w : World) : Nat := match w.cell? ⟨rb, 3, none⟩ with | some (.slice _ n _) => n | _ => 0
/-- The rows of a script, as one's own since some world. -/
structure SmOwn (B : Nat) (sm : Sm) (w : World) : Prop where
  outer : w.ownsRow B 55 1 (.slice sm.lp sm.ln sm.lc) sm.rows.length (sm.rows.map crV)
  inner : ∀ r ∈ sm.rows, w.ownsRow B 57 4 (crV r) r.len (cals r.cs)
  picks : w.ownsRow B 22 1 (.slice sm.pp sm.pn sm.pc) sm.picks.length (u64s sm.picks)
theorem SmOwn.next {B : Nat} {sm : Sm} {w w' : World} (h : SmOwn B sm w) (hb : Below w.heap.size w w') : SmOwn B sm w' :=
  ⟨ownsRow_next h.outer hb, fun r hr => ownsRow_next (h.inner r hr) hb, ownsRow_next h.picks hb⟩
/-- What reading a script comes to. -/
def ScriptP (w : World) (rb : Nat) (bp : Option Addr) (bn bc : Nat) (bytes : List Nat) (R : Option (Scr × List Nat)) (e : Ending) (w' : World) : Prop := w.grownBy w' (some rb) ∧ match R with
  | some (s, rest) => e = .returned (.tuple #[]) ∧ ∃ (sm : Sm) (p' : Nat), RdI w rb (.int .i64 sm.goers) (.int .i64 sm.slabs) (.int .u64 (sm.seed : Int)) (.slice sm.lp sm.ln sm.lc) (.slice sm.pp sm.pn sm.pc) bp bn bc bytes p' w' ∧ SmIn w' sm ∧ SmOwn w.heap.size sm w' ∧ sm.scr = s ∧ p' + rest.length = bn ∧ p' ≤ bn
  | none => e = Bad
theorem ScriptP.bad {w w' : World} {rb : Nat} {bp : Option Addr} {bn bc : Nat} {bytes : List Nat} {v0 v1 v2 v3 v4 : Value} {p : Nat} {R : Option (Scr × List Nat)} (hR : R = none) (h : RdI w rb v0 v1 v2 v3 v4 bp bn bc bytes p w') : ScriptP w rb bp bn bc bytes R Bad w' := by subst hR; exact ⟨h.by', rfl⟩
/-- At the label: rows of calls that were read, those that are still to come. -/
def AtLabel (w : World) (rb : Nat) (bp : Option Addr) (bn bc : Nat) (bytes : List Nat) (R : Option (Scr × List Nat)) (a' : Act) (w' : World) : Prop := ∃ (g sb seed left x : Nat) (rows : List CRow) (lv : Value) (f : Nat → Value),
  a' = { tmps := #[.pointer (some ⟨rb, 0, none⟩), f 1, .int .i64 (left : Int), f 3, f 4, f 5, f 6, f 7, f 8, f 9, f 10, f 11, f 12, f 13, f 14, f 15, f 16, f 17, f 18, f 19, f 20, f 21, f 22, f 23, f 24, f 25, f 26, f 27, f 28, f 29, f 30, f 31, f 32, f 33, f 34, f 35, f 36, f 37, f 38, f 39, f 40, f 41, f 42, f 43, f 44, f 45, f 46, f 47, f 48, f 49, f 50, f 51, f 52, f 53, f 54, f 55, f 56, f 57, f 58, f 59, f 60, f 61, f 62, f 63, f 64, f 65, f 66, f 67, f 68, f 69, f 70, f 71, f 72, f 73, f 74, f 75, f 76, f 77, f 78, f 79, f 80, f 81, f 82, f 83, f 84, f 85], defers := [] } ∧ g ≤ 8 ∧ sb ≤ 128 ∧ seed < 2 ^ 64 ∧ left ≤ 64 ∧ rows.length ≤ g ∧ x ≤ bn ∧
  ScI w rb (.int .i64 (g : Int)) (.int .i64 (sb : Int)) (.int .u64 (seed : Int)) bp bn bc bytes lv (.slice none 0 0) rows [] x w' ∧ R = restR g sb seed (rows.map (·.cs)) (g - rows.length) left (bytes.drop x)
theorem AtLabel.mk {w : World} {rb : Nat} {bp : Option Addr} {bn bc : Nat} {bytes : List Nat} {R : Option (Scr × List Nat)} {w' : World} {g sb seed left x : Nat} {rows : List CRow} {lv : Value} {t : Array Value}
    (ht : t = #[.pointer (some ⟨rb, 0, none⟩), t.getD 1 undef, .int .i64 (left : Int), t.getD 3 undef, t.getD 4 undef, t.getD 5 undef, t.getD 6 undef, t.getD 7 undef, t.getD 8 undef, t.getD 9 undef, t.getD 10 undef, t.getD 11 undef, t.getD 12 undef, t.getD 13 undef, t.getD 14 undef, t.getD 15 undef, t.getD 16 undef, t.getD 17 undef, t.getD 18 undef, t.getD 19 undef, t.getD 20 undef, t.getD 21 undef, t.getD 22 undef, t.getD 23 undef, t.getD 24 undef, t.getD 25 undef, t.getD 26 undef, t.getD 27 undef, t.getD 28 undef, t.getD 29 undef, t.getD 30 undef, t.getD 31 undef, t.getD 32 undef, t.getD 33 undef, t.getD 34 undef, t.getD 35 undef, t.getD 36 undef, t.getD 37 undef, t.getD 38 undef, t.getD 39 undef, t.getD 40 undef, t.getD 41 undef, t.getD 42 undef, t.getD 43 undef, t.getD 44 undef, t.getD 45 undef, t.getD 46 undef, t.getD 47 undef, t.getD 48 undef, t.getD 49 undef, t.getD 50 undef, t.getD 51 undef, t.getD 52 undef, t.getD 53 undef, t.getD 54 undef, t.getD 55 undef, t.getD 56 undef, t.getD 57 undef, t.getD 58 undef, t.getD 59 undef, t.getD 60 undef, t.getD 61 undef, t.getD 62 undef, t.getD 63 undef, t.getD 64 undef, t.getD 65 undef, t.getD 66 undef, t.getD 67 undef, t.getD 68 undef, t.getD 69 undef, t.getD 70 undef, t.getD 71 undef, t.getD 72 undef, t.getD 73 undef, t.getD 74 undef, t.getD 75 undef, t.getD 76 undef, t.getD 77 undef, t.getD 78 undef, t.getD 79 undef, t.getD 80 undef, t.getD 81 undef, t.getD 82 undef, t.getD 83 undef, t.getD 84 undef, t.getD 85 undef]) (h : g ≤ 8 ∧ sb ≤ 128 ∧ seed < 2 ^ 64 ∧ left ≤ 64 ∧ rows.length ≤ g ∧ x ≤ bn ∧
  ScI w rb (.int .i64 (g : Int)) (.int .i64 (sb : Int)) (.int .u64 (seed : Int)) bp bn bc bytes lv (.slice none 0 0) rows [] x w' ∧ R = restR g sb seed (rows.map (·.cs)) (g - rows.length) left (bytes.drop x)) :
    AtLabel w rb bp bn bc bytes R { tmps := t, defers := [] } w' := ⟨g, sb, seed, left, x, rows, lv, fun i => t.getD i undef, congrArg (fun t => ({ tmps := t, defers := [] } : Act)) ht, h⟩
theorem restR_step (g sb seed : Nat) (ls : List (List Cal)) (k left : Nat) (l : List Nat) : restR g sb seed ls (k + 1) left l = match mostR left l with
    | none => none
    | some (n, l1) => match listR n l1 with
      | none => none
      | some (cs, l2) => restR g sb seed (ls ++ [cs]) k (left - n) l2 := by
  unfold restR
  rw [listsR]
  cases mostR left l with
  | none => rfl
  | some y =>
    obtain ⟨n, l1⟩ := y
    simp only
    cases listR n l1 with
    | none => rfl
    | some z =>
      obtain ⟨cs, l2⟩ := z
      simp only
      cases listsR k (left - n) l2 with
      | none => rfl
      | some q => simp
def listLeft (cs : List Cal) (k : Nat) (l : List Nat) : Option (List Cal × List Nat) := match listR k l with
  | none => none
  | some (cs', r) => some (cs ++ cs', r)
theorem restR_zero (g sb seed : Nat) (ls : List (List Cal)) (left : Nat) (l : List Nat) : restR g sb seed ls 0 left l = endR g sb seed ls l := by simp [restR, listsR]
def picksLeft (ps : List Nat) (k : Nat) (l : List Nat) : Option (List Nat × List Nat) := match readW k l with
  | none => none
  | some (ns, r) => some (ps ++ ns, r)
theorem picksLeft_zero (n : Nat) (l : List Nat) : picksLeft [] n l = readW n l := by unfold picksLeft; cases readW n l <;> rfl
theorem picksLeft_done (ps l : List Nat) : picksLeft ps 0 l = some (ps, l) := by simp [picksLeft, readW]
theorem picksLeft_none {ps l : List Nat} {k : Nat} (h : readN l = none) : picksLeft ps (k + 1) l = none := by simp [picksLeft, readW, h]
theorem picksLeft_next {n : Nat} {ps l l' : List Nat} {k : Nat} (h : readN l = some (n, l')) : picksLeft ps (k + 1) l = picksLeft (ps ++ [n]) k l' := by
  unfold picksLeft
  rw [readW, h]
  simp only
  cases readW k l' with
  | none => rfl
  | some x => simp
/-- What is told of the end of a script. -/
def finR (g sb seed : Nat) (ls : List (List Cal)) (q : Option (List Nat × List Nat)) : Option (Scr × List Nat) := match q with
  | none => none
  | some (ps, l2) => if rightS ⟨(g : Int), (sb : Int), seed, ls, ps⟩ = true then some (⟨(g : Int), (sb : Int), seed, ls, ps⟩, l2) else none
theorem endR_fin (g sb seed : Nat) (ls : List (List Cal)) (l : List Nat) : endR g sb seed ls l = match mostR 4096 l with
    | none => none
    | some (n, l1) => finR g sb seed ls (readW n l1) := by
  unfold endR finR
  cases mostR 4096 l with
  | none => rfl
  | some x => rfl
theorem listLeft_zero (n : Nat) (l : List Nat) : listLeft [] n l = listR n l := by unfold listLeft; cases listR n l <;> rfl
theorem listLeft_done (cs : List Cal) (l : List Nat) : listLeft cs 0 l = some (cs, l) := by simp [listLeft, listR]
theorem listLeft_none {cs : List Cal} {l : List Nat} {k : Nat} (h : callR l = none) : listLeft cs (k + 1) l = none := by simp [listLeft, listR, h]
theorem listLeft_next {c : Cal} {cs : List Cal} {l l' : List Nat} {k : Nat} (h : callR l = some (c, l')) : listLeft cs (k + 1) l = listLeft (cs ++ [c]) k l' := by
  unfold listLeft
  rw [listR, h]
  simp only
  cases listR k l' with
  | none => rfl
  | some x => simp
theorem RdI.tks {w : World} {rb : Nat} {v0 v1 v2 v3 v4 : Value} {bp : Option Addr} {bn bc : Nat} {bytes : List Nat} {p : Nat} {wr : World} (h : RdI w rb v0 v1 v2 v3 v4 bp bn bc bytes p wr) (hT : Tks w) (h0 : rb ≠ 0) : Tks wr :=
  fun i hi => cell_of_heap (h.by'.block 0 hT.lt (fun e => h0 (by injection e with e; exact e.symm))) (hT i hi)
theorem info_lst : (Tryd.prog.info? 55).map (fun i => (i.zero, i.size, i.bytes)) = some (some (.slice none 0 0), 1, 24) := by kernel_rfl
theorem rd_c3 {w : World} {rb : Nat} {v0 v1 v2 v3 v4 : Value} {bp : Option Addr} {bn bc : Nat} {bytes : List Nat} {p : Nat} {wr : World} (h : RdI w rb v0 v1 v2 v3 v4 bp bn bc bytes p wr) : wr.cell? ⟨rb, 3, none⟩ = some v3 := blk_cell (i := 3) h.blk rfl
theorem ScI.pick {w : World} {rb : Nat} {v0 v1 v2 lv pv pv' : Value} {bp : Option Addr} {bn bc : Nat} {bytes : List Nat} {rows : List CRow} {ps : List Nat} {p q : Nat} {W W' : World} (h : ScI w rb v0 v1 v2 bp bn bc bytes lv pv rows ps p W)
    (ho : W'.ownsRow w.heap.size 22 1 pv' (ps.length + 1) (u64s ps ++ u64s [q])) (hg : W.grownBy W' pv.ownBlock) (hrd : RdI w rb v0 v1 v2 lv pv bp bn bc bytes p W') :
    ScI w rb v0 v1 v2 bp bn bc bytes lv pv' rows (ps ++ [q]) p (W'.setCell ⟨rb, 4, none⟩ pv') := by
  have hgT := (hrd.self.set (i := 4) pv' (u0 := v0) (u1 := v1) (u2 := v2) (u3 := lv) (u4 := pv') rfl).by'
  have hne : ∀ {e : TypeId} {k : Nat} {v : Value} {n : Nat} {xs : List Value}, W'.ownsRow w.heap.size e k v n xs → ∀ g, v.ownBlock = some g → some rb ≠ some g := fun hr g hg e => by
    have h1 := (hr.lt g hg).1
    have h2 := h.low
    injection e with e
    omega
  have z1 := ownsRow_other h.outer hg (ownsRow_apart h.outer h.picks (by decide))
  have z2 := fun r hr => ownsRow_other (h.inner r hr) hg (ownsRow_apart (h.inner r hr) h.picks (by decide))
  have z3 : W'.ownsRow w.heap.size 22 1 pv' (ps ++ [q]).length (u64s (ps ++ [q])) := by rw [List.length_append, u64s_snoc]; exact ho
  exact ⟨hrd.set (i := 4) pv' rfl, ownsRow_other z1 hgT (hne z1), fun r hr => ownsRow_other (z2 r hr) hgT (hne (z2 r hr)), h.len, ownsRow_other z3 hgT (hne z3), h.low⟩
theorem wp_scope_jumps2 {P : Program} {Q : Exit → Act → World → Prop} {a : Act} {w : World} {c rest : Code} (l : Nat) (J : Act → World → Prop) (μ : Act → World → Nat) (hf : findLabel c l = some (Code.skip.seq rest))
    (first : (∀ a w, J a w → rest.wp P (Exit.jump l J Q) a w) → c.wp P (Exit.jump l J Q) a w)
    (pass : ∀ a w, J a w → rest.wp P (Exit.jump l (fun a' w' => J a' w' ∧ μ a' w' < μ a w) Q) a w) : (Code.scope c).wp P Q a w := by
  refine wp_scope_jumps l J μ hf (first fun a w h => wp_mono (pass a w h) ?_) fun a w h => wp_seq (wp_skip ?_)
  · intro e a w h
    cases e with
    | goto l' => exact ⟨h.1, h.2.1⟩
    | _ => exact h
  · exact pass a w h
set_option maxHeartbeats 4000000 in
theorem script_reads (rb : Nat) (bp : Option Addr) (bn bc : Nat) (bytes : List Nat) (w : World) (hT : Tks w) (h0 : rb ≠ 0) (h : RdI w rb (.int .i64 0) (.int .i64 0) (.int .u64 0) (.slice none 0 0) (.slice none 0 0) bp bn bc bytes 0 w) (hby : ∀ b ∈ bytes, b < 256) (hbn : bn ≤ 100000) :
    Calls Tryd.prog 47 #[.pointer (some ⟨rb, 0, none⟩)] w fun e w' => ScriptP w rb bp bn bc bytes (scriptR bytes) e w' := by
  have hbl : bn = bytes.length := by have := h.sl.1; rw [u8s_length] at this; exact this
  have hrb := lt_of_heap h.blk
  have hS0 : ScI w rb (.int .i64 0) (.int .i64 0) (.int .u64 0) bp bn bc bytes (.slice none 0 0) (.slice none 0 0) [] [] 0 w := ⟨h, ⟨rfl, .inl ⟨rfl, rfl⟩⟩, fun r hr => by simp at hr, fun r hr => by simp at hr, ⟨rfl, .inl ⟨rfl, rfl⟩⟩, hrb⟩
  obtain ⟨R, hR⟩ : ∃ R, R = scriptR bytes := ⟨_, rfl⟩
  rw [← hR]
  unfold scriptR at hR
  have hS0'h := Lib.hid hS0
  have hR'h := Lib.hid hR
  have hby'h := Lib.hid hby
  have hbl'h := Lib.hid hbl
  have h'h := Lib.hid h
  have hT'h := Lib.hid hT
  clear hS0 hR hby hbl h hT
  go_enter Tryd.func47, Tryd.ntmps47
  go_wp2
  refine wp_scope_jumps2 0 (AtLabel w rb bp bn bc bytes R) (fun _ w' => 8 - listsIn rb w') rfl ?_ ?_
  · intro hrest
    have HREST := Lib.hid hrest
    clear hrest
    have M1 := most_reads rb _ _ _ _ _ bp bn bc 0 8 bytes w h'h.out hby'h.out (Nat.zero_le _) (by omega)
    have hR1 := hR'h.out
    unfold scriptR at hR1
    rw [List.drop_zero] at M1
    cases hm1 : mostR 8 bytes with
    | none =>
      rw [hm1] at M1 hR1
      simp only [MostP] at M1 hR1
      have hRn : R = none := hR1
      clear hR1
      have hRn'h := Lib.hid hRn
      clear hRn
      have M1'h := Lib.hid M1
      clear M1
      clear hm1
      go_wp2_with fail
      refine M1'h.out.mono ?_
      rintro e w2 ⟨p', hI, rfl⟩
      exact ⟨rfl, ScriptP.bad hRn'h.out hI⟩
    | some x1 =>
      obtain ⟨g, l1⟩ := x1
      rw [hm1] at M1 hR1
      simp only [MostP] at M1 hR1
      obtain ⟨hg8, hrd1⟩ := mostR_le hm1
      have hk1 := readN_drop hrd1
      have M2 := fun (w2 : World) (p2 : Nat) (hI : RdI w rb (.int .i64 0) (.int .i64 0) (.int .u64 0) (.slice none 0 0) (.slice none 0 0) bp bn bc bytes p2 w2) (hp : p2 ≤ bn) => most_reads rb _ _ _ _ _ bp bn bc p2 128 bytes w2 hI.self hby'h.out hp (by omega)
      have M1'h := Lib.hid M1
      have M2'h := Lib.hid M2
      have hR1'h := Lib.hid hR1
      have hk1'h := Lib.hid hk1
      have hrd1'h := Lib.hid hrd1
      have hm1'h := Lib.hid hm1
      clear M1 M2 hR1 hk1 hrd1 hm1
      go_wp2_with fail
      refine M1'h.out.mono ?_
      rintro e w2 ⟨p2, hI2, rfl, hp2, hp2'⟩
      have hd2 := drop_of (p := 0) hbl'h.out (by rw [List.drop_zero]; exact hk1'h.out) hp2 hp2'
      have M3 := M2'h.out w2 p2 hI2 hp2'
      rw [hd2] at M3
      clear M1'h M2'h
      cases hm2 : mostR 128 l1 with
      | none =>
        have hRn : R = none := by rw [hR1'h.out, hm2]
        rw [hm2] at M3
        simp only [MostP] at M3
        have M3'h := Lib.hid M3
        have hI2'h := Lib.hid hI2
        have hRn'h := Lib.hid hRn
        clear M3 hI2 hRn
        clear hd2 hp2
        go_wp2_with fail
        refine M3'h.out.mono ?_
        rintro e w3 ⟨p3, hI3, rfl⟩
        exact ⟨rfl, ScriptP.bad hRn'h.out (hI2'h.out.then hI3)⟩
      | some x2 =>
        obtain ⟨sb, l2⟩ := x2
        rw [hm2] at M3
        simp only [MostP] at M3
        obtain ⟨hsb, hrd2⟩ := mostR_le hm2
        have hk2 := readN_drop hrd2
        have M3'h := Lib.hid M3
        have hI2'h := Lib.hid hI2
        have hk2'h := Lib.hid hk2
        have hrd2'h := Lib.hid hrd2
        have hm2'h := Lib.hid hm2
        have hd2'h := Lib.hid hd2
        clear M3 hI2 hk2 hrd2 hm2 hd2
        clear hp2
        go_wp2_with fail
        refine M3'h.out.mono ?_
        rintro e w3 ⟨p3, hI3, rfl, hp3, hp3'⟩
        have hd3 := drop_of (p := p2) hbl'h.out (by rw [hd2'h.out]; exact hk2'h.out) hp3 hp3'
        have hJ3 := hI2'h.out.then hI3
        have M4 := number_reads rb _ _ _ _ _ bp bn bc p3 bytes w3 hI3.self hby'h.out hp3'
        rw [hd3] at M4
        clear M3'h hI3
        cases hm3 : readN l2 with
        | none =>
          have hRn : R = none := by rw [hR1'h.out, hm2'h.out]; simp only [hm3]
          rw [hm3] at M4
          simp only [NumP] at M4
          have M4'h := Lib.hid M4
          have hJ3'h := Lib.hid hJ3
          have hRn'h := Lib.hid hRn
          clear M4 hJ3 hRn
          clear hd3 hp3
          go_wp2_with fail
          refine M4'h.out.mono ?_
          rintro e w4 ⟨p4, hI4, rfl⟩
          exact ⟨rfl, ScriptP.bad hRn'h.out (hJ3'h.out.then hI4)⟩
        | some x3 =>
          obtain ⟨seed, l3⟩ := x3
          rw [hm3] at M4
          simp only [NumP] at M4
          have hRy : R = restR g sb seed [] g 64 l3 := by rw [hR1'h.out, hm2'h.out]; simp only [hm3]
          have hk3 := readN_drop hm3
          have hseed : seed < 2 ^ 64 := readN_lt (fun b hb => hby'h.out b (List.mem_of_mem_drop (by rw [hd3]; exact hb))) hm3
          have M4'h := Lib.hid M4
          have hJ3'h := Lib.hid hJ3
          have hRy'h := Lib.hid hRy
          have hk3'h := Lib.hid hk3
          have hd3'h := Lib.hid hd3
          have hseed'h := Lib.hid hseed
          have hm3'h := Lib.hid hm3
          clear M4 hJ3 hRy hk3 hd3 hseed hm3
          clear hp3 hR1'h
          go_wp2_with fail
          refine M4'h.out.mono ?_
          rintro e w4 ⟨p4, hI4, rfl, hp4, hp4'⟩
          have hd4 := drop_of (p := p3) hbl'h.out (by rw [hd3'h.out]; exact hk3'h.out) hp4 hp4'
          have hS4 := hS0'h.out.step (hJ3'h.out.then hI4)
          have y0 := blk_cell (i := 0) hS4.rd.blk rfl
          have y1 := blk_cell (i := 1) hS4.rd.blk rfl
          have y2 := blk_cell (i := 2) hS4.rd.blk rfl
          have f0 := blk_free 0 hS4.rd.blk
          have f1 := blk_free 1 hS4.rd.blk
          have f2 := blk_free 2 hS4.rd.blk
          have hb4 := hS4
          clear hI4
          have hS4'h := Lib.hid hS4
          have hd4'h := Lib.hid hd4
          clear hS4 hd4
          clear hb4
          go_wp2
          have hS5 := hS4'h.out.step (hS4'h.out.rd.self.set (i := 0) (.int .i64 (g : Int)) rfl)
          have hS6 := hS5.step (hS5.rd.self.set (i := 1) (.int .i64 (sb : Int)) rfl)
          have hS7 := hS6.step (hS6.rd.self.set (i := 2) (.int .u64 (seed : Int)) rfl)
          clear y0 y1 y2 f0 f1 f2 hS5 hS6
          refine wp_label ?_
          rename_i K hK
          refine hK _ _ (HREST.out _ _ ?_)
          exact AtLabel.mk rfl ⟨hg8, hsb, hseed'h.out, Nat.le_refl _, Nat.zero_le _, hp4', hS7, by rw [hRy'h.out, hd4'h.out]; rfl⟩
  · rintro a' wr0 ⟨g, sb, seed, left, x, rows, lv, f, rfl, hg8, hsb, hseed, hleft, hrows, hx, hS, hE⟩
    obtain ⟨lp, lc, rfl⟩ := row_slice' hS.outer
    have y0 : wr0.cell? ⟨rb, 0, none⟩ = some (.int .i64 (g : Int)) := blk_cell (i := 0) hS.rd.blk rfl
    have y3 : wr0.cell? ⟨rb, 3, none⟩ = some (.slice lp rows.length lc) := blk_cell (i := 3) hS.rd.blk rfl
    obtain ⟨w2, hw2⟩ : ∃ w2, w2 = wr0.drew := ⟨_, rfl⟩
    have hS2 := hS.wide ((Below.refl wr0.heap.size wr0).drew)
    have hlw : listsIn rb wr0 = rows.length := by unfold listsIn; rw [y3]
    rw [← hw2] at hS2
    by_cases hlt : rows.length < g
    · have hltd : decide (rows.length < g) = true := decide_eq_true hlt
      have hltz : (rows.length : Int) < (g : Int) := by omega
      have M := most_reads rb _ _ _ _ _ bp bn bc x left bytes w2 hS2.rd.self hby'h.out hx (by omega)
      have hE1 : R = restR g sb seed (rows.map (·.cs)) (g - rows.length - 1 + 1) left (bytes.drop x) := by rw [hE]; congr 1; omega
      rw [restR_step] at hE1
      clear hS hE
      cases hm : mostR left (bytes.drop x) with
      | none =>
        rw [hm] at M hE1
        simp only [MostP] at M hE1
        have M'h := Lib.hid M
        have hE1'h := Lib.hid hE1
        have hS2'h := Lib.hid hS2
        have hm'h := Lib.hid hm
        have hlw'h := Lib.hid hlw
        clear M hE1 hS2 hm hlw
        go_wp2_with fail
        go_still_tail 11, (by kernel_rfl)
        change wpList _ _ _ _ _ wr0.drew
        rw [← hw2]
        clear y0 y3 hw2
        go_wp2_with fail
        refine M'h.out.mono ?_
        rintro e w3 ⟨p3, hI3, rfl⟩
        exact ⟨rfl, ScriptP.bad hE1'h.out (hS2'h.out.rd.then hI3)⟩
      | some y =>
        obtain ⟨n, l1⟩ := y
        rw [hm] at M hE1
        simp only [MostP] at M hE1
        obtain ⟨hnl, hrd⟩ := mostR_le hm
        have hk1 := readN_drop hrd
        have M'h := Lib.hid M
        have hE1'h := Lib.hid hE1
        have hS2'h := Lib.hid hS2
        have hm'h := Lib.hid hm
        have hlw'h := Lib.hid hlw
        have hk1'h := Lib.hid hk1
        have hrd'h := Lib.hid hrd
        clear M hE1 hS2 hm hlw hk1 hrd
        go_wp2_with fail
        go_still_tail 11, (by kernel_rfl)
        change wpList _ _ _ _ _ wr0.drew
        rw [← hw2]
        clear y0 y3 hw2
        go_wp2_with fail
        refine M'h.out.mono ?_
        rintro e w3 ⟨p3, hI3, rfl, hp3, hp3'⟩
        have hd3 := drop_of hbl'h.out hk1'h.out hp3 hp3'
        have hS3 := hS2'h.out.step hI3
        clear hI3 hp3
        have hS3'h := Lib.hid hS3
        have hd3'h := Lib.hid hd3
        clear hS3 hd3
        have hE3 : R = match listLeft [] n (bytes.drop p3) with
          | none => none
          | some (cs, l2) => restR g sb seed (rows.map (·.cs) ++ [cs]) (g - rows.length - 1) (left - n) l2 := by rw [hE1'h.out, hd3'h.out, listLeft_zero]
        have hE3'h := Lib.hid hE3
        clear hE3
        clear M'h hS2'h
        obtain ⟨i0, hi, hz, hs, hby⟩ := info_calp
        go_wp2
        go_loopg [3, 37] n (fun q v ix wr => ∃ (j x : Nat) (cs : List Cal), j + q = n ∧ ix = .int .i64 (j : Int) ∧ x ≤ bn ∧ cs.length = j ∧ (∀ c ∈ cs, CalOk c) ∧ wr.ownsRow w3.heap.size 57 4 v cs.length (cals cs) ∧
          RdI w3 rb (.int .i64 (g : Int)) (.int .i64 (sb : Int)) (.int .u64 (seed : Int)) (.slice lp rows.length lc) (.slice none 0 0) bp bn bc bytes x wr ∧ Hid (R = match listLeft cs (n - j) (bytes.drop x) with
          | none => none
          | some (cs, l2) => restR g sb seed (rows.map (·.cs) ++ [cs]) (g - rows.length - 1) (left - n) l2))
        case atStart => exact ⟨0, p3, [], by omega, rfl, hp3', rfl, fun c hc => by simp at hc, ⟨rfl, .inl ⟨rfl, rfl⟩⟩, hS3'h.out.rd.self, hE3'h.out⟩
        case round =>
          obtain ⟨j, x, cs, hj, rfl, hx, hcl, hok, hrow, hI, hE⟩ := hrel
          obtain ⟨go, rfl⟩ : ∃ go : Nat, go = gk := ⟨_, rfl⟩
          obtain ⟨vs, vc, hv, -, -, -⟩ := row_form hrow
          subst hv
          by_cases hlt2 : j < n
          · have i1 : (j : Int) < (n : Int) := by omega
            have C := call_reads rb _ _ _ _ _ bp bn bc x bytes wr (hI.tks (hS3'h.out.rd.tks hT'h.out h0) h0) h0 hI.self hby'h.out hx
            cases hc : callR (bytes.drop x) with
            | none =>
              rw [hc] at C
              simp only [CallP] at C
              have hRn : R = none := by rw [hE.out, show n - j = n - j - 1 + 1 by omega, listLeft_none hc]
              clear hE
              have C'h := Lib.hid C
              have hI'h := Lib.hid hI
              have hRn'h := Lib.hid hRn
              have hc'h := Lib.hid hc
              have hrow'h := Lib.hid hrow
              have hok'h := Lib.hid hok
              clear C hI hRn hc hrow hok
              go_wp2_with fail
              refine C'h.out.mono ?_
              rintro e w4 ⟨p4, hI4, rfl⟩
              exact ⟨rfl, ScriptP.bad hRn'h.out (hS3'h.out.rd.then (hI'h.out.then hI4))⟩
            | some y =>
              obtain ⟨c, l4⟩ := y
              rw [hc] at C
              simp only [CallP] at C
              have hE4 : R = match listLeft (cs ++ [c]) (n - (j + 1)) l4 with
                | none => none
                | some (cs, l2) => restR g sb seed (rows.map (·.cs) ++ [cs]) (g - rows.length - 1) (left - n) l2 := by
                rw [hE.out, show n - j = n - (j + 1) + 1 by omega, listLeft_next hc]
              have hcd := callR_drop hc
              have hco := callR_ok (fun b hb => hby'h.out b (List.mem_of_mem_drop hb)) hc
              clear hE
              have C'h := Lib.hid C
              have hI'h := Lib.hid hI
              have hE4'h := Lib.hid hE4
              have hc'h := Lib.hid hc
              have hcd'h := Lib.hid hcd
              have hco'h := Lib.hid hco
              have hok'h := Lib.hid hok
              have hrow'h := Lib.hid hrow
              have hj'h := Lib.hid hj
              have hcl'h := Lib.hid hcl
              clear C hI hE4 hc hcd hco hok hrow hj hcl
              go_wp2_with fail
              refine C'h.out.mono ?_
              rintro e w4 ⟨p4, hI4, rfl, hp4, hp4'⟩
              have hd4 := drop_of hbl'h.out hcd'h.out hp4 hp4'
              have hrw3 : rb < w3.heap.size := lt_of_heap hS3'h.out.rd.blk
              have hJ4 := hI'h.out.then hI4
              have hrow4 := ownsRow_other hrow'h.out hI4.by' (fun g' hg' e => by have := (hrow'h.out.lt g' hg').1; injection e with e; omega)
              have hz34 := hJ4.by'.size
              have hB5 := (Below.refl w4.heap.size w4).alloc (Nat.le_refl _) (.cells #[.int .i64 c.op, .int .u64 (c.key : Int), .int .u64 (c.a : Int), .int .u64 (c.b : Int)] 57)
              have hJ5 := hJ4.wide hB5
              have hrow5 := ownsRow_next hrow4 hB5
              have hb5 := Nat.le_trans hz34 hB5.size
              have hsl : SlK (w4.alloc (.cells #[.int .i64 c.op, .int .u64 (c.key : Int), .int .u64 (c.a : Int), .int .u64 (c.b : Int)] 57)) 4 (some ⟨w4.heap.size, 0, none⟩) 1 (cals [c]) := SlK.of_blk (World.alloc_heap_new _ _) rfl (by unfold maxLen; omega)
              have hcl64 : cs.length ≤ 64 := by have := hcl'h.out; omega
              have hone := cals_one [c]
              unfold calA
              clear hI4 hp4 hJ4 hrow4 hB5 hz34
              have hd4'h := Lib.hid hd4
              have hJ5'h := Lib.hid hJ5
              have hrow5'h := Lib.hid hrow5
              have hb5'h := Lib.hid hb5
              have hsl'h := Lib.hid hsl
              have hone'h := Lib.hid hone
              clear hd4 hJ5 hrow5 hb5 hsl hone
              clear C'h hI'h hrow'h
              go_wp2_with (at_builtin; refine wpList_append_slk _ rfl (.tmp 39) (.tmp 42) 55 rfl w3.heap.size 57 i0 calZ 4 32 Tryd.underlying55 hi hz hs hby rfl (by decide) (.slice vs cs.length vc) cs.length _ rfl hrow5'h.out _ 1 1 _ rfl hsl'h.out hone'h.out (by unfold maxLen; omega) (by omega) hb5'h.out ?_; intro v' w9 hown' hgrow hwh)
              have hJ9 := hJ5'h.out.low hS3'h.out.rd.self ((Below.refl w3.heap.size _).grown hgrow hb5'h.out (fun q hq => (hrow5'h.out.lt q hq).1))
              rw [cals_app] at hown'
              clear hgrow hwh
              have hJ9'h := Lib.hid hJ9
              have hown''h := Lib.hid hown'
              clear hJ9 hown'
              go_wp2
              go_roundg (go - 1)
              case measure => have := hj'h.out; omega
              case rel => exact ⟨j + 1, p4, cs ++ [c], by have := hj'h.out; omega, by go_num, hp4', by rw [List.length_append, hcl'h.out]; rfl, fun q hq => by
                  rcases List.mem_append.1 hq with hq | hq
                  · exact hok'h.out q hq
                  · obtain rfl : q = c := by simpa using hq
                    exact hco'h.out, by rw [List.length_append]; exact hown''h.out, hJ9'h.out, by show R = _; rw [hE4'h.out, hd4'h.out]⟩
          · have i1 : ¬ (j : Int) < (n : Int) := by omega
            have hE4 : R = restR g sb seed (rows.map (·.cs) ++ [cs]) (g - rows.length - 1) (left - n) (bytes.drop x) := by rw [hE.out, show n - j = 0 by omega, listLeft_done]
            have hcn : cs.length = n := by omega
            have hS4 := hS3'h.out.step hI
            have hws := hS3'h.out.rd.by'.size
            have hrow4 := ownsRow_mono hrow hws
            clear hE hI hrow hj
            obtain ⟨r, hr⟩ : ∃ r : CRow, r = ⟨vs, cs.length, vc, cs⟩ := ⟨_, rfl⟩
            have hrV : Value.slice vs cs.length vc = crV r := by rw [hr]; rfl
            have hr2 : wr.ownsRow w.heap.size 57 4 (crV r) r.len (cals r.cs) := by rw [hr]; exact hrow4
            have hr3 : r.len = r.cs.length ∧ r.cs.length ≤ 64 ∧ ∀ c ∈ r.cs, CalOk c := by rw [hr]; exact ⟨rfl, by show cs.length ≤ 64; omega, hok⟩
            have hrc : r.cs = cs := by rw [hr]
            have y3 : wr.cell? ⟨rb, 3, none⟩ = some (.slice lp rows.length lc) := blk_cell (i := 3) hS4.rd.blk rfl
            have hB5 := (Below.refl wr.heap.size wr).alloc (Nat.le_refl _) (.cells #[.slice vs cs.length vc] 55)
            have hS5 := hS4.wide hB5
            have hr5 := ownsRow_next hr2 hB5
            have hsl : SlK (wr.alloc (.cells #[.slice vs cs.length vc] 55)) 1 (some ⟨wr.heap.size, 0, none⟩) 1 [crV r] := by rw [← hrV]; exact SlK.of_blk (World.alloc_heap_new _ _) rfl (by unfold maxLen; omega)
            have y5 : (wr.alloc (.cells #[.slice vs cs.length vc] 55)).cell? ⟨rb, 3, none⟩ = some (.slice lp rows.length lc) := blk_cell (i := 3) hS5.rd.blk rfl
            have hb5 := hS5.rd.by'.size
            have hone : ∀ v ∈ [crV r], v.oneCell' = true := by intro v hv; simp at hv; subst hv; rfl
            have hrl16 : rows.length ≤ 8 := by omega
            obtain ⟨i1', hi', hz', hs', hby'⟩ := info_parts info_lst
            have hclb : cs.length ≤ left := by omega
            clear hr hr2 hrow4 hB5 hS4 hok
            have hS5'h := Lib.hid hS5
            have hr5'h := Lib.hid hr5
            have hsl'h := Lib.hid hsl
            have hb5'h := Lib.hid hb5
            have hone'h := Lib.hid hone
            have hr3'h := Lib.hid hr3
            have hrc'h := Lib.hid hrc
            have hE4'h := Lib.hid hE4
            have hrV'h := Lib.hid hrV
            have hws'h := Lib.hid hws
            have hcl'h := Lib.hid hcl
            have hcn'h := Lib.hid hcn
            clear hS5 hr5 hsl hb5 hone hr3 hrc hE4 hrV hws hcl hcn
            clear hS3'h
            go_wp2_with (at_builtin; refine wpList_append_slk _ rfl (.tmp 50) (.tmp 52) 23 rfl w.heap.size 55 i1' (.slice none 0 0) 1 24 Tryd.underlying23 hi' hz' hs' hby' rfl (by decide) (.slice lp rows.length lc) rows.length _ rfl hS5'h.out.outer _ 1 1 _ rfl hsl'h.out hone'h.out (by unfold maxLen; omega) (by omega) hb5'h.out ?_; intro v' w9 hown' hgrow hwh; obtain ⟨sp', cp', hv', -, -, -⟩ := row_form hown'; subst hv'; have hrd9 := hS5'h.out.rd.low h'h.out ((Below.refl w.heap.size _).grown hgrow hb5'h.out (fun q hq => (hS5'h.out.outer.lt q hq).1)); have y9 := rd_c3 hrd9; have f9 := blk_free 3 hrd9.blk; have hZ := hS5'h.out.row (.inr trivial) hr5'h.out hr3'h.out hown' hgrow hrd9; have hZ'h := Lib.hid hZ; have hrd9'h := Lib.hid hrd9; clear hZ hrd9 hgrow hwh hown')
            have hn64 : n ≤ 64 := by omega
            obtain ⟨z1, z2, z3, z4, z5⟩ := hZ'h.out
            have hrdT := hrd9'h.out.set (i := 3) (.slice sp' (rows.length + 1) cp') (u0 := .int .i64 (g : Int)) (u1 := .int .i64 (sb : Int)) (u2 := .int .u64 (seed : Int)) (u3 := .slice sp' (rows.length + 1) cp') (u4 := .slice none 0 0) rfl
            have hgT := (hrd9'h.out.self.set (i := 3) (.slice sp' (rows.length + 1) cp') (u0 := .int .i64 (g : Int)) (u1 := .int .i64 (sb : Int)) (u2 := .int .u64 (seed : Int)) (u3 := .slice sp' (rows.length + 1) cp') (u4 := .slice none 0 0) rfl).by'
            have hne : ∀ {e : TypeId} {k : Nat} {v : Value} {n : Nat} {xs : List Value}, w9.ownsRow w.heap.size e k v n xs → ∀ g, v.ownBlock = some g → some rb ≠ some g := fun hr g hg e => by
              have h1 := (hr.lt g hg).1
              injection e with e
              omega
            have hST : ScI w rb (.int .i64 (g : Int)) (.int .i64 (sb : Int)) (.int .u64 (seed : Int)) bp bn bc bytes (.slice sp' (rows.length + 1) cp') (.slice none 0 0) (rows ++ [r]) [] x (w9.setCell ⟨rb, 3, none⟩ (.slice sp' (rows.length + 1) cp')) :=
              ⟨hrdT, ownsRow_other z2 hgT (hne z2), fun q hq => ownsRow_other (z3 q hq) hgT (hne (z3 q hq)), z4, ownsRow_other z5 hgT (hne z5), hrb⟩
            have hlT : listsIn rb (w9.setCell ⟨rb, 3, none⟩ (.slice sp' (rows.length + 1) cp')) = rows.length + 1 := by unfold listsIn; rw [rd_c3 hrdT]
            clear z1 z2 z3 z4 z5 hrdT hgT hne
            have eL : (left : Int) - (cs.length : Int) = ((left - n : Nat) : Int) := by have := hcn'h.out; omega
            rw [eL]
            go_step3
            refine ⟨rfl, AtLabel.mk (left := left - n) rfl ⟨hg8, hsb, hseed, by omega, by rw [List.length_append, List.length_singleton]; omega, hx, hST, ?_⟩, ?_⟩
            · rw [hE4'h.out, List.map_append, List.map_singleton, hrc'h.out, List.length_append, List.length_singleton, Nat.sub_sub]
            · show 8 - listsIn rb _ < 8 - listsIn rb wr0
              rw [hlT, hlw'h.out]
              omega
    · have hltd : decide (rows.length < g) = false := decide_eq_false hlt
      have hltz : ¬ (rows.length : Int) < (g : Int) := by omega
      have hgr : rows.length = g := by omega
      have M := most_reads rb _ _ _ _ _ bp bn bc x 4096 bytes w2 hS2.rd.self hby'h.out hx (by omega)
      have hE1 : R = endR g sb seed (rows.map (·.cs)) (bytes.drop x) := by rw [hE, show g - rows.length = 0 by omega, restR_zero]
      rw [endR_fin] at hE1
      clear hS hE
      cases hm : mostR 4096 (bytes.drop x) with
      | none =>
        rw [hm] at M hE1
        simp only [MostP] at M hE1
        have M'h := Lib.hid M
        have hE1'h := Lib.hid hE1
        have hS2'h := Lib.hid hS2
        have hm'h := Lib.hid hm
        have hlw'h := Lib.hid hlw
        have hgr'h := Lib.hid hgr
        clear M hE1 hS2 hm hlw hgr
        go_wp2_with fail
        go_still_tail 11, (by kernel_rfl)
        change wpList _ _ _ _ _ wr0.drew
        rw [← hw2]
        clear y0 y3 hw2
        go_wp2_with fail
        refine M'h.out.mono ?_
        rintro e w3 ⟨p3, hI3, rfl⟩
        exact ⟨rfl, ScriptP.bad hE1'h.out (hS2'h.out.rd.then hI3)⟩
      | some y =>
        obtain ⟨n, l1⟩ := y
        rw [hm] at M hE1
        simp only [MostP] at M hE1
        obtain ⟨hnl, hrd⟩ := mostR_le hm
        have hk1 := readN_drop hrd
        have M'h := Lib.hid M
        have hE1'h := Lib.hid hE1
        have hS2'h := Lib.hid hS2
        have hm'h := Lib.hid hm
        have hlw'h := Lib.hid hlw
        have hk1'h := Lib.hid hk1
        have hrd'h := Lib.hid hrd
        have hgr'h := Lib.hid hgr
        clear M hE1 hS2 hm hlw hk1 hrd hgr
        go_wp2_with fail
        go_still_tail 11, (by kernel_rfl)
        change wpList _ _ _ _ _ wr0.drew
        rw [← hw2]
        clear y0 y3 hw2
        go_wp2_with fail
        refine M'h.out.mono ?_
        rintro e w3 ⟨p3, hI3, rfl, hp3, hp3'⟩
        have hd3 := drop_of hbl'h.out hk1'h.out hp3 hp3'
        have hS3 := hS2'h.out.step hI3
        clear hI3 hp3
        have hE3 : R = finR g sb seed (rows.map (·.cs)) (picksLeft [] n (bytes.drop p3)) := by rw [hE1'h.out, hd3, picksLeft_zero]
        have hS3'h := Lib.hid hS3
        have hd3'h := Lib.hid hd3
        have hE3'h := Lib.hid hE3
        clear hS3 hd3 hE3
        clear M'h hS2'h
        obtain ⟨i0, hi, hz, hs, hby⟩ := info_parts info_clone64
        go_wp2
        go_loopg [63] n (fun q ix wr => ∃ (j x : Nat) (ps : List Nat) (pv : Value), j + q = n ∧ ix = .int .i64 (j : Int) ∧ x ≤ bn ∧ ps.length = j ∧ W64 ps ∧ ScI w rb (.int .i64 (g : Int)) (.int .i64 (sb : Int)) (.int .u64 (seed : Int)) bp bn bc bytes (.slice lp rows.length lc) pv rows ps x wr ∧ Hid (R = finR g sb seed (rows.map (·.cs)) (picksLeft ps (n - j) (bytes.drop x))))
        case atStart => exact ⟨0, p3, [], _, by omega, rfl, hp3', rfl, fun c hc => by simp at hc, hS3'h.out, hE3'h.out⟩
        case round =>
          obtain ⟨j, x, ps, pv, hj, rfl, hx, hpl, hp64, hS, hE⟩ := hrel
          obtain ⟨go, rfl⟩ : ∃ go : Nat, go = gk := ⟨_, rfl⟩
          obtain ⟨pp, pc, rfl⟩ := row_slice' hS.picks
          by_cases hlt2 : j < n
          · have i1 : (j : Int) < (n : Int) := by omega
            obtain ⟨V0, hV0⟩ : ∃ V0, V0 = wr.drew := ⟨_, rfl⟩
            have hSV := hS.wide ((Below.refl wr.heap.size wr).drew)
            rw [← hV0] at hSV
            have N := number_reads rb _ _ _ _ _ bp bn bc x bytes V0 hSV.rd.self hby'h.out hx
            have R4 : V0.cell? ⟨rb, 4, none⟩ = some (.slice pp ps.length pc) := blk_cell (i := 4) hSV.rd.blk rfl
            clear hS
            have hSV'h := Lib.hid hSV
            have hE'h := Lib.hid hE
            have hj'h := Lib.hid hj
            have hpl'h := Lib.hid hpl
            have hp64'h := Lib.hid hp64
            have N'h := Lib.hid N
            clear hSV hE hj hpl hp64 N
            go_wp2_with fail
            refine wp_region_heldF (fun w' => w'.cell? ⟨rb, 4, none⟩ = some (.slice pp ps.length pc)) 13 (by kernel_rfl) ?_
            rw [← hV0]
            clear hV0
            refine wpAnyF_take (i := 0) (v := .pointer (some ⟨rb, 0, none⟩)) rfl (by kernel_rfl) (by kernel_rfl) (by kernel_rfl) (by kernel_rfl) (fun _ _ _ h => h) (Or.inl ⟨by kernel_rfl, fun w hSw => by (try dsimp only at hSw); go_simp⟩) R4 ?_; try simp only [Act.put, List.getElem_toArray, List.getElem_cons_succ, List.getElem_cons_zero, List.setIfInBounds_toArray, List.set_cons_zero, List.set_cons_succ]
            refine wpAnyF_take (i := 1) (v := .pointer (some ⟨rb, 0, none⟩)) rfl (by kernel_rfl) (by kernel_rfl) (by kernel_rfl) (by kernel_rfl) (fun _ _ _ h => h) (Or.inl ⟨by kernel_rfl, fun w hSw => by (try dsimp only at hSw); go_simp⟩) R4 ?_; try simp only [Act.put, List.getElem_toArray, List.getElem_cons_succ, List.getElem_cons_zero, List.setIfInBounds_toArray, List.set_cons_zero, List.set_cons_succ]
            refine wpAnyF_take (i := 2) (v := .pointer (some ⟨rb, 0, none⟩)) rfl (by kernel_rfl) (by kernel_rfl) (by kernel_rfl) (by kernel_rfl) (fun _ _ _ h => h) (Or.inl ⟨by kernel_rfl, fun w hSw => by (try dsimp only at hSw); go_simp⟩) R4 ?_; try simp only [Act.put, List.getElem_toArray, List.getElem_cons_succ, List.getElem_cons_zero, List.setIfInBounds_toArray, List.set_cons_zero, List.set_cons_succ]
            refine wpAnyF_take (i := 3) (v := .pointer (some ⟨rb, 0, none⟩)) rfl (by kernel_rfl) (by kernel_rfl) (by kernel_rfl) (by kernel_rfl) (fun _ _ _ h => h) (Or.inl ⟨by kernel_rfl, fun w hSw => by (try dsimp only at hSw); go_simp⟩) R4 ?_; try simp only [Act.put, List.getElem_toArray, List.getElem_cons_succ, List.getElem_cons_zero, List.setIfInBounds_toArray, List.set_cons_zero, List.set_cons_succ]
            refine wpAnyF_take (i := 4) (v := .pointer (some ⟨rb, 4, none⟩)) rfl (by kernel_rfl) (by kernel_rfl) (by kernel_rfl) (by kernel_rfl) (fun _ _ _ h => h) (Or.inl ⟨by kernel_rfl, fun w hSw => by (try dsimp only at hSw); go_simp⟩) R4 ?_; try simp only [Act.put, List.getElem_toArray, List.getElem_cons_succ, List.getElem_cons_zero, List.setIfInBounds_toArray, List.set_cons_zero, List.set_cons_succ]
            refine wpAnyF_take (i := 5) (v := .slice pp ps.length pc) rfl (by kernel_rfl) (by kernel_rfl) (by kernel_rfl) (by kernel_rfl) (fun _ _ _ h => h) (Or.inl ⟨by kernel_rfl, fun w hSw => by (try dsimp only at hSw); go_simp⟩) R4 ?_; try simp only [Act.put, List.getElem_toArray, List.getElem_cons_succ, List.getElem_cons_zero, List.setIfInBounds_toArray, List.set_cons_zero, List.set_cons_succ]
            refine wpAnyF_take (i := 6) (v := .pointer (some ⟨rb, 0, none⟩)) rfl (by kernel_rfl) (by kernel_rfl) (by kernel_rfl) (by kernel_rfl) (fun _ _ _ h => h) (Or.inl ⟨by kernel_rfl, fun w hSw => by (try dsimp only at hSw); go_simp⟩) R4 ?_; try simp only [Act.put, List.getElem_toArray, List.getElem_cons_succ, List.getElem_cons_zero, List.setIfInBounds_toArray, List.set_cons_zero, List.set_cons_succ]
            refine wpAnyF_one (i := 7) (by kernel_rfl) rfl (fun K hK => ?_); go_simp
            have N := N'h.out
            clear N'h
            cases hn : readN (bytes.drop x) with
            | none =>
              rw [hn] at N
              simp only [NumP] at N
              have hRn : R = none := by rw [hE'h.out.out, show n - j = n - j - 1 + 1 by omega, picksLeft_none hn]; rfl
              refine N.mono ?_
              rintro e w4 ⟨p4, hI4, rfl⟩
              exact ⟨rfl, ScriptP.bad hRn (hSV'h.out.rd.then hI4)⟩
            | some y =>
              obtain ⟨q, l4⟩ := y
              rw [hn] at N
              simp only [NumP] at N
              refine N.mono ?_
              rintro e V1 ⟨p4, hI4, rfl, hp4, hp4'⟩
              clear N
              dsimp only
              have hq64 : q < 2 ^ 64 := readN_lt (fun b hb => hby'h.out b (List.mem_of_mem_drop hb)) hn
              have hd4 := drop_of hbl'h.out (readN_drop hn) hp4 hp4'
              have hSV1 := hSV'h.out.step hI4
              have hE4 : R = finR g sb seed (rows.map (·.cs)) (picksLeft (ps ++ [q]) (n - (j + 1)) (bytes.drop p4)) := by
                rw [hE'h.out.out, show n - j = n - (j + 1) + 1 by omega, picksLeft_next hn, hd4]
              clear R4 hn hI4 hp4 hd4 hSV'h hE'h
              have R4 : V1.cell? ⟨rb, 4, none⟩ = some (.slice pp ps.length pc) := blk_cell (i := 4) hSV1.rd.blk rfl
              refine hK.out _ _ (fun _ => R4) ?_; clear hK K; try simp only [Act.put, List.getElem_toArray, List.getElem_cons_succ, List.getElem_cons_zero, List.setIfInBounds_toArray, List.set_cons_zero, List.set_cons_succ]
              have hE4'h := Lib.hid hE4
              clear hE4
              have hB2 := (Below.refl V1.heap.size V1).alloc (Nat.le_refl _) (.cells #[.int .u64 (q : Int)] 22)
              have hSV2 := hSV1.wide hB2
              have hsl : SlK (V1.alloc (.cells #[.int .u64 (q : Int)] 22)) 1 (some ⟨V1.heap.size, 0, none⟩) 1 (u64s [q]) := SlK.of_blk (World.alloc_heap_new _ _) rfl (by unfold maxLen; omega)
              clear hB2 hSV1 R4
              refine wpAnyF_one (i := 8) (by kernel_rfl) rfl (fun K hK => ?_); go_simp
              have R4 : (V1.alloc (.cells #[.int .u64 (q : Int)] 22)).cell? ⟨rb, 4, none⟩ = some (.slice pp ps.length pc) := blk_cell (i := 4) hSV2.rd.blk rfl
              refine hK.out _ _ (fun _ => R4) ?_; clear hK K; try simp only [Act.put, List.getElem_toArray, List.getElem_cons_succ, List.getElem_cons_zero, List.setIfInBounds_toArray, List.set_cons_zero, List.set_cons_succ]
              have hb2 := hSV2.rd.by'.size
              generalize V1.alloc _ = V2 at R4 hSV2 hsl hb2 ⊢
              have hpl2 : ps.length ≤ 4096 := by have := hpl'h.out; omega
              refine wpAnyF_one (i := 9) (by kernel_rfl) rfl (fun K hK => ?_)
              refine step_append_slk _ rfl (.tmp 70) (.tmp 73) 24 rfl w.heap.size 22 i0 (.int .u64 0) 1 8 Tryd.underlying24 hi hz hs hby rfl (by decide) (.slice pp ps.length pc) ps.length (u64s ps) rfl hSV2.picks _ 1 1 (u64s [q]) rfl hsl (oneCell_u64s _) (by unfold maxLen; omega) (by omega) hb2 ?_
              intro v' V3 hown3 hgrow3 hwh3
              have hrd3 := hSV2.rd.low h'h.out ((Below.refl w.heap.size _).grown hgrow3 hb2 (fun k hk => (hSV2.picks.lt k hk).1))
              obtain ⟨sp', cp', hv', -, -, -⟩ := row_form hown3
              subst hv'
              have hS4 := hSV2.pick hown3 hgrow3 hrd3
              have y9 : V3.cell? ⟨rb, 4, none⟩ = some (.slice pp ps.length pc) := blk_cell (i := 4) hrd3.blk rfl
              have f9 := blk_free 4 hrd3.blk
              clear hgrow3 hwh3 hown3 hrd3 R4 hSV2 hsl hb2
              refine hK.out _ _ (fun _ => y9) ?_; clear hK K; try simp only [Act.put, List.getElem_toArray, List.getElem_cons_succ, List.getElem_cons_zero, List.setIfInBounds_toArray, List.set_cons_zero, List.set_cons_succ]
              refine wpAnyF_one (i := 10) (by kernel_rfl) rfl (fun K hK => ?_); go_simp
              refine hK.out _ _ (fun _ => y9) ?_; clear hK K; try simp only [Act.put, List.getElem_toArray, List.getElem_cons_succ, List.getElem_cons_zero, List.setIfInBounds_toArray, List.set_cons_zero, List.set_cons_succ]
              refine wpAnyF_one (i := 11) (by kernel_rfl) rfl (fun K hK => ?_); go_simp
              refine hK.out _ _ (fun _ => y9) ?_; clear hK K; try simp only [Act.put, List.getElem_toArray, List.getElem_cons_succ, List.getElem_cons_zero, List.setIfInBounds_toArray, List.set_cons_zero, List.set_cons_succ]
              refine wpAnyF_one (i := 12) (by kernel_rfl) rfl (fun K hK => ?_); go_simp
              refine hK.out _ _ (fun _ => y9) ?_; clear hK K; try simp only [Act.put, List.getElem_toArray, List.getElem_cons_succ, List.getElem_cons_zero, List.setIfInBounds_toArray, List.set_cons_zero, List.set_cons_succ]
              refine wpAnyF_one (i := 13) (by kernel_rfl) rfl (fun K hK => ?_); go_simp
              refine hK.out _ _ (fun h => absurd rfl h) ?_
              clear hK K y9 f9
              try simp only [Act.put, List.getElem_toArray, List.getElem_cons_succ, List.getElem_cons_zero, List.setIfInBounds_toArray, List.set_cons_zero, List.set_cons_succ]
              refine wpAnyF_done (by kernel_rfl) ?_ _
              have hS4'h := Lib.hid hS4
              clear hS4
              go_wp2
              go_roundg (go - 1)
              case measure => have := hj'h.out; omega
              case rel => exact ⟨j + 1, p4, ps ++ [q], _, by have := hj'h.out; omega, by go_num, hp4', by rw [List.length_append, hpl'h.out]; rfl, fun z hz => by
                  rcases List.mem_append.1 hz with hz | hz
                  · exact hp64'h.out z hz
                  · obtain rfl : z = q := by simpa using hz
                    exact hq64, hS4'h.out, hE4'h.out⟩
          · have i1 : ¬ (j : Int) < (n : Int) := by omega
            have hjn : n - j = 0 := by omega
            rw [hjn, picksLeft_done] at hE
            have hIn := hS.script (g := g) (sb := sb) (seed := seed) hg8 hsb hseed (by omega) (by omega) hp64
            obtain ⟨sm, hsm⟩ : ∃ sm : Sm, sm = ⟨(g : Int), (sb : Int), seed, lp, rows.length, lc, rows, pp, ps.length, pc, ps⟩ := ⟨_, rfl⟩
            rw [← hsm] at hIn
            have C := check_any sm wr (hS.rd.tks hT'h.out h0) hIn
            have hscr : sm.scr = ⟨(g : Int), (sb : Int), seed, rows.map (·.cs), ps⟩ := by rw [hsm]; rfl
            have hA : smA sm = #[.int .i64 (g : Int), .int .i64 (sb : Int), .int .u64 (seed : Int), .slice lp rows.length lc, .slice pp ps.length pc] := by rw [hsm]; rfl
            have hRd : RdI w rb (.int .i64 sm.goers) (.int .i64 sm.slabs) (.int .u64 (sm.seed : Int)) (.slice sm.lp sm.ln sm.lc) (.slice sm.pp sm.pn sm.pc) bp bn bc bytes x wr := by rw [hsm]; exact hS.rd
            have hOwn : SmOwn w.heap.size sm wr := by rw [hsm]; exact ⟨hS.outer, hS.inner, hS.picks⟩
            have hlx : x + (bytes.drop x).length = bn := by rw [List.length_drop]; have := hbl'h.out; omega
            have hEo := hE.out
            unfold finR at hEo
            simp only at hEo
            rw [← hscr] at hEo
            rw [hA] at C
            have q0 : wr.cell? ⟨rb, 0, none⟩ = some (.int .i64 (g : Int)) := blk_cell (i := 0) hS.rd.blk rfl
            have q1 : wr.cell? ⟨rb, 1, none⟩ = some (.int .i64 (sb : Int)) := blk_cell (i := 1) hS.rd.blk rfl
            have q2 : wr.cell? ⟨rb, 2, none⟩ = some (.int .u64 (seed : Int)) := blk_cell (i := 2) hS.rd.blk rfl
            have q3 : wr.cell? ⟨rb, 3, none⟩ = some (.slice lp rows.length lc) := blk_cell (i := 3) hS.rd.blk rfl
            have q4 : wr.cell? ⟨rb, 4, none⟩ = some (.slice pp ps.length pc) := blk_cell (i := 4) hS.rd.blk rfl
            clear hE hS hsm hA hscr
            unfold chkS at C
            cases hr : rightS sm.scr with
            | false =>
              rw [hr] at C hEo
              simp only [Bool.false_eq_true, if_false] at C hEo
              clear hOwn
              have C'h := Lib.hid C
              have hEo'h := Lib.hid hEo
              have hRd'h := Lib.hid hRd
              have hIn'h := Lib.hid hIn
              have hpl'h := Lib.hid hpl
              have hp64'h := Lib.hid hp64
              have hr'h := Lib.hid hr
              clear C hEo hRd hIn hpl hp64 hr
              go_wp2_with fail
              refine C'h.out.mono ?_
              rintro e w5 ⟨rfl, hB5⟩
              go_wp2_with (go_at_call 65; refine (need_no _).mono ?_; rintro e w' ⟨rfl, hw⟩; obtain rfl := hw.symm)
              exact ⟨rfl, ScriptP.bad hEo'h.out (hRd'h.out.wide hB5)⟩
            | true =>
              rw [hr] at C hEo
              simp only [if_true] at C hEo
              have C'h := Lib.hid C
              have hEo'h := Lib.hid hEo
              have hRd'h := Lib.hid hRd
              have hIn'h := Lib.hid hIn
              have hpl'h := Lib.hid hpl
              have hp64'h := Lib.hid hp64
              have hr'h := Lib.hid hr
              have hOwn'h := Lib.hid hOwn
              clear C hEo hRd hIn hpl hp64 hr hOwn
              go_wp2_with fail
              refine C'h.out.mono ?_
              rintro e w5 ⟨rfl, hB5⟩
              have hOwn5 := hOwn'h.out.next hB5
              have hRd5 := hRd'h.out.wide hB5
              have hIn5 := hIn'h.out.below hB5
              clear hB5
              have hRd5'h := Lib.hid hRd5
              have hIn5'h := Lib.hid hIn5
              have hOwn5'h := Lib.hid hOwn5
              clear hRd5 hIn5 hOwn5
              go_wp2_with (go_at_call 65; refine (need_yes _).mono ?_; rintro e w' ⟨rfl, hw⟩; obtain rfl := hw.symm)
              simp only [Exit.jump]
              refine bodyPost_end (results_none rfl _ _ _) rfl ?_
              rw [hEo'h.out]
              exact ⟨hRd5'h.out.by', rfl, sm, x, hRd5'h.out, hIn5'h.out, hOwn5'h.out, rfl, hlx, hx⟩
end Go.Proofs.YtifofdciablljaaDoor
