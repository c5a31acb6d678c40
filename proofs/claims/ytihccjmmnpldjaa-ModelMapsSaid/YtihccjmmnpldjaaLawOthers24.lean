/-
  ModelOthers: the walk.
-/
import Derived.Test.YtihccjmmnpldjaaLawTurns24
set_option linter.unusedSimpArgs false
set_option linter.unusedVariables false
set_option maxRecDepth 100000
namespace Go.Proofs.Ytihccjmmnpldjaa
open Go.RowKit

theorem get_at {ps : Ps} (h : upB ps = true) {j : Nat} (hj : j < ps.length) : getS ps (nthP ps j).1 = some (nthP ps j).2 := by
  induction ps generalizing j with
  | nil => simp at hj
  | cons p l ih =>
    cases j with
    | zero => rw [nthP_cons_zero, getS, if_neg (by omega), if_pos rfl]
    | succ j =>
      have hjl : j < l.length := by simpa using hj
      rw [nthP_cons_succ]
      have := up_head h _ (nthP_mem hjl)
      rw [getS, if_pos this]
      exact ih (up_tail h) hjl
theorem next_key {ps : Ps} (h : upB ps = true) (c : Cl) {j : Nat} (hj : j < ps.length) (hk : (nthP ps j).1 ≠ c.key) : getS (nextP c ps) (nthP ps j).1 = some (nthP ps j).2 := by rw [get_next_other h c hk, get_at h hj]
theorem prev_key {ps : Ps} (h : upB ps = true) (c : Cl) {j : Nat} (hj : j < (nextP c ps).length) (hk : (nthP (nextP c ps) j).1 ≠ c.key) : getS ps (nthP (nextP c ps) j).1 = some (nthP (nextP c ps) j).2 := by rw [← get_next_other h c hk, get_at (up_next h c) hj]
theorem tell_err (c : Cl) (ps : Ps) : (tellA c ps).err = 0 := by
  unfold tellA anK
  split
  · rfl
  · split
    · split <;> rfl
    · split
      · rfl
      · split <;> rfl
theorem pair_load {w : World} {b off n : Nat} {ps : Ps} (h : SlK w 2 (some ⟨b, off, none⟩) n (prs ps)) {k : Nat} (hk : k < ps.length) :
    w.cell? ⟨b, off + k * 2, none⟩ = some (.int .u64 ((nthP ps k).1 : Int)) ∧ w.cell? ⟨b, off + k * 2 + 1, none⟩ = some (.int .u64 ((nthP ps k).2 : Int)) := prs_cells h hk
theorem get_is {ps : Ps} {k v : Nat} (h : getS ps k = some v) (sp : Option Addr) (n cap : Nat) (W : World) (hS : SlK W 2 sp n (prs ps)) (hup : upB ps = true) (hn : n ≤ 4096) :
    Calls Try.prog 12 #[.agg #[.slice sp n cap], .int .u64 (k : Int)] W fun e w' => e = .returned (.tuple #[.int .u64 (v : Int), .bool true]) ∧ Below W.heap.size W w' := by
  have := mGet_yes sp n cap ps k W hS hup hn
  have hh : hasP ps k = true := by unfold hasP; rw [h]; rfl
  rw [h, hh] at this
  exact this
/-- What holds at the head of the loop. -/
def OthI (w : World) (bm : Nat) (k : Nat) (v : Value) (W : World) : Prop :=
  ∃ (spm : Option Addr) (nm capm : Nat) (ms : Ps), v = .int .i64 (nm : Int) ∧ W.heap[bm]? = some (.cells #[.slice spm nm capm] 24 (0, 0)) ∧ SlK W 2 spm nm (prs ms) ∧ upB ms = true ∧ ms.length ≤ 40 + k ∧ Below w.heap.size w W ∧ w.heap.size ≤ bm
set_option maxHeartbeats 16000000 in
theorem walk_ModelOthers (sp : Option Addr) (n cap : Nat) (ps : Ps) (spc : Option Addr) (nc capc : Nat) (l : List Cl) (w : World) (hin : RowIn w sp n cap ps) (hcl : CallsIn' w spc nc capc l) :
    Calls Try.prog 3 #[.agg #[.slice sp n cap], .slice spc nc capc] w fun e w' => e = .returned (.bool true) ∧ Below w.heap.size w w' := by
  have H0 := (Hs.nil w).new #[.slice sp n cap] 24
  obtain ⟨W0, hW0⟩ : ∃ W0, W0 = w.alloc (.cells #[.slice sp n cap] 24) := ⟨_, rfl⟩
  rw [← hW0] at H0
  obtain ⟨hsl, _, hnil, hle⟩ := hin
  obtain ⟨hcs, hcok, _, _⟩ := hcl
  obtain ⟨qs, hqs⟩ : ∃ qs, qs = ps.take 40 := ⟨_, rfl⟩
  have hql : qs.length ≤ 40 := by rw [hqs, List.length_take]; omega
  obtain ⟨m, hm⟩ : ∃ m, m = min n 40 := ⟨_, rfl⟩
  have hm40 : m ≤ 40 := by omega
  have hlen : nc = l.length := slk_len clL_len (by decide) hcs
  have hmax := hcs.2.1
  unfold maxLen at hmax
  have H0'h := Lib.hid H0
  have hW0'h := Lib.hid hW0
  have hsl'h := Lib.hid hsl
  have hnil'h := Lib.hid hnil
  have hle'h := Lib.hid hle
  have hqs'h := Lib.hid hqs
  have hm'h := Lib.hid hm
  have hcs'h := Lib.hid hcs
  have hcok'h := Lib.hid hcok
  have hlen'h := Lib.hid hlen
  clear H0 hW0 hsl hnil hle hqs hm hcs hcok hlen
  go_enter Try.func3, Try.ntmps3
  go_upto_region 1 with fail
  rw [← hW0'h.out]
  go_upto_region 3 with (go_at_call 7; refine (wakes_any _).mono ?_; rintro e w1 ⟨rfl, hb1⟩)
  have H1 := H0'h.out.next hb1
  have OW := own_any sp n cap ps w1 (hsl'h.out.below H1.old) hnil'h.out hle'h.out
  rw [← hqs'h.out, ← hm'h.out] at OW
  have x0 : w1.cell? ⟨w.heap.size, 0, none⟩ = some (.slice sp n cap) := blk_cell (i := 0) H1.rows.1 rfl
  have H1'h := Lib.hid H1
  have OW'h := Lib.hid OW
  have hb1'h := Lib.hid hb1
  clear H1 OW hb1
  go_upto_region 4 with (go_at_call 8; refine OW'h.out.mono ?_; rintro e w2 ⟨sp0, cap0, rfl, hb2, hS2⟩; have hb2'h := Lib.hid hb2; have hS2'h := Lib.hid hS2; clear hb2 hS2)
  clear x0
  have H := (H1'h.out.next hb2'h.out).new #[.slice sp0 m cap0] 24
  have M0 := hS2'h.out.below (w' := w2.alloc (.cells #[.slice sp0 m cap0] 24)) ((Below.refl _ _).alloc (Nat.le_refl _) _)
  generalize w2.alloc (.cells #[.slice sp0 m cap0] 24) = V0 at H M0 ⊢
  have x0 : V0.cell? ⟨w2.heap.size, 0, none⟩ = some (.slice sp0 m cap0) := blk_cell (i := 0) H.rows.1 rfl
  cases hup : upB qs with
  | false =>
    have C := mcheck_no sp0 m cap0 qs V0 M0 hup
    have CC : ∀ W, Below V0.heap.size V0 W → Calls Try.prog 10 #[.agg #[.slice sp0 m cap0], .agg #[.int .i64 2, .int .u64 0, .int .u64 0, .int .u64 0]] W fun e w' => e = .returned (.int .i64 0) ∧ Below W.heap.size W w' := fun W hb =>
      mComes_no sp0 m cap0 qs ⟨2, 0, 0, 0⟩ W (M0.below hb) (by omega) (by rw [hup]; rfl)
    have H'h := Lib.hid H
    have M0'h := Lib.hid M0
    have C'h := Lib.hid C
    have CC'h := Lib.hid CC
    have hup'h := Lib.hid hup
    clear H M0 C CC hup
    go_wp2_with (first | (go_at_call 9; refine C'h.out.mono ?_; rintro e w3 ⟨rfl, hb3⟩; have x3 : w3.cell? ⟨w2.heap.size, 0, none⟩ = some (.slice sp0 m cap0) := blk_cell (i := 0) (H'h.out.next hb3).rows.1 rfl; have hb3'h := Lib.hid hb3; clear hb3) | (go_at_call 10; refine (CC'h.out _ hb3'h.out).mono ?_; rintro e w4 ⟨rfl, hb4⟩; have hb4'h := Lib.hid hb4; clear hb4))
    go_ret
    exact ⟨rfl, below_next (below_next H'h.out.old hb3'h.out) hb4'h.out⟩
  | true =>
    have C := mcheck_yes sp0 m cap0 qs V0 M0 hup
    have H'h := Lib.hid H
    have M0'h := Lib.hid M0
    have C'h := Lib.hid C
    have hup'h := Lib.hid hup
    clear H M0 C hup
    go_upto_region 6 with (go_at_call 9; refine C'h.out.mono ?_; rintro e w3 ⟨rfl, hb3⟩)
    have H := H'h.out.next hb3
    have M0 := M0'h.out.below hb3
    clear x0 H'h M0'h C'h
    have x0 : w3.cell? ⟨w2.heap.size, 0, none⟩ = some (.slice sp0 m cap0) := blk_cell (i := 0) H.rows.1 rfl
    have hbm : w.heap.size ≤ w2.heap.size := (H1'h.out.next hb2'h.out).old.size
    have H'h := Lib.hid H
    have M0'h := Lib.hid M0
    have hb3'h := Lib.hid hb3
    clear H M0 hb3
    go_wp2
    go_loopg [6, 37] nc (fun q v i wr => ∃ k : Nat, k + q = nc ∧ k ≤ 30 ∧ i = .int .i64 k ∧ OthI w w2.heap.size k v wr)
    case atStart => exact ⟨0, by omega, by omega, rfl, sp0, m, cap0, qs, rfl, H'h.out.rows.1, M0'h.out, hup'h.out, by omega, H'h.out.old, hbm⟩
    case round =>
      obtain ⟨k, hk, hk30, rfl, spm, nm, capm, ms, rfl, hbx, hSm, hum, hml, hbr, _⟩ := hrel
      have hmn := prs_len hSm
      have hkn : k ≤ nc := by omega
      clear x0
      by_cases hlt : k < nc
      · have hcr := hcs'h.out.below hbr
        obtain ⟨cb, coff, rfl⟩ := slk_some hcs'h.out (by omega)
        have hkl : k < l.length := by have := hlen'h.out; omega
        obtain ⟨c, hc⟩ : ∃ c, l[k]? = some c := ⟨_, List.getElem?_eq_getElem hkl⟩
        obtain ⟨op, key, ca, cb2⟩ := c
        have c0 := slk_cell0 clL_len hcr hc (by decide) rfl
        have c1 := slk_cell clL_len hcr hc (i := 1) (by decide) rfl
        have c2 := slk_cell clL_len hcr hc (i := 2) (by decide) rfl
        have c3 := slk_cell clL_len hcr hc (i := 3) (by decide) rfl
        have i1 : (k : Int) < (nc : Int) := by omega
        have i2 : (0 : Int) ≤ (k : Int) := by omega
        by_cases hk3 : k = 30
        · subst hk3
          have hbx'h := Lib.hid hbx
          have hSm'h := Lib.hid hSm
          have hum'h := Lib.hid hum
          have hml'h := Lib.hid hml
          have hbr'h := Lib.hid hbr
          have hmn'h := Lib.hid hmn
          have hcr'h := Lib.hid hcr
          have hc'h := Lib.hid hc
          have hk'h := Lib.hid hk
          clear hbx hSm hum hml hbr hmn hcr hc hk
          go_wp2
          go_ret
          exact ⟨rfl, hbr'h.out.alloc hbr'h.out.size _⟩
        have t30 : ((k : Int) == 30) = false := by simp; omega
        have H9 := (Hs.nil wr).new (clA ⟨op, key, ca, cb2⟩) 33
        obtain ⟨W9, hW9⟩ : ∃ W9, W9 = wr.alloc (.cells (clA ⟨op, key, ca, cb2⟩) 33) := ⟨_, rfl⟩
        rw [← hW9] at H9
        have hbl := lt_of_heap hbx
        have hbx'h := Lib.hid hbx
        have hSm'h := Lib.hid hSm
        have hum'h := Lib.hid hum
        have hml'h := Lib.hid hml
        have hbr'h := Lib.hid hbr
        have hmn'h := Lib.hid hmn
        have hcr'h := Lib.hid hcr
        have hc'h := Lib.hid hc
        have hk'h := Lib.hid hk
        have hk3'h := Lib.hid hk3
        have H9'h := Lib.hid H9
        have hW9'h := Lib.hid hW9
        clear hbx hSm hum hml hbr hmn hcr hc hk hk3 H9 hW9
        go_upto_region 11 with fail
        change Code.wp _ _ _ _ (wr.alloc (.cells (clA ⟨op, key, ca, cb2⟩) 33))
        rw [← hW9'h.out]
        clear c0 c1 c2 c3 t30
        have hS9 := hSm'h.out.below H9'h.out.old
        have hb9 := heap_below H9'h.out.old hbx'h.out hbl
        have x9 : W9.cell? ⟨w2.heap.size, 0, none⟩ = some (.slice spm nm capm) := blk_cell (i := 0) hb9 rfl
        have hnm : nm ≤ 4096 := by have := hml'h.out; have := hmn'h.out; omega
        cases ho : isOp ⟨op, key, ca, cb2⟩ with
        | false =>
          have D := mDo_op spm nm capm ms ⟨op, key, ca, cb2⟩ W9 hS9 hum'h.out hnm ho
          have CC : ∀ W, Below W9.heap.size W9 W → Calls Try.prog 10 #[.agg #[.slice spm nm capm], .agg (clA ⟨op, key, ca, cb2⟩)] W fun e w' => e = .returned (.int .i64 0) ∧ Below W.heap.size W w' := fun W hb =>
            mComes_no spm nm capm ms ⟨op, key, ca, cb2⟩ W (hS9.below hb) hnm (by rw [ho]; simp)
          have hS9'h := Lib.hid hS9
          have hb9'h := Lib.hid hb9
          have D'h := Lib.hid D
          have CC'h := Lib.hid CC
          have ho'h := Lib.hid ho
          clear hS9 hb9 D CC ho
          go_upto_region 12 with (first | (refine wpList_load_row rfl _ _ rfl wr.heap.size rfl 33 _ (0, 0) _ H9'h.out.rows.1 Try.underlying33 rfl info_cl ?_) | (go_at_call 11; refine D'h.out.mono ?_; rintro e wd ⟨rfl, hbd⟩; have hbd'h := Lib.hid hbd; clear hbd) | (refine wpList_store_row rfl _ _ _ rfl wd.heap.size #[.slice none 0 0] rfl rfl 24 _ (heap_alloc2_old wd _ _) info_map rfl (map_one _ _ _) ?_) | (refine wpList_store_row rfl _ _ _ rfl (wd.heap.size + 1) (anA ⟨0, 0, false⟩ none 0 0) rfl rfl 35 _ ((setRow_other _ _ _ _ (by omega)).trans (heap_alloc2_new wd _ _)) info_an rfl (anA_one _ _ _ _) ?_))
          change Code.wp _ _ _ _ ((((wd.alloc (.cells #[.slice none 0 0] 24)).alloc (.cells (anA ⟨0, 0, false⟩ none 0 0) 35)).setRow wd.heap.size #[.slice none 0 0]).setRow (wd.heap.size + 1) (anA ⟨0, 0, false⟩ none 0 0))
          have H11 := (((H9'h.out.next hbd'h.out).new2 #[.slice none 0 0] (anA ⟨0, 0, false⟩ none 0 0) 24 35).set 1 rfl #[.slice none 0 0]).set 0 rfl (anA ⟨0, 0, false⟩ none 0 0)
          have hb11 : Below wd.heap.size wd ((((wd.alloc (.cells #[.slice none 0 0] 24)).alloc (.cells (anA ⟨0, 0, false⟩ none 0 0) 35)).setRow wd.heap.size #[.slice none 0 0]).setRow (wd.heap.size + 1) (anA ⟨0, 0, false⟩ none 0 0)) := below_setRow' (below_setRow' (((Below.refl _ _).alloc (Nat.le_refl _) _).alloc (by simp) _) (Nat.le_refl _) _) (by omega) _
          generalize World.setRow _ _ _ = W11 at H11 hb11 ⊢
          have hb911 := below_next hbd'h.out hb11
          have x11 : W11.cell? ⟨w2.heap.size, 0, none⟩ = some (.slice spm nm capm) := blk_cell (i := 0) (heap_below hb911 hb9'h.out (lt_of_heap hb9'h.out)) rfl
          have y11 : W11.cell? ⟨wd.heap.size, 0, none⟩ = some (.slice none 0 0) := blk_cell (i := 0) H11.rows.2.1 rfl
          clear x9
          have H11'h := Lib.hid H11
          have hb11'h := Lib.hid hb11
          have hb911'h := Lib.hid hb911
          clear H11 hb11 hb911
          go_wp2_with (first | (refine wpList_load_row rfl _ _ rfl wr.heap.size rfl 33 _ (0, 0) _ H11'h.out.rows.2.2.1 Try.underlying33 rfl info_cl ?_) | (go_at_call 10; refine (CC'h.out _ hb911'h.out).mono ?_; rintro e wc ⟨rfl, hbc⟩; have yc : wc.cell? ⟨wd.heap.size, 0, none⟩ = some (.slice none 0 0) := (hbc.cell (lt_of_cell y11)).trans y11; have hbc'h := Lib.hid hbc; clear hbc))
          go_roundg (gk - 1)
          case measure => have := hk'h.out; omega
          case rel =>
            have hH := H11'h.out.old
            have hbb := below_next (below_next H9'h.out.old hb911'h.out) hbc'h.out
            exact ⟨k + 1, by have := hk'h.out; omega, by have := hk3'h.out; omega, by go_num, spm, nm, capm, ms, rfl, heap_below hbb hbx'h.out hbl, hSm'h.out.below hbb, hum'h.out, by have := hml'h.out; omega, below_next hbr'h.out hbb, hbm⟩
        | true =>
          have D := mDo_yes spm nm capm ms ⟨op, key, ca, cb2⟩ W9 hS9 hum'h.out hnm ho
          obtain ⟨ns, hns⟩ : ∃ ns, ns = nextP ⟨op, key, ca, cb2⟩ ms := ⟨_, rfl⟩
          obtain ⟨cm, hcm⟩ : ∃ cm : Int, cm = (ns.length : Int) - (ms.length : Int) := ⟨_, rfl⟩
          have hnl : ns.length ≤ ms.length + 1 := by rw [hns]; exact len_next_le _ _
          have hun : upB ns = true := by rw [hns]; exact up_next hum'h.out _
          have CC : ∀ W, Below W9.heap.size W9 W → Calls Try.prog 10 #[.agg #[.slice spm nm capm], .agg (clA ⟨op, key, ca, cb2⟩)] W fun e w' => e = .returned (.int .i64 cm) ∧ Below W.heap.size W w' := fun W hb => by
            rw [hcm, hns]
            exact mComes_yes spm nm capm ms ⟨op, key, ca, cb2⟩ W (hS9.below hb) hum'h.out hnm ho
          have hkm : ∀ j, j < ms.length → (nthP ms j).1 ≠ key → getS ns (nthP ms j).1 = some (nthP ms j).2 := fun j hj hk => by rw [hns]; exact next_key hum'h.out ⟨op, key, ca, cb2⟩ hj hk
          have hkn2 : ∀ j, j < ns.length → (nthP ns j).1 ≠ key → getS ms (nthP ns j).1 = some (nthP ns j).2 := by rw [hns]; exact fun j hj hk => prev_key hum'h.out ⟨op, key, ca, cb2⟩ hj hk
          obtain ⟨a, ha⟩ : ∃ a, a = tellA ⟨op, key, ca, cb2⟩ ms := ⟨_, rfl⟩
          have hae : a.err = 0 := by rw [ha]; exact tell_err _ _
          obtain ⟨qq, hqq⟩ : ∃ qq, qq = tellQ ⟨op, key, ca, cb2⟩ ms := ⟨_, rfl⟩
          obtain ⟨six, hsix⟩ : ∃ six, six = decide ((⟨op, key, ca, cb2⟩ : Cl).op = 6) := ⟨_, rfl⟩
          rw [← hns, ← ha, ← hqq, ← hsix] at D
          clear hqq hsix ha
          have hS9'h := Lib.hid hS9
          have hb9'h := Lib.hid hb9
          have D'h := Lib.hid D
          have CC'h := Lib.hid CC
          have ho'h := Lib.hid ho
          have hns'h := Lib.hid hns
          have hcm'h := Lib.hid hcm
          have hnl'h := Lib.hid hnl
          have hun'h := Lib.hid hun
          have hkm'h := Lib.hid hkm
          have hkn2'h := Lib.hid hkn2
          have hae'h := Lib.hid hae
          clear hS9 hb9 D CC ho hns hcm hnl hun hkm hkn2 hae
          go_upto_region 12 with (first | (refine wpList_load_row rfl _ _ rfl wr.heap.size rfl 33 _ (0, 0) _ H9'h.out.rows.1 Try.underlying33 rfl info_cl ?_) | (go_at_call 11; refine D'h.out.mono ?_; rintro e wd ⟨spn, nn, capn, sq, nq, cq, rfl, hbd, hRn, hSq, hcq, hleq, hloq, hxq⟩; have hbd'h := Lib.hid hbd; have hRn'h := Lib.hid hRn; clear hbd hRn hSq hcq hleq hloq hxq) | (refine wpList_store_row rfl _ _ _ rfl wd.heap.size #[.slice spn nn capn] rfl rfl 24 _ (heap_alloc2_old wd _ _) info_map rfl (map_one _ _ _) ?_) | (refine wpList_store_row rfl _ _ _ rfl (wd.heap.size + 1) (anA a sq nq cq) rfl rfl 35 _ ((setRow_other _ _ _ _ (by omega)).trans (heap_alloc2_new wd _ _)) info_an rfl (anA_one _ _ _ _) ?_))
          change Code.wp _ _ _ _ ((((wd.alloc (.cells #[.slice none 0 0] 24)).alloc (.cells (anA ⟨0, 0, false⟩ none 0 0) 35)).setRow wd.heap.size #[.slice spn nn capn]).setRow (wd.heap.size + 1) (anA a sq nq cq))
          have H11 := (((H9'h.out.next hbd'h.out).new2 #[.slice none 0 0] (anA ⟨0, 0, false⟩ none 0 0) 24 35).set 1 rfl #[.slice spn nn capn]).set 0 rfl (anA a sq nq cq)
          have hb11 : Below wd.heap.size wd ((((wd.alloc (.cells #[.slice none 0 0] 24)).alloc (.cells (anA ⟨0, 0, false⟩ none 0 0) 35)).setRow wd.heap.size #[.slice spn nn capn]).setRow (wd.heap.size + 1) (anA a sq nq cq)) := below_setRow' (below_setRow' (((Below.refl _ _).alloc (Nat.le_refl _) _).alloc (by simp) _) (Nat.le_refl _) _) (by omega) _
          generalize World.setRow _ _ _ = W11 at H11 hb11 ⊢
          have hb911 := below_next hbd'h.out hb11
          have hR11 := hRn'h.out.below hb11
          have hnn := hR11.len
          have x11 : W11.cell? ⟨w2.heap.size, 0, none⟩ = some (.slice spm nm capm) := blk_cell (i := 0) (heap_below hb911 hb9'h.out (lt_of_heap hb9'h.out)) rfl
          have hcm1 : (nm : Int) + cm = (nn : Int) := by have := hcm'h.out; have := hmn'h.out; omega
          have hcb1 : -5000 ≤ cm := by have := hmn'h.out; omega
          have hcb2 : cm ≤ 5000 := by have := hmn'h.out; have := hnl'h.out; omega
          have hnn2 : nn ≤ 4096 := by have := hml'h.out; have := hnl'h.out; omega
          clear x9
          have H11'h := Lib.hid H11
          have hb11'h := Lib.hid hb11
          have hb911'h := Lib.hid hb911
          have hR11'h := Lib.hid hR11
          have hnn'h := Lib.hid hnn
          have hcm1'h := Lib.hid hcm1
          clear H11 hb11 hb911 hR11 hnn hcm1
          go_upto_region 16 with (first | (refine wpList_load_row rfl _ _ rfl wr.heap.size rfl 33 _ (0, 0) _ H11'h.out.rows.2.2.1 Try.underlying33 rfl info_cl ?_) | (go_at_call 10; refine (CC'h.out _ hb911'h.out).mono ?_; rintro e wc ⟨rfl, hbc⟩; have hbc'h := Lib.hid hbc; clear hbc))
          clear x11
          have HC := H11'h.out.next hbc'h.out
          have hRc := hR11'h.out.below hbc'h.out
          have y9 : wc.cell? ⟨wd.heap.size, 0, none⟩ = some (.slice spn nn capn) := blk_cell (i := 0) HC.rows.2.1 rfl
          have t79 : ((nn : Int) != ((nm : Int) + cm)) = false := by rw [hcm1'h.out]; simp
          have C17 := mcheck_yes spn nn capn ns wc hRc.sl hun'h.out
          have s1 : -10000 ≤ (nm : Int) + cm := by omega
          have s2 : (nm : Int) + cm ≤ 10000 := by omega
          have ya : ∀ W, Below wc.heap.size wc W → W.cell? ⟨wd.heap.size + 1, 0, none⟩ = some (.int .i64 0) := fun W hb => by
            have := blk_cell (i := 0) (HC.next hb).rows.1 rfl
            rw [← hae'h.out]; exact this
          have HC'h := Lib.hid HC
          have hRc'h := Lib.hid hRc
          have C17'h := Lib.hid C17
          have ya'h := Lib.hid ya
          clear HC hRc C17 ya
          go_upto_region 19 with (go_at_call 9; refine C17'h.out.mono ?_; rintro e W19 ⟨rfl, hb17⟩; have y10 : W19.cell? ⟨wd.heap.size, 0, none⟩ = some (.slice spn nn capn) := blk_cell (i := 0) (HC'h.out.next hb17).rows.2.1 rfl; have y0 := ya'h.out _ hb17; have hb17'h := Lib.hid hb17; clear hb17)
          clear y9 y10 y0 t79
          have H19 := HC'h.out.next hb17'h.out
          have hR19 := hRc'h.out.below hb17'h.out
          have hB19 := H19.old
          have hM19 := hSm'h.out.below hB19
          have hbx19 := heap_below hB19 hbx'h.out hbl
          have x19 : W19.cell? ⟨w2.heap.size, 0, none⟩ = some (.slice spm nm capm) := blk_cell (i := 0) hbx19 rfl
          have H19'h := Lib.hid H19
          have hR19'h := Lib.hid hR19
          have hB19'h := Lib.hid hB19
          have hM19'h := Lib.hid hM19
          have hbx19'h := Lib.hid hbx19
          clear H19 hR19 hB19 hM19 hbx19
          obtain ⟨go, rfl⟩ : ∃ go : Nat, go = gk := ⟨gk, rfl⟩
          obtain ⟨wo, rfl⟩ : ∃ wo : World, wo = wr := ⟨wr, rfl⟩
          go_wp2
          go_loopg [89] nm (fun q i wx => ∃ j : Nat, j + q = nm ∧ i = .int .i64 j ∧ Below W19.heap.size W19 wx)
          case atStart => exact ⟨0, by omega, rfl, Below.refl _ _⟩
          case round =>
            obtain ⟨j, hj, rfl, hbj⟩ := hrel
            clear x19
            have hjn : j ≤ nm := by omega
            by_cases hjl : j < nm
            · have hMx := hM19'h.out.below hbj
              obtain ⟨mb, moff, rfl⟩ := prs_some hM19'h.out (by omega)
              obtain ⟨p0, p1⟩ := prs_cells hMx (k := j) (by have := hmn'h.out; omega)
              have hgj := hkm'h.out j (by have := hmn'h.out; omega)
              have H21 := (H19'h.out.next hbj).new #[.int .u64 ((nthP ms j).1 : Int), .int .u64 ((nthP ms j).2 : Int)] 39
              have hR21 := (hR19'h.out.below hbj).below (W' := _) ((Below.refl _ wr).alloc (Nat.le_refl _) (.cells #[.int .u64 ((nthP ms j).1 : Int), .int .u64 ((nthP ms j).2 : Int)] 39))
              generalize (nthP ms j).1 = pk at *
              generalize (nthP ms j).2 = pv at *
              have j1 : (j : Int) < (nm : Int) := by omega
              have j2 : (0 : Int) ≤ (j : Int) := by omega
              have hbo : Below wr.heap.size wr (wr.alloc (.cells #[.int .u64 (pk : Int), .int .u64 (pv : Int)] 39)) := (Below.refl _ _).alloc (Nat.le_refl _) _
              have hMx'h := Lib.hid hMx
              have hj'h := Lib.hid hj
              have hgj'h := Lib.hid hgj
              have H21'h := Lib.hid H21
              have hR21'h := Lib.hid hR21
              have hbo'h := Lib.hid hbo
              have hbj'h := Lib.hid hbj
              clear hMx hj hgj H21 hR21 hbo hbj
              go_upto_region 22 with fail
              clear p0 p1 j1 j2
              have H21 := H21'h.out
              have hR21 := hR21'h.out
              have hbo := hbo'h.out
              clear H21'h hR21'h hbo'h
              generalize wr.alloc (.cells #[.int .u64 (pk : Int), .int .u64 (pv : Int)] 39) = W21 at H21 hR21 hbo ⊢
              have y9 : W21.cell? ⟨wd.heap.size, 0, none⟩ = some (.slice spn nn capn) := blk_cell (i := 0) H21.rows.2.2.1 rfl
              have p0 : W21.cell? ⟨wr.heap.size, 0, none⟩ = some (.int .u64 (pk : Int)) := blk_cell (i := 0) H21.rows.1 rfl
              by_cases hpk : pk = key
              · have t1 : ((pk : Int) != (key : Int)) = false := by simp; omega
                have G := mGet_yes spn nn capn ns pk W21 hR21.sl hun'h.out (by omega)
                obtain ⟨g1, hg1⟩ : ∃ g1 : Int, g1 = ((getS ns pk).getD 0 : Nat) := ⟨_, rfl⟩
                obtain ⟨g2, hg2⟩ : ∃ g2, g2 = hasP ns pk := ⟨_, rfl⟩
                rw [← hg1, ← hg2] at G
                clear hg1 hg2
                have H21'h := Lib.hid H21
                have hR21'h := Lib.hid hR21
                have hbo'h := Lib.hid hbo
                have G'h := Lib.hid G
                have hpk'h := Lib.hid hpk
                clear H21 hR21 hbo G hpk
                go_upto_region 23 with (go_at_call 12; refine G'h.out.mono ?_; rintro e W23 ⟨rfl, hbg⟩)
                have H23 := H21'h.out.next hbg
                clear y9 p0
                have p0 : W23.cell? ⟨wr.heap.size, 0, none⟩ = some (.int .u64 (pk : Int)) := blk_cell (i := 0) H23.rows.1 rfl
                have k0 : W23.cell? ⟨wo.heap.size, 1, none⟩ = some (.int .u64 (key : Int)) := blk_cell (i := 1) H23.rows.2.2.2.1 rfl
                have H23'h := Lib.hid H23
                have hbg'h := Lib.hid hbg
                clear H23 hbg
                go_wp2
                go_roundg (gk - 1)
                case measure => have := hj'h.out; omega
                case rel => exact ⟨j + 1, by have := hj'h.out; omega, by go_num, below_next (below_next hbj'h.out hbo'h.out) hbg'h.out⟩
              · have t1 : ((pk : Int) != (key : Int)) = true := by simp; omega
                have G := get_is (hgj'h.out hpk) spn nn capn W21 hR21.sl hun'h.out (by omega)
                have t2 : ((pv : Int) != (pv : Int)) = false := by simp
                have H21'h := Lib.hid H21
                have hR21'h := Lib.hid hR21
                have hbo'h := Lib.hid hbo
                have G'h := Lib.hid G
                have hpk'h := Lib.hid hpk
                clear H21 hR21 hbo G hpk
                go_upto_region 23 with (go_at_call 12; refine G'h.out.mono ?_; rintro e W23 ⟨rfl, hbg⟩)
                have H23 := H21'h.out.next hbg
                clear y9 p0
                have p0 : W23.cell? ⟨wr.heap.size, 0, none⟩ = some (.int .u64 (pk : Int)) := blk_cell (i := 0) H23.rows.1 rfl
                have p1 : W23.cell? ⟨wr.heap.size, 1, none⟩ = some (.int .u64 (pv : Int)) := blk_cell (i := 1) H23.rows.1 rfl
                have k0 : W23.cell? ⟨wo.heap.size, 1, none⟩ = some (.int .u64 (key : Int)) := blk_cell (i := 1) H23.rows.2.2.2.1 rfl
                have H23'h := Lib.hid H23
                have hbg'h := Lib.hid hbg
                clear H23 hbg
                go_wp2
                go_roundg (gk - 1)
                case measure => have := hj'h.out; omega
                case rel => exact ⟨j + 1, by have := hj'h.out; omega, by go_num, below_next (below_next hbj'h.out hbo'h.out) hbg'h.out⟩
            · have hjj : j = nm := by omega
              have j1 : ¬ (j : Int) < (nm : Int) := by omega
              have H26 := H19'h.out.next hbj
              have hR26 := hR19'h.out.below hbj
              have hM26 := hM19'h.out.below hbj
              have hbx26 := heap_below hbj hbx19'h.out (lt_of_heap hbx19'h.out)
              have y9 : wr.cell? ⟨wd.heap.size, 0, none⟩ = some (.slice spn nn capn) := blk_cell (i := 0) H26.rows.2.1 rfl
              clear hj
              have hjj'h := Lib.hid hjj
              have H26'h := Lib.hid H26
              have hR26'h := Lib.hid hR26
              have hM26'h := Lib.hid hM26
              have hbx26'h := Lib.hid hbx26
              have hbj'h := Lib.hid hbj
              clear hjj H26 hR26 hM26 hbx26 hbj
              obtain ⟨wq, rfl⟩ : ∃ wq : World, wq = wr := ⟨wr, rfl⟩
              obtain ⟨gq, rfl⟩ : ∃ gq : Nat, gq = gk := ⟨gk, rfl⟩
              go_wp2
              go_loopg [119] nn (fun q i wx => ∃ j : Nat, j + q = nn ∧ i = .int .i64 j ∧ Below wq.heap.size wq wx)
              case atStart => exact ⟨0, by omega, rfl, Below.refl _ _⟩
              case round =>
                obtain ⟨j', hj, rfl, hbj⟩ := hrel
                clear y9 j1
                have hjn : j' ≤ nn := by omega
                by_cases hjl : j' < nn
                · have hMx := hR26'h.out.sl.below hbj
                  obtain ⟨mb, moff, rfl⟩ := prs_some hR26'h.out.sl (by omega)
                  obtain ⟨p0, p1⟩ := prs_cells hMx (k := j') (by have := hnn'h.out; omega)
                  have hgj := hkn2'h.out j' (by have := hnn'h.out; omega)
                  have H21 := (H26'h.out.next hbj).new #[.int .u64 ((nthP ns j').1 : Int), .int .u64 ((nthP ns j').2 : Int)] 39
                  have hM21 := (hM26'h.out.below hbj).below (w' := _) ((Below.refl _ wr).alloc (Nat.le_refl _) (.cells #[.int .u64 ((nthP ns j').1 : Int), .int .u64 ((nthP ns j').2 : Int)] 39))
                  have hX21 := heap_below hbj hbx26'h.out (lt_of_heap hbx26'h.out)
                  generalize (nthP ns j').1 = pk at *
                  generalize (nthP ns j').2 = pv at *
                  have j1 : (j' : Int) < (nn : Int) := by omega
                  have j2 : (0 : Int) ≤ (j' : Int) := by omega
                  have hbo : Below wr.heap.size wr (wr.alloc (.cells #[.int .u64 (pk : Int), .int .u64 (pv : Int)] 39)) := (Below.refl _ _).alloc (Nat.le_refl _) _
                  have x9 : (wr.alloc (.cells #[.int .u64 (pk : Int), .int .u64 (pv : Int)] 39)).cell? ⟨w2.heap.size, 0, none⟩ = some (.slice spm nm capm) := blk_cell (i := 0) (heap_below hbo hX21 (lt_of_heap hX21)) rfl
                  have hMx'h := Lib.hid hMx
                  have hj'h := Lib.hid hj
                  have hgj'h := Lib.hid hgj
                  have H21'h := Lib.hid H21
                  have hM21'h := Lib.hid hM21
                  have hbo'h := Lib.hid hbo
                  have hbj'h := Lib.hid hbj
                  have hX21'h := Lib.hid hX21
                  have x9'h := Lib.hid x9
                  clear hMx hj hgj H21 hM21 hbo hbj hX21 x9
                  go_upto_region 29 with fail
                  clear p0 p1 j1 j2
                  have H21 := H21'h.out
                  have hM21 := hM21'h.out
                  have hbo := hbo'h.out
                  have x9 := x9'h.out
                  clear H21'h hM21'h hbo'h x9'h
                  generalize wr.alloc (.cells #[.int .u64 (pk : Int), .int .u64 (pv : Int)] 39) = W21 at H21 hM21 hbo x9 ⊢
                  have p0 : W21.cell? ⟨wr.heap.size, 0, none⟩ = some (.int .u64 (pk : Int)) := blk_cell (i := 0) H21.rows.1 rfl
                  by_cases hpk : pk = key
                  · have t1 : ((pk : Int) != (key : Int)) = false := by simp; omega
                    have G := mGet_yes spm nm capm ms pk W21 hM21 hum'h.out (by omega)
                    obtain ⟨g1, hg1⟩ : ∃ g1 : Int, g1 = ((getS ms pk).getD 0 : Nat) := ⟨_, rfl⟩
                    obtain ⟨g2, hg2⟩ : ∃ g2, g2 = hasP ms pk := ⟨_, rfl⟩
                    rw [← hg1, ← hg2] at G
                    clear hg1 hg2
                    have H21'h := Lib.hid H21
                    have hM21'h := Lib.hid hM21
                    have hbo'h := Lib.hid hbo
                    have G'h := Lib.hid G
                    have hpk'h := Lib.hid hpk
                    clear H21 hM21 hbo G hpk
                    go_upto_region 30 with (go_at_call 12; refine G'h.out.mono ?_; rintro e W23 ⟨rfl, hbg⟩)
                    have H23 := H21'h.out.next hbg
                    clear x9 p0
                    have p0 : W23.cell? ⟨wr.heap.size, 0, none⟩ = some (.int .u64 (pk : Int)) := blk_cell (i := 0) H23.rows.1 rfl
                    have k0 : W23.cell? ⟨wo.heap.size, 1, none⟩ = some (.int .u64 (key : Int)) := blk_cell (i := 1) H23.rows.2.2.2.1 rfl
                    have H23'h := Lib.hid H23
                    have hbg'h := Lib.hid hbg
                    clear H23 hbg
                    go_wp2
                    go_roundg (gk - 1)
                    case measure => have := hj'h.out; omega
                    case rel => exact ⟨j' + 1, by have := hj'h.out; omega, by go_num, below_next (below_next hbj'h.out hbo'h.out) hbg'h.out⟩
                  · have t1 : ((pk : Int) != (key : Int)) = true := by simp; omega
                    have G := get_is (hgj'h.out hpk) spm nm capm W21 hM21 hum'h.out (by omega)
                    have t2 : ((pv : Int) != (pv : Int)) = false := by simp
                    have H21'h := Lib.hid H21
                    have hM21'h := Lib.hid hM21
                    have hbo'h := Lib.hid hbo
                    have G'h := Lib.hid G
                    have hpk'h := Lib.hid hpk
                    clear H21 hM21 hbo G hpk
                    go_upto_region 30 with (go_at_call 12; refine G'h.out.mono ?_; rintro e W23 ⟨rfl, hbg⟩)
                    have H23 := H21'h.out.next hbg
                    clear x9 p0
                    have p0 : W23.cell? ⟨wr.heap.size, 0, none⟩ = some (.int .u64 (pk : Int)) := blk_cell (i := 0) H23.rows.1 rfl
                    have p1 : W23.cell? ⟨wr.heap.size, 1, none⟩ = some (.int .u64 (pv : Int)) := blk_cell (i := 1) H23.rows.1 rfl
                    have k0 : W23.cell? ⟨wo.heap.size, 1, none⟩ = some (.int .u64 (key : Int)) := blk_cell (i := 1) H23.rows.2.2.2.1 rfl
                    have H23'h := Lib.hid H23
                    have hbg'h := Lib.hid hbg
                    clear H23 hbg
                    go_wp2
                    go_roundg (gk - 1)
                    case measure => have := hj'h.out; omega
                    case rel => exact ⟨j' + 1, by have := hj'h.out; omega, by go_num, below_next (below_next hbj'h.out hbo'h.out) hbg'h.out⟩
                · have hjj2 : j' = nn := by omega
                  have j1 : ¬ (j' : Int) < (nn : Int) := by omega
                  have H33 := H26'h.out.next hbj
                  have hR33 := hR26'h.out.below hbj
                  have hbx33 := heap_below hbj hbx26'h.out (lt_of_heap hbx26'h.out)
                  have y9 : wr.cell? ⟨wd.heap.size, 0, none⟩ = some (.slice spn nn capn) := blk_cell (i := 0) H33.rows.2.1 rfl
                  have x9 : wr.cell? ⟨w2.heap.size, 0, none⟩ = some (.slice spm nm capm) := blk_cell (i := 0) hbx33 rfl
                  have f9 : wr.frozen? ⟨w2.heap.size, 0, none⟩ = false := blk_free 0 hbx33
                  have hjj2'h := Lib.hid hjj2
                  have H33'h := Lib.hid H33
                  have hR33'h := Lib.hid hR33
                  have hbx33'h := Lib.hid hbx33
                  have hbj'h := Lib.hid hbj
                  have hj'h := Lib.hid hj
                  clear hjj2 H33 hR33 hbx33 hbj hj
                  go_wp2
                  go_roundg (go - 1)
                  case measure => have := hk'h.out; omega
                  case rel =>
                    have hbig := below_next hbr'h.out H33'h.out.old
                    refine ⟨k + 1, by have := hk'h.out; omega, by have := hk3'h.out; omega, by go_num, spn, nn, capn, ns, by rw [hcm1'h.out], blk_set (cs := #[.slice spm nm capm]) (i := 0) _ hbx33'h.out, ?_, hun'h.out, by have := hml'h.out; have := hnl'h.out; omega, hbig.setCell hbm _, hbm⟩
                    refine hR33'h.out.sl.keep fun b o _ e ho => (Below.heap_setCell wr ⟨w2.heap.size, 0, none⟩ (.slice spn nn capn) b (fun e2 => ?_)).trans ho
                    have e2' : b = w2.heap.size := e2
                    rcases hR33'h.out.row with ⟨e', _⟩ | ⟨g, cur, e', hg, _⟩
                    · rw [e'] at e; cases e
                    · rw [e'] at e; cases e
                      have := H9'h.out.old.size
                      have e3 : g = w2.heap.size := e2'
                      omega
      · have hkk : k = nc := by omega
        have i1 : ¬ (k : Int) < (nc : Int) := by omega
        have hbx'h := Lib.hid hbx
        have hSm'h := Lib.hid hSm
        have hum'h := Lib.hid hum
        have hml'h := Lib.hid hml
        have hbr'h := Lib.hid hbr
        have hmn'h := Lib.hid hmn
        have hkk'h := Lib.hid hkk
        clear hbx hSm hum hml hbr hmn hkk
        go_wp2
        go_ret
        exact ⟨rfl, hbr'h.out⟩
end Go.Proofs.Ytihccjmmnpldjaa
