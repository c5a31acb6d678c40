/-
  Layer 27 (order): own, walked.
-/
import Derived.Test.YtogeohjeabbmaaaDoorOrdW
import Derived.Test.YtogeohjeabbmaaaDoorY1
set_option linter.unusedSimpArgs false
set_option linter.unusedVariables false
set_option maxRecDepth 100000
namespace Go.Proofs.YtogeohjeabbmaaaDoor
open Go.RowKit

theorem wp_region_heldT {P : Program} {id : Nat} {Q : Exit → Act → World → Prop} {a : Act} {w : World} {ol : List Oper} (H : Held2) (hm : P.follows .mixedOrders = true)
    (h : wpAnyT P .any ol.toArray Q H ol.toArray.size (Array.replicate ol.toArray.size false) a w.drew) :
    (Code.region id ol.toArray true).wp P Q a w := wp_region_any hm (wpAny_of_heldT _ _ _ _ h)
/-- What own leaves. -/
def OwnP (w : World) (xs : List Mm) (e : Ending) (w' : World) : Prop :=
  ∃ s' c' ls, e = .returned (.slice s' ls.length c') ∧ Below w.heap.size w w' ∧ MsIn w' s' ls.length ls ∧ ls.length = min 82 xs.length ∧ (∀ i, i < ls.length → (nthM ls i).md = cutMd (nthM xs i).md) ∧ ls.length ≤ c' ∧ (∀ g, s'.map (·.block) = some g → g < w'.heap.size)
theorem nthM_take {l : List Mm} {m i : Nat} (h : i < m) : nthM (l.take m) i = nthM l i := by
  unfold nthM
  rw [List.getD_eq_getElem?_getD, List.getD_eq_getElem?_getD, List.getElem?_take, if_pos h]
theorem mms_one (l : List Mm) : ∀ v ∈ mms l, v.oneCell' = true := flat_one (fun m v hv => by
  unfold mmL at hv
  simp at hv
  rcases hv with rfl | rfl | rfl | rfl | rfl | rfl | rfl | rfl | rfl | rfl | rfl | rfl | rfl <;> rfl) l
set_option maxHeartbeats 8000000 in
theorem own27_any (sp : Option Addr) (n cap : Nat) (xs : List Mm) (w : World) (h : MsIn w sp n xs) (hnil : sp = none → cap = 0) (hle : n ≤ cap) :
    Calls Tryd.prog 15 #[.slice sp n cap] w (OwnP w xs) := by
  have hlen := h.len
  have hmax := h.sl.2.1
  unfold maxLen at hmax
  obtain ⟨m, hm⟩ : ∃ m : Nat, min (n : Int) 82 = (m : Int) := ⟨(min (n : Int) 82).toNat, by omega⟩
  have hmn : m = min 82 n := by omega
  have CM := cloneM_any sp m cap (mms (xs.take m)) w (by omega) (mms_one _) hnil (h.take (by omega)).sl
  have i1 : (m : Int) ≤ (cap : Int) := by omega
  have i2 : ¬ (m : Int) < 0 := by omega
  have hlt : (xs.take m).length = m := by rw [List.length_take]; omega
  clear hmax
  have h'h := Lib.hid h
  have hlen'h := Lib.hid hlen
  have hmn'h := Lib.hid hmn
  have CM'h := Lib.hid CM
  have hlt'h := Lib.hid hlt
  have hnil'h := Lib.hid hnil
  have hle'h := Lib.hid hle
  clear h hlen hmn CM hlt hnil hle
  go_enter Tryd.func15, Tryd.ntmps15
  go_wp2_with fail
  refine CM'h.out.mono ?_
  rintro e w1 ⟨s1, c1, rfl, hb1, hrow⟩
  clear CM'h
  obtain ⟨s1', c1', e', hle1, hnil1, hlow1⟩ := row_form hrow
  cases e'
  by_cases hm0 : m = 0
  · subst hm0
    have hfin : OwnP w xs (.returned (.slice s1 0 c1)) w1 := ⟨s1, c1, [], rfl, hb1, ⟨⟨rfl, Nat.zero_le _, .inl rfl⟩, fun m hm => by cases hm⟩, by have := hmn'h.out; have := hlen'h.out; simp; omega, fun i hi => by simp at hi, Nat.zero_le _, fun g hg => by
      obtain ⟨a, rfl, rfl⟩ := Option.map_eq_some_iff.1 hg
      exact (hlow1 a rfl).2.1⟩
    clear hb1 hrow hle1 hnil1 hlow1
    have hfin'h := Lib.hid hfin
    clear hfin
    go_wp2
    refine wp_loop_rounds 1 ?_
    rw [rounds_succ]
    go_wp2
    go_ret
    exact hfin'h.out
  · obtain ⟨rb, rfl, hlow, cur, hcells, hcsz, htk⟩ : ∃ rb, s1 = some ⟨rb, 0, none⟩ ∧ w.heap.size ≤ rb ∧ ∃ cur : Array Value, w1.heap[rb]? = some (.cells cur 39 (0, 0)) ∧ m * 13 ≤ cur.size ∧ cur.toList.take (m * 13) = mms (xs.take m) := by
      rcases hrow.2 with ⟨hv, h0⟩ | ⟨g, cap', cur, hv, hg, hh, hle2, hcap, hsz, ht⟩
      · cases hv; exact absurd rfl hm0
      · cases hv; exact ⟨g, rfl, hg, cur, hh, by have := Nat.mul_le_mul_right 13 hle2; omega, ht⟩
    have hO : OwnW w rb (xs.take m) 0 (xs.take m) w1 := by
      refine ⟨hb1, hlow, ⟨cur.toList.drop (m * 13), ?_⟩, rfl, fun i hi => by omega, fun i _ _ => rfl⟩
      rw [← htk, List.take_append_drop]
      simpa using hcells
    clear hb1 hrow hlow1 hlow hcells hcsz htk hnil1
    have hm82 : (m : Int) ≤ 82 := by have := hmn'h.out; omega
    have hO'h := Lib.hid hO
    have hle1'h := Lib.hid hle1
    have hm0'h := Lib.hid hm0
    clear hO hle1 hm0
    go_wp2
    go_loopg [14] m (fun q v14 wr => ∃ (j : Nat) (ls : List Mm), j + q = m ∧ v14 = .int .i64 (j : Int) ∧ OwnW w rb (xs.take m) j ls wr)
    case atStart => exact ⟨0, _, by omega, rfl, hO'h.out⟩
    case round =>
      obtain ⟨j, ls, hj, rfl, hI⟩ := hrel
      by_cases hlt2 : j < m
      · have hjx : j < (xs.take m).length := by have := hlt'h.out; omega
        have hjl : j < ls.length := by rw [hI.len]; exact hjx
        have hx := hI.rest j (Nat.le_refl _) hjx
        rw [nthM_take hlt2] at hx
        obtain ⟨x, hx0⟩ : ∃ x, x = nthM xs j := ⟨_, rfl⟩
        rw [← hx0] at hx
        have hin : MmIn wr x := by rw [hx0]; exact ((h'h.out.each _ (nthM_mem (by have := hlen'h.out; have := hmn'h.out; omega))).below hI.below)
        have hxm : nthM (xs.take m) j = x := by rw [nthM_take hlt2, hx0]
        obtain ⟨p8, p8f⟩ := hI.cell (i := 8) (v := .slice x.pp x.pn x.pc) hjl (by omega) (by rw [hx]; rfl)
        obtain ⟨p12, p12f⟩ := hI.cell (i := 12) (v := .slice x.tp x.tn x.tc) hjl (by omega) (by rw [hx]; rfl)
        have hpn := hin.pn
        have htn := hin.tn
        obtain ⟨mp, hmp⟩ : ∃ mp : Nat, min (x.pn : Int) 4 = (mp : Int) := ⟨(min (x.pn : Int) 4).toNat, by omega⟩
        obtain ⟨mt, hmt⟩ : ∃ mt : Nat, min (x.tn : Int) 4 = (mt : Int) := ⟨(min (x.tn : Int) 4).toNat, by omega⟩
        have hp1 := hin.prs.take mp (by omega)
        rw [prs_take] at hp1
        have ht1 := (SlK.of_sl hin.told).take mt (by omega)
        rw [Nat.mul_one, ← List.map_take] at ht1
        have hp4 : x.md.prs.take mp = x.md.prs.take 4 := List.take_eq_take_iff.2 (by omega)
        have ht4 : x.md.told.take mt = x.md.told.take 4 := List.take_eq_take_iff.2 (by omega)
        rw [hp4] at hp1
        rw [ht4] at ht1
        have a1 := hin.ple
        have a2 := hin.tle
        have j1 : (mp : Int) ≤ (x.pc : Int) := by omega
        have j2 : ¬ (mp : Int) < 0 := by omega
        have j3 : (mt : Int) ≤ (x.tc : Int) := by omega
        have j4 : ¬ (mt : Int) < 0 := by omega
        have hmp4 : mp ≤ 4 := by omega
        have hmt4 : mt ≤ 4 := by omega
        have hok := hin.ok
        have hpl := hin.pnil
        have htl := hin.tnil
        have k1 : (j : Int) < (m : Int) := by omega
        have k2 : (0 : Int) ≤ (j : Int) := by omega
        have hrlt : rb < wr.heap.size := by obtain ⟨pad, hr⟩ := hI.row; exact lt_of_heap hr
        clear hx hx0 hin hp4 ht4 hpn htn a1 a2
        obtain ⟨md, pp, pn, pc, tp, tn, tc⟩ := x
        simp only at p8 p12 hmp hmt hp1 ht1 j1 j3 hok hpl htl
        have hI'h := Lib.hid hI
        have hj'h := Lib.hid hj
        have hlt2'h := Lib.hid hlt2
        have hjx'h := Lib.hid hjx
        have hjl'h := Lib.hid hjl
        have hxm'h := Lib.hid hxm
        have hp1'h := Lib.hid hp1
        have ht1'h := Lib.hid ht1
        have hok'h := Lib.hid hok
        have hpl'h := Lib.hid hpl
        have htl'h := Lib.hid htl
        have hrlt'h := Lib.hid hrlt
        have hmp4'h := Lib.hid hmp4
        have hmt4'h := Lib.hid hmt4
        clear hI hj hlt2 hjx hjl hxm hp1 ht1 hok hpl htl hrlt hmp4 hmt4
        go_upto_region 6 with fail
        have R := (Below.refl wr.heap.size wr).drew
        have u1 : wr.drew.cell? ⟨rb, j * 13 + 8, none⟩ = some (.slice pp pn pc) := p8
        have u2 : wr.drew.cell? ⟨rb, j * 13 + 12, none⟩ = some (.slice tp tn tc) := p12
        have f8 : wr.drew.frozen? ⟨rb, j * 13 + 8, none⟩ = false := p8f
        have f12 : wr.drew.frozen? ⟨rb, j * 13 + 12, none⟩ = false := p12f
        refine wp_region_heldT ⟨31, fun W => W.cell? ⟨rb, j * 13 + 8, none⟩ = some (.slice pp pn pc), 34, fun W => W.cell? ⟨rb, j * 13 + 12, none⟩ = some (.slice tp tn tc), fun _ => True⟩ (by kernel_rfl) ?_
        clear p8 p12 p8f p12f
        generalize wr.drew = V0 at R u1 u2 f8 f12 ⊢
        refine wpAnyT_take (i := 0) (v := .pointer (some ⟨rb, j * 13, none⟩)) false false rfl (by kernel_rfl) (by kernel_rfl) (by kernel_rfl) (by kernel_rfl) (fun _ _ _ h => h) (Or.inl ⟨by kernel_rfl, fun w hSw => by clear hSw; go_simp⟩) ⟨fun _ => u1, fun _ => u2, trivial⟩ ?_; try simp only [Act.put, List.getElem_toArray, List.getElem_cons_succ, List.getElem_cons_zero, List.setIfInBounds_toArray, List.set_cons_zero, List.set_cons_succ]
        refine wpAnyT_take (i := 1) (v := .pointer (some ⟨rb, j * 13, none⟩)) false false rfl (by kernel_rfl) (by kernel_rfl) (by kernel_rfl) (by kernel_rfl) (fun _ _ _ h => h) (Or.inl ⟨by kernel_rfl, fun w hSw => by clear hSw; go_simp⟩) ⟨fun _ => u1, fun _ => u2, trivial⟩ ?_; try simp only [Act.put, List.getElem_toArray, List.getElem_cons_succ, List.getElem_cons_zero, List.setIfInBounds_toArray, List.set_cons_zero, List.set_cons_succ]
        refine wpAnyT_take (i := 2) (v := .pointer (some ⟨rb, j * 13, none⟩)) false false rfl (by kernel_rfl) (by kernel_rfl) (by kernel_rfl) (by kernel_rfl) (fun _ _ _ h => h) (Or.inl ⟨by kernel_rfl, fun w hSw => by clear hSw; go_simp⟩) ⟨fun _ => u1, fun _ => u2, trivial⟩ ?_; try simp only [Act.put, List.getElem_toArray, List.getElem_cons_succ, List.getElem_cons_zero, List.setIfInBounds_toArray, List.set_cons_zero, List.set_cons_succ]
        refine wpAnyT_take (i := 3) (v := .pointer (some ⟨rb, j * 13, none⟩)) false false rfl (by kernel_rfl) (by kernel_rfl) (by kernel_rfl) (by kernel_rfl) (fun _ _ _ h => h) (Or.inl ⟨by kernel_rfl, fun w hSw => by clear hSw; go_simp⟩) ⟨fun _ => u1, fun _ => u2, trivial⟩ ?_; try simp only [Act.put, List.getElem_toArray, List.getElem_cons_succ, List.getElem_cons_zero, List.setIfInBounds_toArray, List.set_cons_zero, List.set_cons_succ]
        refine wpAnyT_take (i := 4) (v := .pointer (some ⟨rb, j * 13 + 5, none⟩)) false false rfl (by kernel_rfl) (by kernel_rfl) (by kernel_rfl) (by kernel_rfl) (fun _ _ _ h => h) (Or.inl ⟨by kernel_rfl, fun w hSw => by clear hSw; go_simp⟩) ⟨fun _ => u1, fun _ => u2, trivial⟩ ?_; try simp only [Act.put, List.getElem_toArray, List.getElem_cons_succ, List.getElem_cons_zero, List.setIfInBounds_toArray, List.set_cons_zero, List.set_cons_succ]
        refine wpAnyT_take (i := 5) (v := .pointer (some ⟨rb, j * 13 + 8, none⟩)) false false rfl (by kernel_rfl) (by kernel_rfl) (by kernel_rfl) (by kernel_rfl) (fun _ _ _ h => h) (Or.inl ⟨by kernel_rfl, fun w hSw => by clear hSw; go_simp⟩) ⟨fun _ => u1, fun _ => u2, trivial⟩ ?_; try simp only [Act.put, List.getElem_toArray, List.getElem_cons_succ, List.getElem_cons_zero, List.setIfInBounds_toArray, List.set_cons_zero, List.set_cons_succ]
        refine wpAnyT_take (i := 6) (v := .slice pp pn pc) true false rfl (by kernel_rfl) (by kernel_rfl) (by kernel_rfl) (by kernel_rfl) (fun _ _ _ h => h) (Or.inl ⟨by kernel_rfl, fun w hSw => by have hcc := hSw.1 rfl; dsimp only at hcc; clear hSw; go_simp⟩) ⟨fun _ => u1, fun _ => u2, trivial⟩ ?_; try simp only [Act.put, List.getElem_toArray, List.getElem_cons_succ, List.getElem_cons_zero, List.setIfInBounds_toArray, List.set_cons_zero, List.set_cons_succ]
        refine wpAnyT_take (i := 7) (v := .pointer (some ⟨rb, j * 13, none⟩)) false false rfl (by kernel_rfl) (by kernel_rfl) (by kernel_rfl) (by kernel_rfl) (fun _ _ _ h => h) (Or.inl ⟨by kernel_rfl, fun w hSw => by clear hSw; go_simp⟩) ⟨fun _ => u1, fun _ => u2, trivial⟩ ?_; try simp only [Act.put, List.getElem_toArray, List.getElem_cons_succ, List.getElem_cons_zero, List.setIfInBounds_toArray, List.set_cons_zero, List.set_cons_succ]
        refine wpAnyT_take (i := 8) (v := .pointer (some ⟨rb, j * 13, none⟩)) false false rfl (by kernel_rfl) (by kernel_rfl) (by kernel_rfl) (by kernel_rfl) (fun _ _ _ h => h) (Or.inl ⟨by kernel_rfl, fun w hSw => by clear hSw; go_simp⟩) ⟨fun _ => u1, fun _ => u2, trivial⟩ ?_; try simp only [Act.put, List.getElem_toArray, List.getElem_cons_succ, List.getElem_cons_zero, List.setIfInBounds_toArray, List.set_cons_zero, List.set_cons_succ]
        refine wpAnyT_take (i := 9) (v := .pointer (some ⟨rb, j * 13 + 5, none⟩)) false false rfl (by kernel_rfl) (by kernel_rfl) (by kernel_rfl) (by kernel_rfl) (fun _ _ _ h => h) (Or.inl ⟨by kernel_rfl, fun w hSw => by clear hSw; go_simp⟩) ⟨fun _ => u1, fun _ => u2, trivial⟩ ?_; try simp only [Act.put, List.getElem_toArray, List.getElem_cons_succ, List.getElem_cons_zero, List.setIfInBounds_toArray, List.set_cons_zero, List.set_cons_succ]
        refine wpAnyT_take (i := 10) (v := .pointer (some ⟨rb, j * 13 + 8, none⟩)) false false rfl (by kernel_rfl) (by kernel_rfl) (by kernel_rfl) (by kernel_rfl) (fun _ _ _ h => h) (Or.inl ⟨by kernel_rfl, fun w hSw => by clear hSw; go_simp⟩) ⟨fun _ => u1, fun _ => u2, trivial⟩ ?_; try simp only [Act.put, List.getElem_toArray, List.getElem_cons_succ, List.getElem_cons_zero, List.setIfInBounds_toArray, List.set_cons_zero, List.set_cons_succ]
        refine wpAnyT_take (i := 11) (v := .slice pp pn pc) true false rfl (by kernel_rfl) (by kernel_rfl) (by kernel_rfl) (by kernel_rfl) (fun _ _ _ h => h) (Or.inl ⟨by kernel_rfl, fun w hSw => by have hcc := hSw.1 rfl; dsimp only at hcc; clear hSw; go_simp⟩) ⟨fun _ => u1, fun _ => u2, trivial⟩ ?_; try simp only [Act.put, List.getElem_toArray, List.getElem_cons_succ, List.getElem_cons_zero, List.setIfInBounds_toArray, List.set_cons_zero, List.set_cons_succ]
        refine wpAnyT_take (i := 12) (v := .int .i64 (pn : Int)) false false rfl (by kernel_rfl) (by kernel_rfl) (by kernel_rfl) (by kernel_rfl) (fun _ _ _ h => h) (Or.inl ⟨by kernel_rfl, fun w hSw => by clear hSw; go_simp⟩) ⟨fun _ => u1, fun _ => u2, trivial⟩ ?_; try simp only [Act.put, List.getElem_toArray, List.getElem_cons_succ, List.getElem_cons_zero, List.setIfInBounds_toArray, List.set_cons_zero, List.set_cons_succ]
        refine wpAnyT_take (i := 13) (v := .int .i64 (mp : Int)) false false rfl (by kernel_rfl) (by kernel_rfl) (by kernel_rfl) (by kernel_rfl) (fun _ _ _ h => h) (Or.inl ⟨by kernel_rfl, fun w hSw => by clear hSw; go_simp⟩) ⟨fun _ => u1, fun _ => u2, trivial⟩ ?_; try simp only [Act.put, List.getElem_toArray, List.getElem_cons_succ, List.getElem_cons_zero, List.setIfInBounds_toArray, List.set_cons_zero, List.set_cons_succ]
        refine wpAnyT_take (i := 14) (v := .slice pp mp pc) false false rfl (by kernel_rfl) (by kernel_rfl) (by kernel_rfl) (by kernel_rfl) (fun _ _ _ h => h) (Or.inl ⟨by kernel_rfl, fun w hSw => by clear hSw; go_simp⟩) ⟨fun _ => u1, fun _ => u2, trivial⟩ ?_; try simp only [Act.put, List.getElem_toArray, List.getElem_cons_succ, List.getElem_cons_zero, List.setIfInBounds_toArray, List.set_cons_zero, List.set_cons_succ]
        refine wpAnyT_take (i := 16) (v := .pointer (some ⟨rb, j * 13, none⟩)) false false rfl (by kernel_rfl) (by kernel_rfl) (by kernel_rfl) (by kernel_rfl) (fun _ _ _ h => h) (Or.inl ⟨by kernel_rfl, fun w hSw => by clear hSw; go_simp⟩) ⟨fun _ => u1, fun _ => u2, trivial⟩ ?_; try simp only [Act.put, List.getElem_toArray, List.getElem_cons_succ, List.getElem_cons_zero, List.setIfInBounds_toArray, List.set_cons_zero, List.set_cons_succ]
        refine wpAnyT_take (i := 17) (v := .pointer (some ⟨rb, j * 13, none⟩)) false false rfl (by kernel_rfl) (by kernel_rfl) (by kernel_rfl) (by kernel_rfl) (fun _ _ _ h => h) (Or.inl ⟨by kernel_rfl, fun w hSw => by clear hSw; go_simp⟩) ⟨fun _ => u1, fun _ => u2, trivial⟩ ?_; try simp only [Act.put, List.getElem_toArray, List.getElem_cons_succ, List.getElem_cons_zero, List.setIfInBounds_toArray, List.set_cons_zero, List.set_cons_succ]
        refine wpAnyT_take (i := 18) (v := .pointer (some ⟨rb, j * 13 + 12, none⟩)) false false rfl (by kernel_rfl) (by kernel_rfl) (by kernel_rfl) (by kernel_rfl) (fun _ _ _ h => h) (Or.inl ⟨by kernel_rfl, fun w hSw => by clear hSw; go_simp⟩) ⟨fun _ => u1, fun _ => u2, trivial⟩ ?_; try simp only [Act.put, List.getElem_toArray, List.getElem_cons_succ, List.getElem_cons_zero, List.setIfInBounds_toArray, List.set_cons_zero, List.set_cons_succ]
        refine wpAnyT_take (i := 19) (v := .slice tp tn tc) false true rfl (by kernel_rfl) (by kernel_rfl) (by kernel_rfl) (by kernel_rfl) (fun _ _ _ h => h) (Or.inl ⟨by kernel_rfl, fun w hSw => by have hcc := hSw.2.1 rfl; dsimp only at hcc; clear hSw; go_simp⟩) ⟨fun _ => u1, fun _ => u2, trivial⟩ ?_; try simp only [Act.put, List.getElem_toArray, List.getElem_cons_succ, List.getElem_cons_zero, List.setIfInBounds_toArray, List.set_cons_zero, List.set_cons_succ]
        refine wpAnyT_take (i := 20) (v := .pointer (some ⟨rb, j * 13, none⟩)) false false rfl (by kernel_rfl) (by kernel_rfl) (by kernel_rfl) (by kernel_rfl) (fun _ _ _ h => h) (Or.inl ⟨by kernel_rfl, fun w hSw => by clear hSw; go_simp⟩) ⟨fun _ => u1, fun _ => u2, trivial⟩ ?_; try simp only [Act.put, List.getElem_toArray, List.getElem_cons_succ, List.getElem_cons_zero, List.setIfInBounds_toArray, List.set_cons_zero, List.set_cons_succ]
        refine wpAnyT_take (i := 21) (v := .pointer (some ⟨rb, j * 13, none⟩)) false false rfl (by kernel_rfl) (by kernel_rfl) (by kernel_rfl) (by kernel_rfl) (fun _ _ _ h => h) (Or.inl ⟨by kernel_rfl, fun w hSw => by clear hSw; go_simp⟩) ⟨fun _ => u1, fun _ => u2, trivial⟩ ?_; try simp only [Act.put, List.getElem_toArray, List.getElem_cons_succ, List.getElem_cons_zero, List.setIfInBounds_toArray, List.set_cons_zero, List.set_cons_succ]
        refine wpAnyT_take (i := 22) (v := .pointer (some ⟨rb, j * 13 + 12, none⟩)) false false rfl (by kernel_rfl) (by kernel_rfl) (by kernel_rfl) (by kernel_rfl) (fun _ _ _ h => h) (Or.inl ⟨by kernel_rfl, fun w hSw => by clear hSw; go_simp⟩) ⟨fun _ => u1, fun _ => u2, trivial⟩ ?_; try simp only [Act.put, List.getElem_toArray, List.getElem_cons_succ, List.getElem_cons_zero, List.setIfInBounds_toArray, List.set_cons_zero, List.set_cons_succ]
        refine wpAnyT_take (i := 23) (v := .slice tp tn tc) false true rfl (by kernel_rfl) (by kernel_rfl) (by kernel_rfl) (by kernel_rfl) (fun _ _ _ h => h) (Or.inl ⟨by kernel_rfl, fun w hSw => by have hcc := hSw.2.1 rfl; dsimp only at hcc; clear hSw; go_simp⟩) ⟨fun _ => u1, fun _ => u2, trivial⟩ ?_; try simp only [Act.put, List.getElem_toArray, List.getElem_cons_succ, List.getElem_cons_zero, List.setIfInBounds_toArray, List.set_cons_zero, List.set_cons_succ]
        refine wpAnyT_take (i := 24) (v := .int .i64 (tn : Int)) false false rfl (by kernel_rfl) (by kernel_rfl) (by kernel_rfl) (by kernel_rfl) (fun _ _ _ h => h) (Or.inl ⟨by kernel_rfl, fun w hSw => by clear hSw; go_simp⟩) ⟨fun _ => u1, fun _ => u2, trivial⟩ ?_; try simp only [Act.put, List.getElem_toArray, List.getElem_cons_succ, List.getElem_cons_zero, List.setIfInBounds_toArray, List.set_cons_zero, List.set_cons_succ]
        refine wpAnyT_take (i := 25) (v := .int .i64 (mt : Int)) false false rfl (by kernel_rfl) (by kernel_rfl) (by kernel_rfl) (by kernel_rfl) (fun _ _ _ h => h) (Or.inl ⟨by kernel_rfl, fun w hSw => by clear hSw; go_simp⟩) ⟨fun _ => u1, fun _ => u2, trivial⟩ ?_; try simp only [Act.put, List.getElem_toArray, List.getElem_cons_succ, List.getElem_cons_zero, List.setIfInBounds_toArray, List.set_cons_zero, List.set_cons_succ]
        refine wpAnyT_take (i := 26) (v := .slice tp mt tc) false false rfl (by kernel_rfl) (by kernel_rfl) (by kernel_rfl) (by kernel_rfl) (fun _ _ _ h => h) (Or.inl ⟨by kernel_rfl, fun w hSw => by clear hSw; go_simp⟩) ⟨fun _ => u1, fun _ => u2, trivial⟩ ?_; try simp only [Act.put, List.getElem_toArray, List.getElem_cons_succ, List.getElem_cons_zero, List.setIfInBounds_toArray, List.set_cons_zero, List.set_cons_succ]
        refine wpAnyT_one (i := 15) (by kernel_rfl) rfl (fun K hK => ?_); go_simp
        refine (cloneP_any pp mp pc (prs (md.prs.take 4)) V0 (by have := hmp4'h.out; omega) (prs_one _) hpl'h.out (hp1'h.out.below R)).mono ?_
        rintro e V1 ⟨s2, c2, rfl, hb1, hrow1⟩
        dsimp only
        have R1 := below_next R hb1
        have hz1 := R.size
        have hlv := lt_of_cell u1
        replace u1 := (hb1.cell hlv).trans u1
        replace u2 := (hb1.cell (p := ⟨rb, j * 13 + 12, none⟩) hlv).trans u2
        replace f8 := (hb1.frozen (p := ⟨rb, j * 13 + 8, none⟩) hlv).trans f8
        replace f12 := (hb1.frozen (p := ⟨rb, j * 13 + 12, none⟩) hlv).trans f12
        have hrow1 := ownsRow_mono hrow1 hz1
        clear hb1 R hlv hz1
        refine hK.out _ _ ⟨fun _ => u1, fun _ => u2, trivial⟩ ?_; clear hK K; try simp only [Act.put, List.getElem_toArray, List.getElem_cons_succ, List.getElem_cons_zero, List.setIfInBounds_toArray, List.set_cons_zero, List.set_cons_succ]
        refine wpAnyT_one (i := 27) (by kernel_rfl) rfl (fun K hK => ?_); go_simp
        refine (cloneZ_any tp mt tc ((md.told.take 4).map (Value.int .i64)) V1 (by have := hmt4'h.out; omega) (oneCell_ints _ _) htl'h.out (ht1'h.out.below R1)).mono ?_
        rintro e V2 ⟨s3, c3, rfl, hb2, hrow2⟩
        dsimp only
        have R2 := below_next R1 hb2
        have hz1 := R1.size
        have hlv := lt_of_cell u1
        replace u1 := (hb2.cell hlv).trans u1
        replace u2 := (hb2.cell (p := ⟨rb, j * 13 + 12, none⟩) hlv).trans u2
        replace f8 := (hb2.frozen (p := ⟨rb, j * 13 + 8, none⟩) hlv).trans f8
        replace f12 := (hb2.frozen (p := ⟨rb, j * 13 + 12, none⟩) hlv).trans f12
        have hrow1 := ownsRow_next hrow1 hb2
        have hrow2 := ownsRow_mono hrow2 hz1
        clear hb2 R1 hlv hz1
        refine hK.out _ _ ⟨fun _ => u1, fun _ => u2, trivial⟩ ?_; clear hK K; try simp only [Act.put, List.getElem_toArray, List.getElem_cons_succ, List.getElem_cons_zero, List.setIfInBounds_toArray, List.set_cons_zero, List.set_cons_succ]
        refine wpAnyT_take (i := 28) (v := .pointer (some ⟨rb, j * 13, none⟩)) false false rfl (by kernel_rfl) (by kernel_rfl) (by kernel_rfl) (by kernel_rfl) (fun _ _ _ h => h) (Or.inl ⟨by kernel_rfl, fun w hSw => by clear hSw; go_simp⟩) ⟨fun _ => u1, fun _ => u2, trivial⟩ ?_; try simp only [Act.put, List.getElem_toArray, List.getElem_cons_succ, List.getElem_cons_zero, List.setIfInBounds_toArray, List.set_cons_zero, List.set_cons_succ]
        refine wpAnyT_take (i := 29) (v := .pointer (some ⟨rb, j * 13 + 5, none⟩)) false false rfl (by kernel_rfl) (by kernel_rfl) (by kernel_rfl) (by kernel_rfl) (fun _ _ _ h => h) (Or.inl ⟨by kernel_rfl, fun w hSw => by clear hSw; go_simp⟩) ⟨fun _ => u1, fun _ => u2, trivial⟩ ?_; try simp only [Act.put, List.getElem_toArray, List.getElem_cons_succ, List.getElem_cons_zero, List.setIfInBounds_toArray, List.set_cons_zero, List.set_cons_succ]
        refine wpAnyT_take (i := 30) (v := .pointer (some ⟨rb, j * 13 + 8, none⟩)) false false rfl (by kernel_rfl) (by kernel_rfl) (by kernel_rfl) (by kernel_rfl) (fun _ _ _ h => h) (Or.inl ⟨by kernel_rfl, fun w hSw => by clear hSw; go_simp⟩) ⟨fun _ => u1, fun _ => u2, trivial⟩ ?_; try simp only [Act.put, List.getElem_toArray, List.getElem_cons_succ, List.getElem_cons_zero, List.setIfInBounds_toArray, List.set_cons_zero, List.set_cons_succ]
        refine wpAnyT_one (i := 31) (by kernel_rfl) rfl (fun K hK => ?_); go_simp
        replace u2 := (World.cell?_setCell_other (w := V2) (a := ⟨rb, j * 13 + 8, none⟩) (b := ⟨rb, j * 13 + 12, none⟩) (v := .slice s2 mp c2) (fun e => by injection e with _ e2 _; omega)).trans u2
        replace f12 : (V2.setCell ⟨rb, j * 13 + 8, none⟩ (.slice s2 mp c2)).frozen? ⟨rb, j * 13 + 12, none⟩ = false := (World.frozen?_setCell _ _ _ _).trans f12
        clear u1 f8
        refine hK.out _ _ ⟨fun h => (by cases (show true = false from h)), fun _ => u2, trivial⟩ ?_; clear hK K; try simp only [Act.put, List.getElem_toArray, List.getElem_cons_succ, List.getElem_cons_zero, List.setIfInBounds_toArray, List.set_cons_zero, List.set_cons_succ]
        refine wpAnyT_take (i := 32) (v := .pointer (some ⟨rb, j * 13, none⟩)) false false rfl (by kernel_rfl) (by kernel_rfl) (by kernel_rfl) (by kernel_rfl) (fun _ _ _ h => h) (Or.inl ⟨by kernel_rfl, fun w hSw => by clear hSw; go_simp⟩) ⟨fun h => (by cases (show true = false from h)), fun _ => u2, trivial⟩ ?_; try simp only [Act.put, List.getElem_toArray, List.getElem_cons_succ, List.getElem_cons_zero, List.setIfInBounds_toArray, List.set_cons_zero, List.set_cons_succ]
        refine wpAnyT_take (i := 33) (v := .pointer (some ⟨rb, j * 13 + 12, none⟩)) false false rfl (by kernel_rfl) (by kernel_rfl) (by kernel_rfl) (by kernel_rfl) (fun _ _ _ h => h) (Or.inl ⟨by kernel_rfl, fun w hSw => by clear hSw; go_simp⟩) ⟨fun h => (by cases (show true = false from h)), fun _ => u2, trivial⟩ ?_; try simp only [Act.put, List.getElem_toArray, List.getElem_cons_succ, List.getElem_cons_zero, List.setIfInBounds_toArray, List.set_cons_zero, List.set_cons_succ]
        refine wpAnyT_one (i := 34) (by kernel_rfl) rfl (fun K hK => ?_); go_simp
        obtain ⟨s2', c2', e', q1, q2, q3⟩ := row_form hrow1
        cases e'
        obtain ⟨s3', c3', e', q4, q5, q6⟩ := row_form hrow2
        cases e'
        have hI2 := hI'h.out.next hjx'h.out R2 (by rw [hxm'h.out]; exact SlK.of_row hrow1 (by have := hmp4'h.out; unfold maxLen; omega)) (by rw [hxm'h.out]; exact (SlK.of_row hrow2 (by have := hmt4'h.out; unfold maxLen; omega)).sl) (by rw [hxm'h.out]; exact hok'h.out) q2 q1 q5 q4 (fun b hb => by obtain ⟨a, rfl, rfl⟩ := Option.map_eq_some_iff.1 hb; exact (q3 a rfl).1) (fun b hb => by obtain ⟨a, rfl, rfl⟩ := Option.map_eq_some_iff.1 hb; exact (q6 a rfl).1)
        clear hrow1 hrow2 q1 q2 q3 q4 q5 q6 R2 u2 f12
        refine hK.out _ _ ⟨fun h => (by cases (show true = false from h)), fun h => (by cases (show true = false from h)), trivial⟩ ?_; clear hK K; try simp only [Act.put, List.getElem_toArray, List.getElem_cons_succ, List.getElem_cons_zero, List.setIfInBounds_toArray, List.set_cons_zero, List.set_cons_succ]
        refine wpAnyT_done (by kernel_rfl) ?_ _
        generalize World.setCell _ _ _ = W9 at hI2 ⊢
        have hI2'h := Lib.hid hI2
        clear hI2
        go_wp2
        go_roundg (gk - 1)
        case measure => have := hj'h.out; have := hlt2'h.out; omega
        case rel => exact ⟨j + 1, _, by have := hj'h.out; have := hlt2'h.out; omega, by go_num, hI2'h.out⟩
      · have hjm : j = m := by omega
        subst hjm
        have i3 : ¬ (j : Int) < (j : Int) := by omega
        have hll : ls.length = j := by rw [hI.len]; exact hlt'h.out
        have hfin : OwnP w xs (.returned (.slice (some ⟨rb, 0, none⟩) j c1)) wr := by
          obtain ⟨pad, hr⟩ := hI.row
          refine ⟨some ⟨rb, 0, none⟩, c1, ls, by rw [hll], hI.below, ⟨⟨flat_len mmL_len ls, by rw [hll]; unfold maxLen; omega, .inr ⟨rb, 0, rfl, fun i u hu => ?_⟩⟩, fun mm hmm => ?_⟩, by rw [hll]; have := hmn'h.out; have := hlen'h.out; omega, fun i hi => ?_, by rw [hll]; exact hle1'h.out, fun g hg => by cases hg; exact lt_of_heap hr⟩
          · rw [Nat.zero_add]
            refine blk_cell hr ?_
            rw [List.getElem?_toArray, List.getElem?_append_left (List.getElem?_eq_some_iff.1 hu).1]
            exact hu
          · obtain ⟨i, hi, rfl⟩ := List.getElem_of_mem hmm
            rw [nthM_eq hi]
            exact (hI.done i (by omega)).2.1
          · have := (hI.done i (by omega)).1
            rw [this, nthM_take (by omega)]
        clear hI hll
        have hfin'h := Lib.hid hfin
        clear hfin
        go_wp2
        go_ret
        exact hfin'h.out
end Go.Proofs.YtogeohjeabbmaaaDoor
