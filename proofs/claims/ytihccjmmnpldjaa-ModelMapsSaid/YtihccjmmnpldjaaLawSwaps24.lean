/-
  ModelSwaps: the walk.
-/
import Derived.Test.YtihccjmmnpldjaaSwaps24
set_option linter.unusedSimpArgs false
set_option linter.unusedVariables false
set_option maxRecDepth 100000
namespace Go.Proofs.Ytihccjmmnpldjaa
open Go.RowKit

theorem same_dec (sp sp' : Option Addr) (n n' cap cap' : Nat) (a b : Ps) (r : Bool) (W : World) (ha : SlK W 2 sp n (prs a)) (hb : SlK W 2 sp' n' (prs b)) (hr : r = decide (a = b)) :
    Calls Try.prog 14 #[.agg #[.slice sp n cap], .agg #[.slice sp' n' cap']] W fun e w' => e = .returned (.bool r) ∧ Below W.heap.size W w' := by
  rw [hr]; exact msame_any sp sp' n n' cap cap' a b W ha hb
theorem next_load {c : Cl} (h : c.op = 1) (ps : Ps) : nextP c ps = ps := by unfold nextP; simp [h]
theorem next_store {c : Cl} (h : c.op = 2) (ps : Ps) : nextP c ps = insP ps c.key c.a := by unfold nextP; simp [h]
theorem next_drop {c : Cl} (h : c.op = 3) (ps : Ps) : nextP c ps = delP ps c.key := by unfold nextP; simp [h]
theorem has_ins {ps : Ps} (h : upB ps = true) (k v : Nat) : hasP (insP ps k v) k = true := by unfold hasP; rw [get_ins h, if_pos rfl]; rfl
theorem has_del {ps : Ps} (h : upB ps = true) (k : Nat) : hasP (delP ps k) k = false := by unfold hasP; rw [get_del h, if_pos rfl]; rfl
theorem ins_del {ps : Ps} (h : upB ps = true) (k v : Nat) : insP (delP (insP ps k v) k) k v = insP ps k v := by
  refine up_ext (up_ins (up_del (up_ins h _ _) _) _ _) (up_ins h _ _) fun q => ?_
  rw [get_ins (up_del (up_ins h _ _) _), get_del (up_ins h _ _), get_ins h]
  split <;> rfl
/-- What the calls come to, in each of three ways. -/
structure SwFacts (ps s : Ps) (key old wth v : Nat) (D1 D2 E : Bool) : Prop where
  s : nextP ⟨4, key, old, wth⟩ ps = s
  a : tellA ⟨4, key, old, wth⟩ ps = ⟨0, v, D1⟩
  t : nextP ⟨2, key, wth, 0⟩ ps = insP ps key wth
  b : tellA ⟨2, key, wth, 0⟩ ps = ⟨0, v, D2⟩
  c : tellA ⟨1, key, 0, 0⟩ (insP ps key wth) = ⟨0, wth, true⟩
  l : nextP ⟨1, key, 0, 0⟩ (insP ps key wth) = insP ps key wth
  d : nextP ⟨3, key, 0, 0⟩ (insP ps key wth) = delP (insP ps key wth) key
  g : tellA ⟨3, key, 0, 0⟩ (insP ps key wth) = ⟨0, wth, true⟩
  h : tellA ⟨1, key, 0, 0⟩ (delP (insP ps key wth) key) = ⟨0, 0, false⟩
  i : tellA ⟨5, key, wth, 0⟩ (delP (insP ps key wth) key) = ⟨0, wth, false⟩
  o : nextP ⟨5, key, wth, 0⟩ (delP (insP ps key wth) key) = insP ps key wth
  e : ((v : Int) == (old : Int)) = E
theorem sw_rest {ps s : Ps} {key old wth v : Nat} {D1 D2 E : Bool} (h : upB ps = true) (h1 : nextP ⟨4, key, old, wth⟩ ps = s) (h2 : tellA ⟨4, key, old, wth⟩ ps = ⟨0, v, D1⟩) (h3 : tellA ⟨2, key, wth, 0⟩ ps = ⟨0, v, D2⟩) (h4 : ((v : Int) == (old : Int)) = E) : SwFacts ps s key old wth v D1 D2 E := by
  have hg := get_ins h key wth key
  rw [if_pos rfl] at hg
  have hd := get_del (up_ins h key wth) key key
  rw [if_pos rfl] at hd
  have hki := has_ins h key wth
  have hkd := has_del (up_ins h key wth) key
  refine ⟨h1, h2, next_store rfl _, h3, ?_, next_load rfl _, next_drop rfl _, ?_, ?_, ?_, ?_, h4⟩
  · unfold tellA anK; simp [hg, hki]
  · unfold tellA anK; simp [hg, hki]
  · unfold tellA anK; simp [hd, hkd]
  · unfold tellA; simp [hkd]
  · unfold nextP; simp [hkd, ins_del h]
theorem sw_cases {ps : Ps} (h : upB ps = true) (key old wth : Nat) : (∃ v, SwFacts ps (insP ps key wth) key old wth v true true true) ∨ (∃ v, SwFacts ps ps key old wth v false true false) ∨ (∃ v E, SwFacts ps ps key old wth v false false E) := by
  cases hk : getS ps key with
  | none =>
    have hh : hasP ps key = false := by unfold hasP; rw [hk]; rfl
    exact .inr (.inr ⟨0, _, sw_rest h (by unfold nextP; simp [hk]) (by unfold tellA anK; simp [hk]) (by unfold tellA anK; simp [hk, hh]) rfl⟩)
  | some v =>
    have hh : hasP ps key = true := by unfold hasP; rw [hk]; rfl
    by_cases hv : v = old
    · exact .inl ⟨v, sw_rest h (by unfold nextP; simp [hk, hv]) (by unfold tellA anK; simp [hk, hv]) (by unfold tellA anK; simp [hk, hh]) (by simp; omega)⟩
    · exact .inr (.inl ⟨v, sw_rest h (by unfold nextP; simp [hk, hv]) (by unfold tellA anK; simp [hk, hv]) (by unfold tellA anK; simp [hk, hh]) (by simp; omega)⟩)
set_option maxHeartbeats 16000000 in
theorem swaps_a (sp : Option Addr) (n cap : Nat) (ps qs : Ps) (key old wth v : Nat) (w : World) (hin : RowIn w sp n cap ps) (hqs : qs = ps.take 40) (hup : upB qs = true) (F : SwFacts qs (insP qs key wth) key old wth v true true true) :
    Calls Try.prog 6 #[.agg #[.slice sp n cap], .int .u64 (key : Int), .agg #[.int .u64 (old : Int), .int .u64 (wth : Int)]] w fun e w' => e = .returned (.bool true) ∧ Below w.heap.size w w' := by
  have H0 := ((Hs.nil w).new2 #[.slice sp n cap] #[.int .u64 (key : Int)] 24 31).new #[.int .u64 (old : Int), .int .u64 (wth : Int)] 55
  simp only [World.size_alloc] at H0
  obtain ⟨W0, hW0⟩ : ∃ W0, W0 = ((w.alloc (.cells #[.slice sp n cap] 24)).alloc (.cells #[.int .u64 (key : Int)] 31)).alloc (.cells #[.int .u64 (old : Int), .int .u64 (wth : Int)] 55) := ⟨_, rfl⟩
  rw [← hW0] at H0
  obtain ⟨hsl, _, hnil, hle⟩ := hin
  have hql : qs.length ≤ 40 := by rw [hqs, List.length_take]; omega
  obtain ⟨m, hm⟩ : ∃ m, m = min n 40 := ⟨_, rfl⟩
  have hm40 : m ≤ 40 := by omega
  have H0'h := Lib.hid H0
  have hW0'h := Lib.hid hW0
  have hsl'h := Lib.hid hsl
  have hnil'h := Lib.hid hnil
  have hle'h := Lib.hid hle
  have hqs'h := Lib.hid hqs
  have hm'h := Lib.hid hm
  have F'h := Lib.hid F
  have hup'h := Lib.hid hup
  clear H0 hW0 hsl hnil hle hqs hm F hup
  go_enter Try.func6, Try.ntmps6
  go_upto_region 1 with fail
  rw [← hW0'h.out]
  go_upto_region 3 with (go_at_call 7; refine (wakes_any _).mono ?_; rintro e w1 ⟨rfl, hb1⟩)
  have H1 := H0'h.out.next hb1
  have OW := own_any sp n cap ps w1 (hsl'h.out.below H1.old) hnil'h.out hle'h.out
  rw [← hqs'h.out, ← hm'h.out] at OW
  have x0 : w1.cell? ⟨w.heap.size, 0, none⟩ = some (.slice sp n cap) := blk_cell (i := 0) H1.rows.2.2.1 rfl
  have H1'h := Lib.hid H1
  have OW'h := Lib.hid OW
  have hb1'h := Lib.hid hb1
  clear H1 OW hb1
  go_upto_region 4 with (go_at_call 8; refine OW'h.out.mono ?_; rintro e w2 ⟨sp0, cap0, rfl, hb2, hS2⟩; have hb2'h := Lib.hid hb2; have hS2'h := Lib.hid hS2; clear hb2 hS2)
  clear x0
  have H := (H1'h.out.next hb2'h.out).new #[.slice sp0 m cap0] 24
  have M0 := hS2'h.out.below (w' := w2.alloc (.cells #[.slice sp0 m cap0] 24)) ((Below.refl _ _).alloc (Nat.le_refl _) _)
  generalize w2.alloc (.cells #[.slice sp0 m cap0] 24) = V0 at H M0 ⊢
  have C := mcheck_yes sp0 m cap0 qs V0 M0 hup'h.out
  have x0 : V0.cell? ⟨w2.heap.size, 0, none⟩ = some (.slice sp0 m cap0) := blk_cell (i := 0) H.rows.1 rfl
  have H'h := Lib.hid H
  have M0'h := Lib.hid M0
  have C'h := Lib.hid C
  clear H M0 C
  go_upto_region 6 with (go_at_call 9; refine C'h.out.mono ?_; rintro e w3 ⟨rfl, hb3⟩)
  have H := H'h.out.next hb3
  have M0 := M0'h.out.below hb3
  clear x0 H'h M0'h C'h
  have r0 : w3.cell? ⟨w.heap.size + 1 + 1, 0, none⟩ = some (.int .u64 (old : Int)) := blk_cell (i := 0) H.rows.2.1 rfl
  have r1 : w3.cell? ⟨w.heap.size + 1 + 1, 1, none⟩ = some (.int .u64 (wth : Int)) := blk_cell (i := 1) H.rows.2.1 rfl
  have H := H.drew
  have M0 := M0.drew
  have H'h := Lib.hid H
  have M0'h := Lib.hid M0
  have hb3'h := Lib.hid hb3
  clear H M0 hb3
  go_region
  clear r0 r1
  generalize w3.drew = V1 at *
  have H := H'h.out
  have M0 := M0'h.out
  have hbk := H.rows.2.2.1
  have C := sw1_any sp0 m cap0 qs 4 key old wth (w.heap.size + 1) v true V1 M0 hup'h.out (by have := hm40; omega) (by decide) hbk F'h.out.a
  rw [F'h.out.s] at C
  have x0 : V1.cell? ⟨w2.heap.size, 0, none⟩ = some (.slice sp0 m cap0) := blk_cell (i := 0) H.rows.1 rfl
  clear hbk H'h M0'h
  have H'h := Lib.hid H
  have C'h := Lib.hid C
  have M0'h := Lib.hid M0
  clear H C M0
  go_upto_region 9 with (go_at_call 22; refine C'h.out.mono ?_; rintro e u1 ⟨sp1, n1, cap1, rfl, hb, hS⟩; have hb'h := Lib.hid hb; have hS'h := Lib.hid hS; clear hb hS)
  have H := (H'h.out.next hb'h.out).new2 #[.slice sp1 n1 cap1] #[.int .i64 0, .int .u64 (v : Int), .bool true, .slice none 0 0] 24 35
  have hba : Below u1.heap.size u1 ((u1.alloc (.cells #[.slice sp1 n1 cap1] 24)).alloc (.cells #[.int .i64 0, .int .u64 (v : Int), .bool true, .slice none 0 0] 35)) := ((Below.refl _ _).alloc (Nat.le_refl _) _).alloc (by simp) _
  have M0 := (M0'h.out.below hb'h.out).below hba
  have M1 := hS'h.out.below hba
  clear x0 H'h C'h hb'h hS'h M0'h
  generalize (u1.alloc (.cells #[.slice sp1 n1 cap1] 24)).alloc (.cells #[.int .i64 0, .int .u64 (v : Int), .bool true, .slice none 0 0] 35) = V2 at H hba M0 M1 ⊢
  clear hba
  have H'h := Lib.hid H
  have M0'h := Lib.hid M0
  have M1'h := Lib.hid M1
  clear H M0 M1
  have H := H'h.out
  have M0 := M0'h.out
  have M1 := M1'h.out
  have hbk := H.rows.2.2.2.2.1
  have C := sw1_any sp0 m cap0 qs 2 key wth 0 (w.heap.size + 1) v true V2 M0 hup'h.out (by have := hm40; omega) (by decide) hbk F'h.out.b
  rw [F'h.out.t] at C
  have x0 : V2.cell? ⟨w2.heap.size, 0, none⟩ = some (.slice sp0 m cap0) := blk_cell (i := 0) H.rows.2.2.1 rfl
  clear hbk H'h M0'h M1'h
  have H'h := Lib.hid H
  have C'h := Lib.hid C
  have M0'h := Lib.hid M0
  have M1'h := Lib.hid M1
  clear H C M0 M1
  go_upto_region 10 with (go_at_call 22; refine C'h.out.mono ?_; rintro e u2 ⟨sp2, n2, cap2, rfl, hb, hS⟩; have hb'h := Lib.hid hb; have hS'h := Lib.hid hS; clear hb hS)
  have H := (H'h.out.next hb'h.out).new2 #[.slice sp2 n2 cap2] #[.int .i64 0, .int .u64 (v : Int), .bool true, .slice none 0 0] 24 35
  have hba : Below u2.heap.size u2 ((u2.alloc (.cells #[.slice sp2 n2 cap2] 24)).alloc (.cells #[.int .i64 0, .int .u64 (v : Int), .bool true, .slice none 0 0] 35)) := ((Below.refl _ _).alloc (Nat.le_refl _) _).alloc (by simp) _
  have M0 := (M0'h.out.below hb'h.out).below hba
  have M1 := (M1'h.out.below hb'h.out).below hba
  have M2 := hS'h.out.below hba
  clear x0 H'h C'h hb'h hS'h M0'h M1'h
  generalize (u2.alloc (.cells #[.slice sp2 n2 cap2] 24)).alloc (.cells #[.int .i64 0, .int .u64 (v : Int), .bool true, .slice none 0 0] 35) = V3 at H hba M0 M1 M2 ⊢
  clear hba
  have hN2 : n2 ≤ 41 := by have h1 := prs_len M2; have h2 := len_ins qs key wth; have h3 : (insP qs key wth).length ≤ qs.length + 1 := (by rw [h2]; split <;> omega); omega
  have H'h := Lib.hid H
  have M0'h := Lib.hid M0
  have M1'h := Lib.hid M1
  have M2'h := Lib.hid M2
  clear H M0 M1 M2
  have y11 : V3.cell? ⟨u1.heap.size + 1, 1, none⟩ = some (.int .u64 (v : Int)) := blk_cell (i := 1) H'h.out.rows.2.2.1 rfl
  have y12 : V3.cell? ⟨u1.heap.size + 1, 2, none⟩ = some (.bool true) := blk_cell (i := 2) H'h.out.rows.2.2.1 rfl
  have y21 : V3.cell? ⟨u2.heap.size + 1, 1, none⟩ = some (.int .u64 (v : Int)) := blk_cell (i := 1) H'h.out.rows.1 rfl
  have y22 : V3.cell? ⟨u2.heap.size + 1, 2, none⟩ = some (.bool true) := blk_cell (i := 2) H'h.out.rows.1 rfl
  have x0 : V3.cell? ⟨w2.heap.size, 0, none⟩ = some (.slice sp0 m cap0) := blk_cell (i := 0) H'h.out.rows.2.2.2.2.1 rfl
  have x1 : V3.cell? ⟨u1.heap.size, 0, none⟩ = some (.slice sp1 n1 cap1) := blk_cell (i := 0) H'h.out.rows.2.2.2.1 rfl
  have x2 : V3.cell? ⟨u2.heap.size, 0, none⟩ = some (.slice sp2 n2 cap2) := blk_cell (i := 0) H'h.out.rows.2.1 rfl
  have hE := F'h.out.e
  have S1 : Calls Try.prog 14 #[.agg #[.slice sp1 n1 cap1], .agg #[.slice sp2 n2 cap2]] V3 fun e w' => e = .returned (.bool true) ∧ Below V3.heap.size V3 w' := same_self _ _ _ _ _ _ _ _ M1'h.out M2'h.out
  have S1'h := Lib.hid S1
  clear S1
  go_upto_region 12 with (go_at_call 14; refine S1'h.out.mono ?_; rintro e z1 ⟨rfl, hb⟩; have k1 := H'h.out.next hb; have y11 := (hb.cell (lt_of_cell y11)).trans y11; have y12 := (hb.cell (lt_of_cell y12)).trans y12; have y21 := (hb.cell (lt_of_cell y21)).trans y21; have y22 := (hb.cell (lt_of_cell y22)).trans y22; have x0 := (hb.cell (lt_of_cell x0)).trans x0; have x1 := (hb.cell (lt_of_cell x1)).trans x1; have x2 := (hb.cell (lt_of_cell x2)).trans x2; clear k1; have hb'h := Lib.hid hb; clear hb)
  clear y11 y12 y21 y22 x0 x1 x2 hE S1'h
  have H := H'h.out.next hb'h.out
  have M0 := M0'h.out.below hb'h.out
  have M1 := M1'h.out.below hb'h.out
  have M2 := M2'h.out.below hb'h.out
  clear H'h hb'h M0'h M1'h M2'h
  have H'h := Lib.hid H
  have M0'h := Lib.hid M0
  have M1'h := Lib.hid M1
  have M2'h := Lib.hid M2
  clear H M0 M1 M2
  have H := H'h.out
  have M0 := M0'h.out
  have M1 := M1'h.out
  have M2 := M2'h.out
  have hbk := H.rows.2.2.2.2.2.2.1
  have C := sw1_any sp2 n2 cap2 (insP qs key wth) 1 key 0 0 (w.heap.size + 1) wth true z1 M2 (up_ins hup'h.out key wth) (by have := hN2; omega) (by decide) hbk F'h.out.c
  rw [F'h.out.l] at C
  have x0 : z1.cell? ⟨u2.heap.size, 0, none⟩ = some (.slice sp2 n2 cap2) := blk_cell (i := 0) H.rows.2.1 rfl
  clear hbk H'h M0'h M1'h M2'h
  have H'h := Lib.hid H
  have C'h := Lib.hid C
  have M0'h := Lib.hid M0
  have M1'h := Lib.hid M1
  have M2'h := Lib.hid M2
  clear H C M0 M1 M2
  go_upto_region 13 with (go_at_call 22; refine C'h.out.mono ?_; rintro e u3 ⟨sp3, n3, cap3, rfl, hb, hS⟩; have hb'h := Lib.hid hb; have hS'h := Lib.hid hS; clear hb hS)
  have H := (H'h.out.next hb'h.out).new2 #[.slice sp3 n3 cap3] #[.int .i64 0, .int .u64 (wth : Int), .bool true, .slice none 0 0] 24 35
  have hba : Below u3.heap.size u3 ((u3.alloc (.cells #[.slice sp3 n3 cap3] 24)).alloc (.cells #[.int .i64 0, .int .u64 (wth : Int), .bool true, .slice none 0 0] 35)) := ((Below.refl _ _).alloc (Nat.le_refl _) _).alloc (by simp) _
  have M0 := (M0'h.out.below hb'h.out).below hba
  have M1 := (M1'h.out.below hb'h.out).below hba
  have M2 := (M2'h.out.below hb'h.out).below hba
  have M3 := hS'h.out.below hba
  clear x0 H'h C'h hb'h hS'h M0'h M1'h M2'h
  generalize (u3.alloc (.cells #[.slice sp3 n3 cap3] 24)).alloc (.cells #[.int .i64 0, .int .u64 (wth : Int), .bool true, .slice none 0 0] 35) = V4 at H hba M0 M1 M2 M3 ⊢
  clear hba
  have H'h := Lib.hid H
  have M0'h := Lib.hid M0
  have M1'h := Lib.hid M1
  have M2'h := Lib.hid M2
  have M3'h := Lib.hid M3
  clear H M0 M1 M2 M3
  have H := H'h.out
  have M0 := M0'h.out
  have M1 := M1'h.out
  have M2 := M2'h.out
  have M3 := M3'h.out
  have hbk := H.rows.2.2.2.2.2.2.2.2.1
  have C := sw1_any sp2 n2 cap2 (insP qs key wth) 3 key 0 0 (w.heap.size + 1) wth true V4 M2 (up_ins hup'h.out key wth) (by have := hN2; omega) (by decide) hbk F'h.out.g
  rw [F'h.out.d] at C
  have x0 : V4.cell? ⟨u2.heap.size, 0, none⟩ = some (.slice sp2 n2 cap2) := blk_cell (i := 0) H.rows.2.2.2.1 rfl
  clear hbk H'h M0'h M1'h M2'h M3'h
  have H'h := Lib.hid H
  have C'h := Lib.hid C
  have M0'h := Lib.hid M0
  have M1'h := Lib.hid M1
  have M2'h := Lib.hid M2
  have M3'h := Lib.hid M3
  clear H C M0 M1 M2 M3
  go_upto_region 14 with (go_at_call 22; refine C'h.out.mono ?_; rintro e u4 ⟨sp4, n4, cap4, rfl, hb, hS⟩; have hb'h := Lib.hid hb; have hS'h := Lib.hid hS; clear hb hS)
  have H := (H'h.out.next hb'h.out).new2 #[.slice sp4 n4 cap4] #[.int .i64 0, .int .u64 (wth : Int), .bool true, .slice none 0 0] 24 35
  have hba : Below u4.heap.size u4 ((u4.alloc (.cells #[.slice sp4 n4 cap4] 24)).alloc (.cells #[.int .i64 0, .int .u64 (wth : Int), .bool true, .slice none 0 0] 35)) := ((Below.refl _ _).alloc (Nat.le_refl _) _).alloc (by simp) _
  have M0 := (M0'h.out.below hb'h.out).below hba
  have M1 := (M1'h.out.below hb'h.out).below hba
  have M2 := (M2'h.out.below hb'h.out).below hba
  have M3 := (M3'h.out.below hb'h.out).below hba
  have M4 := hS'h.out.below hba
  clear x0 H'h C'h hb'h hS'h M0'h M1'h M2'h M3'h
  generalize (u4.alloc (.cells #[.slice sp4 n4 cap4] 24)).alloc (.cells #[.int .i64 0, .int .u64 (wth : Int), .bool true, .slice none 0 0] 35) = V5 at H hba M0 M1 M2 M3 M4 ⊢
  clear hba
  have hN4 : n4 ≤ 41 := by have h1 := prs_len M4; have h2 := len_ins qs key wth; have h4 := len_del (insP qs key wth) key; have h3 : (insP qs key wth).length ≤ qs.length + 1 := (by rw [h2]; split <;> omega); omega
  have H'h := Lib.hid H
  have M0'h := Lib.hid M0
  have M1'h := Lib.hid M1
  have M2'h := Lib.hid M2
  have M3'h := Lib.hid M3
  have M4'h := Lib.hid M4
  clear H M0 M1 M2 M3 M4
  have H := H'h.out
  have M0 := M0'h.out
  have M1 := M1'h.out
  have M2 := M2'h.out
  have M3 := M3'h.out
  have M4 := M4'h.out
  have hbk := H.rows.2.2.2.2.2.2.2.2.2.2.1
  have C := sw1_any sp4 n4 cap4 (delP (insP qs key wth) key) 1 key 0 0 (w.heap.size + 1) 0 false V5 M4 (up_del (up_ins hup'h.out key wth) key) (by have := hN4; omega) (by decide) hbk F'h.out.h
  rw [(next_load rfl _)] at C
  have x0 : V5.cell? ⟨u4.heap.size, 0, none⟩ = some (.slice sp4 n4 cap4) := blk_cell (i := 0) H.rows.2.1 rfl
  clear hbk H'h M0'h M1'h M2'h M3'h M4'h
  have H'h := Lib.hid H
  have C'h := Lib.hid C
  have M0'h := Lib.hid M0
  have M1'h := Lib.hid M1
  have M2'h := Lib.hid M2
  have M3'h := Lib.hid M3
  have M4'h := Lib.hid M4
  clear H C M0 M1 M2 M3 M4
  go_upto_region 15 with (go_at_call 22; refine C'h.out.mono ?_; rintro e u5 ⟨sp5, n5, cap5, rfl, hb, hS⟩; have hb'h := Lib.hid hb; have hS'h := Lib.hid hS; clear hb hS)
  have H := (H'h.out.next hb'h.out).new2 #[.slice sp5 n5 cap5] #[.int .i64 0, .int .u64 0, .bool false, .slice none 0 0] 24 35
  have hba : Below u5.heap.size u5 ((u5.alloc (.cells #[.slice sp5 n5 cap5] 24)).alloc (.cells #[.int .i64 0, .int .u64 0, .bool false, .slice none 0 0] 35)) := ((Below.refl _ _).alloc (Nat.le_refl _) _).alloc (by simp) _
  have M0 := (M0'h.out.below hb'h.out).below hba
  have M1 := (M1'h.out.below hb'h.out).below hba
  have M2 := (M2'h.out.below hb'h.out).below hba
  have M3 := (M3'h.out.below hb'h.out).below hba
  have M4 := (M4'h.out.below hb'h.out).below hba
  have M5 := hS'h.out.below hba
  clear x0 H'h C'h hb'h hS'h M0'h M1'h M2'h M3'h M4'h
  generalize (u5.alloc (.cells #[.slice sp5 n5 cap5] 24)).alloc (.cells #[.int .i64 0, .int .u64 0, .bool false, .slice none 0 0] 35) = V6 at H hba M0 M1 M2 M3 M4 M5 ⊢
  clear hba
  have H'h := Lib.hid H
  have M0'h := Lib.hid M0
  have M1'h := Lib.hid M1
  have M2'h := Lib.hid M2
  have M3'h := Lib.hid M3
  have M4'h := Lib.hid M4
  have M5'h := Lib.hid M5
  clear H M0 M1 M2 M3 M4 M5
  have H := H'h.out
  have M0 := M0'h.out
  have M1 := M1'h.out
  have M2 := M2'h.out
  have M3 := M3'h.out
  have M4 := M4'h.out
  have M5 := M5'h.out
  have hbk := H.rows.2.2.2.2.2.2.2.2.2.2.2.2.1
  have C := sw1_any sp4 n4 cap4 (delP (insP qs key wth) key) 5 key wth 0 (w.heap.size + 1) wth false V6 M4 (up_del (up_ins hup'h.out key wth) key) (by have := hN4; omega) (by decide) hbk F'h.out.i
  rw [F'h.out.o] at C
  have x0 : V6.cell? ⟨u4.heap.size, 0, none⟩ = some (.slice sp4 n4 cap4) := blk_cell (i := 0) H.rows.2.2.2.1 rfl
  clear hbk H'h M0'h M1'h M2'h M3'h M4'h M5'h
  have H'h := Lib.hid H
  have C'h := Lib.hid C
  have M0'h := Lib.hid M0
  have M1'h := Lib.hid M1
  have M2'h := Lib.hid M2
  have M3'h := Lib.hid M3
  have M4'h := Lib.hid M4
  have M5'h := Lib.hid M5
  clear H C M0 M1 M2 M3 M4 M5
  go_upto_region 16 with (go_at_call 22; refine C'h.out.mono ?_; rintro e u6 ⟨sp6, n6, cap6, rfl, hb, hS⟩; have hb'h := Lib.hid hb; have hS'h := Lib.hid hS; clear hb hS)
  have H := (H'h.out.next hb'h.out).new2 #[.slice sp6 n6 cap6] #[.int .i64 0, .int .u64 (wth : Int), .bool false, .slice none 0 0] 24 35
  have hba : Below u6.heap.size u6 ((u6.alloc (.cells #[.slice sp6 n6 cap6] 24)).alloc (.cells #[.int .i64 0, .int .u64 (wth : Int), .bool false, .slice none 0 0] 35)) := ((Below.refl _ _).alloc (Nat.le_refl _) _).alloc (by simp) _
  have M0 := (M0'h.out.below hb'h.out).below hba
  have M1 := (M1'h.out.below hb'h.out).below hba
  have M2 := (M2'h.out.below hb'h.out).below hba
  have M3 := (M3'h.out.below hb'h.out).below hba
  have M4 := (M4'h.out.below hb'h.out).below hba
  have M5 := (M5'h.out.below hb'h.out).below hba
  have M6 := hS'h.out.below hba
  clear x0 H'h C'h hb'h hS'h M0'h M1'h M2'h M3'h M4'h M5'h
  generalize (u6.alloc (.cells #[.slice sp6 n6 cap6] 24)).alloc (.cells #[.int .i64 0, .int .u64 (wth : Int), .bool false, .slice none 0 0] 35) = V7 at H hba M0 M1 M2 M3 M4 M5 M6 ⊢
  clear hba
  have H'h := Lib.hid H
  have M0'h := Lib.hid M0
  have M1'h := Lib.hid M1
  have M2'h := Lib.hid M2
  have M3'h := Lib.hid M3
  have M4'h := Lib.hid M4
  have M5'h := Lib.hid M5
  have M6'h := Lib.hid M6
  clear H M0 M1 M2 M3 M4 M5 M6
  have y31 : V7.cell? ⟨u3.heap.size + 1, 1, none⟩ = some (.int .u64 (wth : Int)) := blk_cell (i := 1) H'h.out.rows.2.2.2.2.2.2.1 rfl
  have y32 : V7.cell? ⟨u3.heap.size + 1, 2, none⟩ = some (.bool true) := blk_cell (i := 2) H'h.out.rows.2.2.2.2.2.2.1 rfl
  have y41 : V7.cell? ⟨u4.heap.size + 1, 1, none⟩ = some (.int .u64 (wth : Int)) := blk_cell (i := 1) H'h.out.rows.2.2.2.2.1 rfl
  have y42 : V7.cell? ⟨u4.heap.size + 1, 2, none⟩ = some (.bool true) := blk_cell (i := 2) H'h.out.rows.2.2.2.2.1 rfl
  have y51 : V7.cell? ⟨u5.heap.size + 1, 1, none⟩ = some (.int .u64 0) := blk_cell (i := 1) H'h.out.rows.2.2.1 rfl
  have y52 : V7.cell? ⟨u5.heap.size + 1, 2, none⟩ = some (.bool false) := blk_cell (i := 2) H'h.out.rows.2.2.1 rfl
  have y61 : V7.cell? ⟨u6.heap.size + 1, 1, none⟩ = some (.int .u64 (wth : Int)) := blk_cell (i := 1) H'h.out.rows.1 rfl
  have y62 : V7.cell? ⟨u6.heap.size + 1, 2, none⟩ = some (.bool false) := blk_cell (i := 2) H'h.out.rows.1 rfl
  have x2 : V7.cell? ⟨u2.heap.size, 0, none⟩ = some (.slice sp2 n2 cap2) := blk_cell (i := 0) H'h.out.rows.2.2.2.2.2.2.2.2.2.1 rfl
  have x3 : V7.cell? ⟨u3.heap.size, 0, none⟩ = some (.slice sp3 n3 cap3) := blk_cell (i := 0) H'h.out.rows.2.2.2.2.2.2.2.1 rfl
  have x6 : V7.cell? ⟨u6.heap.size, 0, none⟩ = some (.slice sp6 n6 cap6) := blk_cell (i := 0) H'h.out.rows.2.1 rfl
  have SA : ∀ W, Below V7.heap.size V7 W → Calls Try.prog 14 #[.agg #[.slice sp3 n3 cap3], .agg #[.slice sp2 n2 cap2]] W fun e w' => e = .returned (.bool true) ∧ Below W.heap.size W w' := fun W hb => same_self _ _ _ _ _ _ _ _ (M3'h.out.below hb) (M2'h.out.below hb)
  have SB : ∀ W, Below V7.heap.size V7 W → Calls Try.prog 14 #[.agg #[.slice sp6 n6 cap6], .agg #[.slice sp2 n2 cap2]] W fun e w' => e = .returned (.bool true) ∧ Below W.heap.size W w' := fun W hb => same_self _ _ _ _ _ _ _ _ (M6'h.out.below hb) (M2'h.out.below hb)
  have e1 : ((wth : Int) == (wth : Int)) = true := by simp
  have hbq : Below V7.heap.size V7 V7 := Below.refl _ _
  have SA'h := Lib.hid SA
  have SB'h := Lib.hid SB
  have hbq'h := Lib.hid hbq
  clear SA SB hbq
  go_wp2_with (first | (go_at_call 14; refine (SA'h.out _ hbq'h.out).mono ?_; rintro e z2 ⟨rfl, hb⟩; have y31 := (hb.cell (lt_of_cell y31)).trans y31; have y32 := (hb.cell (lt_of_cell y32)).trans y32; have y41 := (hb.cell (lt_of_cell y41)).trans y41; have y42 := (hb.cell (lt_of_cell y42)).trans y42; have y51 := (hb.cell (lt_of_cell y51)).trans y51; have y52 := (hb.cell (lt_of_cell y52)).trans y52; have y61 := (hb.cell (lt_of_cell y61)).trans y61; have y62 := (hb.cell (lt_of_cell y62)).trans y62; have x2 := (hb.cell (lt_of_cell x2)).trans x2; have x3 := (hb.cell (lt_of_cell x3)).trans x3; have x6 := (hb.cell (lt_of_cell x6)).trans x6; have hbq'h := Lib.hid hb; clear SA'h hb) | (go_at_call 14; refine (SB'h.out _ hbq'h.out).mono ?_; rintro e z3 ⟨rfl, hb⟩; have hbr'h := Lib.hid hb; clear hb))
  go_ret
  exact ⟨rfl, below_next (below_next H'h.out.old hbq'h.out) hbr'h.out⟩
set_option maxHeartbeats 16000000 in
theorem swaps_b (sp : Option Addr) (n cap : Nat) (ps qs : Ps) (key old wth v : Nat) (w : World) (hin : RowIn w sp n cap ps) (hqs : qs = ps.take 40) (hup : upB qs = true) (F : SwFacts qs qs key old wth v false true false) :
    Calls Try.prog 6 #[.agg #[.slice sp n cap], .int .u64 (key : Int), .agg #[.int .u64 (old : Int), .int .u64 (wth : Int)]] w fun e w' => e = .returned (.bool true) ∧ Below w.heap.size w w' := by
  have H0 := ((Hs.nil w).new2 #[.slice sp n cap] #[.int .u64 (key : Int)] 24 31).new #[.int .u64 (old : Int), .int .u64 (wth : Int)] 55
  simp only [World.size_alloc] at H0
  obtain ⟨W0, hW0⟩ : ∃ W0, W0 = ((w.alloc (.cells #[.slice sp n cap] 24)).alloc (.cells #[.int .u64 (key : Int)] 31)).alloc (.cells #[.int .u64 (old : Int), .int .u64 (wth : Int)] 55) := ⟨_, rfl⟩
  rw [← hW0] at H0
  obtain ⟨hsl, _, hnil, hle⟩ := hin
  have hql : qs.length ≤ 40 := by rw [hqs, List.length_take]; omega
  obtain ⟨m, hm⟩ : ∃ m, m = min n 40 := ⟨_, rfl⟩
  have hm40 : m ≤ 40 := by omega
  have H0'h := Lib.hid H0
  have hW0'h := Lib.hid hW0
  have hsl'h := Lib.hid hsl
  have hnil'h := Lib.hid hnil
  have hle'h := Lib.hid hle
  have hqs'h := Lib.hid hqs
  have hm'h := Lib.hid hm
  have F'h := Lib.hid F
  have hup'h := Lib.hid hup
  clear H0 hW0 hsl hnil hle hqs hm F hup
  go_enter Try.func6, Try.ntmps6
  go_upto_region 1 with fail
  rw [← hW0'h.out]
  go_upto_region 3 with (go_at_call 7; refine (wakes_any _).mono ?_; rintro e w1 ⟨rfl, hb1⟩)
  have H1 := H0'h.out.next hb1
  have OW := own_any sp n cap ps w1 (hsl'h.out.below H1.old) hnil'h.out hle'h.out
  rw [← hqs'h.out, ← hm'h.out] at OW
  have x0 : w1.cell? ⟨w.heap.size, 0, none⟩ = some (.slice sp n cap) := blk_cell (i := 0) H1.rows.2.2.1 rfl
  have H1'h := Lib.hid H1
  have OW'h := Lib.hid OW
  have hb1'h := Lib.hid hb1
  clear H1 OW hb1
  go_upto_region 4 with (go_at_call 8; refine OW'h.out.mono ?_; rintro e w2 ⟨sp0, cap0, rfl, hb2, hS2⟩; have hb2'h := Lib.hid hb2; have hS2'h := Lib.hid hS2; clear hb2 hS2)
  clear x0
  have H := (H1'h.out.next hb2'h.out).new #[.slice sp0 m cap0] 24
  have M0 := hS2'h.out.below (w' := w2.alloc (.cells #[.slice sp0 m cap0] 24)) ((Below.refl _ _).alloc (Nat.le_refl _) _)
  generalize w2.alloc (.cells #[.slice sp0 m cap0] 24) = V0 at H M0 ⊢
  have C := mcheck_yes sp0 m cap0 qs V0 M0 hup'h.out
  have x0 : V0.cell? ⟨w2.heap.size, 0, none⟩ = some (.slice sp0 m cap0) := blk_cell (i := 0) H.rows.1 rfl
  have H'h := Lib.hid H
  have M0'h := Lib.hid M0
  have C'h := Lib.hid C
  clear H M0 C
  go_upto_region 6 with (go_at_call 9; refine C'h.out.mono ?_; rintro e w3 ⟨rfl, hb3⟩)
  have H := H'h.out.next hb3
  have M0 := M0'h.out.below hb3
  clear x0 H'h M0'h C'h
  have r0 : w3.cell? ⟨w.heap.size + 1 + 1, 0, none⟩ = some (.int .u64 (old : Int)) := blk_cell (i := 0) H.rows.2.1 rfl
  have r1 : w3.cell? ⟨w.heap.size + 1 + 1, 1, none⟩ = some (.int .u64 (wth : Int)) := blk_cell (i := 1) H.rows.2.1 rfl
  have H := H.drew
  have M0 := M0.drew
  have H'h := Lib.hid H
  have M0'h := Lib.hid M0
  have hb3'h := Lib.hid hb3
  clear H M0 hb3
  go_region
  clear r0 r1
  generalize w3.drew = V1 at *
  have H := H'h.out
  have M0 := M0'h.out
  have hbk := H.rows.2.2.1
  have C := sw1_any sp0 m cap0 qs 4 key old wth (w.heap.size + 1) v false V1 M0 hup'h.out (by have := hm40; omega) (by decide) hbk F'h.out.a
  rw [F'h.out.s] at C
  have x0 : V1.cell? ⟨w2.heap.size, 0, none⟩ = some (.slice sp0 m cap0) := blk_cell (i := 0) H.rows.1 rfl
  clear hbk H'h M0'h
  have H'h := Lib.hid H
  have C'h := Lib.hid C
  have M0'h := Lib.hid M0
  clear H C M0
  go_upto_region 9 with (go_at_call 22; refine C'h.out.mono ?_; rintro e u1 ⟨sp1, n1, cap1, rfl, hb, hS⟩; have hb'h := Lib.hid hb; have hS'h := Lib.hid hS; clear hb hS)
  have H := (H'h.out.next hb'h.out).new2 #[.slice sp1 n1 cap1] #[.int .i64 0, .int .u64 (v : Int), .bool false, .slice none 0 0] 24 35
  have hba : Below u1.heap.size u1 ((u1.alloc (.cells #[.slice sp1 n1 cap1] 24)).alloc (.cells #[.int .i64 0, .int .u64 (v : Int), .bool false, .slice none 0 0] 35)) := ((Below.refl _ _).alloc (Nat.le_refl _) _).alloc (by simp) _
  have M0 := (M0'h.out.below hb'h.out).below hba
  have M1 := hS'h.out.below hba
  clear x0 H'h C'h hb'h hS'h M0'h
  generalize (u1.alloc (.cells #[.slice sp1 n1 cap1] 24)).alloc (.cells #[.int .i64 0, .int .u64 (v : Int), .bool false, .slice none 0 0] 35) = V2 at H hba M0 M1 ⊢
  clear hba
  have H'h := Lib.hid H
  have M0'h := Lib.hid M0
  have M1'h := Lib.hid M1
  clear H M0 M1
  have H := H'h.out
  have M0 := M0'h.out
  have M1 := M1'h.out
  have hbk := H.rows.2.2.2.2.1
  have C := sw1_any sp0 m cap0 qs 2 key wth 0 (w.heap.size + 1) v true V2 M0 hup'h.out (by have := hm40; omega) (by decide) hbk F'h.out.b
  rw [F'h.out.t] at C
  have x0 : V2.cell? ⟨w2.heap.size, 0, none⟩ = some (.slice sp0 m cap0) := blk_cell (i := 0) H.rows.2.2.1 rfl
  clear hbk H'h M0'h M1'h
  have H'h := Lib.hid H
  have C'h := Lib.hid C
  have M0'h := Lib.hid M0
  have M1'h := Lib.hid M1
  clear H C M0 M1
  go_upto_region 10 with (go_at_call 22; refine C'h.out.mono ?_; rintro e u2 ⟨sp2, n2, cap2, rfl, hb, hS⟩; have hb'h := Lib.hid hb; have hS'h := Lib.hid hS; clear hb hS)
  have H := (H'h.out.next hb'h.out).new2 #[.slice sp2 n2 cap2] #[.int .i64 0, .int .u64 (v : Int), .bool true, .slice none 0 0] 24 35
  have hba : Below u2.heap.size u2 ((u2.alloc (.cells #[.slice sp2 n2 cap2] 24)).alloc (.cells #[.int .i64 0, .int .u64 (v : Int), .bool true, .slice none 0 0] 35)) := ((Below.refl _ _).alloc (Nat.le_refl _) _).alloc (by simp) _
  have M0 := (M0'h.out.below hb'h.out).below hba
  have M1 := (M1'h.out.below hb'h.out).below hba
  have M2 := hS'h.out.below hba
  clear x0 H'h C'h hb'h hS'h M0'h M1'h
  generalize (u2.alloc (.cells #[.slice sp2 n2 cap2] 24)).alloc (.cells #[.int .i64 0, .int .u64 (v : Int), .bool true, .slice none 0 0] 35) = V3 at H hba M0 M1 M2 ⊢
  clear hba
  have hN2 : n2 ≤ 41 := by have h1 := prs_len M2; have h2 := len_ins qs key wth; have h3 : (insP qs key wth).length ≤ qs.length + 1 := (by rw [h2]; split <;> omega); omega
  have H'h := Lib.hid H
  have M0'h := Lib.hid M0
  have M1'h := Lib.hid M1
  have M2'h := Lib.hid M2
  clear H M0 M1 M2
  have y11 : V3.cell? ⟨u1.heap.size + 1, 1, none⟩ = some (.int .u64 (v : Int)) := blk_cell (i := 1) H'h.out.rows.2.2.1 rfl
  have y12 : V3.cell? ⟨u1.heap.size + 1, 2, none⟩ = some (.bool false) := blk_cell (i := 2) H'h.out.rows.2.2.1 rfl
  have y21 : V3.cell? ⟨u2.heap.size + 1, 1, none⟩ = some (.int .u64 (v : Int)) := blk_cell (i := 1) H'h.out.rows.1 rfl
  have y22 : V3.cell? ⟨u2.heap.size + 1, 2, none⟩ = some (.bool true) := blk_cell (i := 2) H'h.out.rows.1 rfl
  have x0 : V3.cell? ⟨w2.heap.size, 0, none⟩ = some (.slice sp0 m cap0) := blk_cell (i := 0) H'h.out.rows.2.2.2.2.1 rfl
  have x1 : V3.cell? ⟨u1.heap.size, 0, none⟩ = some (.slice sp1 n1 cap1) := blk_cell (i := 0) H'h.out.rows.2.2.2.1 rfl
  have x2 : V3.cell? ⟨u2.heap.size, 0, none⟩ = some (.slice sp2 n2 cap2) := blk_cell (i := 0) H'h.out.rows.2.1 rfl
  have hE := F'h.out.e
  have S1 : Calls Try.prog 14 #[.agg #[.slice sp1 n1 cap1], .agg #[.slice sp0 m cap0]] V3 fun e w' => e = .returned (.bool true) ∧ Below V3.heap.size V3 w' := same_self _ _ _ _ _ _ _ _ M1'h.out M0'h.out
  have S1'h := Lib.hid S1
  clear S1
  go_upto_region 12 with (go_at_call 14; refine S1'h.out.mono ?_; rintro e z1 ⟨rfl, hb⟩; have k1 := H'h.out.next hb; have y11 := (hb.cell (lt_of_cell y11)).trans y11; have y12 := (hb.cell (lt_of_cell y12)).trans y12; have y21 := (hb.cell (lt_of_cell y21)).trans y21; have y22 := (hb.cell (lt_of_cell y22)).trans y22; have x0 := (hb.cell (lt_of_cell x0)).trans x0; have x1 := (hb.cell (lt_of_cell x1)).trans x1; have x2 := (hb.cell (lt_of_cell x2)).trans x2; clear k1; have hb'h := Lib.hid hb; clear hb)
  clear y11 y12 y21 y22 x0 x1 x2 hE S1'h
  have H := H'h.out.next hb'h.out
  have M0 := M0'h.out.below hb'h.out
  have M1 := M1'h.out.below hb'h.out
  have M2 := M2'h.out.below hb'h.out
  clear H'h hb'h M0'h M1'h M2'h
  have H'h := Lib.hid H
  have M0'h := Lib.hid M0
  have M1'h := Lib.hid M1
  have M2'h := Lib.hid M2
  clear H M0 M1 M2
  have H := H'h.out
  have M0 := M0'h.out
  have M1 := M1'h.out
  have M2 := M2'h.out
  have hbk := H.rows.2.2.2.2.2.2.1
  have C := sw1_any sp2 n2 cap2 (insP qs key wth) 1 key 0 0 (w.heap.size + 1) wth true z1 M2 (up_ins hup'h.out key wth) (by have := hN2; omega) (by decide) hbk F'h.out.c
  rw [F'h.out.l] at C
  have x0 : z1.cell? ⟨u2.heap.size, 0, none⟩ = some (.slice sp2 n2 cap2) := blk_cell (i := 0) H.rows.2.1 rfl
  clear hbk H'h M0'h M1'h M2'h
  have H'h := Lib.hid H
  have C'h := Lib.hid C
  have M0'h := Lib.hid M0
  have M1'h := Lib.hid M1
  have M2'h := Lib.hid M2
  clear H C M0 M1 M2
  go_upto_region 13 with (go_at_call 22; refine C'h.out.mono ?_; rintro e u3 ⟨sp3, n3, cap3, rfl, hb, hS⟩; have hb'h := Lib.hid hb; have hS'h := Lib.hid hS; clear hb hS)
  have H := (H'h.out.next hb'h.out).new2 #[.slice sp3 n3 cap3] #[.int .i64 0, .int .u64 (wth : Int), .bool true, .slice none 0 0] 24 35
  have hba : Below u3.heap.size u3 ((u3.alloc (.cells #[.slice sp3 n3 cap3] 24)).alloc (.cells #[.int .i64 0, .int .u64 (wth : Int), .bool true, .slice none 0 0] 35)) := ((Below.refl _ _).alloc (Nat.le_refl _) _).alloc (by simp) _
  have M0 := (M0'h.out.below hb'h.out).below hba
  have M1 := (M1'h.out.below hb'h.out).below hba
  have M2 := (M2'h.out.below hb'h.out).below hba
  have M3 := hS'h.out.below hba
  clear x0 H'h C'h hb'h hS'h M0'h M1'h M2'h
  generalize (u3.alloc (.cells #[.slice sp3 n3 cap3] 24)).alloc (.cells #[.int .i64 0, .int .u64 (wth : Int), .bool true, .slice none 0 0] 35) = V4 at H hba M0 M1 M2 M3 ⊢
  clear hba
  have H'h := Lib.hid H
  have M0'h := Lib.hid M0
  have M1'h := Lib.hid M1
  have M2'h := Lib.hid M2
  have M3'h := Lib.hid M3
  clear H M0 M1 M2 M3
  have H := H'h.out
  have M0 := M0'h.out
  have M1 := M1'h.out
  have M2 := M2'h.out
  have M3 := M3'h.out
  have hbk := H.rows.2.2.2.2.2.2.2.2.1
  have C := sw1_any sp2 n2 cap2 (insP qs key wth) 3 key 0 0 (w.heap.size + 1) wth true V4 M2 (up_ins hup'h.out key wth) (by have := hN2; omega) (by decide) hbk F'h.out.g
  rw [F'h.out.d] at C
  have x0 : V4.cell? ⟨u2.heap.size, 0, none⟩ = some (.slice sp2 n2 cap2) := blk_cell (i := 0) H.rows.2.2.2.1 rfl
  clear hbk H'h M0'h M1'h M2'h M3'h
  have H'h := Lib.hid H
  have C'h := Lib.hid C
  have M0'h := Lib.hid M0
  have M1'h := Lib.hid M1
  have M2'h := Lib.hid M2
  have M3'h := Lib.hid M3
  clear H C M0 M1 M2 M3
  go_upto_region 14 with (go_at_call 22; refine C'h.out.mono ?_; rintro e u4 ⟨sp4, n4, cap4, rfl, hb, hS⟩; have hb'h := Lib.hid hb; have hS'h := Lib.hid hS; clear hb hS)
  have H := (H'h.out.next hb'h.out).new2 #[.slice sp4 n4 cap4] #[.int .i64 0, .int .u64 (wth : Int), .bool true, .slice none 0 0] 24 35
  have hba : Below u4.heap.size u4 ((u4.alloc (.cells #[.slice sp4 n4 cap4] 24)).alloc (.cells #[.int .i64 0, .int .u64 (wth : Int), .bool true, .slice none 0 0] 35)) := ((Below.refl _ _).alloc (Nat.le_refl _) _).alloc (by simp) _
  have M0 := (M0'h.out.below hb'h.out).below hba
  have M1 := (M1'h.out.below hb'h.out).below hba
  have M2 := (M2'h.out.below hb'h.out).below hba
  have M3 := (M3'h.out.below hb'h.out).below hba
  have M4 := hS'h.out.below hba
  clear x0 H'h C'h hb'h hS'h M0'h M1'h M2'h M3'h
  generalize (u4.alloc (.cells #[.slice sp4 n4 cap4] 24)).alloc (.cells #[.int .i64 0, .int .u64 (wth : Int), .bool true, .slice none 0 0] 35) = V5 at H hba M0 M1 M2 M3 M4 ⊢
  clear hba
  have hN4 : n4 ≤ 41 := by have h1 := prs_len M4; have h2 := len_ins qs key wth; have h4 := len_del (insP qs key wth) key; have h3 : (insP qs key wth).length ≤ qs.length + 1 := (by rw [h2]; split <;> omega); omega
  have H'h := Lib.hid H
  have M0'h := Lib.hid M0
  have M1'h := Lib.hid M1
  have M2'h := Lib.hid M2
  have M3'h := Lib.hid M3
  have M4'h := Lib.hid M4
  clear H M0 M1 M2 M3 M4
  have H := H'h.out
  have M0 := M0'h.out
  have M1 := M1'h.out
  have M2 := M2'h.out
  have M3 := M3'h.out
  have M4 := M4'h.out
  have hbk := H.rows.2.2.2.2.2.2.2.2.2.2.1
  have C := sw1_any sp4 n4 cap4 (delP (insP qs key wth) key) 1 key 0 0 (w.heap.size + 1) 0 false V5 M4 (up_del (up_ins hup'h.out key wth) key) (by have := hN4; omega) (by decide) hbk F'h.out.h
  rw [(next_load rfl _)] at C
  have x0 : V5.cell? ⟨u4.heap.size, 0, none⟩ = some (.slice sp4 n4 cap4) := blk_cell (i := 0) H.rows.2.1 rfl
  clear hbk H'h M0'h M1'h M2'h M3'h M4'h
  have H'h := Lib.hid H
  have C'h := Lib.hid C
  have M0'h := Lib.hid M0
  have M1'h := Lib.hid M1
  have M2'h := Lib.hid M2
  have M3'h := Lib.hid M3
  have M4'h := Lib.hid M4
  clear H C M0 M1 M2 M3 M4
  go_upto_region 15 with (go_at_call 22; refine C'h.out.mono ?_; rintro e u5 ⟨sp5, n5, cap5, rfl, hb, hS⟩; have hb'h := Lib.hid hb; have hS'h := Lib.hid hS; clear hb hS)
  have H := (H'h.out.next hb'h.out).new2 #[.slice sp5 n5 cap5] #[.int .i64 0, .int .u64 0, .bool false, .slice none 0 0] 24 35
  have hba : Below u5.heap.size u5 ((u5.alloc (.cells #[.slice sp5 n5 cap5] 24)).alloc (.cells #[.int .i64 0, .int .u64 0, .bool false, .slice none 0 0] 35)) := ((Below.refl _ _).alloc (Nat.le_refl _) _).alloc (by simp) _
  have M0 := (M0'h.out.below hb'h.out).below hba
  have M1 := (M1'h.out.below hb'h.out).below hba
  have M2 := (M2'h.out.below hb'h.out).below hba
  have M3 := (M3'h.out.below hb'h.out).below hba
  have M4 := (M4'h.out.below hb'h.out).below hba
  have M5 := hS'h.out.below hba
  clear x0 H'h C'h hb'h hS'h M0'h M1'h M2'h M3'h M4'h
  generalize (u5.alloc (.cells #[.slice sp5 n5 cap5] 24)).alloc (.cells #[.int .i64 0, .int .u64 0, .bool false, .slice none 0 0] 35) = V6 at H hba M0 M1 M2 M3 M4 M5 ⊢
  clear hba
  have H'h := Lib.hid H
  have M0'h := Lib.hid M0
  have M1'h := Lib.hid M1
  have M2'h := Lib.hid M2
  have M3'h := Lib.hid M3
  have M4'h := Lib.hid M4
  have M5'h := Lib.hid M5
  clear H M0 M1 M2 M3 M4 M5
  have H := H'h.out
  have M0 := M0'h.out
  have M1 := M1'h.out
  have M2 := M2'h.out
  have M3 := M3'h.out
  have M4 := M4'h.out
  have M5 := M5'h.out
  have hbk := H.rows.2.2.2.2.2.2.2.2.2.2.2.2.1
  have C := sw1_any sp4 n4 cap4 (delP (insP qs key wth) key) 5 key wth 0 (w.heap.size + 1) wth false V6 M4 (up_del (up_ins hup'h.out key wth) key) (by have := hN4; omega) (by decide) hbk F'h.out.i
  rw [F'h.out.o] at C
  have x0 : V6.cell? ⟨u4.heap.size, 0, none⟩ = some (.slice sp4 n4 cap4) := blk_cell (i := 0) H.rows.2.2.2.1 rfl
  clear hbk H'h M0'h M1'h M2'h M3'h M4'h M5'h
  have H'h := Lib.hid H
  have C'h := Lib.hid C
  have M0'h := Lib.hid M0
  have M1'h := Lib.hid M1
  have M2'h := Lib.hid M2
  have M3'h := Lib.hid M3
  have M4'h := Lib.hid M4
  have M5'h := Lib.hid M5
  clear H C M0 M1 M2 M3 M4 M5
  go_upto_region 16 with (go_at_call 22; refine C'h.out.mono ?_; rintro e u6 ⟨sp6, n6, cap6, rfl, hb, hS⟩; have hb'h := Lib.hid hb; have hS'h := Lib.hid hS; clear hb hS)
  have H := (H'h.out.next hb'h.out).new2 #[.slice sp6 n6 cap6] #[.int .i64 0, .int .u64 (wth : Int), .bool false, .slice none 0 0] 24 35
  have hba : Below u6.heap.size u6 ((u6.alloc (.cells #[.slice sp6 n6 cap6] 24)).alloc (.cells #[.int .i64 0, .int .u64 (wth : Int), .bool false, .slice none 0 0] 35)) := ((Below.refl _ _).alloc (Nat.le_refl _) _).alloc (by simp) _
  have M0 := (M0'h.out.below hb'h.out).below hba
  have M1 := (M1'h.out.below hb'h.out).below hba
  have M2 := (M2'h.out.below hb'h.out).below hba
  have M3 := (M3'h.out.below hb'h.out).below hba
  have M4 := (M4'h.out.below hb'h.out).below hba
  have M5 := (M5'h.out.below hb'h.out).below hba
  have M6 := hS'h.out.below hba
  clear x0 H'h C'h hb'h hS'h M0'h M1'h M2'h M3'h M4'h M5'h
  generalize (u6.alloc (.cells #[.slice sp6 n6 cap6] 24)).alloc (.cells #[.int .i64 0, .int .u64 (wth : Int), .bool false, .slice none 0 0] 35) = V7 at H hba M0 M1 M2 M3 M4 M5 M6 ⊢
  clear hba
  have H'h := Lib.hid H
  have M0'h := Lib.hid M0
  have M1'h := Lib.hid M1
  have M2'h := Lib.hid M2
  have M3'h := Lib.hid M3
  have M4'h := Lib.hid M4
  have M5'h := Lib.hid M5
  have M6'h := Lib.hid M6
  clear H M0 M1 M2 M3 M4 M5 M6
  have y31 : V7.cell? ⟨u3.heap.size + 1, 1, none⟩ = some (.int .u64 (wth : Int)) := blk_cell (i := 1) H'h.out.rows.2.2.2.2.2.2.1 rfl
  have y32 : V7.cell? ⟨u3.heap.size + 1, 2, none⟩ = some (.bool true) := blk_cell (i := 2) H'h.out.rows.2.2.2.2.2.2.1 rfl
  have y41 : V7.cell? ⟨u4.heap.size + 1, 1, none⟩ = some (.int .u64 (wth : Int)) := blk_cell (i := 1) H'h.out.rows.2.2.2.2.1 rfl
  have y42 : V7.cell? ⟨u4.heap.size + 1, 2, none⟩ = some (.bool true) := blk_cell (i := 2) H'h.out.rows.2.2.2.2.1 rfl
  have y51 : V7.cell? ⟨u5.heap.size + 1, 1, none⟩ = some (.int .u64 0) := blk_cell (i := 1) H'h.out.rows.2.2.1 rfl
  have y52 : V7.cell? ⟨u5.heap.size + 1, 2, none⟩ = some (.bool false) := blk_cell (i := 2) H'h.out.rows.2.2.1 rfl
  have y61 : V7.cell? ⟨u6.heap.size + 1, 1, none⟩ = some (.int .u64 (wth : Int)) := blk_cell (i := 1) H'h.out.rows.1 rfl
  have y62 : V7.cell? ⟨u6.heap.size + 1, 2, none⟩ = some (.bool false) := blk_cell (i := 2) H'h.out.rows.1 rfl
  have x2 : V7.cell? ⟨u2.heap.size, 0, none⟩ = some (.slice sp2 n2 cap2) := blk_cell (i := 0) H'h.out.rows.2.2.2.2.2.2.2.2.2.1 rfl
  have x3 : V7.cell? ⟨u3.heap.size, 0, none⟩ = some (.slice sp3 n3 cap3) := blk_cell (i := 0) H'h.out.rows.2.2.2.2.2.2.2.1 rfl
  have x6 : V7.cell? ⟨u6.heap.size, 0, none⟩ = some (.slice sp6 n6 cap6) := blk_cell (i := 0) H'h.out.rows.2.1 rfl
  have SA : ∀ W, Below V7.heap.size V7 W → Calls Try.prog 14 #[.agg #[.slice sp3 n3 cap3], .agg #[.slice sp2 n2 cap2]] W fun e w' => e = .returned (.bool true) ∧ Below W.heap.size W w' := fun W hb => same_self _ _ _ _ _ _ _ _ (M3'h.out.below hb) (M2'h.out.below hb)
  have SB : ∀ W, Below V7.heap.size V7 W → Calls Try.prog 14 #[.agg #[.slice sp6 n6 cap6], .agg #[.slice sp2 n2 cap2]] W fun e w' => e = .returned (.bool true) ∧ Below W.heap.size W w' := fun W hb => same_self _ _ _ _ _ _ _ _ (M6'h.out.below hb) (M2'h.out.below hb)
  have e1 : ((wth : Int) == (wth : Int)) = true := by simp
  have hbq : Below V7.heap.size V7 V7 := Below.refl _ _
  have SA'h := Lib.hid SA
  have SB'h := Lib.hid SB
  have hbq'h := Lib.hid hbq
  clear SA SB hbq
  go_wp2_with (first | (go_at_call 14; refine (SA'h.out _ hbq'h.out).mono ?_; rintro e z2 ⟨rfl, hb⟩; have y31 := (hb.cell (lt_of_cell y31)).trans y31; have y32 := (hb.cell (lt_of_cell y32)).trans y32; have y41 := (hb.cell (lt_of_cell y41)).trans y41; have y42 := (hb.cell (lt_of_cell y42)).trans y42; have y51 := (hb.cell (lt_of_cell y51)).trans y51; have y52 := (hb.cell (lt_of_cell y52)).trans y52; have y61 := (hb.cell (lt_of_cell y61)).trans y61; have y62 := (hb.cell (lt_of_cell y62)).trans y62; have x2 := (hb.cell (lt_of_cell x2)).trans x2; have x3 := (hb.cell (lt_of_cell x3)).trans x3; have x6 := (hb.cell (lt_of_cell x6)).trans x6; have hbq'h := Lib.hid hb; clear SA'h hb) | (go_at_call 14; refine (SB'h.out _ hbq'h.out).mono ?_; rintro e z3 ⟨rfl, hb⟩; have hbr'h := Lib.hid hb; clear hb))
  go_ret
  exact ⟨rfl, below_next (below_next H'h.out.old hbq'h.out) hbr'h.out⟩
set_option maxHeartbeats 16000000 in
theorem swaps_c (sp : Option Addr) (n cap : Nat) (ps qs : Ps) (key old wth v : Nat) (E : Bool) (w : World) (hin : RowIn w sp n cap ps) (hqs : qs = ps.take 40) (hup : upB qs = true) (F : SwFacts qs qs key old wth v false false E) :
    Calls Try.prog 6 #[.agg #[.slice sp n cap], .int .u64 (key : Int), .agg #[.int .u64 (old : Int), .int .u64 (wth : Int)]] w fun e w' => e = .returned (.bool true) ∧ Below w.heap.size w w' := by
  have H0 := ((Hs.nil w).new2 #[.slice sp n cap] #[.int .u64 (key : Int)] 24 31).new #[.int .u64 (old : Int), .int .u64 (wth : Int)] 55
  simp only [World.size_alloc] at H0
  obtain ⟨W0, hW0⟩ : ∃ W0, W0 = ((w.alloc (.cells #[.slice sp n cap] 24)).alloc (.cells #[.int .u64 (key : Int)] 31)).alloc (.cells #[.int .u64 (old : Int), .int .u64 (wth : Int)] 55) := ⟨_, rfl⟩
  rw [← hW0] at H0
  obtain ⟨hsl, _, hnil, hle⟩ := hin
  have hql : qs.length ≤ 40 := by rw [hqs, List.length_take]; omega
  obtain ⟨m, hm⟩ : ∃ m, m = min n 40 := ⟨_, rfl⟩
  have hm40 : m ≤ 40 := by omega
  have H0'h := Lib.hid H0
  have hW0'h := Lib.hid hW0
  have hsl'h := Lib.hid hsl
  have hnil'h := Lib.hid hnil
  have hle'h := Lib.hid hle
  have hqs'h := Lib.hid hqs
  have hm'h := Lib.hid hm
  have F'h := Lib.hid F
  have hup'h := Lib.hid hup
  clear H0 hW0 hsl hnil hle hqs hm F hup
  go_enter Try.func6, Try.ntmps6
  go_upto_region 1 with fail
  rw [← hW0'h.out]
  go_upto_region 3 with (go_at_call 7; refine (wakes_any _).mono ?_; rintro e w1 ⟨rfl, hb1⟩)
  have H1 := H0'h.out.next hb1
  have OW := own_any sp n cap ps w1 (hsl'h.out.below H1.old) hnil'h.out hle'h.out
  rw [← hqs'h.out, ← hm'h.out] at OW
  have x0 : w1.cell? ⟨w.heap.size, 0, none⟩ = some (.slice sp n cap) := blk_cell (i := 0) H1.rows.2.2.1 rfl
  have H1'h := Lib.hid H1
  have OW'h := Lib.hid OW
  have hb1'h := Lib.hid hb1
  clear H1 OW hb1
  go_upto_region 4 with (go_at_call 8; refine OW'h.out.mono ?_; rintro e w2 ⟨sp0, cap0, rfl, hb2, hS2⟩; have hb2'h := Lib.hid hb2; have hS2'h := Lib.hid hS2; clear hb2 hS2)
  clear x0
  have H := (H1'h.out.next hb2'h.out).new #[.slice sp0 m cap0] 24
  have M0 := hS2'h.out.below (w' := w2.alloc (.cells #[.slice sp0 m cap0] 24)) ((Below.refl _ _).alloc (Nat.le_refl _) _)
  generalize w2.alloc (.cells #[.slice sp0 m cap0] 24) = V0 at H M0 ⊢
  have C := mcheck_yes sp0 m cap0 qs V0 M0 hup'h.out
  have x0 : V0.cell? ⟨w2.heap.size, 0, none⟩ = some (.slice sp0 m cap0) := blk_cell (i := 0) H.rows.1 rfl
  have H'h := Lib.hid H
  have M0'h := Lib.hid M0
  have C'h := Lib.hid C
  clear H M0 C
  go_upto_region 6 with (go_at_call 9; refine C'h.out.mono ?_; rintro e w3 ⟨rfl, hb3⟩)
  have H := H'h.out.next hb3
  have M0 := M0'h.out.below hb3
  clear x0 H'h M0'h C'h
  have r0 : w3.cell? ⟨w.heap.size + 1 + 1, 0, none⟩ = some (.int .u64 (old : Int)) := blk_cell (i := 0) H.rows.2.1 rfl
  have r1 : w3.cell? ⟨w.heap.size + 1 + 1, 1, none⟩ = some (.int .u64 (wth : Int)) := blk_cell (i := 1) H.rows.2.1 rfl
  have H := H.drew
  have M0 := M0.drew
  have H'h := Lib.hid H
  have M0'h := Lib.hid M0
  have hb3'h := Lib.hid hb3
  clear H M0 hb3
  go_region
  clear r0 r1
  generalize w3.drew = V1 at *
  have H := H'h.out
  have M0 := M0'h.out
  have hbk := H.rows.2.2.1
  have C := sw1_any sp0 m cap0 qs 4 key old wth (w.heap.size + 1) v false V1 M0 hup'h.out (by have := hm40; omega) (by decide) hbk F'h.out.a
  rw [F'h.out.s] at C
  have x0 : V1.cell? ⟨w2.heap.size, 0, none⟩ = some (.slice sp0 m cap0) := blk_cell (i := 0) H.rows.1 rfl
  clear hbk H'h M0'h
  have H'h := Lib.hid H
  have C'h := Lib.hid C
  have M0'h := Lib.hid M0
  clear H C M0
  go_upto_region 9 with (go_at_call 22; refine C'h.out.mono ?_; rintro e u1 ⟨sp1, n1, cap1, rfl, hb, hS⟩; have hb'h := Lib.hid hb; have hS'h := Lib.hid hS; clear hb hS)
  have H := (H'h.out.next hb'h.out).new2 #[.slice sp1 n1 cap1] #[.int .i64 0, .int .u64 (v : Int), .bool false, .slice none 0 0] 24 35
  have hba : Below u1.heap.size u1 ((u1.alloc (.cells #[.slice sp1 n1 cap1] 24)).alloc (.cells #[.int .i64 0, .int .u64 (v : Int), .bool false, .slice none 0 0] 35)) := ((Below.refl _ _).alloc (Nat.le_refl _) _).alloc (by simp) _
  have M0 := (M0'h.out.below hb'h.out).below hba
  have M1 := hS'h.out.below hba
  clear x0 H'h C'h hb'h hS'h M0'h
  generalize (u1.alloc (.cells #[.slice sp1 n1 cap1] 24)).alloc (.cells #[.int .i64 0, .int .u64 (v : Int), .bool false, .slice none 0 0] 35) = V2 at H hba M0 M1 ⊢
  clear hba
  have H'h := Lib.hid H
  have M0'h := Lib.hid M0
  have M1'h := Lib.hid M1
  clear H M0 M1
  have H := H'h.out
  have M0 := M0'h.out
  have M1 := M1'h.out
  have hbk := H.rows.2.2.2.2.1
  have C := sw1_any sp0 m cap0 qs 2 key wth 0 (w.heap.size + 1) v false V2 M0 hup'h.out (by have := hm40; omega) (by decide) hbk F'h.out.b
  rw [F'h.out.t] at C
  have x0 : V2.cell? ⟨w2.heap.size, 0, none⟩ = some (.slice sp0 m cap0) := blk_cell (i := 0) H.rows.2.2.1 rfl
  clear hbk H'h M0'h M1'h
  have H'h := Lib.hid H
  have C'h := Lib.hid C
  have M0'h := Lib.hid M0
  have M1'h := Lib.hid M1
  clear H C M0 M1
  go_upto_region 10 with (go_at_call 22; refine C'h.out.mono ?_; rintro e u2 ⟨sp2, n2, cap2, rfl, hb, hS⟩; have hb'h := Lib.hid hb; have hS'h := Lib.hid hS; clear hb hS)
  have H := (H'h.out.next hb'h.out).new2 #[.slice sp2 n2 cap2] #[.int .i64 0, .int .u64 (v : Int), .bool false, .slice none 0 0] 24 35
  have hba : Below u2.heap.size u2 ((u2.alloc (.cells #[.slice sp2 n2 cap2] 24)).alloc (.cells #[.int .i64 0, .int .u64 (v : Int), .bool false, .slice none 0 0] 35)) := ((Below.refl _ _).alloc (Nat.le_refl _) _).alloc (by simp) _
  have M0 := (M0'h.out.below hb'h.out).below hba
  have M1 := (M1'h.out.below hb'h.out).below hba
  have M2 := hS'h.out.below hba
  clear x0 H'h C'h hb'h hS'h M0'h M1'h
  generalize (u2.alloc (.cells #[.slice sp2 n2 cap2] 24)).alloc (.cells #[.int .i64 0, .int .u64 (v : Int), .bool false, .slice none 0 0] 35) = V3 at H hba M0 M1 M2 ⊢
  clear hba
  have hN2 : n2 ≤ 41 := by have h1 := prs_len M2; have h2 := len_ins qs key wth; have h3 : (insP qs key wth).length ≤ qs.length + 1 := (by rw [h2]; split <;> omega); omega
  have H'h := Lib.hid H
  have M0'h := Lib.hid M0
  have M1'h := Lib.hid M1
  have M2'h := Lib.hid M2
  clear H M0 M1 M2
  have y11 : V3.cell? ⟨u1.heap.size + 1, 1, none⟩ = some (.int .u64 (v : Int)) := blk_cell (i := 1) H'h.out.rows.2.2.1 rfl
  have y12 : V3.cell? ⟨u1.heap.size + 1, 2, none⟩ = some (.bool false) := blk_cell (i := 2) H'h.out.rows.2.2.1 rfl
  have y21 : V3.cell? ⟨u2.heap.size + 1, 1, none⟩ = some (.int .u64 (v : Int)) := blk_cell (i := 1) H'h.out.rows.1 rfl
  have y22 : V3.cell? ⟨u2.heap.size + 1, 2, none⟩ = some (.bool false) := blk_cell (i := 2) H'h.out.rows.1 rfl
  have x0 : V3.cell? ⟨w2.heap.size, 0, none⟩ = some (.slice sp0 m cap0) := blk_cell (i := 0) H'h.out.rows.2.2.2.2.1 rfl
  have x1 : V3.cell? ⟨u1.heap.size, 0, none⟩ = some (.slice sp1 n1 cap1) := blk_cell (i := 0) H'h.out.rows.2.2.2.1 rfl
  have x2 : V3.cell? ⟨u2.heap.size, 0, none⟩ = some (.slice sp2 n2 cap2) := blk_cell (i := 0) H'h.out.rows.2.1 rfl
  have hE := F'h.out.e
  have S1 : Calls Try.prog 14 #[.agg #[.slice sp1 n1 cap1], .agg #[.slice sp0 m cap0]] V3 fun e w' => e = .returned (.bool true) ∧ Below V3.heap.size V3 w' := same_self _ _ _ _ _ _ _ _ M1'h.out M0'h.out
  have S1'h := Lib.hid S1
  clear S1
  go_upto_region 12 with (go_at_call 14; refine S1'h.out.mono ?_; rintro e z1 ⟨rfl, hb⟩; have k1 := H'h.out.next hb; have y11 := (hb.cell (lt_of_cell y11)).trans y11; have y12 := (hb.cell (lt_of_cell y12)).trans y12; have y21 := (hb.cell (lt_of_cell y21)).trans y21; have y22 := (hb.cell (lt_of_cell y22)).trans y22; have x0 := (hb.cell (lt_of_cell x0)).trans x0; have x1 := (hb.cell (lt_of_cell x1)).trans x1; have x2 := (hb.cell (lt_of_cell x2)).trans x2; clear k1; have hb'h := Lib.hid hb; clear hb)
  clear y11 y12 y21 y22 x0 x1 x2 hE S1'h
  have H := H'h.out.next hb'h.out
  have M0 := M0'h.out.below hb'h.out
  have M1 := M1'h.out.below hb'h.out
  have M2 := M2'h.out.below hb'h.out
  clear H'h hb'h M0'h M1'h M2'h
  have H'h := Lib.hid H
  have M0'h := Lib.hid M0
  have M1'h := Lib.hid M1
  have M2'h := Lib.hid M2
  clear H M0 M1 M2
  have H := H'h.out
  have M0 := M0'h.out
  have M1 := M1'h.out
  have M2 := M2'h.out
  have hbk := H.rows.2.2.2.2.2.2.1
  have C := sw1_any sp2 n2 cap2 (insP qs key wth) 1 key 0 0 (w.heap.size + 1) wth true z1 M2 (up_ins hup'h.out key wth) (by have := hN2; omega) (by decide) hbk F'h.out.c
  rw [F'h.out.l] at C
  have x0 : z1.cell? ⟨u2.heap.size, 0, none⟩ = some (.slice sp2 n2 cap2) := blk_cell (i := 0) H.rows.2.1 rfl
  clear hbk H'h M0'h M1'h M2'h
  have H'h := Lib.hid H
  have C'h := Lib.hid C
  have M0'h := Lib.hid M0
  have M1'h := Lib.hid M1
  have M2'h := Lib.hid M2
  clear H C M0 M1 M2
  go_upto_region 13 with (go_at_call 22; refine C'h.out.mono ?_; rintro e u3 ⟨sp3, n3, cap3, rfl, hb, hS⟩; have hb'h := Lib.hid hb; have hS'h := Lib.hid hS; clear hb hS)
  have H := (H'h.out.next hb'h.out).new2 #[.slice sp3 n3 cap3] #[.int .i64 0, .int .u64 (wth : Int), .bool true, .slice none 0 0] 24 35
  have hba : Below u3.heap.size u3 ((u3.alloc (.cells #[.slice sp3 n3 cap3] 24)).alloc (.cells #[.int .i64 0, .int .u64 (wth : Int), .bool true, .slice none 0 0] 35)) := ((Below.refl _ _).alloc (Nat.le_refl _) _).alloc (by simp) _
  have M0 := (M0'h.out.below hb'h.out).below hba
  have M1 := (M1'h.out.below hb'h.out).below hba
  have M2 := (M2'h.out.below hb'h.out).below hba
  have M3 := hS'h.out.below hba
  clear x0 H'h C'h hb'h hS'h M0'h M1'h M2'h
  generalize (u3.alloc (.cells #[.slice sp3 n3 cap3] 24)).alloc (.cells #[.int .i64 0, .int .u64 (wth : Int), .bool true, .slice none 0 0] 35) = V4 at H hba M0 M1 M2 M3 ⊢
  clear hba
  have H'h := Lib.hid H
  have M0'h := Lib.hid M0
  have M1'h := Lib.hid M1
  have M2'h := Lib.hid M2
  have M3'h := Lib.hid M3
  clear H M0 M1 M2 M3
  have H := H'h.out
  have M0 := M0'h.out
  have M1 := M1'h.out
  have M2 := M2'h.out
  have M3 := M3'h.out
  have hbk := H.rows.2.2.2.2.2.2.2.2.1
  have C := sw1_any sp2 n2 cap2 (insP qs key wth) 3 key 0 0 (w.heap.size + 1) wth true V4 M2 (up_ins hup'h.out key wth) (by have := hN2; omega) (by decide) hbk F'h.out.g
  rw [F'h.out.d] at C
  have x0 : V4.cell? ⟨u2.heap.size, 0, none⟩ = some (.slice sp2 n2 cap2) := blk_cell (i := 0) H.rows.2.2.2.1 rfl
  clear hbk H'h M0'h M1'h M2'h M3'h
  have H'h := Lib.hid H
  have C'h := Lib.hid C
  have M0'h := Lib.hid M0
  have M1'h := Lib.hid M1
  have M2'h := Lib.hid M2
  have M3'h := Lib.hid M3
  clear H C M0 M1 M2 M3
  go_upto_region 14 with (go_at_call 22; refine C'h.out.mono ?_; rintro e u4 ⟨sp4, n4, cap4, rfl, hb, hS⟩; have hb'h := Lib.hid hb; have hS'h := Lib.hid hS; clear hb hS)
  have H := (H'h.out.next hb'h.out).new2 #[.slice sp4 n4 cap4] #[.int .i64 0, .int .u64 (wth : Int), .bool true, .slice none 0 0] 24 35
  have hba : Below u4.heap.size u4 ((u4.alloc (.cells #[.slice sp4 n4 cap4] 24)).alloc (.cells #[.int .i64 0, .int .u64 (wth : Int), .bool true, .slice none 0 0] 35)) := ((Below.refl _ _).alloc (Nat.le_refl _) _).alloc (by simp) _
  have M0 := (M0'h.out.below hb'h.out).below hba
  have M1 := (M1'h.out.below hb'h.out).below hba
  have M2 := (M2'h.out.below hb'h.out).below hba
  have M3 := (M3'h.out.below hb'h.out).below hba
  have M4 := hS'h.out.below hba
  clear x0 H'h C'h hb'h hS'h M0'h M1'h M2'h M3'h
  generalize (u4.alloc (.cells #[.slice sp4 n4 cap4] 24)).alloc (.cells #[.int .i64 0, .int .u64 (wth : Int), .bool true, .slice none 0 0] 35) = V5 at H hba M0 M1 M2 M3 M4 ⊢
  clear hba
  have hN4 : n4 ≤ 41 := by have h1 := prs_len M4; have h2 := len_ins qs key wth; have h4 := len_del (insP qs key wth) key; have h3 : (insP qs key wth).length ≤ qs.length + 1 := (by rw [h2]; split <;> omega); omega
  have H'h := Lib.hid H
  have M0'h := Lib.hid M0
  have M1'h := Lib.hid M1
  have M2'h := Lib.hid M2
  have M3'h := Lib.hid M3
  have M4'h := Lib.hid M4
  clear H M0 M1 M2 M3 M4
  have H := H'h.out
  have M0 := M0'h.out
  have M1 := M1'h.out
  have M2 := M2'h.out
  have M3 := M3'h.out
  have M4 := M4'h.out
  have hbk := H.rows.2.2.2.2.2.2.2.2.2.2.1
  have C := sw1_any sp4 n4 cap4 (delP (insP qs key wth) key) 1 key 0 0 (w.heap.size + 1) 0 false V5 M4 (up_del (up_ins hup'h.out key wth) key) (by have := hN4; omega) (by decide) hbk F'h.out.h
  rw [(next_load rfl _)] at C
  have x0 : V5.cell? ⟨u4.heap.size, 0, none⟩ = some (.slice sp4 n4 cap4) := blk_cell (i := 0) H.rows.2.1 rfl
  clear hbk H'h M0'h M1'h M2'h M3'h M4'h
  have H'h := Lib.hid H
  have C'h := Lib.hid C
  have M0'h := Lib.hid M0
  have M1'h := Lib.hid M1
  have M2'h := Lib.hid M2
  have M3'h := Lib.hid M3
  have M4'h := Lib.hid M4
  clear H C M0 M1 M2 M3 M4
  go_upto_region 15 with (go_at_call 22; refine C'h.out.mono ?_; rintro e u5 ⟨sp5, n5, cap5, rfl, hb, hS⟩; have hb'h := Lib.hid hb; have hS'h := Lib.hid hS; clear hb hS)
  have H := (H'h.out.next hb'h.out).new2 #[.slice sp5 n5 cap5] #[.int .i64 0, .int .u64 0, .bool false, .slice none 0 0] 24 35
  have hba : Below u5.heap.size u5 ((u5.alloc (.cells #[.slice sp5 n5 cap5] 24)).alloc (.cells #[.int .i64 0, .int .u64 0, .bool false, .slice none 0 0] 35)) := ((Below.refl _ _).alloc (Nat.le_refl _) _).alloc (by simp) _
  have M0 := (M0'h.out.below hb'h.out).below hba
  have M1 := (M1'h.out.below hb'h.out).below hba
  have M2 := (M2'h.out.below hb'h.out).below hba
  have M3 := (M3'h.out.below hb'h.out).below hba
  have M4 := (M4'h.out.below hb'h.out).below hba
  have M5 := hS'h.out.below hba
  clear x0 H'h C'h hb'h hS'h M0'h M1'h M2'h M3'h M4'h
  generalize (u5.alloc (.cells #[.slice sp5 n5 cap5] 24)).alloc (.cells #[.int .i64 0, .int .u64 0, .bool false, .slice none 0 0] 35) = V6 at H hba M0 M1 M2 M3 M4 M5 ⊢
  clear hba
  have H'h := Lib.hid H
  have M0'h := Lib.hid M0
  have M1'h := Lib.hid M1
  have M2'h := Lib.hid M2
  have M3'h := Lib.hid M3
  have M4'h := Lib.hid M4
  have M5'h := Lib.hid M5
  clear H M0 M1 M2 M3 M4 M5
  have H := H'h.out
  have M0 := M0'h.out
  have M1 := M1'h.out
  have M2 := M2'h.out
  have M3 := M3'h.out
  have M4 := M4'h.out
  have M5 := M5'h.out
  have hbk := H.rows.2.2.2.2.2.2.2.2.2.2.2.2.1
  have C := sw1_any sp4 n4 cap4 (delP (insP qs key wth) key) 5 key wth 0 (w.heap.size + 1) wth false V6 M4 (up_del (up_ins hup'h.out key wth) key) (by have := hN4; omega) (by decide) hbk F'h.out.i
  rw [F'h.out.o] at C
  have x0 : V6.cell? ⟨u4.heap.size, 0, none⟩ = some (.slice sp4 n4 cap4) := blk_cell (i := 0) H.rows.2.2.2.1 rfl
  clear hbk H'h M0'h M1'h M2'h M3'h M4'h M5'h
  have H'h := Lib.hid H
  have C'h := Lib.hid C
  have M0'h := Lib.hid M0
  have M1'h := Lib.hid M1
  have M2'h := Lib.hid M2
  have M3'h := Lib.hid M3
  have M4'h := Lib.hid M4
  have M5'h := Lib.hid M5
  clear H C M0 M1 M2 M3 M4 M5
  go_upto_region 16 with (go_at_call 22; refine C'h.out.mono ?_; rintro e u6 ⟨sp6, n6, cap6, rfl, hb, hS⟩; have hb'h := Lib.hid hb; have hS'h := Lib.hid hS; clear hb hS)
  have H := (H'h.out.next hb'h.out).new2 #[.slice sp6 n6 cap6] #[.int .i64 0, .int .u64 (wth : Int), .bool false, .slice none 0 0] 24 35
  have hba : Below u6.heap.size u6 ((u6.alloc (.cells #[.slice sp6 n6 cap6] 24)).alloc (.cells #[.int .i64 0, .int .u64 (wth : Int), .bool false, .slice none 0 0] 35)) := ((Below.refl _ _).alloc (Nat.le_refl _) _).alloc (by simp) _
  have M0 := (M0'h.out.below hb'h.out).below hba
  have M1 := (M1'h.out.below hb'h.out).below hba
  have M2 := (M2'h.out.below hb'h.out).below hba
  have M3 := (M3'h.out.below hb'h.out).below hba
  have M4 := (M4'h.out.below hb'h.out).below hba
  have M5 := (M5'h.out.below hb'h.out).below hba
  have M6 := hS'h.out.below hba
  clear x0 H'h C'h hb'h hS'h M0'h M1'h M2'h M3'h M4'h M5'h
  generalize (u6.alloc (.cells #[.slice sp6 n6 cap6] 24)).alloc (.cells #[.int .i64 0, .int .u64 (wth : Int), .bool false, .slice none 0 0] 35) = V7 at H hba M0 M1 M2 M3 M4 M5 M6 ⊢
  clear hba
  have H'h := Lib.hid H
  have M0'h := Lib.hid M0
  have M1'h := Lib.hid M1
  have M2'h := Lib.hid M2
  have M3'h := Lib.hid M3
  have M4'h := Lib.hid M4
  have M5'h := Lib.hid M5
  have M6'h := Lib.hid M6
  clear H M0 M1 M2 M3 M4 M5 M6
  have y31 : V7.cell? ⟨u3.heap.size + 1, 1, none⟩ = some (.int .u64 (wth : Int)) := blk_cell (i := 1) H'h.out.rows.2.2.2.2.2.2.1 rfl
  have y32 : V7.cell? ⟨u3.heap.size + 1, 2, none⟩ = some (.bool true) := blk_cell (i := 2) H'h.out.rows.2.2.2.2.2.2.1 rfl
  have y41 : V7.cell? ⟨u4.heap.size + 1, 1, none⟩ = some (.int .u64 (wth : Int)) := blk_cell (i := 1) H'h.out.rows.2.2.2.2.1 rfl
  have y42 : V7.cell? ⟨u4.heap.size + 1, 2, none⟩ = some (.bool true) := blk_cell (i := 2) H'h.out.rows.2.2.2.2.1 rfl
  have y51 : V7.cell? ⟨u5.heap.size + 1, 1, none⟩ = some (.int .u64 0) := blk_cell (i := 1) H'h.out.rows.2.2.1 rfl
  have y52 : V7.cell? ⟨u5.heap.size + 1, 2, none⟩ = some (.bool false) := blk_cell (i := 2) H'h.out.rows.2.2.1 rfl
  have y61 : V7.cell? ⟨u6.heap.size + 1, 1, none⟩ = some (.int .u64 (wth : Int)) := blk_cell (i := 1) H'h.out.rows.1 rfl
  have y62 : V7.cell? ⟨u6.heap.size + 1, 2, none⟩ = some (.bool false) := blk_cell (i := 2) H'h.out.rows.1 rfl
  have x2 : V7.cell? ⟨u2.heap.size, 0, none⟩ = some (.slice sp2 n2 cap2) := blk_cell (i := 0) H'h.out.rows.2.2.2.2.2.2.2.2.2.1 rfl
  have x3 : V7.cell? ⟨u3.heap.size, 0, none⟩ = some (.slice sp3 n3 cap3) := blk_cell (i := 0) H'h.out.rows.2.2.2.2.2.2.2.1 rfl
  have x6 : V7.cell? ⟨u6.heap.size, 0, none⟩ = some (.slice sp6 n6 cap6) := blk_cell (i := 0) H'h.out.rows.2.1 rfl
  have SA : ∀ W, Below V7.heap.size V7 W → Calls Try.prog 14 #[.agg #[.slice sp3 n3 cap3], .agg #[.slice sp2 n2 cap2]] W fun e w' => e = .returned (.bool true) ∧ Below W.heap.size W w' := fun W hb => same_self _ _ _ _ _ _ _ _ (M3'h.out.below hb) (M2'h.out.below hb)
  have SB : ∀ W, Below V7.heap.size V7 W → Calls Try.prog 14 #[.agg #[.slice sp6 n6 cap6], .agg #[.slice sp2 n2 cap2]] W fun e w' => e = .returned (.bool true) ∧ Below W.heap.size W w' := fun W hb => same_self _ _ _ _ _ _ _ _ (M6'h.out.below hb) (M2'h.out.below hb)
  have e1 : ((wth : Int) == (wth : Int)) = true := by simp
  have hbq : Below V7.heap.size V7 V7 := Below.refl _ _
  have SA'h := Lib.hid SA
  have SB'h := Lib.hid SB
  have hbq'h := Lib.hid hbq
  clear SA SB hbq
  go_wp2_with (first | (go_at_call 14; refine (SA'h.out _ hbq'h.out).mono ?_; rintro e z2 ⟨rfl, hb⟩; have y31 := (hb.cell (lt_of_cell y31)).trans y31; have y32 := (hb.cell (lt_of_cell y32)).trans y32; have y41 := (hb.cell (lt_of_cell y41)).trans y41; have y42 := (hb.cell (lt_of_cell y42)).trans y42; have y51 := (hb.cell (lt_of_cell y51)).trans y51; have y52 := (hb.cell (lt_of_cell y52)).trans y52; have y61 := (hb.cell (lt_of_cell y61)).trans y61; have y62 := (hb.cell (lt_of_cell y62)).trans y62; have x2 := (hb.cell (lt_of_cell x2)).trans x2; have x3 := (hb.cell (lt_of_cell x3)).trans x3; have x6 := (hb.cell (lt_of_cell x6)).trans x6; have hbq'h := Lib.hid hb; clear SA'h hb) | (go_at_call 14; refine (SB'h.out _ hbq'h.out).mono ?_; rintro e z3 ⟨rfl, hb⟩; have hbr'h := Lib.hid hb; clear hb))
  go_ret
  exact ⟨rfl, below_next (below_next H'h.out.old hbq'h.out) hbr'h.out⟩
end Go.Proofs.Ytihccjmmnpldjaa
