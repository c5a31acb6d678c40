/-
  ModelTurns: the walk.
-/
import Derived.Test.YtihccjmmnpldjaaModelW
import Derived.Test.YtihccjmmnpldjaaOpenM
set_option linter.unusedSimpArgs false
set_option linter.unusedVariables false
set_option maxRecDepth 100000
namespace Go.Proofs.Ytihccjmmnpldjaa
open Go.RowKit

def runErr (l : List Cl) (ps : Ps) : Int := if upB ps then (if l.all isOp then 0 else 341) else 340
def RunAny (l : List Cl) (ps : Ps) (w : World) (e : Ending) (w' : World) : Prop :=
  ∃ sp' n' cap' sa na ca, e = .returned (.tuple #[.agg #[.slice sp' n' cap'], .slice sa na ca, .int .i64 (runErr l ps)]) ∧ Below w.heap.size w w' ∧ (runErr l ps = 0 → upB ps = true ∧ SlK w' 2 sp' n' (prs (mapP l ps l.length)) ∧ SlK w' 4 sa na (ans (ansK l ps l.length)))
theorem mRun_any (sp slc : Option Addr) (n cap nc capc : Nat) (ps : Ps) (l : List Cl) (w : World) (h : SlK w 2 sp n (prs ps)) (hc : SlK w 4 slc nc (cls l)) (h6 : ∀ c ∈ l, c.op ≠ 6) (hn : ps.length + l.length ≤ 4096) :
    Calls Try.prog 21 #[.agg #[.slice sp n cap], .slice slc nc capc] w (RunAny l ps w) := by
  cases hu : upB ps with
  | false =>
    have he : runErr l ps = 340 := by unfold runErr; rw [hu]; rfl
    refine (mRun_map sp slc n cap nc capc ps w h hu).mono ?_
    rintro e w' ⟨rfl, hb⟩
    exact ⟨none, 0, 0, none, 0, 0, by rw [he], hb, fun h => by rw [he] at h; cases h⟩
  | true =>
    refine (mRun_yes sp slc n cap nc capc ps l w h hc hu h6 hn).mono ?_
    rintro e w' ⟨hb, hr⟩
    cases ha : l.all isOp with
    | true =>
      have he : runErr l ps = 0 := by unfold runErr; rw [hu, ha]; rfl
      rw [if_pos ha] at hr
      obtain ⟨sp', n', cap', sa, na, ca, rfl, h1, h2, _, _⟩ := hr
      exact ⟨sp', n', cap', sa, na, ca, by rw [he], hb, fun _ => ⟨hu, h1, h2⟩⟩
    | false =>
      have he : runErr l ps = 341 := by unfold runErr; rw [hu, ha]; rfl
      rw [if_neg (by rw [ha]; decide)] at hr
      subst hr
      exact ⟨none, 0, 0, none, 0, 0, by rw [he], hb, fun h => by rw [he] at h; cases h⟩
theorem alike_self (A : An) (W : World) : Calls Try.prog 19 #[.agg #[.int .i64 A.err, .int .u64 (A.val : Int), .bool A.done, .slice none 0 0], .agg #[.int .i64 A.err, .int .u64 (A.val : Int), .bool A.done, .slice none 0 0]] W fun e w' => e = .returned (.bool true) ∧ Below W.heap.size W w' := by
  have := malike_any A A none none 0 0 0 0 [] [] W (SlK.nil _ _ _) (SlK.nil _ _ _)
  rwa [show alikeB A A [] [] = true by unfold alikeB; simp] at this
theorem same_self (sp sp' : Option Addr) (n n' cap cap' : Nat) (a : Ps) (W : World) (ha : SlK W 2 sp n (prs a)) (hb : SlK W 2 sp' n' (prs a)) :
    Calls Try.prog 14 #[.agg #[.slice sp n cap], .agg #[.slice sp' n' cap']] W fun e w' => e = .returned (.bool true) ∧ Below W.heap.size W w' := by
  have := msame_any sp sp' n n' cap cap' a a W ha hb
  rwa [show decide (a = a) = true by simp] at this
set_option maxHeartbeats 8000000 in
theorem walk_ModelTurns (sp : Option Addr) (n cap : Nat) (ps : Ps) (c d : Cl) (w : World) (hin : RowIn w sp n cap ps) (hc : ClOk c) (hd : ClOk d) :
    Calls Try.prog 5 #[.agg #[.slice sp n cap], .agg (clA c), .agg (clA d)] w fun e w' => e = .returned (.bool true) ∧ Below w.heap.size w w' := by
  obtain ⟨o1, k1, a1, b1⟩ := c
  obtain ⟨o2, k2, a2, b2⟩ := d
  have H0 := ((Hs.nil w).new2 #[.slice sp n cap] (clA ⟨o1, k1, a1, b1⟩) 24 33).new (clA ⟨o2, k2, a2, b2⟩) 33
  simp only [World.size_alloc] at H0
  obtain ⟨W0, hW0⟩ : ∃ W0, W0 = ((w.alloc (.cells #[.slice sp n cap] 24)).alloc (.cells (clA ⟨o1, k1, a1, b1⟩) 33)).alloc (.cells (clA ⟨o2, k2, a2, b2⟩) 33) := ⟨_, rfl⟩
  rw [← hW0] at H0
  obtain ⟨hsl, _, hnil, hle⟩ := hin
  obtain ⟨qs, hqs⟩ : ∃ qs, qs = ps.take 40 := ⟨_, rfl⟩
  have hql : qs.length ≤ 40 := by rw [hqs, List.length_take]; omega
  obtain ⟨m, hm⟩ : ∃ m, m = min n 40 := ⟨_, rfl⟩
  have H0'h := Lib.hid H0
  have hW0'h := Lib.hid hW0
  have hsl'h := Lib.hid hsl
  have hnil'h := Lib.hid hnil
  have hle'h := Lib.hid hle
  have hc'h := Lib.hid hc
  have hd'h := Lib.hid hd
  have hqs'h := Lib.hid hqs
  have hm'h := Lib.hid hm
  clear H0 hW0 hsl hnil hle hc hd hqs hm
  go_enter Try.func5, Try.ntmps5
  go_upto_region 1 with fail
  change Code.wp _ _ _ _ (((w.alloc (.cells #[.slice sp n cap] 24)).alloc (.cells (clA ⟨o1, k1, a1, b1⟩) 33)).alloc (.cells (clA ⟨o2, k2, a2, b2⟩) 33))
  rw [← hW0'h.out]
  go_upto_region 3 with (go_at_call 7; refine (wakes_any _).mono ?_; rintro e w1 ⟨rfl, hb1⟩)
  have H1 := H0'h.out.next hb1
  have OW := own_any sp n cap ps w1 (hsl'h.out.below H1.old) hnil'h.out hle'h.out
  rw [← hqs'h.out, ← hm'h.out] at OW
  have x0 : w1.cell? ⟨w.heap.size, 0, none⟩ = some (.slice sp n cap) := blk_cell (i := 0) H1.rows.2.2.1 rfl
  have H1'h := Lib.hid H1
  have OW'h := Lib.hid OW
  have hb1'h := Lib.hid hb1
  clear H1 OW hb1
  go_upto_region 4 with (go_at_call 8; refine OW'h.out.mono ?_; rintro e w2 ⟨sp', cap', rfl, hb2, hS2⟩; have hb2'h := Lib.hid hb2; have hS2'h := Lib.hid hS2; clear hb2 hS2)
  clear x0
  have H3 := (H1'h.out.next hb2'h.out).new #[.slice sp' m cap'] 24
  have hS3 := hS2'h.out.below (w' := w2.alloc (.cells #[.slice sp' m cap'] 24)) ((Below.refl _ _).alloc (Nat.le_refl _) _)
  generalize w2.alloc (.cells #[.slice sp' m cap'] 24) = W3 at H3 hS3 ⊢
  have x0 : W3.cell? ⟨w2.heap.size, 0, none⟩ = some (.slice sp' m cap') := blk_cell (i := 0) H3.rows.1 rfl
  have c0 : W3.cell? ⟨w.heap.size + 1, 0, none⟩ = some (.int .i64 o1) := blk_cell (i := 0) H3.rows.2.2.1 rfl
  have c1 : W3.cell? ⟨w.heap.size + 1, 1, none⟩ = some (.int .u64 (k1 : Int)) := blk_cell (i := 1) H3.rows.2.2.1 rfl
  have c2 : W3.cell? ⟨w.heap.size + 1, 2, none⟩ = some (.int .u64 (a1 : Int)) := blk_cell (i := 2) H3.rows.2.2.1 rfl
  have c3 : W3.cell? ⟨w.heap.size + 1, 3, none⟩ = some (.int .u64 (b1 : Int)) := blk_cell (i := 3) H3.rows.2.2.1 rfl
  have d0 : W3.cell? ⟨w.heap.size + 1 + 1, 0, none⟩ = some (.int .i64 o2) := blk_cell (i := 0) H3.rows.2.1 rfl
  have d1 : W3.cell? ⟨w.heap.size + 1 + 1, 1, none⟩ = some (.int .u64 (k2 : Int)) := blk_cell (i := 1) H3.rows.2.1 rfl
  have d2 : W3.cell? ⟨w.heap.size + 1 + 1, 2, none⟩ = some (.int .u64 (a2 : Int)) := blk_cell (i := 2) H3.rows.2.1 rfl
  have d3 : W3.cell? ⟨w.heap.size + 1 + 1, 3, none⟩ = some (.int .u64 (b2 : Int)) := blk_cell (i := 3) H3.rows.2.1 rfl
  have hB3 := H3.old
  by_cases hA : k1 = k2
  · have t1 : ((k1 : Int) == (k2 : Int)) = true := by simp; omega
    have hA'h := Lib.hid hA
    have H3'h := Lib.hid H3
    have hS3'h := Lib.hid hS3
    have hB3'h := Lib.hid hB3
    clear hA H3 hS3 hB3
    go_wp2
    go_ret
    exact ⟨rfl, hB3'h.out⟩
  have t1 : ((k1 : Int) == (k2 : Int)) = false := by simp; omega
  by_cases hA2 : 5 < o1
  · have t2 : decide ((5 : Int) < o1) = true := by simpa using hA2
    have hA'h := Lib.hid hA
    have hA2'h := Lib.hid hA2
    have H3'h := Lib.hid H3
    have hS3'h := Lib.hid hS3
    have hB3'h := Lib.hid hB3
    clear hA hA2 H3 hS3 hB3
    go_wp2
    go_ret
    exact ⟨rfl, hB3'h.out⟩
  have t2 : decide ((5 : Int) < o1) = false := by simpa using hA2
  by_cases hA3 : 5 < o2
  · have t3 : decide ((5 : Int) < o2) = true := by simpa using hA3
    have hA'h := Lib.hid hA
    have hA2'h := Lib.hid hA2
    have hA3'h := Lib.hid hA3
    have H3'h := Lib.hid H3
    have hS3'h := Lib.hid hS3
    have hB3'h := Lib.hid hB3
    clear hA hA2 hA3 H3 hS3 hB3
    go_wp2
    go_ret
    exact ⟨rfl, hB3'h.out⟩
  have t3 : decide ((5 : Int) < o2) = false := by simpa using hA3
  have hA'h := Lib.hid hA
  have hA2'h := Lib.hid hA2
  have hA3'h := Lib.hid hA3
  have H3'h := Lib.hid H3
  have hS3'h := Lib.hid hS3
  have hB3'h := Lib.hid hB3
  clear hA hA2 hA3 H3 hS3 hB3
  obtain ⟨l1, hl1⟩ : ∃ l : List Cl, l = [⟨o1, k1, a1, b1⟩, ⟨o2, k2, a2, b2⟩] := ⟨_, rfl⟩
  obtain ⟨l2, hl2⟩ : ∃ l : List Cl, l = [⟨o2, k2, a2, b2⟩, ⟨o1, k1, a1, b1⟩] := ⟨_, rfl⟩
  have h56 : o1 ≠ 6 ∧ o2 ≠ 6 := by have := hA2'h.out; have := hA3'h.out; omega
  have hs1 : ∀ c ∈ l1, c.op ≠ 6 := by
    rw [hl1]; intro c hc; simp at hc
    rcases hc with rfl | rfl
    · exact h56.1
    · exact h56.2
  have hs2 : ∀ c ∈ l2, c.op ≠ 6 := by
    rw [hl2]; intro c hc; simp at hc
    rcases hc with rfl | rfl
    · exact h56.2
    · exact h56.1
  clear h56
  have hn1 : l1.length = 2 := by rw [hl1]; rfl
  have hn2 : l2.length = 2 := by rw [hl2]; rfl
  have hee : runErr l2 qs = runErr l1 qs := by
    unfold runErr
    rw [hl1, hl2]
    simp only [List.all_cons, List.all_nil, Bool.and_true]
    rw [Bool.and_comm]
  obtain ⟨er, her⟩ : ∃ er, er = runErr l1 qs := ⟨_, rfl⟩
  obtain ⟨V, hV⟩ : ∃ V, V = W3.alloc (.cells #[.int .i64 o1, .int .u64 (k1 : Int), .int .u64 (a1 : Int), .int .u64 (b1 : Int), .int .i64 o2, .int .u64 (k2 : Int), .int .u64 (a2 : Int), .int .u64 (b2 : Int)] 33) := ⟨_, rfl⟩
  have hV3 : Below W3.heap.size W3 V := by rw [hV]; exact (Below.refl _ _).alloc (Nat.le_refl _) _
  have hc1 : SlK V 4 (some ⟨W3.heap.size, 0, none⟩) 2 (cls l1) := by rw [hl1, hV]; exact SlK.of_blk (World.alloc_heap_new _ _) rfl (by decide)
  have R1 := mRun_any sp' (some ⟨W3.heap.size, 0, none⟩) m cap' 2 2 qs l1 V (hS3'h.out.below hV3) hc1 hs1 (by omega)
  unfold RunAny at R1
  rw [← her] at R1
  have hs1'h := Lib.hid hs1
  have hs2'h := Lib.hid hs2
  have hn1'h := Lib.hid hn1
  have hn2'h := Lib.hid hn2
  have hee'h := Lib.hid hee
  have her'h := Lib.hid her
  have hV'h := Lib.hid hV
  have R1'h := Lib.hid R1
  have hl1'h := Lib.hid hl1
  have hl2'h := Lib.hid hl2
  clear hs1 hs2 hn1 hn2 hee her hV R1 hl1 hl2
  go_wp2_with fail
  change Calls _ _ _ (W3.alloc (.cells #[.int .i64 o1, .int .u64 (k1 : Int), .int .u64 (a1 : Int), .int .u64 (b1 : Int), .int .i64 o2, .int .u64 (k2 : Int), .int .u64 (a2 : Int), .int .u64 (b2 : Int)] 33)) _
  rw [← hV'h.out]
  refine R1'h.out.mono ?_
  rintro e w5 ⟨spa, na, capa, sa, la, ca, rfl, hb5, hg5⟩
  have HA := (H3'h.out.next (below_next hV3 hb5)).new #[.slice spa na capa] 24
  have hgA : er = 0 → upB qs = true ∧ SlK (w5.alloc (.cells #[.slice spa na capa] 24)) 2 spa na (prs (mapP l1 qs l1.length)) ∧ SlK (w5.alloc (.cells #[.slice spa na capa] 24)) 4 sa la (ans (ansK l1 qs l1.length)) := fun h => by
    obtain ⟨g1, g2, g3⟩ := hg5 h
    exact ⟨g1, g2.below ((Below.refl _ _).alloc (Nat.le_refl _) _), g3.below ((Below.refl _ _).alloc (Nat.le_refl _) _)⟩
  have hSA := hS3'h.out.below ((below_next hV3 hb5).trans (((Below.refl _ _).alloc (Nat.le_refl _) _).mono (by have := (below_next hV3 hb5).size; exact this)) : Below W3.heap.size W3 (w5.alloc (.cells #[.slice spa na capa] 24)))
  clear x0 c0 c1 c2 c3 d0 d1 d2 d3 hb5 hg5 hc1 hV3
  have HA'h := Lib.hid HA
  have hgA'h := Lib.hid hgA
  have hSA'h := Lib.hid hSA
  clear HA hgA hSA
  go_upto_region 7 with fail
  generalize w5.alloc (.cells #[.slice spa na capa] 24) = W5 at *
  have x0 : W5.cell? ⟨w2.heap.size, 0, none⟩ = some (.slice sp' m cap') := blk_cell (i := 0) HA'h.out.rows.2.1 rfl
  have c0 : W5.cell? ⟨w.heap.size + 1, 0, none⟩ = some (.int .i64 o1) := blk_cell (i := 0) HA'h.out.rows.2.2.2.1 rfl
  have c1 : W5.cell? ⟨w.heap.size + 1, 1, none⟩ = some (.int .u64 (k1 : Int)) := blk_cell (i := 1) HA'h.out.rows.2.2.2.1 rfl
  have c2 : W5.cell? ⟨w.heap.size + 1, 2, none⟩ = some (.int .u64 (a1 : Int)) := blk_cell (i := 2) HA'h.out.rows.2.2.2.1 rfl
  have c3 : W5.cell? ⟨w.heap.size + 1, 3, none⟩ = some (.int .u64 (b1 : Int)) := blk_cell (i := 3) HA'h.out.rows.2.2.2.1 rfl
  have d0 : W5.cell? ⟨w.heap.size + 1 + 1, 0, none⟩ = some (.int .i64 o2) := blk_cell (i := 0) HA'h.out.rows.2.2.1 rfl
  have d1 : W5.cell? ⟨w.heap.size + 1 + 1, 1, none⟩ = some (.int .u64 (k2 : Int)) := blk_cell (i := 1) HA'h.out.rows.2.2.1 rfl
  have d2 : W5.cell? ⟨w.heap.size + 1 + 1, 2, none⟩ = some (.int .u64 (a2 : Int)) := blk_cell (i := 2) HA'h.out.rows.2.2.1 rfl
  have d3 : W5.cell? ⟨w.heap.size + 1 + 1, 3, none⟩ = some (.int .u64 (b2 : Int)) := blk_cell (i := 3) HA'h.out.rows.2.2.1 rfl
  obtain ⟨V2, hV2⟩ : ∃ V, V = W5.alloc (.cells #[.int .i64 o2, .int .u64 (k2 : Int), .int .u64 (a2 : Int), .int .u64 (b2 : Int), .int .i64 o1, .int .u64 (k1 : Int), .int .u64 (a1 : Int), .int .u64 (b1 : Int)] 33) := ⟨_, rfl⟩
  have hV5 : Below W5.heap.size W5 V2 := by rw [hV2]; exact (Below.refl _ _).alloc (Nat.le_refl _) _
  have hc2 : SlK V2 4 (some ⟨W5.heap.size, 0, none⟩) 2 (cls l2) := by rw [hl2'h.out, hV2]; exact SlK.of_blk (World.alloc_heap_new _ _) rfl (by decide)
  have R2 := mRun_any sp' (some ⟨W5.heap.size, 0, none⟩) m cap' 2 2 qs l2 V2 (hSA'h.out.below hV5) hc2 hs2'h.out (by have := hn2'h.out; omega)
  unfold RunAny at R2
  rw [hee'h.out, ← her'h.out] at R2
  have hV2'h := Lib.hid hV2
  have R2'h := Lib.hid R2
  clear hV2 R2
  go_wp2_with fail
  change Calls _ _ _ (W5.alloc (.cells #[.int .i64 o2, .int .u64 (k2 : Int), .int .u64 (a2 : Int), .int .u64 (b2 : Int), .int .i64 o1, .int .u64 (k1 : Int), .int .u64 (a1 : Int), .int .u64 (b1 : Int)] 33)) _
  rw [← hV2'h.out]
  refine R2'h.out.mono ?_
  rintro e w7 ⟨spb, nb, capb, sb, lb, cb, rfl, hb7, hg7⟩
  have hb57 := below_next hV5 hb7
  have HB := (HA'h.out.next hb57).new #[.slice spb nb capb] 24
  have hbx : Below w7.heap.size w7 (w7.alloc (.cells #[.slice spb nb capb] 24)) := (Below.refl _ _).alloc (Nat.le_refl _) _
  have hgB : er = 0 → upB qs = true ∧ (SlK (w7.alloc (.cells #[.slice spb nb capb] 24)) 2 spa na (prs (mapP l1 qs l1.length)) ∧ SlK (w7.alloc (.cells #[.slice spb nb capb] 24)) 4 sa la (ans (ansK l1 qs l1.length))) ∧ (SlK (w7.alloc (.cells #[.slice spb nb capb] 24)) 2 spb nb (prs (mapP l2 qs l2.length)) ∧ SlK (w7.alloc (.cells #[.slice spb nb capb] 24)) 4 sb lb (ans (ansK l2 qs l2.length))) := fun h => by
    obtain ⟨g1, g2, g3⟩ := hg7 h
    obtain ⟨_, g4, g5⟩ := hgA'h.out h
    exact ⟨g1, ⟨(g4.below hb57).below hbx, (g5.below hb57).below hbx⟩, g2.below hbx, g3.below hbx⟩
  clear x0 c0 c1 c2 c3 d0 d1 d2 d3 hb57 hb7 hg7 hc2 hV5 hbx
  have HB'h := Lib.hid HB
  have hgB'h := Lib.hid hgB
  clear HB hgB
  go_upto_region 8 with fail
  generalize w7.alloc (.cells #[.slice spb nb capb] 24) = W7 at *
  by_cases he0 : er = 0
  · obtain ⟨hup, ⟨gA1, gA2⟩, gB1, gB2⟩ := hgB'h.out he0
    subst he0
    have hla : la = 2 := by have := slk_len anL_len (by decide) gA2; rw [ansK_len, hn1'h.out] at this; exact this
    have hlb : lb = 2 := by have := slk_len anL_len (by decide) gB2; rw [ansK_len, hn2'h.out] at this; exact this
    subst hla
    subst hlb
    obtain ⟨ba, offa, rfl⟩ := slk_some gA2 (by decide)
    obtain ⟨bb, offb, rfl⟩ := slk_some gB2 (by decide)
    obtain ⟨A0, hA0⟩ : ∃ A0, A0 = tellA ⟨o1, k1, a1, b1⟩ qs := ⟨_, rfl⟩
    obtain ⟨A1, hA1⟩ : ∃ A1, A1 = tellA ⟨o2, k2, a2, b2⟩ qs := ⟨_, rfl⟩
    have hkne : k1 ≠ k2 := hA'h.out
    have eA : ansK l1 qs l1.length = [A0, A1] := by
      rw [hn1'h.out, hl1'h.out, hA0, hA1, ← turns_tell hup (c := ⟨o1, k1, a1, b1⟩) (d := ⟨o2, k2, a2, b2⟩) hkne (by have := hA3'h.out; simp only; omega)]
      rfl
    have eB : ansK l2 qs l2.length = [A1, A0] := by
      rw [hn2'h.out, hl2'h.out, hA0, hA1, ← turns_tell hup (c := ⟨o2, k2, a2, b2⟩) (d := ⟨o1, k1, a1, b1⟩) (fun e => hkne e.symm) (by have := hA2'h.out; simp only; omega)]
      rfl
    have eM : mapP l2 qs l2.length = mapP l1 qs l1.length := by
      rw [hn1'h.out, hn2'h.out, hl1'h.out, hl2'h.out]
      exact turns_next hup (c := ⟨o2, k2, a2, b2⟩) (d := ⟨o1, k1, a1, b1⟩) (fun e => hkne e.symm)
    rw [eA] at gA2
    rw [eB] at gB2
    rw [eM] at gB1
    clear hA0 hA1 eA eB eM hkne
    have m1 : W7.cell? ⟨w5.heap.size, 0, none⟩ = some (.slice spa na capa) := blk_cell (i := 0) HB'h.out.rows.2.1 rfl
    have m2 : W7.cell? ⟨w7.heap.size, 0, none⟩ = some (.slice spb nb capb) := blk_cell (i := 0) HB'h.out.rows.1 rfl
    have p0 : W7.cell? ⟨ba, offa, none⟩ = some (.int .i64 A0.err) := by have := slk_cell anL_len gA2 (j := 0) (i := 0) rfl (by decide) rfl; simpa using this
    have p1 : W7.cell? ⟨ba, offa + 1, none⟩ = some (.int .u64 (A0.val : Int)) := by have := slk_cell anL_len gA2 (j := 0) (i := 1) rfl (by decide) rfl; simpa using this
    have p2 : W7.cell? ⟨ba, offa + 2, none⟩ = some (.bool A0.done) := by have := slk_cell anL_len gA2 (j := 0) (i := 2) rfl (by decide) rfl; simpa using this
    have p3 : W7.cell? ⟨ba, offa + 3, none⟩ = some (.slice none 0 0) := by have := slk_cell anL_len gA2 (j := 0) (i := 3) rfl (by decide) rfl; simpa using this
    have p4 : W7.cell? ⟨ba, offa + 4, none⟩ = some (.int .i64 A1.err) := by have := slk_cell anL_len gA2 (j := 1) (i := 0) rfl (by decide) rfl; simpa using this
    have p5 : W7.cell? ⟨ba, offa + 4 + 1, none⟩ = some (.int .u64 (A1.val : Int)) := by have := slk_cell anL_len gA2 (j := 1) (i := 1) rfl (by decide) rfl; simpa using this
    have p6 : W7.cell? ⟨ba, offa + 4 + 2, none⟩ = some (.bool A1.done) := by have := slk_cell anL_len gA2 (j := 1) (i := 2) rfl (by decide) rfl; simpa using this
    have p7 : W7.cell? ⟨ba, offa + 4 + 3, none⟩ = some (.slice none 0 0) := by have := slk_cell anL_len gA2 (j := 1) (i := 3) rfl (by decide) rfl; simpa using this
    have q0 : W7.cell? ⟨bb, offb, none⟩ = some (.int .i64 A1.err) := by have := slk_cell anL_len gB2 (j := 0) (i := 0) rfl (by decide) rfl; simpa using this
    have q1 : W7.cell? ⟨bb, offb + 1, none⟩ = some (.int .u64 (A1.val : Int)) := by have := slk_cell anL_len gB2 (j := 0) (i := 1) rfl (by decide) rfl; simpa using this
    have q2 : W7.cell? ⟨bb, offb + 2, none⟩ = some (.bool A1.done) := by have := slk_cell anL_len gB2 (j := 0) (i := 2) rfl (by decide) rfl; simpa using this
    have q3 : W7.cell? ⟨bb, offb + 3, none⟩ = some (.slice none 0 0) := by have := slk_cell anL_len gB2 (j := 0) (i := 3) rfl (by decide) rfl; simpa using this
    have q4 : W7.cell? ⟨bb, offb + 4, none⟩ = some (.int .i64 A0.err) := by have := slk_cell anL_len gB2 (j := 1) (i := 0) rfl (by decide) rfl; simpa using this
    have q5 : W7.cell? ⟨bb, offb + 4 + 1, none⟩ = some (.int .u64 (A0.val : Int)) := by have := slk_cell anL_len gB2 (j := 1) (i := 1) rfl (by decide) rfl; simpa using this
    have q6 : W7.cell? ⟨bb, offb + 4 + 2, none⟩ = some (.bool A0.done) := by have := slk_cell anL_len gB2 (j := 1) (i := 2) rfl (by decide) rfl; simpa using this
    have q7 : W7.cell? ⟨bb, offb + 4 + 3, none⟩ = some (.slice none 0 0) := by have := slk_cell anL_len gB2 (j := 1) (i := 3) rfl (by decide) rfl; simpa using this
    have SM : ∀ W, Below W7.heap.size W7 W → Calls Try.prog 14 #[.agg #[.slice spa na capa], .agg #[.slice spb nb capb]] W fun e w' => e = .returned (.bool true) ∧ Below W.heap.size W w' := fun W hb => same_self spa spb na nb capa capb _ W (gA1.below hb) (gB1.below hb)
    have hbd : Below W7.heap.size W7 W7.drew := Below.drew (Below.refl _ _)
    have t1 : ((0 : Int) != 0) = false := rfl
    have hup'h := Lib.hid hup
    have gA1'h := Lib.hid gA1
    have gA2'h := Lib.hid gA2
    have gB1'h := Lib.hid gB1
    have gB2'h := Lib.hid gB2
    have SM'h := Lib.hid SM
    have hbd'h := Lib.hid hbd
    clear hup gA1 gA2 gB1 gB2 SM hbd
    clear t1
    go_upto_region 10 with fail
    go_region_held3 (fun w' => w'.cell? ⟨w5.heap.size, 0, none⟩ = some (.slice spa na capa) ∧ w'.cell? ⟨w7.heap.size, 0, none⟩ = some (.slice spb nb capb) ∧ w'.cell? ⟨ba, offa, none⟩ = some (.int .i64 A0.err) ∧ w'.cell? ⟨ba, offa + 1, none⟩ = some (.int .u64 (A0.val : Int)) ∧ w'.cell? ⟨ba, offa + 2, none⟩ = some (.bool A0.done) ∧ w'.cell? ⟨ba, offa + 3, none⟩ = some (.slice none 0 0) ∧ w'.cell? ⟨ba, offa + 4, none⟩ = some (.int .i64 A1.err) ∧ w'.cell? ⟨ba, offa + 4 + 1, none⟩ = some (.int .u64 (A1.val : Int)) ∧ w'.cell? ⟨ba, offa + 4 + 2, none⟩ = some (.bool A1.done) ∧ w'.cell? ⟨ba, offa + 4 + 3, none⟩ = some (.slice none 0 0) ∧ w'.cell? ⟨bb, offb, none⟩ = some (.int .i64 A1.err) ∧ w'.cell? ⟨bb, offb + 1, none⟩ = some (.int .u64 (A1.val : Int)) ∧ w'.cell? ⟨bb, offb + 2, none⟩ = some (.bool A1.done) ∧ w'.cell? ⟨bb, offb + 3, none⟩ = some (.slice none 0 0) ∧ w'.cell? ⟨bb, offb + 4, none⟩ = some (.int .i64 A0.err) ∧ w'.cell? ⟨bb, offb + 4 + 1, none⟩ = some (.int .u64 (A0.val : Int)) ∧ w'.cell? ⟨bb, offb + 4 + 2, none⟩ = some (.bool A0.done) ∧ w'.cell? ⟨bb, offb + 4 + 3, none⟩ = some (.slice none 0 0)) (go_keep) (first | (go_at_call 14; refine (SM'h.out _ hbd'h.out).mono ?_; rintro e w8 ⟨rfl, hb⟩; replace m1 := (hb.cell (lt_of_cell m1)).trans m1; replace m2 := (hb.cell (lt_of_cell m2)).trans m2; replace p0 := (hb.cell (lt_of_cell p0)).trans p0; replace p1 := (hb.cell (lt_of_cell p1)).trans p1; replace p2 := (hb.cell (lt_of_cell p2)).trans p2; replace p3 := (hb.cell (lt_of_cell p3)).trans p3; replace p4 := (hb.cell (lt_of_cell p4)).trans p4; replace p5 := (hb.cell (lt_of_cell p5)).trans p5; replace p6 := (hb.cell (lt_of_cell p6)).trans p6; replace p7 := (hb.cell (lt_of_cell p7)).trans p7; replace q0 := (hb.cell (lt_of_cell q0)).trans q0; replace q1 := (hb.cell (lt_of_cell q1)).trans q1; replace q2 := (hb.cell (lt_of_cell q2)).trans q2; replace q3 := (hb.cell (lt_of_cell q3)).trans q3; replace q4 := (hb.cell (lt_of_cell q4)).trans q4; replace q5 := (hb.cell (lt_of_cell q5)).trans q5; replace q6 := (hb.cell (lt_of_cell q6)).trans q6; replace q7 := (hb.cell (lt_of_cell q7)).trans q7; have hbd'h := Lib.hid (below_next hbd'h.out hb); clear hb) | (go_at_call 19; refine (alike_self _ _).mono ?_; rintro e w9 ⟨rfl, hb⟩; replace m1 := (hb.cell (lt_of_cell m1)).trans m1; replace m2 := (hb.cell (lt_of_cell m2)).trans m2; replace p0 := (hb.cell (lt_of_cell p0)).trans p0; replace p1 := (hb.cell (lt_of_cell p1)).trans p1; replace p2 := (hb.cell (lt_of_cell p2)).trans p2; replace p3 := (hb.cell (lt_of_cell p3)).trans p3; replace p4 := (hb.cell (lt_of_cell p4)).trans p4; replace p5 := (hb.cell (lt_of_cell p5)).trans p5; replace p6 := (hb.cell (lt_of_cell p6)).trans p6; replace p7 := (hb.cell (lt_of_cell p7)).trans p7; replace q0 := (hb.cell (lt_of_cell q0)).trans q0; replace q1 := (hb.cell (lt_of_cell q1)).trans q1; replace q2 := (hb.cell (lt_of_cell q2)).trans q2; replace q3 := (hb.cell (lt_of_cell q3)).trans q3; replace q4 := (hb.cell (lt_of_cell q4)).trans q4; replace q5 := (hb.cell (lt_of_cell q5)).trans q5; replace q6 := (hb.cell (lt_of_cell q6)).trans q6; replace q7 := (hb.cell (lt_of_cell q7)).trans q7; have hbd'h := Lib.hid (below_next hbd'h.out hb); clear hb))
    all_goals
      go_wp2
      go_ret
      exact ⟨rfl, below_next HB'h.out.old hbd'h.out⟩
  · have t1 : (er != 0) = true := by simpa using he0
    have t2 : (er == er) = true := by simp
    have he0'h := Lib.hid he0
    clear he0
    go_wp2
    go_ret
    exact ⟨rfl, HB'h.out.old⟩
end Go.Proofs.Ytihccjmmnpldjaa
