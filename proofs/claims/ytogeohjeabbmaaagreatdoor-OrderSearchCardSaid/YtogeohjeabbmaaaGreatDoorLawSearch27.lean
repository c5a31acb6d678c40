/-
 Layer 27 (order): the first order that bears calls out.
-/
import Derived.Test.YtogeohjeabbmaaaGreatDoorDocZ
import Derived.Test.YtogeohjeabbmaaaGreatDoorZk
set_option linter.unusedSimpArgs false
set_option linter.unusedVariables false
set_option maxRecDepth 100000
namespace Go.Proofs.YtogeohjeabbmaaaGreatDoor
open Go.RowKit

set_option maxHeartbeats 8000000 in
theorem walk_OrderSearch (xp : Option Addr) (xn xc : Nat) (xs : List Mm) (w : World) (hT : Tks w) (hx : MsIn w xp xn xs) (hnil : xp = none → xc = 0) (hle : xn ≤ xc) (hfr : ∀ g, xp.map (·.block) = some g → xn ≠ 0 → g < w.heap.size) :
  Calls Tryz.prog 4 #[.slice xp xn xc] w fun e w' => e = .returned (.bool true) ∧ Below w.heap.size w w' := by
 have WK := wakes27_any w hT
 have hXW := fun W (hb : Below w.heap.size w W) => hx.below hb
 clear hfr hx
 have WK'h := Lib.hid WK
 have hT'h := Lib.hid hT
 have hXW'h := Lib.hid hXW
 have hnil'h := Lib.hid hnil
 have hle'h := Lib.hid hle
 clear WK hT hXW hnil hle
 go_enter Tryz.func4, Tryz.ntmps4
 go_wp2_with fail
 refine WK'h.out.mono ?_
 rintro e w1 ⟨rfl, hB1⟩
 have OW := own27_any xp xn xc xs w1 (hXW'h.out w1 hB1) hnil'h.out hle'h.out
 have hB1'h := Lib.hid hB1
 have OW'h := Lib.hid OW
 clear hB1 OW
 clear WK'h
 go_wp2_with fail
 refine OW'h.out.mono ?_
 rintro e w2 ⟨lp, lc, l, rfl, hb2, hM2, hll, hmd, hlc, hfar⟩
 obtain ⟨n, hn⟩ : ∃ n, n = l.length := ⟨_, rfl⟩
 rw [← hn] at hM2 hll hlc hmd ⊢
 have hB2 := below_next hB1'h.out hb2
 have hML : ∀ W, Below w2.heap.size w2 W → MsIn W lp n l := fun W hb => hM2.below hb
 have SE := search_any lp n lc l w2 (hT'h.out.next hB2) hM2 hlc
 clear hb2 hB1'h OW'h hfar hM2
 have hB2'h := Lib.hid hB2
 have hML'h := Lib.hid hML
 have hlc'h := Lib.hid hlc
 have SE'h := Lib.hid SE
 have hll'h := Lib.hid hll
 have hmd'h := Lib.hid hmd
 have hn'h := Lib.hid hn
 clear hB2 hML hlc SE hll hmd hn
 go_wp2_with fail
 refine SE'h.out.mono ?_
 rintro e w3 ⟨hC3, hcs⟩
 have DR := drightM_any lp n lc l w3 (hML'h.out w3 hC3)
 clear SE'h
 have hC3'h := Lib.hid hC3
 have DR'h := Lib.hid DR
 clear hC3 DR
 rcases hcs with ⟨hck, rfl⟩ | ⟨hck, h7, rfl⟩ | ⟨hck, h7, ⟨hsk, rfl⟩ | ⟨r, sr, cr, hsk, rfl, hSr, -, -⟩⟩
 ·
  rw [hck] at DR'h
  have hck'h := Lib.hid hck
  clear hck
  go_wp2_with fail
  refine DR'h.out.mono ?_
  rintro e w4 ⟨rfl, hb4⟩
  have hC := below_next hC3'h.out hb4
  clear hb4 hC3'h DR'h
  have hC'h := Lib.hid hC
  clear hC
  have EQ := equal_at none none 0 0 0 0 [] [] w4 (SlK.nil w4 1 none).sl (SlK.nil w4 1 none).sl
  rw [show (intsZ [] == intsZ []) = true from beq_self_eq_true _] at EQ
  have EQ'h := Lib.hid EQ
  clear EQ
  go_wp2_with fail
  refine EQ'h.out.mono ?_
  rintro e w7 ⟨rfl, d, rfl⟩
  have hC := hC'h.out.trans (below_drewN' w4 d)
  clear EQ'h hC'h
  generalize World.drewN w4 d = w7 at hC ⊢
  have hC'h := Lib.hid hC
  clear hC
  have OW := own27_any xp xn xc xs w7 (hXW'h.out w7 (below_next hB2'h.out hC'h.out)) hnil'h.out hle'h.out
  have OW'h := Lib.hid OW
  clear OW
  go_wp2_with fail
  refine OW'h.out.mono ?_
  rintro e w8 ⟨kp, kc, l2, rfl, hb8, hM8, hll8, hmd8, hlc8, hfar8⟩
  have hC8 := below_next hC'h.out hb8
  have hlen2 : l2.length = n := by have := hll'h.out; omega
  rw [hlen2] at hM8 hmd8 ⊢
  have SM := same27_self lp kp n lc kc l l2 w8 (hML'h.out w8 hC8) hM8 (fun i hi => by rw [hmd'h.out i hi, hmd8 i hi])
  clear hb8 hM8 hll8 hmd8 hlc8 hfar8 hlen2 OW'h hC'h
  have SM'h := Lib.hid SM
  have hC8'h := Lib.hid hC8
  clear SM hC8
  go_wp2_with fail
  refine SM'h.out.mono ?_
  rintro e w9 ⟨rfl, hb9⟩
  have hC9 := below_next hC8'h.out hb9
  clear hb9 SM'h hC8'h
  have hC9'h := Lib.hid hC9
  clear hC9
  go_wp2
  go_ret
  exact ⟨rfl, below_next hB2'h.out hC9'h.out⟩
 ·
  rw [hck] at DR'h
  have hck'h := Lib.hid hck
  clear hck
  rw [← hn'h.out] at h7
  go_wp2_with fail
  refine DR'h.out.mono ?_
  rintro e w4 ⟨rfl, hb4⟩
  have hC4 := below_next hC3'h.out hb4
  have DM := dmany_any lp n lc l w4 (hML'h.out w4 hC4)
  obtain ⟨k, hk⟩ : ∃ k, k = manyP l n := ⟨_, rfl⟩
  rw [← hk] at DM h7
  have i1 : ¬ (k : Int) ≤ 7 := by omega
  clear hb4 hC3'h DR'h hk h7
  have hC4'h := Lib.hid hC4
  have DM'h := Lib.hid DM
  clear hC4 DM
  go_wp2_with fail
  refine DM'h.out.mono ?_
  rintro e w5 ⟨rfl, hb5⟩
  have hC := below_next hC4'h.out hb5
  clear hb5 hC4'h DM'h
  have hC'h := Lib.hid hC
  clear hC
  have EQ := equal_at none none 0 0 0 0 [] [] w5 (SlK.nil w5 1 none).sl (SlK.nil w5 1 none).sl
  rw [show (intsZ [] == intsZ []) = true from beq_self_eq_true _] at EQ
  have EQ'h := Lib.hid EQ
  clear EQ
  go_wp2_with fail
  refine EQ'h.out.mono ?_
  rintro e w7 ⟨rfl, d, rfl⟩
  have hC := hC'h.out.trans (below_drewN' w5 d)
  clear EQ'h hC'h
  generalize World.drewN w5 d = w7 at hC ⊢
  have hC'h := Lib.hid hC
  clear hC
  have OW := own27_any xp xn xc xs w7 (hXW'h.out w7 (below_next hB2'h.out hC'h.out)) hnil'h.out hle'h.out
  have OW'h := Lib.hid OW
  clear OW
  go_wp2_with fail
  refine OW'h.out.mono ?_
  rintro e w8 ⟨kp, kc, l2, rfl, hb8, hM8, hll8, hmd8, hlc8, hfar8⟩
  have hC8 := below_next hC'h.out hb8
  have hlen2 : l2.length = n := by have := hll'h.out; omega
  rw [hlen2] at hM8 hmd8 ⊢
  have SM := same27_self lp kp n lc kc l l2 w8 (hML'h.out w8 hC8) hM8 (fun i hi => by rw [hmd'h.out i hi, hmd8 i hi])
  clear hb8 hM8 hll8 hmd8 hlc8 hfar8 hlen2 OW'h hC'h
  have SM'h := Lib.hid SM
  have hC8'h := Lib.hid hC8
  clear SM hC8
  go_wp2_with fail
  refine SM'h.out.mono ?_
  rintro e w9 ⟨rfl, hb9⟩
  have hC9 := below_next hC8'h.out hb9
  clear hb9 SM'h hC8'h
  have hC9'h := Lib.hid hC9
  clear hC9
  go_wp2
  go_ret
  exact ⟨rfl, below_next hB2'h.out hC9'h.out⟩
 ·
  rw [hck] at DR'h
  have hck' := hck
  have hck'h := Lib.hid hck
  clear hck
  rw [← hn'h.out] at h7
  go_wp2_with fail
  refine DR'h.out.mono ?_
  rintro e w4 ⟨rfl, hb4⟩
  have hC4 := below_next hC3'h.out hb4
  have DM := dmany_any lp n lc l w4 (hML'h.out w4 hC4)
  obtain ⟨k, hk⟩ : ∃ k, k = manyP l n := ⟨_, rfl⟩
  rw [← hk] at DM h7
  have i1 : (k : Int) ≤ 7 := by omega
  clear DR'h hk h7
  have hC4'h := Lib.hid hC4
  have DM'h := Lib.hid DM
  clear hC4 DM
  go_wp2_with fail
  refine DM'h.out.mono ?_
  rintro e w5 ⟨rfl, hb5⟩
  have hC5 := below_next hC4'h.out hb5
  have DS := dsearch_any lp n lc l hck' l.length [] 0 none 0 w5 ⟨rfl, by have := check_80 hck'; omega, hML'h.out w5 hC5, (SlK.nil w5 1 none).sl, Nat.le_refl _, (fun x hx => by cases hx), by show unmetK l (metR []) ≤ _; rw [metR_nil]; exact unmet_all l⟩
  clear hC4'h DM'h hck'
  have hC5'h := Lib.hid hC5
  have DS'h := Lib.hid DS
  clear hC5 DS
  go_wp2_with fail
  refine DS'h.out.mono ?_
  rintro e w6 ⟨hb6, ⟨-, rfl⟩ | ⟨q, sq, cq, hq, -, -⟩⟩
  ·
   have hC := below_next hC5'h.out hb6
   clear hb6 hC5'h DS'h
   have hC'h := Lib.hid hC
   clear hC
   have EQ := equal_at none none 0 0 0 0 [] [] w6 (SlK.nil w6 1 none).sl (SlK.nil w6 1 none).sl
   rw [show (intsZ [] == intsZ []) = true from beq_self_eq_true _] at EQ
   have EQ'h := Lib.hid EQ
   clear EQ
   go_wp2_with fail
   refine EQ'h.out.mono ?_
   rintro e w7 ⟨rfl, d, rfl⟩
   have hC := hC'h.out.trans (below_drewN' w6 d)
   clear EQ'h hC'h
   generalize World.drewN w6 d = w7 at hC ⊢
   have hC'h := Lib.hid hC
   clear hC
   have OW := own27_any xp xn xc xs w7 (hXW'h.out w7 (below_next hB2'h.out hC'h.out)) hnil'h.out hle'h.out
   have OW'h := Lib.hid OW
   clear OW
   go_wp2_with fail
   refine OW'h.out.mono ?_
   rintro e w8 ⟨kp, kc, l2, rfl, hb8, hM8, hll8, hmd8, hlc8, hfar8⟩
   have hC8 := below_next hC'h.out hb8
   have hlen2 : l2.length = n := by have := hll'h.out; omega
   rw [hlen2] at hM8 hmd8 ⊢
   have SM := same27_self lp kp n lc kc l l2 w8 (hML'h.out w8 hC8) hM8 (fun i hi => by rw [hmd'h.out i hi, hmd8 i hi])
   clear hb8 hM8 hll8 hmd8 hlc8 hfar8 hlen2 OW'h hC'h
   have SM'h := Lib.hid SM
   have hC8'h := Lib.hid hC8
   clear SM hC8
   go_wp2_with fail
   refine SM'h.out.mono ?_
   rintro e w9 ⟨rfl, hb9⟩
   have hC9 := below_next hC8'h.out hb9
   clear hb9 SM'h hC8'h
   have hC9'h := Lib.hid hC9
   clear hC9
   go_wp2
   go_ret
   exact ⟨rfl, below_next hB2'h.out hC9'h.out⟩
  ·
   rw [← seekL_doc, hsk] at hq
   cases hq
 ·
  rw [hck] at DR'h
  have hck' := hck
  have hck'h := Lib.hid hck
  clear hck
  rw [← hn'h.out] at h7
  go_wp2_with fail
  refine DR'h.out.mono ?_
  rintro e w4 ⟨rfl, hb4⟩
  have hC4 := below_next hC3'h.out hb4
  have DM := dmany_any lp n lc l w4 (hML'h.out w4 hC4)
  obtain ⟨k, hk⟩ : ∃ k, k = manyP l n := ⟨_, rfl⟩
  rw [← hk] at DM h7
  have i1 : (k : Int) ≤ 7 := by omega
  clear DR'h hk h7
  have hC4'h := Lib.hid hC4
  have DM'h := Lib.hid DM
  clear hC4 DM
  go_wp2_with fail
  refine DM'h.out.mono ?_
  rintro e w5 ⟨rfl, hb5⟩
  have hC5 := below_next hC4'h.out hb5
  have DS := dsearch_any lp n lc l hck' l.length [] 0 none 0 w5 ⟨rfl, by have := check_80 hck'; omega, hML'h.out w5 hC5, (SlK.nil w5 1 none).sl, Nat.le_refl _, (fun x hx => by cases hx), by show unmetK l (metR []) ≤ _; rw [metR_nil]; exact unmet_all l⟩
  clear hC4'h DM'h hck'
  have hC5'h := Lib.hid hC5
  have DS'h := Lib.hid DS
  clear hC5 DS
  go_wp2_with fail
  refine DS'h.out.mono ?_
  rintro e w6 ⟨hb6, ⟨hq, -⟩ | ⟨q, sq, cq, hq, rfl, hSq⟩⟩
  ·
   rw [← seekL_doc, hsk] at hq
   cases hq
  ·
   rw [← seekL_doc, hsk] at hq
   obtain rfl : r = q := by injection hq
   have hSr6 := hSr.below (below_next (below_next hb4 hb5) hb6)
   have hC := below_next hC5'h.out hb6
   clear hb6 hC5'h DS'h hSr hb4 hb5 hsk hq
   obtain ⟨k, hk⟩ : ∃ k, k = r.length := ⟨_, rfl⟩
   rw [← hk] at hSr6 hSq ⊢
   clear hk
   have hC'h := Lib.hid hC
   have hSr6'h := Lib.hid hSr6
   have hSq'h := Lib.hid hSq
   clear hC hSr6 hSq
   have EQ := equal_at sr sq k k cr cq r r w6 hSr6'h.out hSq'h.out
   rw [show (intsZ r == intsZ r) = true from beq_self_eq_true _] at EQ
   have EQ'h := Lib.hid EQ
   clear EQ
   go_wp2_with fail
   refine EQ'h.out.mono ?_
   rintro e w7 ⟨rfl, d, rfl⟩
   have hC := hC'h.out.trans (below_drewN' w6 d)
   clear EQ'h hC'h
   generalize World.drewN w6 d = w7 at hC ⊢
   have hC'h := Lib.hid hC
   clear hC
   have OW := own27_any xp xn xc xs w7 (hXW'h.out w7 (below_next hB2'h.out hC'h.out)) hnil'h.out hle'h.out
   have OW'h := Lib.hid OW
   clear OW
   go_wp2_with fail
   refine OW'h.out.mono ?_
   rintro e w8 ⟨kp, kc, l2, rfl, hb8, hM8, hll8, hmd8, hlc8, hfar8⟩
   have hC8 := below_next hC'h.out hb8
   have hlen2 : l2.length = n := by have := hll'h.out; omega
   rw [hlen2] at hM8 hmd8 ⊢
   have SM := same27_self lp kp n lc kc l l2 w8 (hML'h.out w8 hC8) hM8 (fun i hi => by rw [hmd'h.out i hi, hmd8 i hi])
   clear hb8 hM8 hll8 hmd8 hlc8 hfar8 hlen2 OW'h hC'h
   have SM'h := Lib.hid SM
   have hC8'h := Lib.hid hC8
   clear SM hC8
   go_wp2_with fail
   refine SM'h.out.mono ?_
   rintro e w9 ⟨rfl, hb9⟩
   have hC9 := below_next hC8'h.out hb9
   clear hb9 SM'h hC8'h
   have hC9'h := Lib.hid hC9
   clear hC9
   go_wp2
   go_ret
   exact ⟨rfl, below_next hB2'h.out hC9'h.out⟩
end Go.Proofs.YtogeohjeabbmaaaGreatDoor
