/-
  LookFinds: who is over has found just what the first group of the row has that has the key.
-/
import Derived.Test.YtoklgjlmjkhmbaaPz2
import Derived.Test.YtoklgjlmjkhmbaaPz0
import Derived.Test.YtoklgjlmjkhmbaaOpenSg
import Derived.Test.YtoklgjlmjkhmbaaFlat
import Derived.Deep.OwnRows
import Derived.Laws.Cover3
set_option linter.unusedSimpArgs false
set_option linter.unusedVariables false
set_option maxRecDepth 100000
namespace Go.Proofs.Ytoklgjlmjkhmbaa
open Go.RowKit

theorem finds_cells {w : World} {b off n : Nat} {ps : List (Nat × Nat)} (h : SlK w 2 (some ⟨b, off, none⟩) n (prs ps)) {k : Nat} (hk : k < ps.length) :
    w.cell? ⟨b, off + k * 2, none⟩ = some (.int .u64 ((nthP ps k).1 : Int)) ∧ w.cell? ⟨b, off + k * 2 + 1, none⟩ = some (.int .u64 ((nthP ps k).2 : Int)) := by
  have h1 := prs_at hk
  refine ⟨h.cell h1.1, ?_⟩
  have := h.cell h1.2
  rwa [show off + (k * 2 + 1) = off + k * 2 + 1 by omega] at this
theorem most_le20 (ws : List Nat) (sb hash : Nat) : mostS ws sb hash ≤ 20 := by
  by_cases hod : slabW ws sb 0 % 2 = 1
  · have h : mostS ws sb hash = 1 := by unfold mostS; exact if_pos hod
    omega
  · have l0 := length_lanesOf (equalM (slabW ws sb (4 + prB 2 (hash / 128) 0)) (hash % 128))
    have l1 := length_lanesOf (equalM (slabW ws sb (4 + prB 2 (hash / 128) 1)) (hash % 128))
    by_cases he : equalM (slabW ws sb (4 + prB 2 (hash / 128) 0)) 128 = 0
    · rw [most_two ws sb hash hod he]; omega
    · rw [most_one ws sb hash hod he]; omega
theorem made136 : (madeCells #[.int .u64 0] 136).toList = u64s (List.replicate 136 0) := by kernel_rfl
theorem splice_at {sb : Nat} (hs : sb < 2) (tw : List Nat) (ht : tw.length = 40) : splice (u64s (List.replicate 136 0)) (16 + 40 * sb) (u64s tw) = u64s (wsT sb tw) := by
  unfold splice wsT
  have h1 : (u64s (List.replicate 136 0)).take (16 + 40 * sb) = u64s (List.replicate (16 + 40 * sb) 0) := by
    rw [u64s_take, List.take_replicate]; congr 2; omega
  have h2 : (u64s (List.replicate 136 0)).drop (16 + 40 * sb + (u64s tw).length) = u64s (List.replicate (80 - 40 * sb) 0) := by
    rw [u64s_length, ht]; unfold u64s; rw [List.map_replicate, List.drop_replicate, List.map_replicate]; congr 1; omega
  rw [h1, h2]
  unfold u64s; simp
theorem mod2 (x : Int) : ∃ m : Nat, m < 2 ∧ wrap64 ((IntKind.u64.wrap x).tmod 2) = (m : Int) := by
  refine ⟨((IntKind.u64.wrap x).tmod 2).toNat, ?_, ?_⟩
  · rw [IntKind.wrap_u64, Int.tmod_eq_emod_of_nonneg (by omega)]; omega
  · rw [IntKind.wrap_u64, Int.tmod_eq_emod_of_nonneg (by omega)]
    unfold wrap64; omega
theorem there136 {sb : Nat} (h : sb < 2) : thereB 136 sb = true := by
  unfold thereB
  exact decide_eq_true (by omega)
theorem ws64 {sb : Nat} {tw : List Nat} (h : ∀ x ∈ tw, x < 2 ^ 64) : W64 (wsT sb tw) := by
  intro x hx
  unfold wsT at hx
  rcases List.mem_append.1 hx with hx | hx
  · rw [(List.mem_replicate.1 hx).2]; decide
  rcases List.mem_append.1 hx with hx | hx
  · exact h x hx
  · rw [(List.mem_replicate.1 hx).2]; decide
theorem tab64 {t : Tb} (hk : TbOk t) {d1 cn lv : Nat} (h1 : d1 < 2 ^ 64) (h2 : cn < 2 ^ 64) (h3 : lv < 2 ^ 64) : ∀ x ∈ tabL t d1 cn lv ++ [0, 0], x < 2 ^ 64 := by
  have hr : ∀ f : Nat → Nat, (∀ i, f i < 2 ^ 64) → ∀ x ∈ rng16 f, x < 2 ^ 64 := fun f hf x hx => by
    unfold rng16 at hx
    simp only [List.mem_cons, List.not_mem_nil, or_false] at hx
    rcases hx with rfl | rfl | rfl | rfl | rfl | rfl | rfl | rfl | rfl | rfl | rfl | rfl | rfl | rfl | rfl | rfl <;> exact hf _
  intro x hx
  rcases List.mem_append.1 hx with hx | hx
  · unfold tabL at hx
    rcases List.mem_append.1 hx with hx | hx
    · simp only [List.mem_cons, List.not_mem_nil, or_false] at hx
      rcases hx with rfl | rfl | rfl | rfl
      · exact hk.cnt
      · exact h1
      · exact h2
      · exact h3
    rcases List.mem_append.1 hx with hx | hx
    · simp only [List.mem_cons, List.not_mem_nil, or_false] at hx
      rcases hx with rfl | rfl <;> exact hk.ct _
    rcases List.mem_append.1 hx with hx | hx
    · exact hr _ hk.ks x hx
    · exact hr _ hk.vs x hx
  · simp at hx; rw [hx]; decide
set_option maxHeartbeats 16000000 in
theorem walk_LookFinds (t : Tb) (s1 : Option Addr) (n1 c1 : Nat) (ks : List (Nat × Nat)) (at' : Int) (w : World) (okT : TbOk t) (nl1 : s1 = none → c1 = 0) (lc1 : n1 ≤ c1) (sl1 : SlK w 2 s1 n1 (prs ks)) (wf1 : P64 ks) (wf2 : (Lit.int .i64 at').wf = true) :
    Calls Try.prog 6 #[.agg (tbA t), .slice s1 n1 c1, .int .i64 at'] w fun e w' => e = .returned (.bool true) ∧ Below w.heap.size w w' := by
  have WK := fun w => wakes18_any w
  have hO := (Hs.nil w).new (tbA t) 59
  obtain ⟨W, hW⟩ : ∃ W, W = w.alloc (.cells (tbA t) 59) := ⟨_, rfl⟩
  rw [← hW] at hO
  cases hf : flatB t with
  | false =>
    have WK'h := Lib.hid WK
    have hO'h := Lib.hid hO
    have okT'h := Lib.hid okT
    have hf'h := Lib.hid hf
    have sl1'h := Lib.hid sl1
    have wf1'h := Lib.hid wf1
    have wf2'h := Lib.hid wf2
    clear WK hO okT hf sl1 wf1 wf2
    go_enter Try.func6, Try.ntmps6
    go_upto_region 1 with fail
    rw [← hW]
    clear hW
    go_upto_region 3 with (first | (go_at_call 7; refine (WK'h.out _).mono ?_; rintro e w1 ⟨rfl, hb1⟩))
    have H1 := hO'h.out.next hb1
    clear hb1
    have H1'h := Lib.hid H1
    clear H1
    go_wp2_with (first | guard_target = wpList _ _ _ (Oper.mk _ (.load _ (.tmp 3)) _ _ _ _ :: _) _ _; refine wpList_load_row rfl 59 (.tmp 3) rfl (w.heap.size) rfl 59 (tbA t) (0, 0) _ H1'h.out.rows.1 Try.underlying59 rfl info_tb ?_ | (go_at_call 28; refine (tableWords_no t _ hf'h.out).mono ?_; rintro e w2 ⟨rfl, hb2⟩))
    go_ret
    exact ⟨rfl, (H1'h.out.next hb2).old⟩
  | true =>
  obtain ⟨i0, hi, hz, hs, hby⟩ := info_w64p
  obtain ⟨sb, hsb2, hsb⟩ := mod2 at'
  have hlen1 : n1 = ks.length := by have := sl1.1; rw [prs_length] at this; omega
  have hmax1 := sl1.2.1
  unfold maxLen at hmax1
  clear nl1 lc1
  have WK'h := Lib.hid WK
  have hO'h := Lib.hid hO
  have okT'h := Lib.hid okT
  have hf'h := Lib.hid hf
  have sl1'h := Lib.hid sl1
  have wf1'h := Lib.hid wf1
  have wf2'h := Lib.hid wf2
  have hlen1'h := Lib.hid hlen1
  clear WK hO okT hf sl1 wf1 wf2 hlen1
  go_enter Try.func6, Try.ntmps6
  go_upto_region 1 with fail
  rw [← hW]
  clear hW
  go_upto_region 3 with (first | (go_at_call 7; refine (WK'h.out _).mono ?_; rintro e w1 ⟨rfl, hb1⟩))
  have H1 := hO'h.out.next hb1
  clear hb1
  have H1'h := Lib.hid H1
  clear H1
  go_upto_region 4 with (first | guard_target = wpList _ _ _ (Oper.mk _ (.load _ (.tmp 3)) _ _ _ _ :: _) _ _; refine wpList_load_row rfl 59 (.tmp 3) rfl (w.heap.size) rfl 59 (tbA t) (0, 0) _ H1'h.out.rows.1 Try.underlying59 rfl info_tb ?_ | (go_at_call 28; refine (tableWords_yes t _ okT'h.out hf'h.out).mono ?_; rintro e w2 ⟨d1, cn, lv, s2, c2, hd1, hcn, hlv, rfl, hb2, hrow2⟩))
  have H2 := H1'h.out.next hb2
  have htw64 := tab64 okT'h.out hd1 hcn hlv
  have htwl := tabL_len t d1 cn lv
  have S2 := (SlK.of_row hrow2 (show (40 : Nat) ≤ maxLen by decide)).sl
  clear hb2 hrow2 hd1 hcn hlv H1'h
  have H2'h := Lib.hid H2
  have htw64'h := Lib.hid htw64
  have htwl'h := Lib.hid htwl
  have S2'h := Lib.hid S2
  clear H2 htw64 htwl S2
  go_upto_region 8 with (at_make; refine wpList_make_row _ rfl _ _ _ rfl 29 i0 _ Try.underlying22 hi hz hs rfl .i64 .i64 136 rfl rfl (by rw [hby]; decide) (by decide) ?_)
  have H3 := H2'h.out.new (madeCells #[.int .u64 0] 136) 29
  have S3 := ((SlK.of_sl S2'h.out).below ((Below.refl w2.heap.size w2).alloc (Nat.le_refl _) (.cells (madeCells #[.int .u64 0] 136) 29))).sl
  obtain ⟨bm, hbm⟩ : ∃ bm, bm = w2.heap.size := ⟨_, rfl⟩
  rw [← hbm] at H3 ⊢
  generalize w2.alloc _ = W3 at H3 S3 ⊢
  clear hbm H2'h S2'h
  have CE := fun w => cell_yes sb 0 w (by omega) (by decide)
  obtain ⟨ao, hao⟩ : ∃ ao, ao = 16 + 40 * sb + 0 := ⟨_, rfl⟩
  rw [← hao] at CE
  have p0 : (0 : Int) ≤ (ao : Int) := by omega
  have p1 : (ao : Int) ≤ 136 := by omega
  have p2 : ¬ ((136 : Int) = (ao : Int)) := by omega
  have p3 : ¬ ((136 : Nat) = ao) := by omega
  have hao2 : ao = 16 + 40 * sb := by omega
  clear hao
  have H3'h := Lib.hid H3
  have S3'h := Lib.hid S3
  have CE'h := Lib.hid CE
  have hao2'h := Lib.hid hao2
  clear H3 S3 CE hao2
  go_upto_region 11 with (go_at_call 29; refine (CE'h.out _).mono ?_; rintro e w4 ⟨rfl, hw4⟩; obtain rfl := hw4.symm)
  have HG : W3.heap[bm]? = some (.cells (u64s (List.replicate 136 0)).toArray 29 (0, 0)) := by
    have := H3'h.out.rows.1
    rw [← made136]; simpa using this
  have hB0 : Below bm W3 W3 := Below.refl _ _
  have hinf : (Try.prog.info? 29).map (·.size) = some 1 := by rw [hi]; simp [hs]
  have hpos : 0 < (u64s (tabL t d1 cn lv ++ [0, 0])).length → (some (⟨bm, ao, none⟩ : Addr)) = some ⟨bm, ao, none⟩ ∧ ∃ ad, s2 = some ad ∧ ∀ j v, (u64s (tabL t d1 cn lv ++ [0, 0]))[j]? = some v → W3.cell? (ad.add j) = some v := fun _ => by
    obtain ⟨b, off, hsp, hcs⟩ := S3'h.out.some' (by decide)
    refine ⟨rfl, _, hsp, fun j v hj => ?_⟩
    have hadd : (⟨b, off, none⟩ : Addr).add j = ⟨b, off + j, none⟩ := by unfold Addr.add; split <;> simp_all
    rw [hadd]; exact hcs j v hj
  have hone := u64s_one' (tabL t d1 cn lv ++ [0, 0])
  have hlc : (u64s (tabL t d1 cn lv ++ [0, 0])).length = 40 := by rw [u64s_length]; rfl
  have hnm : (u64s (tabL t d1 cn lv ++ [0, 0])).length = Nat.min 40 (136 - ao) := by
    have h40 : 40 ≤ 136 - ao := by have := hao2'h.out; omega
    rw [hlc]
    exact (Nat.min_eq_left h40).symm
  have hfit : ao + (u64s (tabL t d1 cn lv ++ [0, 0])).length ≤ (u64s (List.replicate 136 0)).length := by rw [hlc, u64s_length, List.length_replicate]; have := hao2'h.out; omega
  have HG'h := Lib.hid HG
  have hB0'h := Lib.hid hB0
  have hpos'h := Lib.hid hpos
  have hone'h := Lib.hid hone
  have hlc'h := Lib.hid hlc
  have hnm'h := Lib.hid hnm
  have hfit'h := Lib.hid hfit
  clear HG hB0 hpos hone hlc hnm hfit
  go_wp2_with (refine wpList_copy_splice rfl (.tmp 56) (.tmp 57) 22 22 rfl 29 Try.underlying22 hinf (some ⟨bm, ao, none⟩) s2 (136 - ao) (136 - ao) 40 c2 rfl rfl bm ao (u64s (List.replicate 136 0)) 29 HG'h.out (u64s (tabL t d1 cn lv ++ [0, 0])) hnm'h.out hpos'h.out hfit'h.out hone'h.out bm W3 hB0'h.out (Nat.le_refl _) ?_; intro W5 hH5 hB5)
  have hrow5 : W5.heap[bm]? = some (.cells (u64s (wsT sb (tabL t d1 cn lv ++ [0, 0]))).toArray 29 (0, 0)) := by
    have := hH5.out
    rw [hao2'h.out, splice_at hsb2 _ htwl'h.out] at this; exact this
  have hbw : w.heap.size < bm := by have := H3'h.out.desc; simpa using this
  have H5 : Hs w [(bm, (u64s (wsT sb (tabL t d1 cn lv ++ [0, 0]))).toArray, 29), (w.heap.size, tbA t, 59)] W5 :=
    ⟨⟨hrow5, (hB5.block _ hbw).trans H3'h.out.rows.2.1, trivial⟩, H3'h.out.old.trans (hB5.mono (Nat.le_of_lt hbw)), fun x hx => by
      rcases List.mem_cons.1 hx with rfl | hx
      · exact Nat.le_of_lt hbw
      · rw [List.mem_singleton.1 hx]; exact Nat.le_refl _, by simpa using hbw⟩
  obtain ⟨ws, hws⟩ : ∃ ws, ws = wsT sb (tabL t d1 cn lv ++ [0, 0]) := ⟨_, rfl⟩
  rw [← hws] at H5
  have hws64 : W64 ws := by rw [hws]; exact ws64 htw64'h.out
  have hwl : ws.length = 136 := by rw [hws]; exact wsT_len hsb2 htwl'h.out
  have hth := there136 hsb2
  clear p0 p1 p2 p3 hH5 hB5 hrow5 H3'h S3'h CE'h hao2'h HG'h hB0'h hpos'h hone'h hlc'h hnm'h hfit'h hinf hbw htw64'h
  have H5'h := Lib.hid H5
  have hws'h := Lib.hid hws
  have hws64'h := Lib.hid hws64
  have hwl'h := Lib.hid hwl
  have hth'h := Lib.hid hth
  clear H5 hws hws64 hwl hth
  go_loopg [61] n1 (fun q i wr => ∃ k : Nat, k + q = n1 ∧ k ≤ 10 ∧ i = .int .i64 k ∧ Hs w [(bm, (u64s ws).toArray, 29), (w.heap.size, tbA t, 59)] wr)
  case atStart => exact ⟨0, by omega, by omega, rfl, H5'h.out⟩
  case round =>
    obtain ⟨go, rfl⟩ : ∃ go : Nat, go = gk := ⟨_, rfl⟩
    obtain ⟨k, hq, hk10, rfl, hH⟩ := hrel
    clear H5'h
    by_cases hlt : k < n1
    · have hkl : k < ks.length := by have := hlen1'h.out; omega
      obtain ⟨pb, po, rfl⟩ := slk_some sl1'h.out (by omega)
      obtain ⟨d1', d2'⟩ := finds_cells (sl1'h.out.below hH.old) hkl
      have hp64 := wf1'h.out _ (nthP_mem hkl)
      have hi1 : (k : Int) < (n1 : Int) := by omega
      have h0k : (0 : Int) ≤ (k : Int) := by omega
      generalize nthP ks k = p at *
      obtain ⟨key, hash⟩ := p
      simp only at d1' d2' hp64
      have H6 := hH.new #[.int .u64 (key : Int), .int .u64 (hash : Int)] 30
      clear hlt
      have hH'h := Lib.hid hH
      have hq'h := Lib.hid hq
      have H6'h := Lib.hid H6
      have hkl'h := Lib.hid hkl
      have hp64'h := Lib.hid hp64
      clear hH hq H6 hkl hp64
      go_upto_region 15 with fail
      change Code.wp _ _ _ _ (wr.alloc (.cells #[.int .u64 (key : Int), .int .u64 (hash : Int)] 30))
      have H6 := H6'h.out
      clear H6'h hH'h d1' d2'
      generalize wr.alloc _ = W6 at H6 ⊢
      obtain ⟨b12, hb12⟩ : ∃ b12, b12 = wr.heap.size := ⟨_, rfl⟩
      rw [← hb12] at H6 ⊢
      clear hb12
      by_cases h10 : k = 10
      · have h10' : ((k : Int) == 10) = true := by rw [h10]; rfl
        clear h10
        have H6'h := Lib.hid H6
        have hk10'h := Lib.hid hk10
        clear H6 hk10
        go_wp2
        go_ret
        exact ⟨rfl, H6'h.out.old⟩
      · have h10' : ((k : Int) == 10) = false := by simp; omega
        have hk9 : k < 10 := by omega
        clear h10 hk10
        have k1 : W6.cell? ⟨b12, 0, none⟩ = some (.int .u64 (key : Int)) := blk_cell H6.rows.1 rfl
        have k2 : W6.cell? ⟨b12, 1, none⟩ = some (.int .u64 (hash : Int)) := blk_cell H6.rows.1 rfl
        have SW : Sl W6 (some ⟨bm, 0, none⟩) 136 (u64s ws) := sl_part (off := 0) H6.rows.2.1 (by rw [List.drop_zero]; exact List.take_of_length_le (by simp [u64s_length, hwl'h.out])) (by rw [u64s_length]; exact hwl'h.out) (show (136 : Nat) ≤ maxLen by decide)
        have RN := fun w h => run_yes (some ⟨bm, 0, none⟩) 136 136 ws sb key hash w hws64'h.out h (by decide) hth'h.out hp64'h.out.1 hp64'h.out.2
        have hb20 := most_le20 ws sb hash
        have hcnt : slabW ws sb 0 = t.cnt := by rw [hws'h.out]; exact cnt_at t d1 cn lv sb
        have hbnd : 1 ≤ (runS ws sb key hash).2 ∧ (runS ws sb key hash).2 ≤ mostS ws sb hash + 1 := by
          by_cases hod : slabW ws sb 0 % 2 = 1
          · rw [(runs_odd ws sb key hash hod).2.2]; omega
          · have F := runs_finds ws sb key hash hod; exact ⟨F.lo, F.hi⟩
        have MT := fun w h => most_yes (some ⟨bm, 0, none⟩) 136 136 ws sb hash w hws64'h.out h (by decide) hth'h.out hp64'h.out.2
        obtain ⟨rs, hrs⟩ : ∃ rs, rs = (runS ws sb key hash).1 := ⟨_, rfl⟩
        obtain ⟨nn, hnn⟩ : ∃ nn, nn = (runS ws sb key hash).2 := ⟨_, rfl⟩
        obtain ⟨mo, hmo⟩ : ∃ mo, mo = mostS ws sb hash := ⟨_, rfl⟩
        rw [← hnn, ← hmo] at hbnd
        rw [← hrs, ← hnn] at RN
        rw [← hmo] at MT hb20
        have i1 : ¬ ((mo : Int) + 1 < (nn : Int)) := by omega
        have i2 : ¬ ((nn : Int) < 1) := by omega
        have hmw : IntKind.i64.wrap ((mo : Int) + 1) = (mo : Int) + 1 := Go.IntWalk.i64_in _ (by omega)
        have hmw2 : RowKit.wrap64 ((mo : Int) + 1) = (mo : Int) + 1 := (Go.IntWalk.i64_left _).symm.trans hmw
        have H6'h := Lib.hid H6
        have hk9'h := Lib.hid hk9
        have SW'h := Lib.hid SW
        have RN'h := Lib.hid RN
        have hcnt'h := Lib.hid hcnt
        have hbnd'h := Lib.hid hbnd
        have MT'h := Lib.hid MT
        have hrs'h := Lib.hid hrs
        have hnn'h := Lib.hid hnn
        have hmo'h := Lib.hid hmo
        have hb20'h := Lib.hid hb20
        clear H6 hk9 SW RN hcnt hbnd MT hrs hnn hmo hb20
        go_upto_region 17 with (first | (go_at_call 13; refine (RN'h.out _ SW'h.out).mono ?_; rintro e w7 ⟨rfl, hb7⟩) | guard_target = wpList _ _ _ (Oper.mk _ (.store _ (.tmp 13) _) _ _ _ _ :: _) _ _; refine wpList_store_row rfl 33 (.tmp 13) _ rfl (w7.heap.size) (sgA rs) rfl rfl 33 _ (World.alloc_heap_new _ _) infoSg rfl (sgA_one _) ?_)
        have H7 := ((H6'h.out.next hb7).new #[.int .i64 0, .int .i64 0, .int .u64 0, .int .u64 0, .int .u64 0, .int .i64 0, .int .u64 0, .int .u8 0, .int .u64 0, .bool false] 33).set 0 rfl (sgA rs)
        change Code.wp _ _ _ _ ((w7.alloc (.cells #[.int .i64 0, .int .i64 0, .int .u64 0, .int .u64 0, .int .u64 0, .int .i64 0, .int .u64 0, .int .u8 0, .int .u64 0, .bool false] 33)).setRow w7.heap.size (sgA rs))
        generalize World.setRow _ _ _ = W7 at H7 ⊢
        obtain ⟨b13, hb13⟩ : ∃ b13, b13 = w7.heap.size := ⟨_, rfl⟩
        rw [← hb13] at H7 ⊢
        clear hb7 k1 k2 hb13 H6'h SW'h RN'h
        have k2 : W7.cell? ⟨b12, 1, none⟩ = some (.int .u64 (hash : Int)) := blk_cell H7.rows.2.1 rfl
        have SW : Sl W7 (some ⟨bm, 0, none⟩) 136 (u64s ws) := sl_part (off := 0) H7.rows.2.2.1 (by rw [List.drop_zero]; exact List.take_of_length_le (by simp [u64s_length, hwl'h.out])) (by rw [u64s_length]; exact hwl'h.out) (show (136 : Nat) ≤ maxLen by decide)
        have H7'h := Lib.hid H7
        have SW'h := Lib.hid SW
        clear H7 SW
        go_upto_region 18 with (go_at_call 14; refine (MT'h.out _ SW'h.out).mono ?_; rintro e w8 ⟨rfl, hb8⟩)
        have H8 := H7'h.out.next hb8
        clear hb8 k2 H7'h SW'h MT'h
        have k0 : w8.cell? ⟨w.heap.size, 0, none⟩ = some (.int .u64 (t.cnt : Int)) := blk_cell H8.rows.2.2.2.1 rfl
        have H8'h := Lib.hid H8
        clear H8
        go_upto_region 20 with fail
        clear i1 i2 hmw hmw2
        by_cases hod : t.cnt % 2 = 1
        · have hm2 : (t.cnt : Int).tmod 2 = 1 := by rw [Int.tmod_eq_emod_of_nonneg (by omega)]; omega
          obtain ⟨o1, o2, -⟩ := runs_odd ws sb key hash (by rw [hcnt'h.out]; exact hod)
          rw [← hrs'h.out] at o1 o2
          have k3 : w8.cell? ⟨b13, 0, none⟩ = some (.int .i64 6) := by rw [← o1]; exact blk_cell H8'h.out.rows.1 rfl
          have k4 : w8.cell? ⟨b13, 9, none⟩ = some (.bool false) := by rw [← o2]; exact blk_cell H8'h.out.rows.1 rfl
          clear hod o1 o2
          go_wp2
          go_roundg (go - 1)
          case measure => have := hq'h.out; omega
          case rel => exact ⟨k + 1, by have := hq'h.out; omega, by have := hk9'h.out; omega, by go_num, H8'h.out.tail.tail⟩
        · have hm2 : (t.cnt : Int).tmod 2 = 0 := by rw [Int.tmod_eq_emod_of_nonneg (by omega)]; omega
          have FR := runs_finds ws sb key hash (by rw [hcnt'h.out]; exact hod)
          have hov := FR.over
          have hlk := FR.has
          rw [← hrs'h.out] at hov hlk
          have k3 : w8.cell? ⟨b13, 0, none⟩ = some (.int .i64 5) := by rw [← hov]; exact blk_cell H8'h.out.rows.1 rfl
          have k2 : w8.cell? ⟨b12, 1, none⟩ = some (.int .u64 (hash : Int)) := blk_cell H8'h.out.rows.2.1 rfl
          have RW := fun w => row_yes 2 (hash / 128) w (by decide) (Nat.lt_of_le_of_lt (Nat.div_le_self _ _) hp64'h.out.2)
          clear hod FR
          have hlk'h := Lib.hid hlk
          have RW'h := Lib.hid RW
          have hov'h := Lib.hid hov
          clear hlk RW hov
          go_upto_region 24 with (first | (go_at_call 31; refine (h1_any hash _).mono ?_; rintro e w9 ⟨rfl, hw9⟩; obtain rfl := hw9.symm) | (go_at_call 30; refine (RW'h.out _).mono ?_; rintro e w10 ⟨s10, c10, rfl, hb10, hrow10⟩))
          have H10 := H8'h.out.next hb10
          have R10 := Sl.of_row hrow10 (show (2 : Nat) ≤ maxLen by decide)
          clear hb10 hrow10 k0 k2 k3 hm2 H8'h RW'h
          have k3 : w10.cell? ⟨b13, 0, none⟩ = some (.int .i64 5) := by rw [← hov'h.out]; exact blk_cell H10.rows.1 rfl
          have H10'h := Lib.hid H10
          have R10'h := Lib.hid R10
          clear H10 R10
          go_wp2
          clear k3
          go_loopg [19, 20, 21, 130] 2 (fun q v1 v2 v3 i wr => ∃ j : Nat, j + q = 2 ∧ i = .int .i64 j ∧ v1 = .int .u64 0 ∧ v2 = .bool false ∧ v3 = .bool true ∧ Hs w [(b13, sgA rs, 33), (b12, #[.int .u64 (key : Int), .int .u64 (hash : Int)], 30), (bm, (u64s ws).toArray, 29), (w.heap.size, tbA t, 59)] wr ∧ Sl wr s10 2 (zN (rowB 2 (hash / 128))) ∧ lookW ws sb key (hash % 128) ((rowB 2 (hash / 128)).drop j) = (rs.found, rs.value))
          case atStart => exact ⟨0, by omega, rfl, rfl, rfl, rfl, H10'h.out, R10'h.out, hlk'h.out.symm⟩
          case round =>
            obtain ⟨j, hqj, rfl, rfl, rfl, rfl, hH, hRow, hlw⟩ := hrel
            clear H10'h R10'h hlk'h
            by_cases hlt : j < 2
            · obtain ⟨rb, ro, rfl, hcs⟩ := hRow.some' (by omega)
              have c1' : wr.cell? ⟨rb, ro + j, none⟩ = some (.int .i64 (prB 2 (hash / 128) j : Nat)) := hcs j _ (zN_row hlt)
              have hdr : (rowB 2 (hash / 128)).drop j = prB 2 (hash / 128) j :: (rowB 2 (hash / 128)).drop (j + 1) := by
                have hj2 : j < (rowB 2 (hash / 128)).length := by rw [show (rowB 2 (hash / 128)).length = 2 from rfl]; exact hlt
                rw [List.drop_eq_getElem_cons hj2]
                congr 1
                simp only [rowB, List.getElem_map, List.getElem_range]
              rw [hdr] at hlw
              have hr2 : prB 2 (hash / 128) j < 2 := Nat.mod_lt _ (by decide)
              have hi2 : (j : Int) < 2 := by omega
              have h0j : (0 : Int) ≤ (j : Int) := by omega
              generalize prB 2 (hash / 128) j = r at c1' hlw hr2
              clear hcs hdr
              generalize hs10 : (some (⟨rb, ro, none⟩ : Addr)) = s10 at *
              have hH'h := Lib.hid hH
              have hqj'h := Lib.hid hqj
              have hRow'h := Lib.hid hRow
              have hlw'h := Lib.hid hlw
              clear hH hqj hRow hlw
              rcases two_cases hr2 with rfl | rfl
              · subst hs10
                go_upto_region 30 with fail
                clear c1'
                generalize hs10 : (some (⟨rb, ro, none⟩ : Addr)) = s10 at *
                refine wp_region_heldQ (fun w' => w'.heap[w.heap.size]? = some (.cells (tbA t) 59 (0, 0))) 99 (by kernel_rfl) ?_
                have HA := hH'h.out.drew
                have BA : Below wr.heap.size wr wr.drew := Below.drew (Below.refl _ _)
                generalize wr.drew = V0 at HA BA ⊢
                have R := HA.rows.2.2.2.1
                refine wpAnyF_take (i := 0) (v := .int .i64 0) rfl (by kernel_rfl) (by kernel_rfl) (by kernel_rfl) (by kernel_rfl) (fun _ _ _ h => h) (Or.inl ⟨by kernel_rfl, fun w hSw => by (try dsimp only at hSw); go_simp⟩) R ?_; try simp only [Act.put, List.getElem_toArray, List.getElem_cons_succ, List.getElem_cons_zero, List.setIfInBounds_toArray, List.set_cons_zero, List.set_cons_succ]
                refine wpAnyF_take (i := 1) (v := .pointer (some ⟨w.heap.size, 5, none⟩)) rfl (by kernel_rfl) (by kernel_rfl) (by kernel_rfl) (by kernel_rfl) (fun _ _ _ h => h) (Or.inl ⟨by kernel_rfl, fun w hSw => by (try dsimp only at hSw); go_simp⟩) R ?_; try simp only [Act.put, List.getElem_toArray, List.getElem_cons_succ, List.getElem_cons_zero, List.setIfInBounds_toArray, List.set_cons_zero, List.set_cons_succ]
                refine wpAnyF_take (i := 2) (v := .pointer (some ⟨w.heap.size, 5, none⟩)) rfl (by kernel_rfl) (by kernel_rfl) (by kernel_rfl) (by kernel_rfl) (fun _ _ _ h => h) (Or.inl ⟨by kernel_rfl, fun w hSw => by (try dsimp only at hSw); go_simp⟩) R ?_; try simp only [Act.put, List.getElem_toArray, List.getElem_cons_succ, List.getElem_cons_zero, List.setIfInBounds_toArray, List.set_cons_zero, List.set_cons_succ]
                refine wpAnyF_take (i := 3) (v := .int .u64 (t.ct 0)) rfl (by kernel_rfl) (by kernel_rfl) (by kernel_rfl) (by kernel_rfl) (fun _ _ _ h => h) (Or.inl ⟨by kernel_rfl, fun w hSw => by have hcc := blk_cell (i := 5) (v := .int .u64 (t.ct 0 : Int)) hSw rfl; (try dsimp only at hSw); clear hSw; go_simp⟩) R ?_; try simp only [Act.put, List.getElem_toArray, List.getElem_cons_succ, List.getElem_cons_zero, List.setIfInBounds_toArray, List.set_cons_zero, List.set_cons_succ]
                refine wpAnyF_take (i := 4) (v := .pointer (some ⟨w.heap.size, 7, none⟩)) rfl (by kernel_rfl) (by kernel_rfl) (by kernel_rfl) (by kernel_rfl) (fun _ _ _ h => h) (Or.inl ⟨by kernel_rfl, fun w hSw => by (try dsimp only at hSw); go_simp⟩) R ?_; try simp only [Act.put, List.getElem_toArray, List.getElem_cons_succ, List.getElem_cons_zero, List.setIfInBounds_toArray, List.set_cons_zero, List.set_cons_succ]
                refine wpAnyF_take (i := 5) (v := .int .i64 0) rfl (by kernel_rfl) (by kernel_rfl) (by kernel_rfl) (by kernel_rfl) (fun _ _ _ h => h) (Or.inl ⟨by kernel_rfl, fun w hSw => by (try dsimp only at hSw); go_simp⟩) R ?_; try simp only [Act.put, List.getElem_toArray, List.getElem_cons_succ, List.getElem_cons_zero, List.setIfInBounds_toArray, List.set_cons_zero, List.set_cons_succ]
                refine wpAnyF_take (i := 6) (v := .int .i64 0) rfl (by kernel_rfl) (by kernel_rfl) (by kernel_rfl) (by kernel_rfl) (fun _ _ _ h => h) (Or.inl ⟨by kernel_rfl, fun w hSw => by (try dsimp only at hSw); go_simp; first | done | rfl | decide⟩) R ?_; try simp only [Act.put, List.getElem_toArray, List.getElem_cons_succ, List.getElem_cons_zero, List.setIfInBounds_toArray, List.set_cons_zero, List.set_cons_succ]
                refine wpAnyF_take (i := 7) (v := .slice (some ⟨w.heap.size, 7, none⟩) 16 16) rfl (by kernel_rfl) (by kernel_rfl) (by kernel_rfl) (by kernel_rfl) (fun _ _ _ h => h) (Or.inl ⟨by kernel_rfl, fun w hSw => by (try dsimp only at hSw); go_simp⟩) R ?_; try simp only [Act.put, List.getElem_toArray, List.getElem_cons_succ, List.getElem_cons_zero, List.setIfInBounds_toArray, List.set_cons_zero, List.set_cons_succ]
                refine wpAnyF_take (i := 8) (v := .pointer (some ⟨w.heap.size, 7, none⟩)) rfl (by kernel_rfl) (by kernel_rfl) (by kernel_rfl) (by kernel_rfl) (fun _ _ _ h => h) (Or.inl ⟨by kernel_rfl, fun w hSw => by (try dsimp only at hSw); go_simp; rw [run_arrayAt w _ _ 8 _ _ _ Try.underlying68 (by decide)]; rfl⟩) R ?_; try simp only [Act.put, List.getElem_toArray, List.getElem_cons_succ, List.getElem_cons_zero, List.setIfInBounds_toArray, List.set_cons_zero, List.set_cons_succ]
                refine wpAnyF_take (i := 9) (v := .agg #[.int .u64 (t.ks (0 + 0) : Nat), .int .u64 (t.ks (0 + 1) : Nat), .int .u64 (t.ks (0 + 2) : Nat), .int .u64 (t.ks (0 + 3) : Nat), .int .u64 (t.ks (0 + 4) : Nat), .int .u64 (t.ks (0 + 5) : Nat), .int .u64 (t.ks (0 + 6) : Nat), .int .u64 (t.ks (0 + 7) : Nat)]) rfl (by kernel_rfl) (by kernel_rfl) (by kernel_rfl) (by kernel_rfl) (fun _ _ _ h => h) (Or.inl ⟨by kernel_rfl, fun w hSw => by have hc0 := blk_cell (i := 7 + 0) (v := .int .u64 (t.ks (0 + 0) : Nat)) hSw rfl; have hc1 := blk_cell (i := 7 + 1) (v := .int .u64 (t.ks (0 + 1) : Nat)) hSw rfl; have hc2 := blk_cell (i := 7 + 2) (v := .int .u64 (t.ks (0 + 2) : Nat)) hSw rfl; have hc3 := blk_cell (i := 7 + 3) (v := .int .u64 (t.ks (0 + 3) : Nat)) hSw rfl; have hc4 := blk_cell (i := 7 + 4) (v := .int .u64 (t.ks (0 + 4) : Nat)) hSw rfl; have hc5 := blk_cell (i := 7 + 5) (v := .int .u64 (t.ks (0 + 5) : Nat)) hSw rfl; have hc6 := blk_cell (i := 7 + 6) (v := .int .u64 (t.ks (0 + 6) : Nat)) hSw rfl; have hc7 := blk_cell (i := 7 + 7) (v := .int .u64 (t.ks (0 + 7) : Nat)) hSw rfl; (try dsimp only at hSw); clear hSw; go_simp⟩) R ?_; try simp only [Act.put, List.getElem_toArray, List.getElem_cons_succ, List.getElem_cons_zero, List.setIfInBounds_toArray, List.set_cons_zero, List.set_cons_succ]
                refine wpAnyF_take (i := 10) (v := .pointer (some ⟨w.heap.size, 23, none⟩)) rfl (by kernel_rfl) (by kernel_rfl) (by kernel_rfl) (by kernel_rfl) (fun _ _ _ h => h) (Or.inl ⟨by kernel_rfl, fun w hSw => by (try dsimp only at hSw); go_simp⟩) R ?_; try simp only [Act.put, List.getElem_toArray, List.getElem_cons_succ, List.getElem_cons_zero, List.setIfInBounds_toArray, List.set_cons_zero, List.set_cons_succ]
                refine wpAnyF_take (i := 11) (v := .int .i64 0) rfl (by kernel_rfl) (by kernel_rfl) (by kernel_rfl) (by kernel_rfl) (fun _ _ _ h => h) (Or.inl ⟨by kernel_rfl, fun w hSw => by (try dsimp only at hSw); go_simp⟩) R ?_; try simp only [Act.put, List.getElem_toArray, List.getElem_cons_succ, List.getElem_cons_zero, List.setIfInBounds_toArray, List.set_cons_zero, List.set_cons_succ]
                refine wpAnyF_take (i := 12) (v := .int .i64 0) rfl (by kernel_rfl) (by kernel_rfl) (by kernel_rfl) (by kernel_rfl) (fun _ _ _ h => h) (Or.inl ⟨by kernel_rfl, fun w hSw => by (try dsimp only at hSw); go_simp; first | done | rfl | decide⟩) R ?_; try simp only [Act.put, List.getElem_toArray, List.getElem_cons_succ, List.getElem_cons_zero, List.setIfInBounds_toArray, List.set_cons_zero, List.set_cons_succ]
                refine wpAnyF_take (i := 13) (v := .slice (some ⟨w.heap.size, 23, none⟩) 16 16) rfl (by kernel_rfl) (by kernel_rfl) (by kernel_rfl) (by kernel_rfl) (fun _ _ _ h => h) (Or.inl ⟨by kernel_rfl, fun w hSw => by (try dsimp only at hSw); go_simp⟩) R ?_; try simp only [Act.put, List.getElem_toArray, List.getElem_cons_succ, List.getElem_cons_zero, List.setIfInBounds_toArray, List.set_cons_zero, List.set_cons_succ]
                refine wpAnyF_take (i := 14) (v := .pointer (some ⟨w.heap.size, 23, none⟩)) rfl (by kernel_rfl) (by kernel_rfl) (by kernel_rfl) (by kernel_rfl) (fun _ _ _ h => h) (Or.inl ⟨by kernel_rfl, fun w hSw => by (try dsimp only at hSw); go_simp; rw [run_arrayAt w _ _ 8 _ _ _ Try.underlying68 (by decide)]; rfl⟩) R ?_; try simp only [Act.put, List.getElem_toArray, List.getElem_cons_succ, List.getElem_cons_zero, List.setIfInBounds_toArray, List.set_cons_zero, List.set_cons_succ]
                refine wpAnyF_take (i := 15) (v := .agg #[.int .u64 (t.vs (0 + 0) : Nat), .int .u64 (t.vs (0 + 1) : Nat), .int .u64 (t.vs (0 + 2) : Nat), .int .u64 (t.vs (0 + 3) : Nat), .int .u64 (t.vs (0 + 4) : Nat), .int .u64 (t.vs (0 + 5) : Nat), .int .u64 (t.vs (0 + 6) : Nat), .int .u64 (t.vs (0 + 7) : Nat)]) rfl (by kernel_rfl) (by kernel_rfl) (by kernel_rfl) (by kernel_rfl) (fun _ _ _ h => h) (Or.inl ⟨by kernel_rfl, fun w hSw => by have hc0 := blk_cell (i := 23 + 0) (v := .int .u64 (t.vs (0 + 0) : Nat)) hSw rfl; have hc1 := blk_cell (i := 23 + 1) (v := .int .u64 (t.vs (0 + 1) : Nat)) hSw rfl; have hc2 := blk_cell (i := 23 + 2) (v := .int .u64 (t.vs (0 + 2) : Nat)) hSw rfl; have hc3 := blk_cell (i := 23 + 3) (v := .int .u64 (t.vs (0 + 3) : Nat)) hSw rfl; have hc4 := blk_cell (i := 23 + 4) (v := .int .u64 (t.vs (0 + 4) : Nat)) hSw rfl; have hc5 := blk_cell (i := 23 + 5) (v := .int .u64 (t.vs (0 + 5) : Nat)) hSw rfl; have hc6 := blk_cell (i := 23 + 6) (v := .int .u64 (t.vs (0 + 6) : Nat)) hSw rfl; have hc7 := blk_cell (i := 23 + 7) (v := .int .u64 (t.vs (0 + 7) : Nat)) hSw rfl; (try dsimp only at hSw); clear hSw; go_simp⟩) R ?_; try simp only [Act.put, List.getElem_toArray, List.getElem_cons_succ, List.getElem_cons_zero, List.setIfInBounds_toArray, List.set_cons_zero, List.set_cons_succ]
                refine wpAnyF_take (i := 16) (v := .agg (gpA (grpT t 0))) rfl (by kernel_rfl) (by kernel_rfl) (by kernel_rfl) (by kernel_rfl) (fun _ _ _ h => h) (Or.inl ⟨by kernel_rfl, fun w hSw => run_build_agg rfl (by rfl) (by kernel_rfl)⟩) R ?_; try simp only [Act.put, List.getElem_toArray, List.getElem_cons_succ, List.getElem_cons_zero, List.setIfInBounds_toArray, List.set_cons_zero, List.set_cons_succ]
                refine wpAnyF_one (i := 17) (by kernel_rfl) rfl (fun K hK => ?_)
                go_simp
                generalize hV1 : World.alloc V0 _ = V1
                have HB := HA.new (gpA gpZ) 70
                rw [show V0.alloc (.cells (gpA gpZ) 70) = V1 from hV1] at HB
                have BB : Below wr.heap.size wr V1 := by rw [← hV1]; exact BA.alloc BA.size _
                obtain ⟨b24, hb24⟩ : ∃ b24, b24 = V0.heap.size := ⟨_, rfl⟩
                rw [← hb24] at HB ⊢
                have hge : wr.heap.size ≤ b24 := by rw [hb24]; exact BA.size
                clear R hV1 hb24 HA BA
                have R := HB.rows.2.2.2.2.1
                refine hK.out _ _ (fun _ => R) ?_; clear hK K; try simp only [Act.put, List.getElem_toArray, List.getElem_cons_succ, List.getElem_cons_zero, List.setIfInBounds_toArray, List.set_cons_zero, List.set_cons_succ]
                refine wpAnyF_one (i := 18) (by kernel_rfl) rfl (fun K hK => ?_)
                refine step_store_row rfl _ _ _ rfl b24 (gpA (grpT t 0)) rfl rfl 70 _ HB.rows.1 infoGp rfl (gpA_one _) ?_
                have HC := HB.set 0 rfl (gpA (grpT t 0))
                have BC := below_setRow' BB hge (gpA (grpT t 0))
                generalize World.setRow _ _ _ = V2 at HC BC ⊢
                clear R HB BB
                have R := HC.rows.2.2.2.2.1
                refine hK.out _ _ (fun _ => R) ?_; clear hK K; try simp only [Act.put, List.getElem_toArray, List.getElem_cons_succ, List.getElem_cons_zero, List.setIfInBounds_toArray, List.set_cons_zero, List.set_cons_succ]
                refine wpAnyF_done (by kernel_rfl) ?_ _
                refine noPanic_normal ?_
                clear R
                have hgo := grpT_ok okT'h.out 0
                have hhit := hit_is t d1 cn lv sb key (hash % 128) (show 0 < 2 by decide)
                have hemp := empty_is t d1 cn lv sb (show 0 < 2 by decide)
                have hval := fun i (h : i < 8) => val_at t d1 cn lv sb (show 0 < 2 by decide) h
                rw [← hws'h.out] at hhit hemp
                simp only [← hws'h.out] at hval
                generalize grpT t 0 = g at *
                have HC'h := Lib.hid HC
                have BC'h := Lib.hid BC
                have hgo'h := Lib.hid hgo
                have hhit'h := Lib.hid hhit
                have hemp'h := Lib.hid hemp
                have hval'h := Lib.hid hval
                clear HC BC hgo hhit hemp hval
                go_upto_region 31 with fail
                refine wp_region_heldQ (fun w' => w'.heap[b24]? = some (.cells (gpA g) 70 (0, 0)) ∧ (w'.cell? ⟨b12, 0, none⟩ = some (.int .u64 (key : Int)) ∧ w'.cell? ⟨b12, 1, none⟩ = some (.int .u64 (hash : Int)))) 99 (by kernel_rfl) ?_
                have HD := HC'h.out.drew
                have BD := BC'h.out.drew
                generalize V2.drew = V3 at HD BD ⊢
                clear HC'h BC'h
                have R : V3.heap[b24]? = some (.cells (gpA g) 70 (0, 0)) ∧ (V3.cell? ⟨b12, 0, none⟩ = some (.int .u64 (key : Int)) ∧ V3.cell? ⟨b12, 1, none⟩ = some (.int .u64 (hash : Int))) := ⟨HD.rows.1, blk_cell HD.rows.2.2.1 rfl, blk_cell HD.rows.2.2.1 rfl⟩
                refine wpAnyF_take (i := 0) (v := .agg (gpA g)) rfl (by kernel_rfl) (by kernel_rfl) (by kernel_rfl) (by kernel_rfl) (fun _ _ _ h => h) (Or.inl ⟨by kernel_rfl, fun w hSw => run_load_agg (by rfl) (by rfl) hSw.1 Try.underlying70 rfl infoGp⟩) R ?_; try simp only [Act.put, List.getElem_toArray, List.getElem_cons_succ, List.getElem_cons_zero, List.setIfInBounds_toArray, List.set_cons_zero, List.set_cons_succ]
                refine wpAnyF_take (i := 1) (v := .pointer (some ⟨b12, 0, none⟩)) rfl (by kernel_rfl) (by kernel_rfl) (by kernel_rfl) (by kernel_rfl) (fun _ _ _ h => h) (Or.inl ⟨by kernel_rfl, fun w hSw => by (try dsimp only at hSw); go_simp⟩) R ?_; try simp only [Act.put, List.getElem_toArray, List.getElem_cons_succ, List.getElem_cons_zero, List.setIfInBounds_toArray, List.set_cons_zero, List.set_cons_succ]
                refine wpAnyF_take (i := 2) (v := .int .u64 key) rfl (by kernel_rfl) (by kernel_rfl) (by kernel_rfl) (by kernel_rfl) (fun _ _ _ h => h) (Or.inl ⟨by kernel_rfl, fun w hSw => by have hcc := hSw.2.1; (try dsimp only at hSw); go_simp⟩) R ?_; try simp only [Act.put, List.getElem_toArray, List.getElem_cons_succ, List.getElem_cons_zero, List.setIfInBounds_toArray, List.set_cons_zero, List.set_cons_succ]
                refine wpAnyF_take (i := 3) (v := .pointer (some ⟨b12, 1, none⟩)) rfl (by kernel_rfl) (by kernel_rfl) (by kernel_rfl) (by kernel_rfl) (fun _ _ _ h => h) (Or.inl ⟨by kernel_rfl, fun w hSw => by (try dsimp only at hSw); go_simp⟩) R ?_; try simp only [Act.put, List.getElem_toArray, List.getElem_cons_succ, List.getElem_cons_zero, List.setIfInBounds_toArray, List.set_cons_zero, List.set_cons_succ]
                refine wpAnyF_take (i := 4) (v := .int .u64 hash) rfl (by kernel_rfl) (by kernel_rfl) (by kernel_rfl) (by kernel_rfl) (fun _ _ _ h => h) (Or.inl ⟨by kernel_rfl, fun w hSw => by have hcc := hSw.2.2; (try dsimp only at hSw); go_simp⟩) R ?_; try simp only [Act.put, List.getElem_toArray, List.getElem_cons_succ, List.getElem_cons_zero, List.setIfInBounds_toArray, List.set_cons_zero, List.set_cons_succ]
                refine wpAnyF_one (i := 5) (by kernel_rfl) rfl (fun K hK => ?_); go_simp
                refine (h2_any hash V3 hp64'h.out.2).mono ?_
                rintro e V4 ⟨rfl, hV4⟩
                obtain rfl := hV4.symm
                dsimp only
                refine hK.out _ _ (fun _ => R) ?_; clear hK K; try simp only [Act.put, List.getElem_toArray, List.getElem_cons_succ, List.getElem_cons_zero, List.setIfInBounds_toArray, List.set_cons_zero, List.set_cons_succ]
                refine wpAnyF_one (i := 6) (by kernel_rfl) rfl (fun K hK => ?_); go_simp
                have FD := find_any g key (hash % 128) V3 hgo'h.out hp64'h.out.1 (Nat.lt_of_lt_of_le (Nat.mod_lt _ (by decide)) (by decide))
                obtain ⟨fl, hfl⟩ : ∃ fl, fl = findL g key (hash % 128) := ⟨_, rfl⟩
                obtain ⟨fn, hfn⟩ : ∃ fn, fn = findN g key (hash % 128) := ⟨_, rfl⟩
                obtain ⟨fe, hfe⟩ : ∃ fe, fe = findE g key (hash % 128) := ⟨_, rfl⟩
                rw [← hfl, ← hfn, ← hfe] at FD
                have hfl'h := Lib.hid hfl
                have hfn'h := Lib.hid hfn
                have hfe'h := Lib.hid hfe
                clear hfl hfn hfe
                refine FD.mono ?_
                clear FD
                rintro e V5 ⟨rfl, hb5⟩
                dsimp only
                have HE := HD.next hb5
                have BE := below_next BD hb5
                clear R HD BD hb5
                have R : V5.heap[b24]? = some (.cells (gpA g) 70 (0, 0)) ∧ (V5.cell? ⟨b12, 0, none⟩ = some (.int .u64 (key : Int)) ∧ V5.cell? ⟨b12, 1, none⟩ = some (.int .u64 (hash : Int))) := ⟨HE.rows.1, blk_cell HE.rows.2.2.1 rfl, blk_cell HE.rows.2.2.1 rfl⟩
                refine hK.out _ _ (fun _ => R) ?_; clear hK K; try simp only [Act.put, List.getElem_toArray, List.getElem_cons_succ, List.getElem_cons_zero, List.setIfInBounds_toArray, List.set_cons_zero, List.set_cons_succ]
                refine wpAnyF_take (i := 7) (v := .tuple #[.int .i64 fl, .int .i64 fn, .int .i64 fe]) rfl (by kernel_rfl) (by kernel_rfl) (by kernel_rfl) (by kernel_rfl) (fun _ _ _ h => h) (Or.inl ⟨by kernel_rfl, fun w hSw => by (try dsimp only at hSw); go_simp⟩) R ?_; try simp only [Act.put, List.getElem_toArray, List.getElem_cons_succ, List.getElem_cons_zero, List.setIfInBounds_toArray, List.set_cons_zero, List.set_cons_succ]
                refine wpAnyF_take (i := 8) (v := .int .i64 fl) rfl (by kernel_rfl) (by kernel_rfl) (by kernel_rfl) (by kernel_rfl) (fun _ _ _ h => h) (Or.inl ⟨by kernel_rfl, fun w hSw => by (try dsimp only at hSw); go_simp⟩) R ?_; try simp only [Act.put, List.getElem_toArray, List.getElem_cons_succ, List.getElem_cons_zero, List.setIfInBounds_toArray, List.set_cons_zero, List.set_cons_succ]
                refine wpAnyF_take (i := 9) (v := .int .i64 fn) rfl (by kernel_rfl) (by kernel_rfl) (by kernel_rfl) (by kernel_rfl) (fun _ _ _ h => h) (Or.inl ⟨by kernel_rfl, fun w hSw => by (try dsimp only at hSw); go_simp⟩) R ?_; try simp only [Act.put, List.getElem_toArray, List.getElem_cons_succ, List.getElem_cons_zero, List.setIfInBounds_toArray, List.set_cons_zero, List.set_cons_succ]
                refine wpAnyF_take (i := 10) (v := .int .i64 fe) rfl (by kernel_rfl) (by kernel_rfl) (by kernel_rfl) (by kernel_rfl) (fun _ _ _ h => h) (Or.inl ⟨by kernel_rfl, fun w hSw => by (try dsimp only at hSw); go_simp⟩) R ?_; try simp only [Act.put, List.getElem_toArray, List.getElem_cons_succ, List.getElem_cons_zero, List.setIfInBounds_toArray, List.set_cons_zero, List.set_cons_succ]
                refine wpAnyF_one (i := 11) (by kernel_rfl) rfl (fun K hK => ?_); go_simp
                refine hK.out _ _ (fun _ => R) ?_; clear hK K; try simp only [Act.put, List.getElem_toArray, List.getElem_cons_succ, List.getElem_cons_zero, List.setIfInBounds_toArray, List.set_cons_zero, List.set_cons_succ]
                refine wpAnyF_one (i := 12) (by kernel_rfl) rfl (fun K hK => ?_); go_simp
                refine hK.out _ _ (fun _ => R) ?_; clear hK K; try simp only [Act.put, List.getElem_toArray, List.getElem_cons_succ, List.getElem_cons_zero, List.setIfInBounds_toArray, List.set_cons_zero, List.set_cons_succ]
                refine wpAnyF_one (i := 13) (by kernel_rfl) rfl (fun K hK => ?_); go_simp
                refine hK.out _ _ (fun _ => R) ?_; clear hK K; try simp only [Act.put, List.getElem_toArray, List.getElem_cons_succ, List.getElem_cons_zero, List.setIfInBounds_toArray, List.set_cons_zero, List.set_cons_succ]
                refine wpAnyF_done (by kernel_rfl) ?_ _
                refine noPanic_normal ?_
                clear R
                have RE := (SlK.of_sl hRow'h.out).below BE
                clear BE
                have k8 : V5.cell? ⟨b13, 8, none⟩ = some (.int .u64 (rs.value : Int)) := blk_cell HE.rows.2.1 rfl
                have k9 : V5.cell? ⟨b13, 9, none⟩ = some (.bool rs.found) := blk_cell HE.rows.2.1 rfl
                cases hrg : rightG g with
                | false =>
                  have e200 : fe = 200 := by rw [hfe'h.out]; exact find_not hrg
                  subst e200
                  have HE'h := Lib.hid HE
                  have RE'h := Lib.hid RE
                  have hrg'h := Lib.hid hrg
                  clear HE RE hrg
                  go_wp2
                  go_roundg (go - 1)
                  case measure => have := hq'h.out; omega
                  case rel => exact ⟨k + 1, by have := hq'h.out; omega, by have := hk9'h.out; omega, by go_num, HE'h.out.tail.tail.tail⟩
                | true =>
                  obtain ⟨f1, f2⟩ := find_of (key := key) hrg (show hash % 128 ≤ 127 by omega)
                  rw [← hfe'h.out] at f1
                  rw [← hfl'h.out] at f2
                  have hlw := hlw'h.out
                  rw [lookW, hhit'h.out] at hlw
                  by_cases hfd : foundG g key (hash % 128) = true
                  · rw [if_pos hfd] at f1 f2 hlw
                    have hl8 : fl < 8 := by rw [f2]; exact lane_lt hfd
                    rw [← f2] at hlw
                    simp only at hlw
                    rw [hval'h.out fl hl8] at hlw
                    simp only [Prod.mk.injEq] at hlw
                    have kv : V5.cell? ⟨b24, 9 + fl, none⟩ = some (.int .u64 (g.v fl : Int)) := blk_cell HE.rows.1 (gpA_v g hl8)
                    rw [← hlw.1] at k9
                    rw [← hlw.2] at k8
                    have hl8i : (fl : Int) < 8 := by omega
                    have hl0i : (0 : Int) ≤ (fl : Int) := by omega
                    have z1 : ((g.v fl : Int) != (g.v fl : Int)) = false := by simp
                    subst f1
                    clear f2
                    have HE'h := Lib.hid HE
                    have RE'h := Lib.hid RE
                    have hrg'h := Lib.hid hrg
                    have hfd'h := Lib.hid hfd
                    have hlw'h := Lib.hid hlw
                    have hl8'h := Lib.hid hl8
                    clear HE RE hrg hfd hlw hl8
                    go_wp2
                    go_roundg (go - 1)
                    case measure => have := hq'h.out; omega
                    case rel => exact ⟨k + 1, by have := hq'h.out; omega, by have := hk9'h.out; omega, by go_num, HE'h.out.tail.tail.tail⟩
                  · rw [if_neg hfd] at f1 f2 hlw
                    simp only at hlw
                    have FR := gfree_any g V5 hgo'h.out
                    have fr0 : freeN g 0 = emptyN g := by unfold freeN; rw [if_pos hrg, if_pos rfl]
                    have fr1 : freeN g 1 = deadN g := by unfold freeN; rw [if_pos hrg, if_neg (by decide)]
                    rw [fr0, fr1] at FR
                    have hem := hemp'h.out
                    subst f1 f2
                    generalize emptyN g = en at *
                    generalize deadN g = dn at *
                    clear fr0 fr1
                    by_cases hen : en = 0
                    · rw [if_neg (fun h => hem.1 h hen)] at hlw
                      subst hen
                      have HE'h := Lib.hid HE
                      have RE'h := Lib.hid RE
                      have hrg'h := Lib.hid hrg
                      have hfd'h := Lib.hid hfd
                      have FR'h := Lib.hid FR
                      have hlw'h := Lib.hid hlw
                      clear HE RE hrg hfd FR hlw
                      go_upto_region 38 with (first | (guard_target = wpList _ _ _ (Oper.mk _ (.load _ (.tmp 24)) _ _ _ _ :: _) _ _; refine wpList_load_row rfl 70 (.tmp 24) rfl (b24) rfl 70 (gpA g) (0, 0) _ HE'h.out.rows.1 Try.underlying70 rfl infoGp ?_) | (go_at_call 34; refine FR'h.out.mono ?_; rintro e V6 ⟨rfl, hb6⟩))
                      have HF := HE'h.out.next hb6
                      have RF := RE'h.out.below hb6
                      clear k8 k9 hb6 HE'h RE'h
                      have HF'h := Lib.hid HF
                      have RF'h := Lib.hid RF
                      clear HF RF
                      go_wp2
                      subst hs10
                      go_roundg (gk - 1)
                      case measure => have := hqj'h.out; omega
                      case rel => exact ⟨j + 1, by have := hqj'h.out; omega, by go_num, rfl, rfl, rfl, HF'h.out.tail, RF'h.out.sl, hlw'h.out⟩
                    · rw [if_pos (hem.2 hen)] at hlw
                      simp only [Prod.mk.injEq] at hlw
                      rw [← hlw.1] at k9
                      rw [← hlw.2] at k8
                      have i1 : (0 : Int) < (en : Int) := by omega
                      have HE'h := Lib.hid HE
                      have RE'h := Lib.hid RE
                      have hrg'h := Lib.hid hrg
                      have hfd'h := Lib.hid hfd
                      have FR'h := Lib.hid FR
                      have hlw'h := Lib.hid hlw
                      clear HE RE hrg hfd FR hlw
                      go_upto_region 38 with (first | (guard_target = wpList _ _ _ (Oper.mk _ (.load _ (.tmp 24)) _ _ _ _ :: _) _ _; refine wpList_load_row rfl 70 (.tmp 24) rfl (b24) rfl 70 (gpA g) (0, 0) _ HE'h.out.rows.1 Try.underlying70 rfl infoGp ?_) | (go_at_call 34; refine FR'h.out.mono ?_; rintro e V6 ⟨rfl, hb6⟩))
                      have HF := HE'h.out.next hb6
                      clear k8 k9 hb6 HE'h RE'h
                      have k8 : V6.cell? ⟨b13, 8, none⟩ = some (.int .u64 0) := by have := hlw'h.out.2; have h2 := blk_cell (i := 8) (v := .int .u64 (rs.value : Int)) HF.rows.2.1 rfl; rw [← this] at h2; exact h2
                      have k9 : V6.cell? ⟨b13, 9, none⟩ = some (.bool false) := by have := hlw'h.out.1; have h2 := blk_cell (i := 9) (v := .bool rs.found) HF.rows.2.1 rfl; rw [← this] at h2; exact h2
                      have HF'h := Lib.hid HF
                      clear HF
                      go_wp2
                      go_roundg (go - 1)
                      case measure => have := hq'h.out; omega
                      case rel => exact ⟨k + 1, by have := hq'h.out; omega, by have := hk9'h.out; omega, by go_num, HF'h.out.tail.tail.tail⟩
              · subst hs10
                go_upto_region 30 with fail
                clear c1'
                generalize hs10 : (some (⟨rb, ro, none⟩ : Addr)) = s10 at *
                refine wp_region_heldQ (fun w' => w'.heap[w.heap.size]? = some (.cells (tbA t) 59 (0, 0))) 99 (by kernel_rfl) ?_
                have HA := hH'h.out.drew
                have BA : Below wr.heap.size wr wr.drew := Below.drew (Below.refl _ _)
                generalize wr.drew = V0 at HA BA ⊢
                have R := HA.rows.2.2.2.1
                refine wpAnyF_take (i := 0) (v := .int .i64 1) rfl (by kernel_rfl) (by kernel_rfl) (by kernel_rfl) (by kernel_rfl) (fun _ _ _ h => h) (Or.inl ⟨by kernel_rfl, fun w hSw => by (try dsimp only at hSw); go_simp⟩) R ?_; try simp only [Act.put, List.getElem_toArray, List.getElem_cons_succ, List.getElem_cons_zero, List.setIfInBounds_toArray, List.set_cons_zero, List.set_cons_succ]
                refine wpAnyF_take (i := 1) (v := .pointer (some ⟨w.heap.size, 5, none⟩)) rfl (by kernel_rfl) (by kernel_rfl) (by kernel_rfl) (by kernel_rfl) (fun _ _ _ h => h) (Or.inl ⟨by kernel_rfl, fun w hSw => by (try dsimp only at hSw); go_simp⟩) R ?_; try simp only [Act.put, List.getElem_toArray, List.getElem_cons_succ, List.getElem_cons_zero, List.setIfInBounds_toArray, List.set_cons_zero, List.set_cons_succ]
                refine wpAnyF_take (i := 2) (v := .pointer (some ⟨w.heap.size, 6, none⟩)) rfl (by kernel_rfl) (by kernel_rfl) (by kernel_rfl) (by kernel_rfl) (fun _ _ _ h => h) (Or.inl ⟨by kernel_rfl, fun w hSw => by (try dsimp only at hSw); go_simp⟩) R ?_; try simp only [Act.put, List.getElem_toArray, List.getElem_cons_succ, List.getElem_cons_zero, List.setIfInBounds_toArray, List.set_cons_zero, List.set_cons_succ]
                refine wpAnyF_take (i := 3) (v := .int .u64 (t.ct 1)) rfl (by kernel_rfl) (by kernel_rfl) (by kernel_rfl) (by kernel_rfl) (fun _ _ _ h => h) (Or.inl ⟨by kernel_rfl, fun w hSw => by have hcc := blk_cell (i := 6) (v := .int .u64 (t.ct 1 : Int)) hSw rfl; (try dsimp only at hSw); clear hSw; go_simp⟩) R ?_; try simp only [Act.put, List.getElem_toArray, List.getElem_cons_succ, List.getElem_cons_zero, List.setIfInBounds_toArray, List.set_cons_zero, List.set_cons_succ]
                refine wpAnyF_take (i := 4) (v := .pointer (some ⟨w.heap.size, 7, none⟩)) rfl (by kernel_rfl) (by kernel_rfl) (by kernel_rfl) (by kernel_rfl) (fun _ _ _ h => h) (Or.inl ⟨by kernel_rfl, fun w hSw => by (try dsimp only at hSw); go_simp⟩) R ?_; try simp only [Act.put, List.getElem_toArray, List.getElem_cons_succ, List.getElem_cons_zero, List.setIfInBounds_toArray, List.set_cons_zero, List.set_cons_succ]
                refine wpAnyF_take (i := 5) (v := .int .i64 1) rfl (by kernel_rfl) (by kernel_rfl) (by kernel_rfl) (by kernel_rfl) (fun _ _ _ h => h) (Or.inl ⟨by kernel_rfl, fun w hSw => by (try dsimp only at hSw); go_simp⟩) R ?_; try simp only [Act.put, List.getElem_toArray, List.getElem_cons_succ, List.getElem_cons_zero, List.setIfInBounds_toArray, List.set_cons_zero, List.set_cons_succ]
                refine wpAnyF_take (i := 6) (v := .int .i64 8) rfl (by kernel_rfl) (by kernel_rfl) (by kernel_rfl) (by kernel_rfl) (fun _ _ _ h => h) (Or.inl ⟨by kernel_rfl, fun w hSw => by (try dsimp only at hSw); go_simp; first | done | rfl | decide⟩) R ?_; try simp only [Act.put, List.getElem_toArray, List.getElem_cons_succ, List.getElem_cons_zero, List.setIfInBounds_toArray, List.set_cons_zero, List.set_cons_succ]
                refine wpAnyF_take (i := 7) (v := .slice (some ⟨w.heap.size, 15, none⟩) 8 8) rfl (by kernel_rfl) (by kernel_rfl) (by kernel_rfl) (by kernel_rfl) (fun _ _ _ h => h) (Or.inl ⟨by kernel_rfl, fun w hSw => by (try dsimp only at hSw); go_simp⟩) R ?_; try simp only [Act.put, List.getElem_toArray, List.getElem_cons_succ, List.getElem_cons_zero, List.setIfInBounds_toArray, List.set_cons_zero, List.set_cons_succ]
                refine wpAnyF_take (i := 8) (v := .pointer (some ⟨w.heap.size, 15, none⟩)) rfl (by kernel_rfl) (by kernel_rfl) (by kernel_rfl) (by kernel_rfl) (fun _ _ _ h => h) (Or.inl ⟨by kernel_rfl, fun w hSw => by (try dsimp only at hSw); go_simp; rw [run_arrayAt w _ _ 8 _ _ _ Try.underlying68 (by decide)]; rfl⟩) R ?_; try simp only [Act.put, List.getElem_toArray, List.getElem_cons_succ, List.getElem_cons_zero, List.setIfInBounds_toArray, List.set_cons_zero, List.set_cons_succ]
                refine wpAnyF_take (i := 9) (v := .agg #[.int .u64 (t.ks (8 + 0) : Nat), .int .u64 (t.ks (8 + 1) : Nat), .int .u64 (t.ks (8 + 2) : Nat), .int .u64 (t.ks (8 + 3) : Nat), .int .u64 (t.ks (8 + 4) : Nat), .int .u64 (t.ks (8 + 5) : Nat), .int .u64 (t.ks (8 + 6) : Nat), .int .u64 (t.ks (8 + 7) : Nat)]) rfl (by kernel_rfl) (by kernel_rfl) (by kernel_rfl) (by kernel_rfl) (fun _ _ _ h => h) (Or.inl ⟨by kernel_rfl, fun w hSw => by have hc0 := blk_cell (i := 15 + 0) (v := .int .u64 (t.ks (8 + 0) : Nat)) hSw rfl; have hc1 := blk_cell (i := 15 + 1) (v := .int .u64 (t.ks (8 + 1) : Nat)) hSw rfl; have hc2 := blk_cell (i := 15 + 2) (v := .int .u64 (t.ks (8 + 2) : Nat)) hSw rfl; have hc3 := blk_cell (i := 15 + 3) (v := .int .u64 (t.ks (8 + 3) : Nat)) hSw rfl; have hc4 := blk_cell (i := 15 + 4) (v := .int .u64 (t.ks (8 + 4) : Nat)) hSw rfl; have hc5 := blk_cell (i := 15 + 5) (v := .int .u64 (t.ks (8 + 5) : Nat)) hSw rfl; have hc6 := blk_cell (i := 15 + 6) (v := .int .u64 (t.ks (8 + 6) : Nat)) hSw rfl; have hc7 := blk_cell (i := 15 + 7) (v := .int .u64 (t.ks (8 + 7) : Nat)) hSw rfl; (try dsimp only at hSw); clear hSw; go_simp⟩) R ?_; try simp only [Act.put, List.getElem_toArray, List.getElem_cons_succ, List.getElem_cons_zero, List.setIfInBounds_toArray, List.set_cons_zero, List.set_cons_succ]
                refine wpAnyF_take (i := 10) (v := .pointer (some ⟨w.heap.size, 23, none⟩)) rfl (by kernel_rfl) (by kernel_rfl) (by kernel_rfl) (by kernel_rfl) (fun _ _ _ h => h) (Or.inl ⟨by kernel_rfl, fun w hSw => by (try dsimp only at hSw); go_simp⟩) R ?_; try simp only [Act.put, List.getElem_toArray, List.getElem_cons_succ, List.getElem_cons_zero, List.setIfInBounds_toArray, List.set_cons_zero, List.set_cons_succ]
                refine wpAnyF_take (i := 11) (v := .int .i64 1) rfl (by kernel_rfl) (by kernel_rfl) (by kernel_rfl) (by kernel_rfl) (fun _ _ _ h => h) (Or.inl ⟨by kernel_rfl, fun w hSw => by (try dsimp only at hSw); go_simp⟩) R ?_; try simp only [Act.put, List.getElem_toArray, List.getElem_cons_succ, List.getElem_cons_zero, List.setIfInBounds_toArray, List.set_cons_zero, List.set_cons_succ]
                refine wpAnyF_take (i := 12) (v := .int .i64 8) rfl (by kernel_rfl) (by kernel_rfl) (by kernel_rfl) (by kernel_rfl) (fun _ _ _ h => h) (Or.inl ⟨by kernel_rfl, fun w hSw => by (try dsimp only at hSw); go_simp; first | done | rfl | decide⟩) R ?_; try simp only [Act.put, List.getElem_toArray, List.getElem_cons_succ, List.getElem_cons_zero, List.setIfInBounds_toArray, List.set_cons_zero, List.set_cons_succ]
                refine wpAnyF_take (i := 13) (v := .slice (some ⟨w.heap.size, 31, none⟩) 8 8) rfl (by kernel_rfl) (by kernel_rfl) (by kernel_rfl) (by kernel_rfl) (fun _ _ _ h => h) (Or.inl ⟨by kernel_rfl, fun w hSw => by (try dsimp only at hSw); go_simp⟩) R ?_; try simp only [Act.put, List.getElem_toArray, List.getElem_cons_succ, List.getElem_cons_zero, List.setIfInBounds_toArray, List.set_cons_zero, List.set_cons_succ]
                refine wpAnyF_take (i := 14) (v := .pointer (some ⟨w.heap.size, 31, none⟩)) rfl (by kernel_rfl) (by kernel_rfl) (by kernel_rfl) (by kernel_rfl) (fun _ _ _ h => h) (Or.inl ⟨by kernel_rfl, fun w hSw => by (try dsimp only at hSw); go_simp; rw [run_arrayAt w _ _ 8 _ _ _ Try.underlying68 (by decide)]; rfl⟩) R ?_; try simp only [Act.put, List.getElem_toArray, List.getElem_cons_succ, List.getElem_cons_zero, List.setIfInBounds_toArray, List.set_cons_zero, List.set_cons_succ]
                refine wpAnyF_take (i := 15) (v := .agg #[.int .u64 (t.vs (8 + 0) : Nat), .int .u64 (t.vs (8 + 1) : Nat), .int .u64 (t.vs (8 + 2) : Nat), .int .u64 (t.vs (8 + 3) : Nat), .int .u64 (t.vs (8 + 4) : Nat), .int .u64 (t.vs (8 + 5) : Nat), .int .u64 (t.vs (8 + 6) : Nat), .int .u64 (t.vs (8 + 7) : Nat)]) rfl (by kernel_rfl) (by kernel_rfl) (by kernel_rfl) (by kernel_rfl) (fun _ _ _ h => h) (Or.inl ⟨by kernel_rfl, fun w hSw => by have hc0 := blk_cell (i := 31 + 0) (v := .int .u64 (t.vs (8 + 0) : Nat)) hSw rfl; have hc1 := blk_cell (i := 31 + 1) (v := .int .u64 (t.vs (8 + 1) : Nat)) hSw rfl; have hc2 := blk_cell (i := 31 + 2) (v := .int .u64 (t.vs (8 + 2) : Nat)) hSw rfl; have hc3 := blk_cell (i := 31 + 3) (v := .int .u64 (t.vs (8 + 3) : Nat)) hSw rfl; have hc4 := blk_cell (i := 31 + 4) (v := .int .u64 (t.vs (8 + 4) : Nat)) hSw rfl; have hc5 := blk_cell (i := 31 + 5) (v := .int .u64 (t.vs (8 + 5) : Nat)) hSw rfl; have hc6 := blk_cell (i := 31 + 6) (v := .int .u64 (t.vs (8 + 6) : Nat)) hSw rfl; have hc7 := blk_cell (i := 31 + 7) (v := .int .u64 (t.vs (8 + 7) : Nat)) hSw rfl; (try dsimp only at hSw); clear hSw; go_simp⟩) R ?_; try simp only [Act.put, List.getElem_toArray, List.getElem_cons_succ, List.getElem_cons_zero, List.setIfInBounds_toArray, List.set_cons_zero, List.set_cons_succ]
                refine wpAnyF_take (i := 16) (v := .agg (gpA (grpT t 1))) rfl (by kernel_rfl) (by kernel_rfl) (by kernel_rfl) (by kernel_rfl) (fun _ _ _ h => h) (Or.inl ⟨by kernel_rfl, fun w hSw => run_build_agg rfl (by rfl) (by kernel_rfl)⟩) R ?_; try simp only [Act.put, List.getElem_toArray, List.getElem_cons_succ, List.getElem_cons_zero, List.setIfInBounds_toArray, List.set_cons_zero, List.set_cons_succ]
                refine wpAnyF_one (i := 17) (by kernel_rfl) rfl (fun K hK => ?_)
                go_simp
                generalize hV1 : World.alloc V0 _ = V1
                have HB := HA.new (gpA gpZ) 70
                rw [show V0.alloc (.cells (gpA gpZ) 70) = V1 from hV1] at HB
                have BB : Below wr.heap.size wr V1 := by rw [← hV1]; exact BA.alloc BA.size _
                obtain ⟨b24, hb24⟩ : ∃ b24, b24 = V0.heap.size := ⟨_, rfl⟩
                rw [← hb24] at HB ⊢
                have hge : wr.heap.size ≤ b24 := by rw [hb24]; exact BA.size
                clear R hV1 hb24 HA BA
                have R := HB.rows.2.2.2.2.1
                refine hK.out _ _ (fun _ => R) ?_; clear hK K; try simp only [Act.put, List.getElem_toArray, List.getElem_cons_succ, List.getElem_cons_zero, List.setIfInBounds_toArray, List.set_cons_zero, List.set_cons_succ]
                refine wpAnyF_one (i := 18) (by kernel_rfl) rfl (fun K hK => ?_)
                refine step_store_row rfl _ _ _ rfl b24 (gpA (grpT t 1)) rfl rfl 70 _ HB.rows.1 infoGp rfl (gpA_one _) ?_
                have HC := HB.set 0 rfl (gpA (grpT t 1))
                have BC := below_setRow' BB hge (gpA (grpT t 1))
                generalize World.setRow _ _ _ = V2 at HC BC ⊢
                clear R HB BB
                have R := HC.rows.2.2.2.2.1
                refine hK.out _ _ (fun _ => R) ?_; clear hK K; try simp only [Act.put, List.getElem_toArray, List.getElem_cons_succ, List.getElem_cons_zero, List.setIfInBounds_toArray, List.set_cons_zero, List.set_cons_succ]
                refine wpAnyF_done (by kernel_rfl) ?_ _
                refine noPanic_normal ?_
                clear R
                have hgo := grpT_ok okT'h.out 1
                have hhit := hit_is t d1 cn lv sb key (hash % 128) (show 1 < 2 by decide)
                have hemp := empty_is t d1 cn lv sb (show 1 < 2 by decide)
                have hval := fun i (h : i < 8) => val_at t d1 cn lv sb (show 1 < 2 by decide) h
                rw [← hws'h.out] at hhit hemp
                simp only [← hws'h.out] at hval
                generalize grpT t 1 = g at *
                have HC'h := Lib.hid HC
                have BC'h := Lib.hid BC
                have hgo'h := Lib.hid hgo
                have hhit'h := Lib.hid hhit
                have hemp'h := Lib.hid hemp
                have hval'h := Lib.hid hval
                clear HC BC hgo hhit hemp hval
                go_upto_region 31 with fail
                refine wp_region_heldQ (fun w' => w'.heap[b24]? = some (.cells (gpA g) 70 (0, 0)) ∧ (w'.cell? ⟨b12, 0, none⟩ = some (.int .u64 (key : Int)) ∧ w'.cell? ⟨b12, 1, none⟩ = some (.int .u64 (hash : Int)))) 99 (by kernel_rfl) ?_
                have HD := HC'h.out.drew
                have BD := BC'h.out.drew
                generalize V2.drew = V3 at HD BD ⊢
                clear HC'h BC'h
                have R : V3.heap[b24]? = some (.cells (gpA g) 70 (0, 0)) ∧ (V3.cell? ⟨b12, 0, none⟩ = some (.int .u64 (key : Int)) ∧ V3.cell? ⟨b12, 1, none⟩ = some (.int .u64 (hash : Int))) := ⟨HD.rows.1, blk_cell HD.rows.2.2.1 rfl, blk_cell HD.rows.2.2.1 rfl⟩
                refine wpAnyF_take (i := 0) (v := .agg (gpA g)) rfl (by kernel_rfl) (by kernel_rfl) (by kernel_rfl) (by kernel_rfl) (fun _ _ _ h => h) (Or.inl ⟨by kernel_rfl, fun w hSw => run_load_agg (by rfl) (by rfl) hSw.1 Try.underlying70 rfl infoGp⟩) R ?_; try simp only [Act.put, List.getElem_toArray, List.getElem_cons_succ, List.getElem_cons_zero, List.setIfInBounds_toArray, List.set_cons_zero, List.set_cons_succ]
                refine wpAnyF_take (i := 1) (v := .pointer (some ⟨b12, 0, none⟩)) rfl (by kernel_rfl) (by kernel_rfl) (by kernel_rfl) (by kernel_rfl) (fun _ _ _ h => h) (Or.inl ⟨by kernel_rfl, fun w hSw => by (try dsimp only at hSw); go_simp⟩) R ?_; try simp only [Act.put, List.getElem_toArray, List.getElem_cons_succ, List.getElem_cons_zero, List.setIfInBounds_toArray, List.set_cons_zero, List.set_cons_succ]
                refine wpAnyF_take (i := 2) (v := .int .u64 key) rfl (by kernel_rfl) (by kernel_rfl) (by kernel_rfl) (by kernel_rfl) (fun _ _ _ h => h) (Or.inl ⟨by kernel_rfl, fun w hSw => by have hcc := hSw.2.1; (try dsimp only at hSw); go_simp⟩) R ?_; try simp only [Act.put, List.getElem_toArray, List.getElem_cons_succ, List.getElem_cons_zero, List.setIfInBounds_toArray, List.set_cons_zero, List.set_cons_succ]
                refine wpAnyF_take (i := 3) (v := .pointer (some ⟨b12, 1, none⟩)) rfl (by kernel_rfl) (by kernel_rfl) (by kernel_rfl) (by kernel_rfl) (fun _ _ _ h => h) (Or.inl ⟨by kernel_rfl, fun w hSw => by (try dsimp only at hSw); go_simp⟩) R ?_; try simp only [Act.put, List.getElem_toArray, List.getElem_cons_succ, List.getElem_cons_zero, List.setIfInBounds_toArray, List.set_cons_zero, List.set_cons_succ]
                refine wpAnyF_take (i := 4) (v := .int .u64 hash) rfl (by kernel_rfl) (by kernel_rfl) (by kernel_rfl) (by kernel_rfl) (fun _ _ _ h => h) (Or.inl ⟨by kernel_rfl, fun w hSw => by have hcc := hSw.2.2; (try dsimp only at hSw); go_simp⟩) R ?_; try simp only [Act.put, List.getElem_toArray, List.getElem_cons_succ, List.getElem_cons_zero, List.setIfInBounds_toArray, List.set_cons_zero, List.set_cons_succ]
                refine wpAnyF_one (i := 5) (by kernel_rfl) rfl (fun K hK => ?_); go_simp
                refine (h2_any hash V3 hp64'h.out.2).mono ?_
                rintro e V4 ⟨rfl, hV4⟩
                obtain rfl := hV4.symm
                dsimp only
                refine hK.out _ _ (fun _ => R) ?_; clear hK K; try simp only [Act.put, List.getElem_toArray, List.getElem_cons_succ, List.getElem_cons_zero, List.setIfInBounds_toArray, List.set_cons_zero, List.set_cons_succ]
                refine wpAnyF_one (i := 6) (by kernel_rfl) rfl (fun K hK => ?_); go_simp
                have FD := find_any g key (hash % 128) V3 hgo'h.out hp64'h.out.1 (Nat.lt_of_lt_of_le (Nat.mod_lt _ (by decide)) (by decide))
                obtain ⟨fl, hfl⟩ : ∃ fl, fl = findL g key (hash % 128) := ⟨_, rfl⟩
                obtain ⟨fn, hfn⟩ : ∃ fn, fn = findN g key (hash % 128) := ⟨_, rfl⟩
                obtain ⟨fe, hfe⟩ : ∃ fe, fe = findE g key (hash % 128) := ⟨_, rfl⟩
                rw [← hfl, ← hfn, ← hfe] at FD
                have hfl'h := Lib.hid hfl
                have hfn'h := Lib.hid hfn
                have hfe'h := Lib.hid hfe
                clear hfl hfn hfe
                refine FD.mono ?_
                clear FD
                rintro e V5 ⟨rfl, hb5⟩
                dsimp only
                have HE := HD.next hb5
                have BE := below_next BD hb5
                clear R HD BD hb5
                have R : V5.heap[b24]? = some (.cells (gpA g) 70 (0, 0)) ∧ (V5.cell? ⟨b12, 0, none⟩ = some (.int .u64 (key : Int)) ∧ V5.cell? ⟨b12, 1, none⟩ = some (.int .u64 (hash : Int))) := ⟨HE.rows.1, blk_cell HE.rows.2.2.1 rfl, blk_cell HE.rows.2.2.1 rfl⟩
                refine hK.out _ _ (fun _ => R) ?_; clear hK K; try simp only [Act.put, List.getElem_toArray, List.getElem_cons_succ, List.getElem_cons_zero, List.setIfInBounds_toArray, List.set_cons_zero, List.set_cons_succ]
                refine wpAnyF_take (i := 7) (v := .tuple #[.int .i64 fl, .int .i64 fn, .int .i64 fe]) rfl (by kernel_rfl) (by kernel_rfl) (by kernel_rfl) (by kernel_rfl) (fun _ _ _ h => h) (Or.inl ⟨by kernel_rfl, fun w hSw => by (try dsimp only at hSw); go_simp⟩) R ?_; try simp only [Act.put, List.getElem_toArray, List.getElem_cons_succ, List.getElem_cons_zero, List.setIfInBounds_toArray, List.set_cons_zero, List.set_cons_succ]
                refine wpAnyF_take (i := 8) (v := .int .i64 fl) rfl (by kernel_rfl) (by kernel_rfl) (by kernel_rfl) (by kernel_rfl) (fun _ _ _ h => h) (Or.inl ⟨by kernel_rfl, fun w hSw => by (try dsimp only at hSw); go_simp⟩) R ?_; try simp only [Act.put, List.getElem_toArray, List.getElem_cons_succ, List.getElem_cons_zero, List.setIfInBounds_toArray, List.set_cons_zero, List.set_cons_succ]
                refine wpAnyF_take (i := 9) (v := .int .i64 fn) rfl (by kernel_rfl) (by kernel_rfl) (by kernel_rfl) (by kernel_rfl) (fun _ _ _ h => h) (Or.inl ⟨by kernel_rfl, fun w hSw => by (try dsimp only at hSw); go_simp⟩) R ?_; try simp only [Act.put, List.getElem_toArray, List.getElem_cons_succ, List.getElem_cons_zero, List.setIfInBounds_toArray, List.set_cons_zero, List.set_cons_succ]
                refine wpAnyF_take (i := 10) (v := .int .i64 fe) rfl (by kernel_rfl) (by kernel_rfl) (by kernel_rfl) (by kernel_rfl) (fun _ _ _ h => h) (Or.inl ⟨by kernel_rfl, fun w hSw => by (try dsimp only at hSw); go_simp⟩) R ?_; try simp only [Act.put, List.getElem_toArray, List.getElem_cons_succ, List.getElem_cons_zero, List.setIfInBounds_toArray, List.set_cons_zero, List.set_cons_succ]
                refine wpAnyF_one (i := 11) (by kernel_rfl) rfl (fun K hK => ?_); go_simp
                refine hK.out _ _ (fun _ => R) ?_; clear hK K; try simp only [Act.put, List.getElem_toArray, List.getElem_cons_succ, List.getElem_cons_zero, List.setIfInBounds_toArray, List.set_cons_zero, List.set_cons_succ]
                refine wpAnyF_one (i := 12) (by kernel_rfl) rfl (fun K hK => ?_); go_simp
                refine hK.out _ _ (fun _ => R) ?_; clear hK K; try simp only [Act.put, List.getElem_toArray, List.getElem_cons_succ, List.getElem_cons_zero, List.setIfInBounds_toArray, List.set_cons_zero, List.set_cons_succ]
                refine wpAnyF_one (i := 13) (by kernel_rfl) rfl (fun K hK => ?_); go_simp
                refine hK.out _ _ (fun _ => R) ?_; clear hK K; try simp only [Act.put, List.getElem_toArray, List.getElem_cons_succ, List.getElem_cons_zero, List.setIfInBounds_toArray, List.set_cons_zero, List.set_cons_succ]
                refine wpAnyF_done (by kernel_rfl) ?_ _
                refine noPanic_normal ?_
                clear R
                have RE := (SlK.of_sl hRow'h.out).below BE
                clear BE
                have k8 : V5.cell? ⟨b13, 8, none⟩ = some (.int .u64 (rs.value : Int)) := blk_cell HE.rows.2.1 rfl
                have k9 : V5.cell? ⟨b13, 9, none⟩ = some (.bool rs.found) := blk_cell HE.rows.2.1 rfl
                cases hrg : rightG g with
                | false =>
                  have e200 : fe = 200 := by rw [hfe'h.out]; exact find_not hrg
                  subst e200
                  have HE'h := Lib.hid HE
                  have RE'h := Lib.hid RE
                  have hrg'h := Lib.hid hrg
                  clear HE RE hrg
                  go_wp2
                  go_roundg (go - 1)
                  case measure => have := hq'h.out; omega
                  case rel => exact ⟨k + 1, by have := hq'h.out; omega, by have := hk9'h.out; omega, by go_num, HE'h.out.tail.tail.tail⟩
                | true =>
                  obtain ⟨f1, f2⟩ := find_of (key := key) hrg (show hash % 128 ≤ 127 by omega)
                  rw [← hfe'h.out] at f1
                  rw [← hfl'h.out] at f2
                  have hlw := hlw'h.out
                  rw [lookW, hhit'h.out] at hlw
                  by_cases hfd : foundG g key (hash % 128) = true
                  · rw [if_pos hfd] at f1 f2 hlw
                    have hl8 : fl < 8 := by rw [f2]; exact lane_lt hfd
                    rw [← f2] at hlw
                    simp only at hlw
                    rw [hval'h.out fl hl8] at hlw
                    simp only [Prod.mk.injEq] at hlw
                    have kv : V5.cell? ⟨b24, 9 + fl, none⟩ = some (.int .u64 (g.v fl : Int)) := blk_cell HE.rows.1 (gpA_v g hl8)
                    rw [← hlw.1] at k9
                    rw [← hlw.2] at k8
                    have hl8i : (fl : Int) < 8 := by omega
                    have hl0i : (0 : Int) ≤ (fl : Int) := by omega
                    have z1 : ((g.v fl : Int) != (g.v fl : Int)) = false := by simp
                    subst f1
                    clear f2
                    have HE'h := Lib.hid HE
                    have RE'h := Lib.hid RE
                    have hrg'h := Lib.hid hrg
                    have hfd'h := Lib.hid hfd
                    have hlw'h := Lib.hid hlw
                    have hl8'h := Lib.hid hl8
                    clear HE RE hrg hfd hlw hl8
                    go_wp2
                    go_roundg (go - 1)
                    case measure => have := hq'h.out; omega
                    case rel => exact ⟨k + 1, by have := hq'h.out; omega, by have := hk9'h.out; omega, by go_num, HE'h.out.tail.tail.tail⟩
                  · rw [if_neg hfd] at f1 f2 hlw
                    simp only at hlw
                    have FR := gfree_any g V5 hgo'h.out
                    have fr0 : freeN g 0 = emptyN g := by unfold freeN; rw [if_pos hrg, if_pos rfl]
                    have fr1 : freeN g 1 = deadN g := by unfold freeN; rw [if_pos hrg, if_neg (by decide)]
                    rw [fr0, fr1] at FR
                    have hem := hemp'h.out
                    subst f1 f2
                    generalize emptyN g = en at *
                    generalize deadN g = dn at *
                    clear fr0 fr1
                    by_cases hen : en = 0
                    · rw [if_neg (fun h => hem.1 h hen)] at hlw
                      subst hen
                      have HE'h := Lib.hid HE
                      have RE'h := Lib.hid RE
                      have hrg'h := Lib.hid hrg
                      have hfd'h := Lib.hid hfd
                      have FR'h := Lib.hid FR
                      have hlw'h := Lib.hid hlw
                      clear HE RE hrg hfd FR hlw
                      go_upto_region 38 with (first | (guard_target = wpList _ _ _ (Oper.mk _ (.load _ (.tmp 24)) _ _ _ _ :: _) _ _; refine wpList_load_row rfl 70 (.tmp 24) rfl (b24) rfl 70 (gpA g) (0, 0) _ HE'h.out.rows.1 Try.underlying70 rfl infoGp ?_) | (go_at_call 34; refine FR'h.out.mono ?_; rintro e V6 ⟨rfl, hb6⟩))
                      have HF := HE'h.out.next hb6
                      have RF := RE'h.out.below hb6
                      clear k8 k9 hb6 HE'h RE'h
                      have HF'h := Lib.hid HF
                      have RF'h := Lib.hid RF
                      clear HF RF
                      go_wp2
                      subst hs10
                      go_roundg (gk - 1)
                      case measure => have := hqj'h.out; omega
                      case rel => exact ⟨j + 1, by have := hqj'h.out; omega, by go_num, rfl, rfl, rfl, HF'h.out.tail, RF'h.out.sl, hlw'h.out⟩
                    · rw [if_pos (hem.2 hen)] at hlw
                      simp only [Prod.mk.injEq] at hlw
                      rw [← hlw.1] at k9
                      rw [← hlw.2] at k8
                      have i1 : (0 : Int) < (en : Int) := by omega
                      have HE'h := Lib.hid HE
                      have RE'h := Lib.hid RE
                      have hrg'h := Lib.hid hrg
                      have hfd'h := Lib.hid hfd
                      have FR'h := Lib.hid FR
                      have hlw'h := Lib.hid hlw
                      clear HE RE hrg hfd FR hlw
                      go_upto_region 38 with (first | (guard_target = wpList _ _ _ (Oper.mk _ (.load _ (.tmp 24)) _ _ _ _ :: _) _ _; refine wpList_load_row rfl 70 (.tmp 24) rfl (b24) rfl 70 (gpA g) (0, 0) _ HE'h.out.rows.1 Try.underlying70 rfl infoGp ?_) | (go_at_call 34; refine FR'h.out.mono ?_; rintro e V6 ⟨rfl, hb6⟩))
                      have HF := HE'h.out.next hb6
                      clear k8 k9 hb6 HE'h RE'h
                      have k8 : V6.cell? ⟨b13, 8, none⟩ = some (.int .u64 0) := by have := hlw'h.out.2; have h2 := blk_cell (i := 8) (v := .int .u64 (rs.value : Int)) HF.rows.2.1 rfl; rw [← this] at h2; exact h2
                      have k9 : V6.cell? ⟨b13, 9, none⟩ = some (.bool false) := by have := hlw'h.out.1; have h2 := blk_cell (i := 9) (v := .bool rs.found) HF.rows.2.1 rfl; rw [← this] at h2; exact h2
                      have HF'h := Lib.hid HF
                      clear HF
                      go_wp2
                      go_roundg (go - 1)
                      case measure => have := hq'h.out; omega
                      case rel => exact ⟨k + 1, by have := hq'h.out; omega, by have := hk9'h.out; omega, by go_num, HF'h.out.tail.tail.tail⟩
            · have hi2 : ¬ (j : Int) < 2 := by omega
              have hj2 : j = 2 := by omega
              subst hj2
              have hlw0 : (rs.found, rs.value) = (false, 0) := hlw.symm.trans rfl
              simp only [Prod.mk.injEq] at hlw0
              have k8 : wr.cell? ⟨b13, 8, none⟩ = some (.int .u64 0) := by have h2 := blk_cell (i := 8) (v := .int .u64 (rs.value : Int)) hH.rows.1 rfl; rw [hlw0.2] at h2; exact h2
              have k9 : wr.cell? ⟨b13, 9, none⟩ = some (.bool false) := by have h2 := blk_cell (i := 9) (v := .bool rs.found) hH.rows.1 rfl; rw [hlw0.1] at h2; exact h2
              clear hlt
              have hH'h := Lib.hid hH
              have hqj'h := Lib.hid hqj
              have hRow'h := Lib.hid hRow
              have hlw'h := Lib.hid hlw
              have hlw0'h := Lib.hid hlw0
              clear hH hqj hRow hlw hlw0
              go_wp2
              go_roundg (go - 1)
              case measure => have := hq'h.out; omega
              case rel => exact ⟨k + 1, by have := hq'h.out; omega, by have := hk9'h.out; omega, by go_num, hH'h.out.tail.tail⟩
    · have hi1 : ¬ (k : Int) < (n1 : Int) := by omega
      clear hlt
      have hH'h := Lib.hid hH
      have hq'h := Lib.hid hq
      have hk10'h := Lib.hid hk10
      clear hH hq hk10
      go_wp2
      go_ret
      exact ⟨rfl, hH'h.out.old⟩
end Go.Proofs.Ytoklgjlmjkhmbaa
