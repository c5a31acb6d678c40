/-
  Several texts of mine in one: ScrG ScrH ScrI ScrJ ScrK ScrL ScrM ScrN.
-/
import Derived.Test.YtifofdciablljaaDoorQ2
import Derived.Test.YtifofdciablljaaDoorQ1
import Derived.Sort.LoopGhostIn
import Derived.Sort.CutIn
import Derived.Defers
import Derived.Recover
import Derived.WalkLawsBesides
import Derived.Deep.RegionWith
import Derived.StillTailTactics
import Derived.ScopeJumps
import Derived.Deep.RegionHeld3
/-
  Layer 3 (script): the numbers of a script, as its iterator tells them.
-/
set_option linter.unusedSimpArgs false
set_option linter.unusedVariables false
set_option maxRecDepth 100000
namespace Go.Proofs.YtifofdciablljaaDoor
open Go.RowKit

/-- The numbers of a call, of a row of calls, of a script. -/
def encC (c : Cal) : List Nat := c.op.toNat :: (wordsC c).take (takesI c.op).toNat
def encL (l : List Cal) : List Nat := l.length :: l.flatMap encC
def encS (s : Scr) : List Nat := s.goers.toNat :: s.slabs.toNat :: s.seed :: (s.lists.flatMap encL ++ s.picks.length :: s.picks)
theorem drop_at {α : Type} {l : List α} {k : Nat} {x : α} (h : l[k]? = some x) : l.drop k = x :: l.drop (k + 1) := by
  obtain ⟨hk, e⟩ := List.getElem?_eq_some_iff.1 h
  rw [List.drop_eq_getElem_cons hk, e]
def valV (n : Nat) : Array Value := #[.int .u64 (n : Int)]

/-- The blocks that are read while a script's numbers are told. -/
def numRO (bs : Nat) (s : Sm) (b : Nat) : Prop := b = bs ∨ b = 0 ∨ (0 < s.ln ∧ s.lp.map (·.block) = some b) ∨ (0 < s.pn ∧ s.pp.map (·.block) = some b) ∨ ∃ r ∈ s.rows, 0 < r.len ∧ r.sp.map (·.block) = some b
theorem SlK.keepP {w w' : World} {k : Nat} {sp : Option Addr} {n : Nat} {vals : List Value} (h : SlK w k sp n vals) (hk : 0 < n → ∀ b, b < w.heap.size → sp.map (·.block) = some b → w'.heap[b]? = w.heap[b]?) : SlK w' k sp n vals := by
  obtain ⟨h1, h2, h3⟩ := h
  refine ⟨h1, h2, ?_⟩
  rcases Nat.eq_zero_or_pos n with h0 | h0
  · exact .inl h0
  · obtain ⟨b, off, rfl, hc⟩ := h3.resolve_left (by omega)
    refine .inr ⟨b, off, rfl, fun j u hu => ?_⟩
    have hcj := hc j u hu
    exact cell_of_heap (hk h0 b (lt_of_cell hcj) rfl) hcj
theorem SlK.low {w : World} {k : Nat} {sp : Option Addr} {n : Nat} {vals : List Value} (h : SlK w k sp n vals) (hk : 0 < k) (hn : 0 < n) {b : Nat} (hb : sp.map (·.block) = some b) : b < w.heap.size := by
  obtain ⟨b', off, rfl, hc⟩ := h.some' hn
  have e : b' = b := by simpa using hb
  subst e
  have hl : 0 < vals.length := by rw [h.1]; exact Nat.mul_pos hn hk
  exact lt_of_cell (hc 0 _ (List.getElem?_eq_getElem hl))
theorem SmIn.low {w : World} {s : Sm} (h : SmIn w s) (hT : Tks w) {bs b : Nat} (hb : numRO bs s b) : b = bs ∨ b < w.heap.size := by
  rcases hb with hb | rfl | ⟨h0, hb⟩ | ⟨h0, hb⟩ | ⟨r, hr, h0, hb⟩
  · exact .inl hb
  · exact .inr hT.lt
  · exact .inr (h.rows.sl.low (by decide) h0 hb)
  · exact .inr ((SlK.of_sl h.picks).low (by decide) h0 hb)
  · exact .inr ((h.rows.each r hr).low (by decide) h0 hb)
structure NumR (bs : Nat) (s : Sm) (W : World) : Prop where
  box : W.heap[bs]? = some (.cells (smA s) 26)
  inn : SmIn W s
  tks : Tks W
theorem NumR.kept {bs : Nat} {s : Sm} {W W' : World} (h : NumR bs s W) (hk : ∀ b, b < W.heap.size → numRO bs s b → W'.heap[b]? = W.heap[b]?) : NumR bs s W' := by
  obtain ⟨h1, h2, h3⟩ := h
  refine ⟨(hk bs (lt_of_heap h1) (.inl rfl)).trans h1, ⟨⟨h2.rows.sl.keepP fun h0 b hb hm => hk b hb (.inr (.inr (.inl ⟨h0, hm⟩))), fun r hr => (h2.rows.each r hr).keepP fun h0 b hb hm => hk b hb (.inr (.inr (.inr (.inr ⟨r, hr, h0, hm⟩)))), h2.rows.nil, h2.rows.le, h2.rows.ok, h2.rows.few, h2.rows.short⟩,
    ((SlK.of_sl h2.picks).keepP fun h0 b hb hm => hk b hb (.inr (.inr (.inr (.inl ⟨h0, hm⟩))))).sl, h2.w64, h2.seed, h2.g, h2.sl, h2.lnil, h2.lle, h2.pnil, h2.ple, h2.many⟩, fun i hi => cell_of_heap (hk 0 h3.lt (.inr (.inl rfl))) (h3 i hi)⟩
theorem NumR.below {bs : Nat} {s : Sm} {W W' : World} (h : NumR bs s W) (hb : Below W.heap.size W W') : NumR bs s W' := h.kept fun b hb' _ => hb.block b hb'
theorem NumR.c0 {bs : Nat} {s : Sm} {W : World} (h : NumR bs s W) : W.cell? ⟨bs, 0, none⟩ = some (.int .i64 s.goers) := blk_cell (i := 0) h.box rfl
theorem NumR.c1 {bs : Nat} {s : Sm} {W : World} (h : NumR bs s W) : W.cell? ⟨bs, 1, none⟩ = some (.int .i64 s.slabs) := blk_cell (i := 1) h.box rfl
theorem NumR.c2 {bs : Nat} {s : Sm} {W : World} (h : NumR bs s W) : W.cell? ⟨bs, 2, none⟩ = some (.int .u64 (s.seed : Int)) := blk_cell (i := 2) h.box rfl
theorem NumR.c3 {bs : Nat} {s : Sm} {W : World} (h : NumR bs s W) : W.cell? ⟨bs, 3, none⟩ = some (.slice s.lp s.ln s.lc) := blk_cell (i := 3) h.box rfl
theorem NumR.c4 {bs : Nat} {s : Sm} {W : World} (h : NumR bs s W) : W.cell? ⟨bs, 4, none⟩ = some (.slice s.pp s.pn s.pc) := blk_cell (i := 4) h.box rfl
/-- What a script's iterator says of what it has told. -/
def NumY (told : List Nat) (vs : Vs) (_ : Nat → Prop) (_ : World) : Prop := ∃ pre rest, told = pre ++ rest ∧ vs = pre.map valV
theorem NumY.keeps (RO : Nat → Prop) (told : List Nat) : KeepsY RO (NumY told) := fun _ _ _ _ h _ => h
/-- While the numbers are told: rest is still to be told. -/
structure NumI (J : Vs → (Nat → Prop) → World → Prop) (told : List Nat) (bs : Nat) (s : Sm) (W : World) (rest : List Nat) (S : Nat → Prop) (wr : World) : Prop where
  pre : ∃ pre, told = pre ++ rest ∧ J (pre.map valV) S wr
  own : ∀ b, S b → W.heap.size ≤ b
  num : NumR bs s wr
  size : W.heap.size ≤ wr.heap.size
section
variable {J : Vs → (Nat → Prop) → World → Prop} {told : List Nat} {bs : Nat} {s : Sm} {W : World} {rest : List Nat} {S : Nat → Prop} {wr wr' : World}
theorem NumI.below (h : NumI J told bs s W rest S wr) (hJ : ∀ vs, Stable (J vs)) (hb : Below wr.heap.size wr wr') : NumI J told bs s W rest S wr' := by
  obtain ⟨⟨pre, h1, h2⟩, h3, h4, h5⟩ := h
  exact ⟨⟨pre, h1, hJ _ _ _ _ _ h2 (Foreign.of_below hb)⟩, h3, h4.below hb, Nat.le_trans h5 hb.size⟩
theorem NumI.alloc (h : NumI J told bs s W rest S wr) (hJ : ∀ vs, Stable (J vs)) (o : Obj) : NumI J told bs s W rest (fun b => S b ∨ b = wr.heap.size) (wr.alloc o) := by
  obtain ⟨⟨pre, h1, h2⟩, h3, h4, h5⟩ := h
  refine ⟨⟨pre, h1, hJ _ _ _ _ _ h2 (Foreign.alloc _ _)⟩, fun b hb => ?_, h4.below ((Below.refl _ _).alloc (Nat.le_refl _) _), by simp; omega⟩
  rcases hb with hb | rfl
  · exact h3 b hb
  · exact h5
theorem NumI.yield {n l : Nat} {F : Fence} {m : Nat} (h : NumI J told bs s W (n :: rest) S wr)
    (hY : ∀ vs v S1 W1, J vs S1 W1 → vs.length < told.length → NumY told (vs ++ [v]) S1 W1 → YieldAt F m Tryd.prog l v W1 fun e W' => e = .returned (.bool true) ∧ J (vs ++ [v]) S1 W' ∧ Kept (fun b => numRO bs s b ∨ S1 b) W1 W') :
    ∃ fn tmps assign body, (Instr.yield l #[.int .u64 (n : Int)]).run Tryd.prog wr = .ok (.round l fn tmps assign body) wr ∧ RoundIn F m Tryd.prog l fn tmps assign body wr fun e W' =>
      e = .returned (.bool true) ∧ NumI J told bs s W rest S W' ∧ Kept (fun b => numRO bs s b ∨ S b) wr W' := by
  obtain ⟨⟨pre, h1, h2⟩, h3, h4, h5⟩ := h
  have e : (pre ++ [n]).map valV = pre.map valV ++ [valV n] := by simp
  obtain ⟨fn, tmps, assign, body, hy, hR⟩ := hY (pre.map valV) (valV n) S wr h2 (by rw [List.length_map, h1]; simp) ⟨pre ++ [n], rest, by rw [h1]; simp, e.symm⟩
  refine ⟨fn, tmps, assign, body, hy, hR.mono ?_⟩
  rintro e W' ⟨rfl, hj, hk⟩
  exact ⟨rfl, ⟨⟨pre ++ [n], by rw [h1]; simp, by rw [e]; exact hj⟩, h3, h4.kept fun b hb hr => hk.block b hb (.inl hr), Nat.le_trans h5 hk.size⟩, hk⟩
end
set_option maxHeartbeats 4000000 in
theorem numbers_it (bs : Nat) (s : Sm) (w : World) (hN : NumR bs s w) (hr : rightS s.scr = true) :
    SeqItT Fence.wide 0 Tryd.prog 61 #[.pointer (some ⟨bs, 0, none⟩)] (encS s.scr).length (NumY (encS s.scr)) (fun _ => False) (numRO bs s) w := by
  intro ly J W hJ hW hY h0
  have hNW := hN.below hW
  have hI0 : NumI J (encS s.scr) bs s W (encS s.scr) (fun _ => False) W := ⟨⟨[], rfl, h0⟩, fun b h => h.elim, hNW, Nat.le_refl _⟩
  obtain ⟨told, htold⟩ : ∃ told, told = encS s.scr := ⟨_, rfl⟩
  rw [← htold] at hI0 hY ⊢
  have hln := hN.inn.ln
  have hrlen := hN.inn.rows.len
  have hrr := hr
  unfold rightS headS sizesS at hr
  simp only [Bool.and_eq_true, decide_eq_true_eq] at hr
  obtain ⟨⟨⟨⟨⟨⟨g1, g2⟩, b1⟩, b2⟩, hgl⟩, hpl⟩, hcl, hall⟩ := hr
  have g1' : 1 ≤ s.goers := g1
  have g2' : s.goers ≤ 8 := g2
  have b1' : 2 ≤ s.slabs := b1
  have b2' : s.slabs ≤ 128 := b2
  obtain ⟨g, hg⟩ : ∃ g : Nat, s.goers = (g : Int) := ⟨s.goers.toNat, by omega⟩
  obtain ⟨sb, hsb⟩ : ∃ sb : Nat, s.slabs = (sb : Int) := ⟨s.slabs.toNat, by omega⟩
  have hg8 : g ≤ 8 := by omega
  have hsb8 : sb ≤ 128 := by omega
  have hbody : told = g :: sb :: s.seed :: (s.scr.lists.flatMap encL ++ s.picks.length :: s.picks) := by rw [htold]; unfold encS Sm.scr; simp only [hg, hsb]; rfl
  have hI0' : NumI J told bs s W (g :: sb :: s.seed :: (s.scr.lists.flatMap encL ++ s.picks.length :: s.picks)) (fun _ => False) W := by rw [← hbody]; exact hI0
  have c0 := hNW.c0
  rw [hg] at c0
  obtain ⟨rest, hrest⟩ : ∃ rest, rest = s.scr.lists.flatMap encL ++ s.picks.length :: s.picks := ⟨_, rfl⟩
  rw [← hrest] at hI0'
  have hseed := hN.inn.seed
  clear hI0 hbody hW h0 g1 g2 b1 b2 g1' g2' b1' b2' hrr hgl
  have hY'h := Lib.hid hY
  have hJ'h := Lib.hid hJ
  have hN'h := Lib.hid hN
  have hNW'h := Lib.hid hNW
  have htold'h := Lib.hid htold
  have hln'h := Lib.hid hln
  have hrlen'h := Lib.hid hrlen
  have hpl'h := Lib.hid hpl
  have hcl'h := Lib.hid hcl
  have hall'h := Lib.hid hall
  have hg'h := Lib.hid hg
  have hsb'h := Lib.hid hsb
  have hI0''h := Lib.hid hI0'
  have hrest'h := Lib.hid hrest
  have hseed'h := Lib.hid hseed
  clear hY hJ hN hNW htold hln hrlen hpl hcl hall hg hsb hI0' hrest hseed
  obtain ⟨fn, tmps, assign, body, hy, hR⟩ := hI0''h.out.yield hY'h.out
  refine callsIn_of_wp Tryd.func61 rfl trivial ?_ rfl
  simp only [Tryd.ntmps61, List.size_toArray, List.length_cons, List.length_nil, Nat.reduceAdd, Nat.reduceSub, Array.replicate_succ, Array.replicate_zero, List.push_toArray, List.append_toArray, List.nil_append, List.cons_append]
  gi_wp2_with fail
  refine hR.mono ?_; clear hy hR; clear fn tmps assign body
  rintro e W1 ⟨rfl, h1, -⟩
  have c1 := h1.num.c1
  rw [hsb'h.out] at c1
  have h1'h := Lib.hid h1
  clear h1
  obtain ⟨fn, tmps, assign, body, hy, hR⟩ := h1'h.out.yield hY'h.out
  clear c0
  gi_wp2_with fail
  refine hR.mono ?_; clear hy hR; clear fn tmps assign body
  rintro e W2 ⟨rfl, h2, -⟩
  have c2 := h2.num.c2
  have h2'h := Lib.hid h2
  clear h2
  obtain ⟨fn, tmps, assign, body, hy, hR⟩ := h2'h.out.yield hY'h.out
  clear c1
  gi_wp2_with fail
  refine hR.mono ?_; clear hy hR; clear fn tmps assign body
  rintro e W3 ⟨rfl, h3, -⟩
  have c3 := h3.num.c3
  have h3'h := Lib.hid h3
  clear h3
  clear c2
  have hn16 : s.ln ≤ 16 := hN'h.out.inn.rows.few
  gi_wp2
  gi_loopg [3, 34] s.ln (fun q on ix wr => ∃ (k : Nat) (S : Nat → Prop), k + q = s.ln ∧ on = .bool true ∧ ix = .int .i64 (k : Int) ∧ NumI J told bs s W ((s.scr.lists.drop k).flatMap encL ++ s.picks.length :: s.picks) S wr)
  case atStart => exact ⟨0, _, by omega, rfl, rfl, by have := h3'h.out; rw [hrest'h.out] at this; exact this⟩
  case round =>
    obtain ⟨k, S, hk, rfl, rfl, hI⟩ := hrel
    obtain ⟨go, rfl⟩ : ∃ go : Nat, go = gk := ⟨_, rfl⟩
    clear c3
    by_cases hlt : k < s.ln
    · have hkl : k < s.rows.length := by have := hrlen'h.out; omega
      obtain ⟨rb, ro, hlp, d1⟩ := hI.num.inn.rows.head hlt
      have hlk : s.scr.lists[k]? = some (nthR s.rows k).cs := by unfold Sm.scr; simp only [List.getElem?_map]; rw [nthR_at hkl]; rfl
      have hrl := hI.num.inn.rows.rlen (nthR_mem hkl)
      have hrs := hI.num.inn.rows.short _ (nthR_mem hkl)
      have hmem := nthR_mem hkl
      obtain ⟨r, hr⟩ : ∃ r, r = nthR s.rows k := ⟨_, rfl⟩
      rw [← hr] at d1 hlk hrl hrs hmem
      have hall2 : ∀ c ∈ r.cs, rightC c = true := fun c hc => List.all_eq_true.1 hall'h.out c (List.mem_flatten.2 ⟨r.cs, List.mem_of_getElem? hlk, hc⟩)
      have hdr : (s.scr.lists.drop k).flatMap encL = r.len :: (r.cs.flatMap encC ++ (s.scr.lists.drop (k + 1)).flatMap encL) := by
        rw [drop_at hlk, List.flatMap_cons, hrl]; rfl
      rw [hdr] at hI
      obtain ⟨R1, hR1⟩ : ∃ R1, R1 = (s.scr.lists.drop (k + 1)).flatMap encL ++ s.picks.length :: s.picks := ⟨_, rfl⟩
      have hI2 : NumI J told bs s W (r.len :: (r.cs.flatMap encC ++ R1)) S wr := by rw [hR1]; simpa using hI
      have c3 := hI.num.c3
      rw [hlp] at c3
      have i1 : (k : Int) < (s.ln : Int) := by omega
      have i2 : (0 : Int) ≤ (k : Int) := by omega
      have hrl66 : r.len ≤ 66 := by omega
      clear hI hdr hr
      have hk'h := Lib.hid hk
      have hlk'h := Lib.hid hlk
      have hrl'h := Lib.hid hrl
      have hrs'h := Lib.hid hrs
      have hmem'h := Lib.hid hmem
      have hall2'h := Lib.hid hall2
      have hI2'h := Lib.hid hI2
      have hR1'h := Lib.hid hR1
      have hkl'h := Lib.hid hkl
      clear hk hlk hrl hrs hmem hall2 hI2 hR1 hkl
      obtain ⟨fn, tmps, assign, body, hy, hR⟩ := hI2'h.out.yield hY'h.out
      rw [hlp]
      gi_wp2_with fail
      refine hR.mono ?_; clear hy hR; clear fn tmps assign body
      rintro e W4 ⟨rfl, h4, -⟩
      clear c3 d1
      have h4'h := Lib.hid h4
      clear h4
      gi_wp2
      gi_loopg [3, 48] r.len (fun q on ix wr => ∃ (j : Nat) (S : Nat → Prop), j + q = r.len ∧ on = .bool true ∧ ix = .int .i64 (j : Int) ∧ NumI J told bs s W ((r.cs.drop j).flatMap encC ++ R1) S wr)
      case atStart => exact ⟨0, _, by omega, rfl, rfl, h4'h.out⟩
      case round =>
        obtain ⟨j, S5, hj, rfl, rfl, h5⟩ := hrel
        obtain ⟨go5, rfl⟩ : ∃ go5 : Nat, go5 = gk := ⟨_, rfl⟩
        by_cases hjl : j < r.len
        · have hjc : j < r.cs.length := by have := hrl'h.out; omega
          have hS5 := h5.num.inn.rows.each r hmem'h.out
          obtain ⟨cb, co, hsp⟩ := slk_some hS5 (by omega)
          rw [hsp] at hS5
          obtain ⟨x0, x1, x2, x3⟩ := cals_cells hS5 hjc
          have hcj : r.cs[j]? = some (nthCal r.cs j) := nthCal_at hjc
          obtain ⟨c, hc⟩ : ∃ c, c = nthCal r.cs j := ⟨_, rfl⟩
          rw [← hc] at x0 x1 x2 x3 hcj
          have hrc := hall2'h.out c (List.mem_of_getElem? hcj)
          unfold rightC at hrc
          simp only [Bool.and_eq_true, decide_eq_true_eq] at hrc
          obtain ⟨ho1, ho7⟩ := takesI_some hrc.1
          have htr := takesI_range c.op
          have hT5 : takesI c.op = tkL.getD c.op.toNat 0 := by unfold takesI; rw [if_neg (by omega)]
          obtain ⟨o, ho⟩ : ∃ o : Nat, c.op = (o : Int) := ⟨c.op.toNat, by omega⟩
          obtain ⟨t, ht⟩ : ∃ t : Nat, takesI c.op = (t : Int) := ⟨(takesI c.op).toNat, by omega⟩
          have hto : tkL.getD o 0 = (t : Int) := by rw [← ht, hT5, ho, Int.toNat_natCast]
          have ho8 : o < 8 := by omega
          have ho1' : 1 ≤ o := by omega
          have ht3 : t ≤ 3 := by omega
          have hdr : (r.cs.drop j).flatMap encC ++ R1 = o :: ((wordsC c).take t ++ ((r.cs.drop (j + 1)).flatMap encC ++ R1)) := by
            rw [drop_at hcj, List.flatMap_cons]
            unfold encC
            rw [ht, ho]
            simp
          rw [hdr] at h5
          obtain ⟨R2, hR2⟩ : ∃ R2, R2 = (r.cs.drop (j + 1)).flatMap encC ++ R1 := ⟨_, rfl⟩
          rw [← hR2] at h5
          obtain ⟨ww, hww⟩ : ∃ ww : List Nat, ww = wordsC c := ⟨_, rfl⟩
          rw [← hww] at h5
          have hww3 : ww = [c.key, c.a, c.b] := hww
          rw [ho] at x0
          obtain ⟨op, key, a, b⟩ := c
          simp only at x0 x1 x2 x3 hww3 ho
          subst ho
          have i1 : (j : Int) < (r.len : Int) := by omega
          have i2 : (0 : Int) ≤ (j : Int) := by omega
          have h6 := h5.alloc hJ'h.out (.cells #[.int .i64 (o : Int), .int .u64 (key : Int), .int .u64 (a : Int), .int .u64 (b : Int)] 57)
          have hb7 : (wr.alloc (.cells #[.int .i64 (o : Int), .int .u64 (key : Int), .int .u64 (a : Int), .int .u64 (b : Int)] 57)).heap[wr.heap.size]? = some (.cells #[.int .i64 (o : Int), .int .u64 (key : Int), .int .u64 (a : Int), .int .u64 (b : Int)] 57) := World.alloc_heap_new _ _
          clear hc hcj hrc htr hT5 hdr hww ht hS5 h5 ho1 ho7
          rw [hsp]
          have hj'h := Lib.hid hj
          have hjl'h := Lib.hid hjl
          have hjc'h := Lib.hid hjc
          have hsp'h := Lib.hid hsp
          have hto'h := Lib.hid hto
          have hR2'h := Lib.hid hR2
          have hww3'h := Lib.hid hww3
          have h6'h := Lib.hid h6
          have hb7'h := Lib.hid hb7
          clear hj hjl hjc hsp hto hR2 hww3 h6 hb7
          obtain ⟨fn, tmps, assign, body, hy, hR⟩ := h6'h.out.yield hY'h.out
          gi_wp2_with fail
          refine hR.mono ?_; clear hy hR; clear fn tmps assign body
          rintro e W5 ⟨rfl, h7, hk7⟩
          have hb75 := (hk7.block wr.heap.size (lt_of_heap hb7'h.out) (.inr (.inr rfl))).trans hb7'h.out
          clear x0 x1 x2 x3 hk7
          have h7'h := Lib.hid h7
          have hb75'h := Lib.hid hb75
          clear h7 hb75
          gi_wp2_with fail
          refine (callsIn_wide.2 (words_any wr.heap.size 0 W5)).mono ?_
          rintro e W6 ⟨rfl, hB6⟩
          have h8 := h7'h.out.below hJ'h.out hB6
          have hb76 := heap_below hB6 hb75'h.out (lt_of_heap hb75'h.out)
          have h9 := h8.alloc hJ'h.out (.cells #[.pointer (some ⟨wr.heap.size, 1, none⟩), .pointer (some ⟨wr.heap.size, 2, none⟩), .pointer (some ⟨wr.heap.size, 3, none⟩)] 93)
          have hb8 : (W6.alloc (.cells #[.pointer (some ⟨wr.heap.size, 1, none⟩), .pointer (some ⟨wr.heap.size, 2, none⟩), .pointer (some ⟨wr.heap.size, 3, none⟩)] 93)).heap[W6.heap.size]? = _ := World.alloc_heap_new _ _
          have hb79 := heap_below ((Below.refl W6.heap.size W6).alloc (Nat.le_refl _) (.cells #[.pointer (some ⟨wr.heap.size, 1, none⟩), .pointer (some ⟨wr.heap.size, 2, none⟩), .pointer (some ⟨wr.heap.size, 3, none⟩)] 93)) hb76 (lt_of_heap hb76)
          have tc := h9.num.tks o ho8
          rw [hto'h.out] at tc
          have e0 := blk_cell (i := 0) hb79 rfl
          have i3 : (0 : Int) ≤ (o : Int) := by omega
          have i4 : (o : Int) < 8 := by omega
          have i5 : (t : Int) ≤ 3 := by omega
          have i6 : ¬ ((t : Int) < 0) := by omega
          have i7 : ¬ ((3 : Int) < (t : Int)) := by omega
          clear hB6 h8 hb76
          have h9'h := Lib.hid h9
          have hb8'h := Lib.hid hb8
          have hb79'h := Lib.hid hb79
          clear h9 hb8 hb79
          gi_wp2
          obtain ⟨B7, hB7e⟩ : ∃ B7, B7 = wr.heap.size := ⟨_, rfl⟩
          obtain ⟨B8, hB8e⟩ : ∃ B8, B8 = W6.heap.size := ⟨_, rfl⟩
          rw [← hB7e, ← hB8e]
          have h9 := h9'h.out
          have hb8 := hb8'h.out
          have hb79 := hb79'h.out
          rw [← hB7e] at h9 hb8 hb79
          rw [← hB8e] at h9 hb8
          clear h9'h hb8'h hb79'h tc e0 i1 i2 i3 i4 i6 i7
          generalize hWg : W6.alloc _ = W9 at h9 hb8 hb79 ⊢
          clear hWg
          have hwq : ∀ i, i < t → ∃ p x : Nat, (#[.pointer (some ⟨B7, 1, none⟩), .pointer (some ⟨B7, 2, none⟩), .pointer (some ⟨B7, 3, none⟩)] : Array Value)[i]? = some (.pointer (some ⟨B7, p, none⟩)) ∧
              (#[.int .i64 (o : Int), .int .u64 (key : Int), .int .u64 (a : Int), .int .u64 (b : Int)] : Array Value)[p]? = some (.int .u64 (x : Int)) ∧ (ww.take t).drop i = x :: (ww.take t).drop (i + 1) := by
            intro i hi
            have hx : ∀ x, ww[i]? = some x → (ww.take t).drop i = x :: (ww.take t).drop (i + 1) := fun x hx => drop_at (by rw [List.getElem?_take, if_pos hi]; exact hx)
            rcases (show i = 0 ∨ i = 1 ∨ i = 2 by omega) with rfl | rfl | rfl
            · exact ⟨1, key, rfl, rfl, hx key (by rw [hww3'h.out]; rfl)⟩
            · exact ⟨2, a, rfl, rfl, hx a (by rw [hww3'h.out]; rfl)⟩
            · exact ⟨3, b, rfl, rfl, hx b (by rw [hww3'h.out]; rfl)⟩
          have h9'h := Lib.hid h9
          have hb8'h := Lib.hid hb8
          have hb79'h := Lib.hid hb79
          have hwq'h := Lib.hid hwq
          have hB7e'h := Lib.hid hB7e
          have hB8e'h := Lib.hid hB8e
          clear h9 hb8 hb79 hwq hB7e hB8e
          gi_loopg [3, 67] t (fun q on ix wr => ∃ (i : Nat) (S : Nat → Prop), i + q = t ∧ on = .bool true ∧ ix = .int .i64 (i : Int) ∧ NumI J told bs s W ((ww.take t).drop i ++ R2) S wr ∧ S B7 ∧ S B8 ∧
            wr.heap[B7]? = some (.cells #[.int .i64 (o : Int), .int .u64 (key : Int), .int .u64 (a : Int), .int .u64 (b : Int)] 57) ∧
            wr.heap[B8]? = some (.cells #[.pointer (some ⟨B7, 1, none⟩), .pointer (some ⟨B7, 2, none⟩), .pointer (some ⟨B7, 3, none⟩)] 93))
          case atStart => exact ⟨0, _, by omega, rfl, rfl, h9'h.out, .inl (.inr rfl), .inr rfl, hb79'h.out, hb8'h.out⟩
          case round =>
            obtain ⟨i, S9, hi, rfl, rfl, hI9, s7, s8, y7, y8⟩ := hrel
            obtain ⟨go9, rfl⟩ : ∃ go9 : Nat, go9 = gk := ⟨_, rfl⟩
            by_cases hit : i < t
            · obtain ⟨p, x, z1, z2, z3⟩ := hwq'h.out i hit
              have u1 := blk_cell y8 z1
              have u2 := blk_cell y7 z2
              rw [z3] at hI9
              have i1 : (i : Int) < (t : Int) := by omega
              have i2 : (0 : Int) ≤ (i : Int) := by omega
              have hI9' : NumI J told bs s W (x :: ((ww.take t).drop (i + 1) ++ R2)) S9 wr := hI9
              clear hI9 z1 z2 z3
              have hi'h := Lib.hid hi
              have hI9''h := Lib.hid hI9'
              have s7'h := Lib.hid s7
              have s8'h := Lib.hid s8
              have y7'h := Lib.hid y7
              have y8'h := Lib.hid y8
              clear hi hI9' s7 s8 y7 y8
              obtain ⟨fn, tmps, assign, body, hy, hR⟩ := hI9''h.out.yield hY'h.out
              gi_wp2_with fail
              refine hR.mono ?_; clear hy hR; clear fn tmps assign body
              rintro e W10 ⟨rfl, h10, hk10⟩
              have y7' := (hk10.block B7 (lt_of_heap y7'h.out) (.inr s7'h.out)).trans y7'h.out
              have y8' := (hk10.block B8 (lt_of_heap y8'h.out) (.inr s8'h.out)).trans y8'h.out
              clear hk10 u1 u2
              have h10'h := Lib.hid h10
              have y7''h := Lib.hid y7'
              have y8''h := Lib.hid y8'
              clear h10 y7' y8'
              gi_wp2
              gi_roundg (go9 - 1)
              case measure => have := hi'h.out; omega
              case rel => exact ⟨i + 1, S9, by have := hi'h.out; omega, rfl, by go_num, h10'h.out, s7'h.out, s8'h.out, y7''h.out, y8''h.out⟩
            · have i1 : ¬ (i : Int) < (t : Int) := by omega
              have hit2 : i = t := by omega
              have hI9' : NumI J told bs s W ((r.cs.drop (j + 1)).flatMap encC ++ R1) S9 wr := by
                rw [hR2'h.out, hit2] at hI9
                rwa [List.drop_eq_nil_of_le (by rw [List.length_take]; omega), List.nil_append] at hI9
              clear hI9 s7 s8 y7 y8
              have hI9''h := Lib.hid hI9'
              have hit2'h := Lib.hid hit2
              clear hI9' hit2
              have hjr := hjl'h.out
              gi_wp2
              rw [← hsp'h.out]
              gi_roundg (go5 - 1)
              case measure => have := hj'h.out; omega
              case rel => exact ⟨j + 1, S9, by have := hj'h.out; omega, rfl, by go_num, hI9''h.out⟩
        · have i1 : ¬ (j : Int) < (r.len : Int) := by omega
          have h5' : NumI J told bs s W ((s.scr.lists.drop (k + 1)).flatMap encL ++ s.picks.length :: s.picks) S5 wr := by
            rw [List.drop_eq_nil_of_le (by have := hrl'h.out; omega), List.flatMap_nil, List.nil_append, hR1'h.out] at h5
            exact h5
          clear h5
          have h5''h := Lib.hid h5'
          clear h5'
          gi_wp2
          rw [← hlp]
          gi_roundg (go - 1)
          case measure => have := hk'h.out; omega
          case rel => exact ⟨k + 1, S5, by have := hk'h.out; omega, rfl, by go_num, h5''h.out⟩
    · have i1 : ¬ (k : Int) < (s.ln : Int) := by omega
      have hI4 : NumI J told bs s W (s.pn :: s.picks) S wr := by
        rw [List.drop_eq_nil_of_le (by unfold Sm.scr; rw [List.length_map]; have := hrlen'h.out; omega), List.flatMap_nil, List.nil_append] at hI
        have e : s.picks.length = s.pn := by have := hI.num.inn.picks.1; rw [u64s_length] at this; exact this.symm
        rwa [e] at hI
      have c4 := hI.num.c4
      have hpn := hN'h.out.inn.many
      clear hI
      have hI4'h := Lib.hid hI4
      clear hI4
      obtain ⟨fn, tmps, assign, body, hy, hR⟩ := hI4'h.out.yield hY'h.out
      gi_wp2_with fail
      refine hR.mono ?_; clear hy hR; clear fn tmps assign body
      rintro e W5 ⟨rfl, h5, -⟩
      have c5 := h5.num.c4
      clear c4
      have h5'h := Lib.hid h5
      clear h5
      gi_wp2
      gi_loopg [3, 94] s.pn (fun q on ix wr => ∃ (j : Nat) (S : Nat → Prop), j + q = s.pn ∧ on = .bool true ∧ ix = .int .i64 (j : Int) ∧ NumI J told bs s W (s.picks.drop j) S wr)
      case atStart => exact ⟨0, _, by omega, rfl, rfl, h5'h.out⟩
      case round =>
        obtain ⟨j, S6, hj, rfl, rfl, h6⟩ := hrel
        obtain ⟨go6, rfl⟩ : ∃ go6 : Nat, go6 = gk := ⟨_, rfl⟩
        clear c5
        have hpl2 : s.pn = s.picks.length := by have := h6.num.inn.picks.1; rw [u64s_length] at this; exact this
        by_cases hjl : j < s.pn
        · have i1 : (j : Int) < (s.pn : Int) := by omega
          have i2 : (0 : Int) ≤ (j : Int) := by omega
          obtain ⟨pb, po, hpp, hcs⟩ := h6.num.inn.picks.some' (by omega)
          have d1 : wr.cell? ⟨pb, po + j, none⟩ = some (.int .u64 ((nthN s.picks j : Nat) : Int)) := hcs j _ (u64s_at (by omega))
          have hd : s.picks.drop j = nthN s.picks j :: s.picks.drop (j + 1) := by
            refine drop_at ?_
            rw [List.getElem?_eq_getElem (by omega)]
            unfold nthN
            rw [List.getD_eq_getElem?_getD, List.getElem?_eq_getElem (by omega)]
            rfl
          rw [hd] at h6
          generalize nthN s.picks j = x at *
          clear hcs hd
          have h6'h := Lib.hid h6
          have hj'h := Lib.hid hj
          have hpl2'h := Lib.hid hpl2
          clear h6 hj hpl2
          obtain ⟨fn, tmps, assign, body, hy, hR⟩ := h6'h.out.yield hY'h.out
          rw [hpp]
          gi_wp2_with fail
          refine hR.mono ?_; clear hy hR; clear fn tmps assign body
          rintro e W7 ⟨rfl, h7, -⟩
          clear d1
          have h7'h := Lib.hid h7
          clear h7
          gi_wp2
          rw [← hpp]
          gi_roundg (go6 - 1)
          case measure => have := hj'h.out; omega
          case rel => exact ⟨j + 1, S6, by have := hj'h.out; omega, rfl, by go_num, h7'h.out⟩
        · have i1 : ¬ (j : Int) < (s.pn : Int) := by omega
          rw [List.drop_eq_nil_of_le (by omega)] at h6
          have h6'h := Lib.hid h6
          clear h6
          gi_wp2
          refine bodyPost_end (results_none rfl _ _ _) rfl ?_
          obtain ⟨pre, e1, e2⟩ := h6'h.out.pre
          rw [List.append_nil] at e1
          exact ⟨⟨_, rfl⟩, _, _, by rw [List.length_map, e1], ⟨pre, [], by rw [e1]; simp, rfl⟩, e2⟩
end Go.Proofs.YtifofdciablljaaDoor

/-
  Layer 3 (script): Encode.
-/
set_option linter.unusedSimpArgs false
set_option linter.unusedVariables false
set_option maxRecDepth 100000
namespace Go.Proofs.YtifofdciablljaaDoor
open Go.RowKit

/-- A script's bytes. -/
def bytesS (s : Scr) : List Nat := (encS s).flatMap numB
theorem numbers_any (s : Sm) (w : World) : Calls Tryd.prog 45 #[.agg (smA s)] w fun e w' =>
    e = .returned (.func (.func 61) #[] #[.pointer (some ⟨w.heap.size, 0, none⟩)]) ∧ w' = w.alloc (.cells (smA s) 26) := by
  go_enter Tryd.func45, Tryd.ntmps45
  go_wp2
  go_ret
  exact ⟨rfl, rfl⟩
theorem enters_numbers (args : Array Value) (w : World) : (callFunc 61 args).run Tryd.prog w = .ok (.enter 61 args) w :=
  enters_of Tryd.func61 (by kernel_rfl) rfl args w

/-! ### How long the row of numbers is -/
theorem encC_len (c : Cal) : (encC c).length ≤ 4 := by unfold encC wordsC; simp; omega
theorem flat_encC : ∀ l : List Cal, (l.flatMap encC).length ≤ 4 * l.length
  | [] => by simp
  | c :: r => by have := encC_len c; have := flat_encC r; simp only [List.flatMap_cons, List.length_append, List.length_cons]; omega
theorem flat_encL : ∀ ls : List (List Cal), (ls.flatMap encL).length ≤ ls.length + 4 * ls.flatten.length
  | [] => by simp
  | l :: r => by
    have := flat_encC l
    have := flat_encL r
    simp only [List.flatMap_cons, List.length_append, List.length_cons, List.flatten_cons, encL]
    omega
theorem encS_len {s : Scr} (h : rightS s = true) : (encS s).length ≤ 4400 := by
  unfold rightS headS sizesS at h
  simp only [Bool.and_eq_true, decide_eq_true_eq] at h
  obtain ⟨⟨⟨⟨⟨⟨g1, g2⟩, b1⟩, b2⟩, hgl⟩, hpl⟩, hcl, hall⟩ := h
  have := flat_encL s.lists
  unfold encS
  simp only [List.length_cons, List.length_append]
  omega
theorem flat_numB : ∀ l : List Nat, (∀ n ∈ l, n < 2 ^ 64) → (l.flatMap numB).length ≤ 10 * l.length
  | [], _ => by simp
  | n :: r, h => by
    have := numB_ten (h n (by simp))
    have := flat_numB r fun x hx => h x (by simp [hx])
    simp only [List.flatMap_cons, List.length_append, List.length_cons]; omega

/-- While a script's bytes are put behind each other. -/
structure EncI (B bo : Nat) (w : World) (vs : Vs) (S : Nat → Prop) (W : World) : Prop where
  out : ∃ (v : Value) (pre : List Nat), vs = pre.map valV ∧ Own1 ⟨bo, 0, none⟩ v S W ∧ OwnR B 5 1 v (pre.flatMap numB).length (u8s (pre.flatMap numB)) S W
  old : Old w.heap.size w S W
  lo : B ≤ W.heap.size
theorem EncI.stable (B bo : Nat) (w : World) (vs : Vs) : Stable (EncI B bo w vs) := fun S S' W W' h f => by
  obtain ⟨⟨v, pre, h1, h2, h3⟩, h4, h5⟩ := h
  exact ⟨⟨v, pre, h1, Own1.stable _ _ _ _ _ _ h2 f, OwnR.stable _ _ _ _ _ _ _ _ _ _ h3 f⟩, Old.stable _ _ _ _ _ _ h4 f, Nat.le_trans h5 f.size⟩
theorem NumY.last {told : List Nat} {vs : Vs} {v : Array Value} {S : Nat → Prop} {W : World} (h : NumY told (vs ++ [v]) S W) : ∃ n, v = valV n := by
  obtain ⟨pre, rest, h1, h2⟩ := h
  have hv : v ∈ pre.map valV := by rw [← h2]; simp
  obtain ⟨n, -, rfl⟩ := List.mem_map.1 hv
  exact ⟨n, rfl⟩
theorem valV_inj {a b : List Nat} (h : a.map valV = b.map valV) : a = b :=
  List.map_inj_right (fun x y h => by unfold valV at h; simp at h; omega) |>.1 h
theorem encS_lt {w : World} {s : Sm} (h : SmIn w s) : ∀ n ∈ encS s.scr, n < 2 ^ 64 := by
  have hC : ∀ c, CalOk c → ∀ n ∈ encC c, n < 2 ^ 64 := by
    intro c hc n hn
    unfold encC at hn
    rcases List.mem_cons.1 hn with rfl | hn
    · have := hc.hi; omega
    · have := List.mem_of_mem_take hn
      unfold wordsC at this
      simp only [List.mem_cons, List.not_mem_nil, or_false] at this
      rcases this with rfl | rfl | rfl
      · exact hc.key
      · exact hc.a
      · exact hc.b
  intro n hn
  unfold encS Sm.scr at hn
  simp only [List.mem_cons, List.mem_append, List.mem_flatMap, List.mem_map] at hn
  rcases hn with rfl | rfl | rfl | ⟨l, ⟨r, hr, rfl⟩, hn⟩ | rfl | hn
  · have := h.g; omega
  · have := h.sl; omega
  · exact h.seed
  · unfold encL at hn
    rcases List.mem_cons.1 hn with rfl | hn
    · have := h.rows.short r hr; omega
    · obtain ⟨c, hc, hn⟩ := List.mem_flatMap.1 hn
      exact hC c (h.rows.ok r hr c hc) n hn
  · have := h.many; have h2 := h.picks.1; rw [u64s_length] at h2; omega
  · exact h.w64 n hn
set_option maxHeartbeats 1000000 in
theorem encode_no (s : Sm) (w : World) (hT : Tks w) (h : SmIn w s) (hr : rightS s.scr = false) :
    Calls Tryd.prog 23 #[.agg (smA s)] w fun e w' => e = .returned (.tuple #[.slice none 0 0, .int .i64 130]) ∧ Below w.heap.size w w' := by
  have hB1 : Below w.heap.size w (w.alloc (.cells (smA s) 26)) := (Below.refl _ _).alloc (Nat.le_refl _) _
  have hb1 : (w.alloc (.cells (smA s) 26)).heap[w.heap.size]? = some (.cells (smA s) 26) := World.alloc_heap_new _ _
  have C := check_any s _ (hT.next hB1) (h.below hB1)
  have e : chkS s.scr = 130 := by unfold chkS; rw [hr]; rfl
  rw [e] at C
  have C'h := Lib.hid C
  have hB1'h := Lib.hid hB1
  have hb1'h := Lib.hid hb1
  clear C hB1 hb1
  refine (callsIn_wide (n := 0)).1 ?_
  refine callsIn_of_wp_marks Tryd.func23 rfl trivial ?_
  simp only [Tryd.ntmps23, List.size_toArray, List.length_cons, List.length_nil, Nat.reduceAdd, Nat.reduceSub, Array.replicate_succ, Array.replicate_zero, List.push_toArray, List.append_toArray, List.nil_append, List.cons_append]
  refine wpIn_wide.2 ?_
  go_wp2_with (guard_target = wpList _ _ _ (Oper.mk _ (.load _ (.tmp 1)) _ _ _ _ :: _) _ _; refine wpList_load_row rfl 26 (.tmp 1) rfl (w.heap.size) rfl 26 (smA s) (0, 0) _ hb1'h.out Tryd.underlying26 rfl info_sm ?_)
  refine C'h.out.mono ?_
  rintro e w2 ⟨rfl, hB2⟩
  have hB2'h := Lib.hid hB2
  clear hB2
  go_wp2
  exact post_plain (.inl rfl) (results_tmp2 rfl _ _ _) ⟨rfl, hB1'h.out.trans (hB2'h.out.mono hB1'h.out.size)⟩
def encAx (bo : Nat) (I : (Nat → Prop) → World → Prop) (F : Nat → Act) (v : Array Value) (a : Act) (S : Nat → Prop) (W : World) : Prop := ∃ n : Nat, v = valV n ∧ a = F n ∧ I S W
theorem encAx_stable (bo : Nat) (I : (Nat → Prop) → World → Prop) (hI : Stable I) (F : Nat → Act) (v : Array Value) (a : Act) : Stable (encAx bo I F v a) := by
  rintro S S' W W' ⟨n, h1, h2, h3⟩ f
  exact ⟨n, h1, h2, hI _ _ _ _ h3 f⟩
set_option maxHeartbeats 1000000 in
theorem encode_yes (s : Sm) (w : World) (hT : Tks w) (h : SmIn w s) (hr : rightS s.scr = true) :
    Calls Tryd.prog 23 #[.agg (smA s)] w fun e w' => ∃ v, e = .returned (.tuple #[v, .int .i64 0]) ∧ Below w.heap.size w w' ∧ w'.ownsRow w.heap.size 5 1 v (bytesS s.scr).length (u8s (bytesS s.scr)) := by
  have hB1 : Below w.heap.size w (w.alloc (.cells (smA s) 26)) := (Below.refl _ _).alloc (Nat.le_refl _) _
  have hb1 : (w.alloc (.cells (smA s) 26)).heap[w.heap.size]? = some (.cells (smA s) 26) := World.alloc_heap_new _ _
  have C := check_any s _ (hT.next hB1) (h.below hB1)
  have e : chkS s.scr = 0 := by unfold chkS; rw [hr]; rfl
  rw [e] at C
  clear e
  have C'h := Lib.hid C
  have hB1'h := Lib.hid hB1
  have hb1'h := Lib.hid hb1
  clear C hB1 hb1
  refine (callsIn_wide (n := 0)).1 ?_
  refine callsIn_of_wp_marks Tryd.func23 rfl trivial ?_
  simp only [Tryd.ntmps23, List.size_toArray, List.length_cons, List.length_nil, Nat.reduceAdd, Nat.reduceSub, Array.replicate_succ, Array.replicate_zero, List.push_toArray, List.append_toArray, List.nil_append, List.cons_append]
  refine wpIn_wide.2 ?_
  go_wp2_with (guard_target = wpList _ _ _ (Oper.mk _ (.load _ (.tmp 1)) _ _ _ _ :: _) _ _; refine wpList_load_row rfl 26 (.tmp 1) rfl (w.heap.size) rfl 26 (smA s) (0, 0) _ hb1'h.out Tryd.underlying26 rfl info_sm ?_)
  refine C'h.out.mono ?_
  rintro e w2 ⟨rfl, hB2⟩
  have hbx := heap_below hB2 hb1'h.out (lt_of_heap hb1'h.out)
  have hBw2 := hB1'h.out.trans (hB2.mono hB1'h.out.size)
  have hbx3 := heap_below ((Below.refl w2.heap.size w2).alloc (Nat.le_refl _) (.cells #[.slice none 0 0] 38)) hbx (lt_of_heap hbx)
  have hBw3 := hBw2.alloc hBw2.size (.cells #[.slice none 0 0] 38)
  have hlt2 := hB1'h.out.size
  have hz12 := hB2.size
  have hsz : w.heap.size < w2.heap.size := lt_of_heap hbx
  obtain ⟨bo, hbo⟩ : ∃ bo, bo = w2.heap.size := ⟨_, rfl⟩
  have own2 : Own1 ⟨bo, 0, none⟩ (.slice none 0 0) (fun _ => False) (w2.alloc (.cells #[.slice none 0 0] 38)) := by rw [hbo]; exact Own1.new _ w2 _ _ (fun h => h)
  clear hB2 hbx hBw2 hlt2 hz12 C'h hB1'h hb1'h
  have hbx3'h := Lib.hid hbx3
  have hBw3'h := Lib.hid hBw3
  have own2'h := Lib.hid own2
  clear hbx3 hBw3 own2
  go_wp2_with (guard_target = wpList _ _ _ (Oper.mk _ (.load _ (.tmp 1)) _ _ _ _ :: _) _ _; refine wpList_load_row rfl 26 (.tmp 1) rfl (w.heap.size) rfl 26 (smA s) (0, 0) _ hbx3'h.out Tryd.underlying26 rfl info_sm ?_)
  refine (numbers_any s _).mono ?_
  rintro e w4 ⟨rfl, h4⟩
  obtain ⟨W3, hW3⟩ : ∃ W3, W3 = w2.alloc (.cells #[.slice none 0 0] 38) := ⟨_, rfl⟩
  rw [← hW3] at h4 ⊢
  have hz3 : W3.heap.size = bo + 1 := by rw [hW3, hbo]; simp
  have hBw3 := hBw3'h.out
  have own3 := own2'h.out
  rw [← hW3] at hBw3 own3
  have hB34 : Below W3.heap.size W3 w4 := by rw [h4]; exact (Below.refl _ _).alloc (Nat.le_refl _) _
  have hb4 : w4.heap[W3.heap.size]? = some (.cells (smA s) 26) := by rw [h4]; exact World.alloc_heap_new _ _
  have hBw4 := hBw3.trans (hB34.mono hBw3.size)
  have own4 := own3.below hB34
  have hN4 : NumR W3.heap.size s w4 := ⟨hb4, h.below hBw4, hT.next hBw4⟩
  have it := numbers_it W3.heap.size s w4 hN4 hr
  have hz4 : w4.heap.size = bo + 2 := by rw [h4, World.size_alloc, hz3]
  have hRO : ∀ b, numRO W3.heap.size s b → b < w4.heap.size ∧ ¬ (False : Prop) := fun b hb => ⟨by
    rcases h.low hT hb with h0 | h0 <;> omega, fun h => h⟩
  have hROb : ¬ numRO W3.heap.size s bo := fun hb => by
    rcases h.low hT hb with h0 | h0 <;> omega
  have htold := encS_len hr
  have h64 := encS_lt h
  have hlw : w.heap.size ≤ bo := by rw [hbo]; omega
  rw [hz3] at it hRO hROb
  rw [← hbo, hz3]
  clear h4 hW3 hbx3'h hBw3'h own2'h hBw3 own3 hB34 hb4 hN4 hz3
  have hI0 : EncI w4.heap.size bo w [] (fun _ => False) w4 := ⟨⟨_, [], rfl, own4, ⟨rfl, .inl ⟨rfl, rfl⟩⟩, fun k hk => by cases hk⟩, ⟨hBw4, Nat.le_refl _, fun b hb h => h⟩, Nat.le_refl _⟩
  obtain ⟨told, htd⟩ : ∃ told, told = encS s.scr := ⟨_, rfl⟩
  rw [← htd] at it htold h64
  have it'h := Lib.hid it
  have hRO'h := Lib.hid hRO
  have hROb'h := Lib.hid hROb
  have hBw4'h := Lib.hid hBw4
  have own4'h := Lib.hid own4
  have h64'h := Lib.hid h64
  have hI0'h := Lib.hid hI0
  have htd'h := Lib.hid htd
  have hbo'h := Lib.hid hbo
  clear it hRO hROb hBw4 own4 h64 hI0 htd hbo
  go_wp2_with fail
  refine (wpIn_wide (n := 0)).1 ?_
  refine wpIn_rangeT rfl (fun h => by cases h) rfl trivial enters_numbers it'h.out (NumY.keeps _ _) (fun b hb => hb.elim) (fun vs v S W hy => by obtain ⟨n, rfl⟩ := hy.last; rfl) hRO'h.out
    (EncI w4.heap.size bo w) (EncI.stable _ _ _) hI0'h.out
    (fun vs v a => encAx bo (EncI w4.heap.size bo w vs) (fun n => { tmps := #[.agg (smA s), .pointer (some ⟨w.heap.size, 0, none⟩), .slice none 0 0, .int .i64 0, .int .i64 0, .pointer (some ⟨bo, 0, none⟩), .int .u64 (n : Int), .agg (smA s), .int .i64 0, .int .i64 0, .bool false, undef,
      .agg (smA s), .func (.func 61) #[] #[.pointer (some ⟨bo + 1, 0, none⟩)], .int .u64 (n : Int), undef, undef, undef, undef], defers := [] }) v a) (fun vs v a => encAx_stable _ _ (EncI.stable _ _ _ _) _ _ _) ?_ ?_ ?_
  · intro ly vs v S S1 W hk hl hs1 hro hSb hY hI
    obtain ⟨n, rfl⟩ := hY.last
    have hY'h := Lib.hid hY
    have hI'h := Lib.hid hI
    have hro'h := Lib.hid hro
    have hSb'h := Lib.hid hSb
    clear hY hI hro hSb
    unfold valV
    gi_wp2
    exact ⟨⟨n, rfl, rfl, hI'h.out⟩, Kept.refl _ _⟩
  · rintro ly vs v S S1 a₁ W r hk hl hs1 hlr hro hSb hY ⟨n, rfl, rfl, hI⟩
    obtain ⟨v0, pre, hvs, hown, hrow⟩ := hI.out
    obtain ⟨pre2, rest, ht2, hp2⟩ := hY
    rw [hvs] at hp2
    have hp3 : pre2 = pre ++ [n] := valV_inj (by rw [← hp2]; simp)
    have hn64 : n < 2 ^ 64 := h64'h.out n (by rw [ht2, hp3]; simp)
    have hpl : (pre.flatMap numB).length ≤ 60000 := by
      have h1 := flat_numB pre fun x hx => h64'h.out x (by rw [ht2, hp3]; simp [hx])
      have h2 : pre.length ≤ told.length := by rw [ht2, hp3]; simp
      omega
    have y0 := hown.cell
    have f0 := hown.free
    have C := put_any w4.heap.size v0 (pre.flatMap numB) n W hrow.row hI.lo hn64 hpl
    have hob : v0.ownBlock ≠ some bo := fun e => by have := (hrow.row.lt bo e).1; omega
    have hmine := hrow.mine
    have hbase := fun k (hk : v0.ownBlock = some k) => (hrow.row.lt k hk).1
    have C'h := Lib.hid C
    have hI'h := Lib.hid hI
    have hro'h := Lib.hid hro
    have hSb'h := Lib.hid hSb
    have hvs'h := Lib.hid hvs
    have hp3'h := Lib.hid hp3
    have ht2'h := Lib.hid ht2
    have hown'h := Lib.hid hown
    have hrow'h := Lib.hid hrow
    have hob'h := Lib.hid hob
    have hmine'h := Lib.hid hmine
    have hbase'h := Lib.hid hbase
    clear C hI hro hSb hvs hp3 ht2 hown hrow hob hmine hbase
    clear hp2 hlr hs1 hpl hn64
    unfold valV
    gi_wp2_with fail
    refine (callsIn_wide.2 C'h.out).mono ?_
    rintro e W1 ⟨v1, rfl, hrow1, hG⟩
    obtain ⟨sp1, cp1, hv1, -, -, -⟩ := row_form hrow1
    obtain ⟨L, hL⟩ : ∃ L, L = (pre.flatMap numB ++ numB n).length := ⟨_, rfl⟩
    rw [← hL] at hv1 hrow1
    subst hv1
    have hown1 := hown'h.out.grown hG.by' (fun e => hob'h.out e.symm)
    have y1 := hown1.cell
    have f1 := hown1.free
    have hzz := hG.by'.size
    have hown2 := hown1.set (.slice sp1 L cp1)
    have hbo1 : bo < w4.heap.size := by omega
    have hrow2 := ownsRow_setCell_below hrow1 (show (⟨bo, 0, none⟩ : Addr).block < w4.heap.size from hbo1) (.slice sp1 L cp1)
    have hSm : ∀ k, (Value.slice sp1 L cp1).ownBlock = some k → ¬ S k := fun k hk hs => by
      rcases hG.blk with e | ⟨b, e, hb⟩
      · exact hmine'h.out k (e.symm.trans hk) hs
      · rw [e] at hk; injection hk with hk; have := hSb'h.out k hs; omega
    have hROS : ∀ k, v0.ownBlock = some k → ¬ (numRO (bo + 1) s k ∨ S k) := fun k hk h => by
      rcases h with h | h
      · have := (hRO'h.out k h).1; have := hbase'h.out k hk; omega
      · exact hmine'h.out k hk h
    have hK1 : Kept (fun b => numRO (bo + 1) s b ∨ S b) W W1 := Kept.grown hG.by' hROS
    have hK2 := hK1.trans (Kept.setCell _ W1 ⟨bo, 0, none⟩ (.slice sp1 L cp1) (fun h => h.elim hROb'h.out hown'h.out.mine))
    have hold : Old w.heap.size w S (W1.setCell ⟨bo, 0, none⟩ (.slice sp1 L cp1)) := ⟨(hI'h.out.old.below.grown hG.by' (by have := hI'h.out.old.below.size; omega) (fun k hk => by have := hbase'h.out k hk; omega)).setCell (by show w.heap.size ≤ bo; exact hlw) _, Nat.le_refl _, hI'h.out.old.mine⟩
    have hE : EncI w4.heap.size bo w (vs ++ [valV n]) S (W1.setCell ⟨bo, 0, none⟩ (.slice sp1 L cp1)) := ⟨⟨_, pre ++ [n], by rw [hvs'h.out]; simp, hown2, ⟨by rw [show (pre ++ [n]).flatMap numB = pre.flatMap numB ++ numB n by simp, ← hL]; exact hrow2, hSm⟩⟩, hold, by rw [World.size_setCell]; have := hI'h.out.lo; omega⟩
    clear y0 f0 hown1 hown2 hrow2 hrow1 hG hSm hROS hK1 hold
    clear hL
    have hK2'h := Lib.hid hK2
    have hE'h := Lib.hid hE
    clear hK2 hE
    gi_wp2
    exact ⟨hK2'h.out, hE'h.out⟩
  · rintro D S S1 vs W hD hSD hro hs1 hS1D hn hY hI hK
    obtain ⟨v0, pre, hvs, hown, hrow⟩ := hI.out
    obtain ⟨pre2, rest, ht2, hp2⟩ := hY
    have hpe : pre = told := by
      have e1 : pre = pre2 := valV_inj (by rw [← hvs, hp2])
      have e2 : rest = [] := by
        have h1 : pre2.length = told.length := by rw [← hn, hp2, List.length_map]
        rw [ht2] at h1
        simpa using h1
      rw [e1, ht2, e2, List.append_nil]
    subst hpe
    have y0 := hown.cell
    have hrow2 := hrow.row
    have hB9 := below_putObj hI.old.below (D := D) (by omega) (.deferred none)
    have hDne : v0.ownBlock ≠ some D := fun e => hrow.mine D e hSD
    have hrow3 : (W.putObj D (.deferred none)).ownsRow w.heap.size 5 1 v0 (pre.flatMap numB).length (u8s (pre.flatMap numB)) := by
      obtain ⟨q1, q2⟩ := hrow2
      refine ⟨q1, q2.imp id ?_⟩
      rintro ⟨g, cap, cur, hv, hg, hh, r⟩
      refine ⟨g, cap, cur, hv, by omega, ?_, r⟩
      refine (World.putObj_heap_other (fun e => hDne ?_)).trans hh
      rw [hv, e]; rfl
    rw [htd'h.out] at hrow3
    clear hrow2 hrow hown hI hDne ht2 hp2 hvs
    have hrow3'h := Lib.hid hrow3
    have hB9'h := Lib.hid hB9
    have hK'h := Lib.hid hK
    clear hrow3 hB9 hK
    go_wp2
    refine post_mark (.inl rfl) hK'h.out (results_tmp2 rfl _ _ _) ⟨v0, ?_, hB9'h.out, hrow3'h.out⟩
    rfl
end Go.Proofs.YtifofdciablljaaDoor

/-
  Layer 3 (script): reading: one number.
-/
set_option linter.unusedSimpArgs false
set_option linter.unusedVariables false
set_option maxRecDepth 100000
namespace Go.Proofs.YtifofdciablljaaDoor
open Go.RowKit

/-- That bytes are no script's. -/
abbrev Bad : Ending := .panicked [{ v := .iface 79 (.agg #[]), recovered := false }]
theorem need_yes (w : World) : Calls Tryd.prog 65 #[.bool true] w fun e w' => e = .returned (.tuple #[]) ∧ w' = w := by
  go_enter Tryd.func65, Tryd.ntmps65
  go_wp2
  go_end0
  exact ⟨rfl, rfl⟩
theorem need_no (w : World) : Calls Tryd.prog 65 #[.bool false] w fun e w' => e = Bad ∧ w' = w := by
  go_enter Tryd.func65, Tryd.ntmps65
  go_wp2
  exact ⟨rfl, rfl, rfl⟩

/-- The number with whose bytes others begin, from its i-th byte on; and what stands behind it. -/
def rdN (i acc : Nat) : List Nat → Option (Nat × List Nat)
  | [] => none
  | b :: r => if 10 ≤ i ∨ (9 ≤ i ∧ 1 < b) then none else
      if b < 128 then (if 0 < b ∨ i = 0 then some (acc + b % 128 * 128 ^ i, r) else none) else rdN (i + 1) (acc + b % 128 * 128 ^ i) r
def readN (l : List Nat) : Option (Nat × List Nat) := rdN 0 0 l
theorem rdN_cons (i acc b : Nat) (r : List Nat) : rdN i acc (b :: r) = if 10 ≤ i ∨ (9 ≤ i ∧ 1 < b) then none else
      if b < 128 then (if 0 < b ∨ i = 0 then some (acc + b % 128 * 128 ^ i, r) else none) else rdN (i + 1) (acc + b % 128 * 128 ^ i) r := rfl
/-- What reading comes to. -/
def NumP (R : Option (Nat × List Nat)) (bn : Nat) (e : Ending) (p' : Nat) : Prop := match R with
  | some (n, rest) => e = .returned (.int .u64 (n : Int)) ∧ p' + rest.length = bn ∧ p' ≤ bn
  | none => e = Bad
theorem rdN_len : ∀ (l : List Nat) (i acc n : Nat) (r : List Nat), rdN i acc l = some (n, r) → r.length < l.length ∧ ∃ k, r = l.drop k
  | [], _, _, _, _, h => by cases h
  | b :: l, i, acc, n, r, h => by
    unfold rdN at h
    split at h
    · cases h
    · split at h
      · split at h
        · cases h; exact ⟨by simp, 1, rfl⟩
        · cases h
      · obtain ⟨h1, k, hk⟩ := rdN_len l _ _ _ _ h
        exact ⟨by simp; omega, k + 1, by rw [hk]; rfl⟩

/-- The reader's cells. -/
def rdC (v0 v1 v2 v3 v4 : Value) (bp : Option Addr) (bn bc at' : Nat) : Array Value := #[v0, v1, v2, v3, v4, .slice bp bn bc, .int .i64 (at' : Int)]
/-- While a number is read. -/
structure RdI (w : World) (rb : Nat) (v0 v1 v2 v3 v4 : Value) (bp : Option Addr) (bn bc : Nat) (bytes : List Nat) (p : Nat) (wr : World) : Prop where
  blk : wr.heap[rb]? = some (.cells (rdC v0 v1 v2 v3 v4 bp bn bc p) 83)
  by' : w.grownBy wr (some rb)
  sl : Sl wr bp bn (u8s bytes)
  ne : 0 < bn → bp.map (·.block) ≠ some rb
section
variable {w : World} {rb : Nat} {v0 v1 v2 v3 v4 : Value} {bp : Option Addr} {bn bc : Nat} {bytes : List Nat} {p : Nat} {wr : World}
theorem RdI.drew (h : RdI w rb v0 v1 v2 v3 v4 bp bn bc bytes p wr) (q : Nat) : RdI w rb v0 v1 v2 v3 v4 bp bn bc bytes p (wr.drewN q) :=
  ⟨h.blk, ⟨h.by'.os, h.by'.tape, h.by'.output, h.by'.size, h.by'.block⟩, h.sl, h.ne⟩
theorem RdI.at (h : RdI w rb v0 v1 v2 v3 v4 bp bn bc bytes p wr) (p' : Nat) : RdI w rb v0 v1 v2 v3 v4 bp bn bc bytes p' (wr.setCell ⟨rb, 6, none⟩ (.int .i64 (p' : Int))) := by
  obtain ⟨h1, h2, h3, h4⟩ := h
  have hk : ∀ b, b ≠ rb → (wr.setCell ⟨rb, 6, none⟩ (.int .i64 (p' : Int))).heap[b]? = wr.heap[b]? := fun b hb => Below.heap_setCell _ _ _ _ hb
  refine ⟨blk_set (i := 6) _ h1, ⟨h2.os, h2.tape, h2.output, by rw [World.size_setCell]; exact h2.size, fun k hkw hne => (hk k (fun e => hne (by rw [e]))).trans (h2.block k hkw hne)⟩, ?_, h4⟩
  exact ((SlK.of_sl h3).keepP fun h0 b _ hm => hk b (fun e => h4 h0 (by rw [hm, e]))).sl
theorem RdI.c5 (h : RdI w rb v0 v1 v2 v3 v4 bp bn bc bytes p wr) : wr.cell? ⟨rb, 5, none⟩ = some (.slice bp bn bc) := blk_cell (i := 5) h.blk rfl
theorem RdI.c6 (h : RdI w rb v0 v1 v2 v3 v4 bp bn bc bytes p wr) : wr.cell? ⟨rb, 6, none⟩ = some (.int .i64 (p : Int)) := blk_cell (i := 6) h.blk rfl
theorem RdI.f6 (h : RdI w rb v0 v1 v2 v3 v4 bp bn bc bytes p wr) : wr.frozen? ⟨rb, 6, none⟩ = false := blk_free 6 h.blk
end
theorem or_bits {b i acc sh : Nat} (hsh : sh = 7 * i) (hacc : acc < 128 ^ i) (hi : i ≤ 9) (hok : i < 9 ∨ b ≤ 1) (hb : b < 256) :
    bits .or .u64 (acc : Int) (IntKind.u64.wrap (IntKind.u64.wrap (bits .and .u8 (b : Int) 127) * 2 ^ sh)) = ((acc + b % 128 * 128 ^ i : Nat) : Int) := by
  have hand : bits .and .u8 (b : Int) 127 = ((b % 128 : Nat) : Int) := by
    have h1 := u8_and_nat b 127 (by omega) (by omega)
    have h2 : b &&& 127 = b % 128 := Nat.and_two_pow_sub_one_eq_mod b 7
    rw [h2] at h1
    exact h1
  have hp : 128 ^ i = 2 ^ sh := by rw [hsh, Nat.pow_mul]
  have hlt : b % 128 * 128 ^ i < 2 ^ 64 := by
    rcases hok with h | h
    · have h1 : 128 ^ i ≤ 128 ^ 8 := Nat.pow_le_pow_right (by decide) (by omega)
      have h2 : b % 128 ≤ 127 := by omega
      have h3 := Nat.mul_le_mul h2 h1
      exact Nat.lt_of_le_of_lt h3 (by decide)
    · have h1 : 128 ^ i ≤ 128 ^ 9 := Nat.pow_le_pow_right (by decide) hi
      have h2 : b % 128 ≤ 1 := by omega
      have h3 := Nat.mul_le_mul h2 h1
      exact Nat.lt_of_le_of_lt h3 (by decide)
  have hw1 : IntKind.u64.wrap ((b % 128 : Nat) : Int) = ((b % 128 : Nat) : Int) := by rw [IntKind.wrap_u64]; omega
  have hmul : ((b % 128 : Nat) : Int) * 2 ^ sh = ((b % 128 * 128 ^ i : Nat) : Int) := by rw [hp]; push_cast; rfl
  have hw2 : IntKind.u64.wrap ((b % 128 * 128 ^ i : Nat) : Int) = ((b % 128 * 128 ^ i : Nat) : Int) := by
    rw [IntKind.wrap_u64]
    generalize b % 128 * 128 ^ i = y at *
    have : (2 : Nat) ^ 64 = 18446744073709551616 := by decide
    omega
  have ha64 : acc < 2 ^ 64 := Nat.lt_of_lt_of_le hacc (Nat.le_trans (Nat.pow_le_pow_right (by decide) hi) (by decide))
  rw [hand, hw1, hmul, hw2, u64_or_nat _ _ (by simpa using ha64) (by simpa using hlt)]
  congr 1
  rw [hp] at hacc ⊢
  rw [Nat.or_comm, Nat.mul_comm, ← Nat.two_pow_add_eq_or_of_lt hacc]
  omega
set_option maxHeartbeats 2000000 in
theorem number_reads (rb : Nat) (v0 v1 v2 v3 v4 : Value) (bp : Option Addr) (bn bc p : Nat) (bytes : List Nat) (w : World) (h : RdI w rb v0 v1 v2 v3 v4 bp bn bc bytes p w) (hby : ∀ b ∈ bytes, b < 256) (hp : p ≤ bn) :
    Calls Tryd.prog 63 #[.pointer (some ⟨rb, 0, none⟩)] w fun e w' => (∃ p', RdI w rb v0 v1 v2 v3 v4 bp bn bc bytes p' w' ∧
      NumP (readN (bytes.drop p)) bn e p') := by
  have hmax := h.sl.2.1
  unfold maxLen at hmax
  have hbl : bn = bytes.length := by have := h.sl.1; rw [u8s_length] at this; exact this
  obtain ⟨R, hR⟩ : ∃ R, R = readN (bytes.drop p) := ⟨_, rfl⟩
  rw [← hR]
  have h'h := Lib.hid h
  have hby'h := Lib.hid hby
  have hbl'h := Lib.hid hbl
  have hR'h := Lib.hid hR
  clear h hby hbl hR
  go_enter Tryd.func63, Tryd.ntmps63
  go_wp2
  go_loopg [3, 4] 10 (fun q a sv wr => ∃ (i acc sh x : Nat), i + q = 10 ∧ i ≤ 9 ∧ a = .int .u64 (acc : Int) ∧ sv = .int .i64 (sh : Int) ∧ Hid (sh = 7 * i) ∧ Hid (acc < 128 ^ i) ∧ x ≤ bn ∧ Hid (rdN i acc (bytes.drop x) = R) ∧ RdI w rb v0 v1 v2 v3 v4 bp bn bc bytes x wr)
  case atStart => exact ⟨0, 0, 0, p, rfl, by omega, rfl, rfl, rfl, by show 0 < 128 ^ 0; decide, hp, hR'h.out.symm, h'h.out⟩
  case round =>
    obtain ⟨i, acc, sh, x, hq, hi, rfl, rfl, hsh, hacc, hx, hE, hI⟩ := hrel
    obtain ⟨go, rfl⟩ : ∃ go : Nat, go = gk := ⟨_, rfl⟩
    have c5 := hI.c5
    have c6 := hI.c6
    have s64 : (sh : Int) < 64 := by have := hsh.out; omega
    rcases hl : bytes.drop x with _ | ⟨b, r⟩
    · have hxn : ¬ ((x : Int) < (bn : Int)) := by
        have h1 := congrArg List.length hl
        rw [List.length_drop, List.length_nil] at h1
        have := hbl'h.out
        omega
      have hRn : R = none := by rw [← hE.out, hl]; rfl
      have hxd : decide (x < bn) = false := decide_eq_false (by omega)
      have hxz : decide ((x : Int) < (bn : Int)) = false := decide_eq_false hxn
      clear hxn
      have hI'h := Lib.hid hI
      have hl'h := Lib.hid hl
      have hRn'h := Lib.hid hRn
      have hq'h := Lib.hid hq
      clear hI hl hRn hq
      go_wp2_with fail
      go_still_tail 14, (by kernel_rfl)
      change wpList _ _ _ _ _ wr.drew
      go_wp2_with (go_at_call 65; refine (need_no _).mono ?_; rintro e w' ⟨rfl, rfl⟩)
      refine ⟨rfl, x, hI'h.out.drew 1, ?_⟩
      rw [hRn'h.out]
      rfl
    · have hxl : x < bn := by
        have h1 := congrArg List.length hl
        rw [List.length_drop, List.length_cons] at h1
        have := hbl'h.out
        omega
      have hxn : (x : Int) < (bn : Int) := by omega
      have hx0 : (0 : Int) ≤ (x : Int) := by omega
      obtain ⟨bb, bo, hbp, hcs⟩ := hI.sl.some' (by omega)
      have hbx : bytes[x]? = some b := by
        have h1 := congrArg (fun z : List Nat => z[0]?) hl
        simp only [List.getElem?_drop, Nat.add_zero] at h1
        simpa using h1
      have hb256 := hby'h.out b (List.mem_of_getElem? hbx)
      have d1 : wr.cell? ⟨bb, bo + x, none⟩ = some (.int .u8 (b : Int)) := hcs x _ (by unfold u8s; rw [List.getElem?_map, hbx]; rfl)
      have hdr : bytes.drop (x + 1) = r := by rw [List.drop_add_one_eq_tail_drop, hl]; rfl
      subst hbp
      clear hcs
      have hI'h := Lib.hid hI
      have hl'h := Lib.hid hl
      have hdr'h := Lib.hid hdr
      have hbx'h := Lib.hid hbx
      have hq'h := Lib.hid hq
      clear hI hl hdr hbx hq
      go_wp2_with fail
      go_still_tail 14, (by kernel_rfl)
      change wpList _ _ _ _ _ wr.drew
      have d1a : wr.drew.cell? ⟨bb, bo + x, none⟩ = some (.int .u8 (b : Int)) := d1
      have c5a : wr.drew.cell? ⟨rb, 5, none⟩ = some (.slice (some ⟨bb, bo, none⟩) bn bc) := c5
      have c6a : wr.drew.cell? ⟨rb, 6, none⟩ = some (.int .i64 (x : Int)) := c6
      have f6a : wr.drew.frozen? ⟨rb, 6, none⟩ = false := hI'h.out.f6
      obtain ⟨w2, hw2⟩ : ∃ w2, w2 = wr.drew := ⟨_, rfl⟩
      have hI2 : RdI w rb v0 v1 v2 v3 v4 (some ⟨bb, bo, none⟩) bn bc bytes x w2 := by rw [hw2]; exact hI'h.out.drew 1
      rw [← hw2] at d1a c5a c6a f6a ⊢
      clear hw2 d1 c5 c6
      have hI2'h := Lib.hid hI2
      clear hI2
      go_wp2_with (go_at_call 65; refine (need_yes _).mono ?_; rintro e w' ⟨rfl, hw⟩; obtain rfl := hw.symm)
      go_still_tail 10, (by kernel_rfl)
      have d1b : w2.drew.cell? ⟨bb, bo + x, none⟩ = some (.int .u8 (b : Int)) := d1a
      have c5b : w2.drew.cell? ⟨rb, 5, none⟩ = some (.slice (some ⟨bb, bo, none⟩) bn bc) := c5a
      have c6b : w2.drew.cell? ⟨rb, 6, none⟩ = some (.int .i64 (x : Int)) := c6a
      have f6b : w2.drew.frozen? ⟨rb, 6, none⟩ = false := f6a
      obtain ⟨w3, hw3⟩ : ∃ w3, w3 = w2.drew := ⟨_, rfl⟩
      have hI3 : RdI w rb v0 v1 v2 v3 v4 (some ⟨bb, bo, none⟩) bn bc bytes x w3 := by rw [hw3]; exact hI2'h.out.drew 1
      rw [← hw3] at d1b c5b c6b f6b
      change wpList _ _ _ _ _ w2.drew
      rw [← hw3]
      have hI4 := hI3.at (x + 1)
      have e4 : ((x + 1 : Nat) : Int) = (x : Int) + 1 := by omega
      rw [e4] at hI4
      clear hw3 d1a c5a c6a f6a hI3
      have hI4'h := Lib.hid hI4
      have e4'h := Lib.hid e4
      clear hI4 e4
      go_upto_region 5 with fail
      obtain ⟨w5, hw5⟩ : ∃ w5, w5 = w3.setCell ⟨rb, 6, none⟩ (.int .i64 ((x : Int) + 1)) := ⟨_, rfl⟩
      rw [← hw5]
      have hI5 : RdI w rb v0 v1 v2 v3 v4 (some ⟨bb, bo, none⟩) bn bc bytes (x + 1) w5 := by rw [hw5]; exact hI4'h.out
      clear hw5 d1b c5b c6b f6b hI4'h
      have hI5'h := Lib.hid hI5
      clear hI5
      obtain ⟨acc2, hac⟩ : ∃ acc2, acc2 = acc + b % 128 * 128 ^ i := ⟨_, rfl⟩
      by_cases hok : 9 ≤ i ∧ 1 < b
      · have hb1 : ¬ ((b : Int) ≤ 1) := by omega
        have h63 : ¬ ((sh : Int) < 63) := by have := hsh.out; omega
        have hRn : R = none := by
          rw [← hE.out, hl'h.out, rdN_cons, if_pos (.inr hok)]
        clear hac
        have hRn'h := Lib.hid hRn
        clear hRn
        go_wp2_with (go_at_call 65; refine (need_no _).mono ?_; rintro e w' ⟨rfl, hw⟩; obtain rfl := hw.symm)
        refine ⟨rfl, x + 1, hI5'h.out, ?_⟩
        rw [hRn'h.out]
        rfl
      · have hbits := or_bits (b := b) (i := i) (acc := acc) (sh := sh) hsh.out hacc.out hi (by omega) hb256
        rw [← hac] at hbits
        have hac2 : acc2 < 128 ^ (i + 1) := by
          rw [hac, Nat.pow_succ]
          have h1 := hacc.out
          have h2 : b % 128 ≤ 127 := by omega
          have := Nat.mul_le_mul_right (128 ^ i) h2
          have : acc < 128 ^ i := h1
          omega
        have hac'h := Lib.hid hac
        have hac2'h := Lib.hid hac2
        clear hac hac2
        by_cases h9 : i < 9
        · have h63 : (sh : Int) < 63 := by have := hsh.out; omega
          by_cases hlt : b < 128
          ·
            have hlt : (b : Int) < 128 := by omega
            rcases Nat.eq_zero_or_pos b with hb0 | hb0
            · have hbz : decide (0 < b) = false := decide_eq_false (by omega)
              have hbz2 : decide ((0 : Int) < (b : Int)) = false := decide_eq_false (by omega)
              rcases Nat.eq_zero_or_pos i with hi0 | hi0
              · have hsz : ((sh : Int) == 0) = true := by have := hsh.out; simp; omega
                have hRn : R = some (acc2, r) := by
                  rw [← hE.out, hl'h.out]
                  rw [rdN_cons, if_neg (by omega), if_pos (by omega), if_pos (.inr hi0), hac'h.out]
                have hrl : x + 1 + r.length = bn := by have h1 := congrArg List.length hl'h.out; rw [List.length_drop, List.length_cons] at h1; have := hbl'h.out; omega
                have hRn'h := Lib.hid hRn
                have hrl'h := Lib.hid hrl
                have hb0'h := Lib.hid hb0
                have hi0'h := Lib.hid hi0
                clear hRn hrl hb0 hi0
                go_wp2_with (go_at_call 65; refine (need_yes _).mono ?_; rintro e w' ⟨rfl, hw⟩; obtain rfl := hw.symm)
                go_ret
                refine ⟨x + 1, hI5'h.out, ?_⟩
                rw [hRn'h.out]
                exact ⟨rfl, hrl'h.out, by omega⟩
              · have hsz : ((sh : Int) == 0) = false := by have := hsh.out; simp; omega
                have hRn : R = none := by
                  rw [← hE.out, hl'h.out]
                  rw [rdN_cons, if_neg (by omega), if_pos (by omega), if_neg (by omega)]
                have hRn'h := Lib.hid hRn
                have hb0'h := Lib.hid hb0
                have hi0'h := Lib.hid hi0
                clear hRn hb0 hi0
                go_wp2_with (first | (go_at_call 65; refine (need_yes _).mono ?_; rintro e w' ⟨rfl, hw⟩; obtain rfl := hw.symm) | (go_at_call 65; refine (need_no _).mono ?_; rintro e w' ⟨rfl, hw⟩; obtain rfl := hw.symm))
                refine ⟨rfl, x + 1, hI5'h.out, ?_⟩
                rw [hRn'h.out]
                rfl
            · have hbz : ((b : Int) > 0) := by omega
              have hRn : R = some (acc2, r) := by
                rw [← hE.out, hl'h.out]
                rw [rdN_cons, if_neg (by omega), if_pos (by omega), if_pos (.inl hb0), hac'h.out]
              have hrl : x + 1 + r.length = bn := by have h1 := congrArg List.length hl'h.out; rw [List.length_drop, List.length_cons] at h1; have := hbl'h.out; omega
              have hRn'h := Lib.hid hRn
              have hrl'h := Lib.hid hrl
              clear hRn hrl
              go_wp2_with (go_at_call 65; refine (need_yes _).mono ?_; rintro e w' ⟨rfl, hw⟩; obtain rfl := hw.symm)
              go_ret
              refine ⟨x + 1, hI5'h.out, ?_⟩
              rw [hRn'h.out]
              exact ⟨rfl, hrl'h.out, by omega⟩
          · have hltz : ¬ ((b : Int) < 128) := by omega
            have hE2 : rdN (i + 1) acc2 (bytes.drop (x + 1)) = R := by
              rw [← hE.out, hl'h.out, hdr'h.out, hac'h.out, rdN_cons, if_neg (by omega), if_neg hlt]
            have hE2'h := Lib.hid hE2
            clear hE2
            go_wp2_with (go_at_call 65; refine (need_yes _).mono ?_; rintro e w' ⟨rfl, hw⟩; obtain rfl := hw.symm)
            go_roundg (go - 1)
            case measure => have := hq'h.out; omega
            case rel => exact ⟨i + 1, acc2, sh + 7, x + 1, by have := hq'h.out; omega, by omega, rfl, by go_num, by show sh + 7 = 7 * (i + 1); have := hsh.out; omega, hac2'h.out, by omega, hE2'h.out, hI5'h.out⟩
        · have h63 : ¬ ((sh : Int) < 63) := by have := hsh.out; omega
          have hb1 : (b : Int) ≤ 1 := by omega
          have hlt : (b : Int) < 128 := by omega
          rcases Nat.eq_zero_or_pos b with hb0 | hb0
          · have hbz : decide (0 < b) = false := decide_eq_false (by omega)
            have hbz2 : decide ((0 : Int) < (b : Int)) = false := decide_eq_false (by omega)
            rcases Nat.eq_zero_or_pos i with hi0 | hi0
            · have hsz : ((sh : Int) == 0) = true := by have := hsh.out; simp; omega
              have hRn : R = some (acc2, r) := by
                rw [← hE.out, hl'h.out]
                rw [rdN_cons, if_neg (by omega), if_pos (by omega), if_pos (.inr hi0), hac'h.out]
              have hrl : x + 1 + r.length = bn := by have h1 := congrArg List.length hl'h.out; rw [List.length_drop, List.length_cons] at h1; have := hbl'h.out; omega
              have hRn'h := Lib.hid hRn
              have hrl'h := Lib.hid hrl
              have hb0'h := Lib.hid hb0
              have hi0'h := Lib.hid hi0
              clear hRn hrl hb0 hi0
              go_wp2_with (go_at_call 65; refine (need_yes _).mono ?_; rintro e w' ⟨rfl, hw⟩; obtain rfl := hw.symm)
              go_ret
              refine ⟨x + 1, hI5'h.out, ?_⟩
              rw [hRn'h.out]
              exact ⟨rfl, hrl'h.out, by omega⟩
            · have hsz : ((sh : Int) == 0) = false := by have := hsh.out; simp; omega
              have hRn : R = none := by
                rw [← hE.out, hl'h.out]
                rw [rdN_cons, if_neg (by omega), if_pos (by omega), if_neg (by omega)]
              have hRn'h := Lib.hid hRn
              have hb0'h := Lib.hid hb0
              have hi0'h := Lib.hid hi0
              clear hRn hb0 hi0
              go_wp2_with (first | (go_at_call 65; refine (need_yes _).mono ?_; rintro e w' ⟨rfl, hw⟩; obtain rfl := hw.symm) | (go_at_call 65; refine (need_no _).mono ?_; rintro e w' ⟨rfl, hw⟩; obtain rfl := hw.symm))
              refine ⟨rfl, x + 1, hI5'h.out, ?_⟩
              rw [hRn'h.out]
              rfl
          · have hbz : ((b : Int) > 0) := by omega
            have hRn : R = some (acc2, r) := by
              rw [← hE.out, hl'h.out]
              rw [rdN_cons, if_neg (by omega), if_pos (by omega), if_pos (.inl hb0), hac'h.out]
            have hrl : x + 1 + r.length = bn := by have h1 := congrArg List.length hl'h.out; rw [List.length_drop, List.length_cons] at h1; have := hbl'h.out; omega
            have hRn'h := Lib.hid hRn
            have hrl'h := Lib.hid hrl
            clear hRn hrl
            go_wp2_with (go_at_call 65; refine (need_yes _).mono ?_; rintro e w' ⟨rfl, hw⟩; obtain rfl := hw.symm)
            go_ret
            refine ⟨x + 1, hI5'h.out, ?_⟩
            rw [hRn'h.out]
            exact ⟨rfl, hrl'h.out, by omega⟩
end Go.Proofs.YtifofdciablljaaDoor

/-
  Layer 3 (script): reading: a number of at most so much; a call.
-/
set_option linter.unusedSimpArgs false
set_option linter.unusedVariables false
set_option maxRecDepth 100000
namespace Go.Proofs.YtifofdciablljaaDoor
open Go.RowKit

theorem rdN_lt : ∀ (l : List Nat) (i acc n : Nat) (r : List Nat), (∀ b ∈ l, b < 256) → acc < 128 ^ i → i ≤ 9 → rdN i acc l = some (n, r) → n < 2 ^ 64
  | [], _, _, _, _, _, _, _, h => by cases h
  | b :: l, i, acc, n, r, hb, ha, hi, h => by
    rw [rdN_cons] at h
    split at h
    · cases h
    · rename_i hok
      have hm : b % 128 ≤ 127 := by omega
      by_cases h9 : i < 9
      · have h1 : acc + b % 128 * 128 ^ i < 128 ^ (i + 1) := by
          rw [Nat.pow_succ]
          have := Nat.mul_le_mul_right (128 ^ i) hm
          omega
        split at h
        · split at h
          · cases h
            refine Nat.lt_of_lt_of_le h1 (Nat.le_trans (Nat.pow_le_pow_right (by decide) (show i + 1 ≤ 9 by omega)) (by decide))
          · cases h
        · exact rdN_lt l (i + 1) _ n r (fun x hx => hb x (by simp [hx])) h1 (by omega) h
      · obtain rfl : i = 9 := by omega
        have hb1 : b ≤ 1 := by omega
        rw [if_pos (by omega)] at h
        split at h
        · cases h
          have h2 : (128 : Nat) ^ 9 = 9223372036854775808 := by decide
          rw [h2] at ha ⊢
          have : b % 128 ≤ 1 := by omega
          have := Nat.mul_le_mul_right 9223372036854775808 this
          omega
        · cases h
theorem readN_lt {l : List Nat} {n : Nat} {r : List Nat} (hb : ∀ b ∈ l, b < 256) (h : readN l = some (n, r)) : n < 2 ^ 64 := rdN_lt l 0 0 n r hb (by decide) (by omega) h
theorem readN_drop {l : List Nat} {n : Nat} {r : List Nat} (h : readN l = some (n, r)) : ∃ k, r = l.drop k := (rdN_len l 0 0 n r h).2

section
variable {w : World} {rb : Nat} {v0 v1 v2 v3 v4 : Value} {bp : Option Addr} {bn bc : Nat} {bytes : List Nat} {p p' : Nat} {wr wr' : World}
theorem RdI.self (h : RdI w rb v0 v1 v2 v3 v4 bp bn bc bytes p wr) : RdI wr rb v0 v1 v2 v3 v4 bp bn bc bytes p wr := ⟨h.blk, World.grownBy.refl wr _, h.sl, h.ne⟩
theorem RdI.then {u0 u1 u2 u3 u4 : Value} (h : RdI w rb v0 v1 v2 v3 v4 bp bn bc bytes p wr) (h' : RdI wr rb u0 u1 u2 u3 u4 bp bn bc bytes p' wr') : RdI w rb u0 u1 u2 u3 u4 bp bn bc bytes p' wr' :=
  ⟨h'.blk, ⟨h'.by'.os.trans h.by'.os, h'.by'.tape.trans h.by'.tape, h'.by'.output.trans h.by'.output, Nat.le_trans h.by'.size h'.by'.size, fun k hk hne => (h'.by'.block k (Nat.lt_of_lt_of_le hk h.by'.size) hne).trans (h.by'.block k hk hne)⟩, h'.sl, h'.ne⟩
theorem RdI.wide (h : RdI w rb v0 v1 v2 v3 v4 bp bn bc bytes p wr) (hb : Below wr.heap.size wr wr') : RdI w rb v0 v1 v2 v3 v4 bp bn bc bytes p wr' :=
  ⟨heap_below hb h.blk (lt_of_heap h.blk), ⟨hb.os.trans h.by'.os, hb.tape.trans h.by'.tape, hb.output.trans h.by'.output, Nat.le_trans h.by'.size hb.size, fun k hk hne => (hb.block k (Nat.lt_of_lt_of_le hk h.by'.size)).trans (h.by'.block k hk hne)⟩, h.sl.below hb, h.ne⟩
theorem RdI.other (h : RdI w rb v0 v1 v2 v3 v4 bp bn bc bytes p wr) {b : Nat} {o : Obj} (hb : w.heap[b]? = some o) (hne : b ≠ rb) : wr.heap[b]? = some o :=
  (h.by'.block b (lt_of_heap hb) (fun e => hne (by injection e))).trans hb
theorem RdI.below {B : Nat} (h : RdI w rb v0 v1 v2 v3 v4 bp bn bc bytes p wr) (hB : B ≤ rb) (hw : B ≤ w.heap.size) : Below B w wr := (Below.refl B w).grown h.by' hw (fun k hk => by injection hk with hk; omega)
theorem RdI.set {i : Nat} (h : RdI w rb v0 v1 v2 v3 v4 bp bn bc bytes p wr) (u : Value) {u0 u1 u2 u3 u4 : Value} (hi : (rdC v0 v1 v2 v3 v4 bp bn bc p).setIfInBounds i u = rdC u0 u1 u2 u3 u4 bp bn bc p) :
    RdI w rb u0 u1 u2 u3 u4 bp bn bc bytes p (wr.setCell ⟨rb, i, none⟩ u) := by
  obtain ⟨h1, h2, h3, h4⟩ := h
  have hk : ∀ b, b ≠ rb → (wr.setCell ⟨rb, i, none⟩ u).heap[b]? = wr.heap[b]? := fun b hb => Below.heap_setCell _ _ _ _ hb
  refine ⟨by rw [← hi]; exact blk_set (i := i) _ h1, ⟨h2.os, h2.tape, h2.output, by rw [World.size_setCell]; exact h2.size, fun k hkw hne => (hk k (fun e => hne (by rw [e]))).trans (h2.block k hkw hne)⟩, ?_, h4⟩
  exact ((SlK.of_sl h3).keepP fun h0 b _ hm => hk b (fun e => h4 h0 (by rw [hm, e]))).sl
theorem RdI.low {u0 u1 u2 u3 u4 : Value} {q : Nat} (h : RdI w rb v0 v1 v2 v3 v4 bp bn bc bytes p wr) (hw : RdI w rb u0 u1 u2 u3 u4 bp bn bc bytes q w) (hB : Below w.heap.size wr wr') :
    RdI w rb v0 v1 v2 v3 v4 bp bn bc bytes p wr' :=
  ⟨heap_below hB h.blk (lt_of_heap hw.blk), ⟨hB.os.trans h.by'.os, hB.tape.trans h.by'.tape, hB.output.trans h.by'.output, Nat.le_trans h.by'.size hB.size, fun k hk hne => (hB.block k hk).trans (h.by'.block k hk hne)⟩,
    ((SlK.of_sl hw.sl).keepP fun h0 c hc hm => (hB.block c hc).trans (h.by'.block c hc (fun e => hw.ne h0 (by rw [hm, e])))).sl, h.ne⟩
theorem RdI.aside {u0 u1 u2 u3 u4 : Value} {q : Nat} (h : RdI w rb v0 v1 v2 v3 v4 bp bn bc bytes p wr) (hw : RdI w rb u0 u1 u2 u3 u4 bp bn bc bytes q w) {b : Nat} (hb : w.heap.size ≤ b) (o : Nat) (u : Value) :
    RdI w rb v0 v1 v2 v3 v4 bp bn bc bytes p (wr.setCell ⟨b, o, none⟩ u) := by
  have hrb := lt_of_heap hw.blk
  have hk : ∀ c, c ≠ b → (wr.setCell ⟨b, o, none⟩ u).heap[c]? = wr.heap[c]? := fun c hc => Below.heap_setCell _ _ _ _ hc
  refine ⟨(hk rb (by omega)).trans h.blk, ⟨h.by'.os, h.by'.tape, h.by'.output, by rw [World.size_setCell]; exact h.by'.size, fun k hkw hne => (hk k (by omega)).trans (h.by'.block k hkw hne)⟩, ?_, h.ne⟩
  exact ((SlK.of_sl hw.sl).keepP fun h0 c hc hm => (hk c (by omega)).trans (h.by'.block c hc (fun e => hw.ne h0 (by rw [hm, e])))).sl
end

/-! ### A number of at most so much -/
def mostR (limit : Nat) (l : List Nat) : Option (Nat × List Nat) := match readN l with
  | some (n, r) => if n ≤ limit then some (n, r) else none
  | none => none
def MostP (R : Option (Nat × List Nat)) (bn : Nat) (e : Ending) (p' : Nat) : Prop := match R with
  | some (n, rest) => e = .returned (.int .i64 (n : Int)) ∧ p' + rest.length = bn ∧ p' ≤ bn
  | none => e = Bad
theorem most_reads (rb : Nat) (v0 v1 v2 v3 v4 : Value) (bp : Option Addr) (bn bc p limit : Nat) (bytes : List Nat) (w : World) (h : RdI w rb v0 v1 v2 v3 v4 bp bn bc bytes p w) (hby : ∀ b ∈ bytes, b < 256) (hp : p ≤ bn) (hl : limit ≤ 5000) :
    Calls Tryd.prog 62 #[.pointer (some ⟨rb, 0, none⟩), .int .i64 (limit : Int)] w fun e w' => (∃ p', RdI w rb v0 v1 v2 v3 v4 bp bn bc bytes p' w' ∧ MostP (mostR limit (bytes.drop p)) bn e p') := by
  have C := number_reads rb v0 v1 v2 v3 v4 bp bn bc p bytes w h hby hp
  have hlt := fun n r => readN_lt (l := bytes.drop p) (n := n) (r := r) fun b hb => hby b (List.mem_of_mem_drop hb)
  unfold mostR
  cases hR : readN (bytes.drop p) with
  | none =>
    rw [hR] at C
    simp only [NumP] at C
    have C'h := Lib.hid C
    clear C
    clear hlt
    go_enter Tryd.func62, Tryd.ntmps62
    go_wp2_with fail
    refine C'h.out.mono ?_
    rintro e w2 ⟨p', hI, rfl⟩
    exact ⟨rfl, p', hI, rfl⟩
  | some x =>
    obtain ⟨n, r⟩ := x
    rw [hR] at C
    have hn64 := hlt n r hR
    simp only [NumP] at C
    simp only
    by_cases hnl : n ≤ limit
    · rw [if_pos hnl]
      have C'h := Lib.hid C
      clear C
      clear hlt
      go_enter Tryd.func62, Tryd.ntmps62
      go_wp2_with fail
      refine C'h.out.mono ?_
      rintro e w2 ⟨p', hI, rfl, hp1, hp2⟩
      have hI'h := Lib.hid hI
      have hp1'h := Lib.hid hp1
      have hp2'h := Lib.hid hp2
      clear hI hp1 hp2
      have hnz : (n : Int) ≤ (limit : Int) := by omega
      go_wp2_with (go_at_call 65; refine (need_yes _).mono ?_; rintro e w' ⟨rfl, hw⟩; obtain rfl := hw.symm)
      go_ret
      exact ⟨p', hI'h.out, rfl, hp1'h.out, hp2'h.out⟩
    · rw [if_neg hnl]
      have C'h := Lib.hid C
      clear C
      clear hlt
      go_enter Tryd.func62, Tryd.ntmps62
      go_wp2_with fail
      refine C'h.out.mono ?_
      rintro e w2 ⟨p', hI, rfl, hp1, hp2⟩
      have hI'h := Lib.hid hI
      have hp1'h := Lib.hid hp1
      have hp2'h := Lib.hid hp2
      clear hI hp1 hp2
      have hnz : ¬ (n : Int) ≤ (limit : Int) := by omega
      go_wp2_with (go_at_call 65; refine (need_no _).mono ?_; rintro e w' ⟨rfl, hw⟩; obtain rfl := hw.symm)
      exact ⟨rfl, p', hI'h.out, rfl⟩

/-! ### A call -/
def readW : Nat → List Nat → Option (List Nat × List Nat)
  | 0, l => some ([], l)
  | k + 1, l => match readN l with
    | none => none
    | some (n, l') => match readW k l' with
      | none => none
      | some (ns, l'') => some (n :: ns, l'')
def calOf (o : Nat) (ws : List Nat) : Cal := ⟨(o : Int), ws.getD 0 0, ws.getD 1 0, ws.getD 2 0⟩
def callR (l : List Nat) : Option (Cal × List Nat) := match mostR 7 l with
  | none => none
  | some (o, l1) => if o = 0 then none else match readW (takesI (o : Int)).toNat l1 with
    | none => none
    | some (ws, l2) => some (calOf o ws, l2)
def CallP (R : Option (Cal × List Nat)) (bn : Nat) (e : Ending) (p' : Nat) : Prop := match R with
  | some (c, rest) => e = .returned (.agg (calA c)) ∧ p' + rest.length = bn ∧ p' ≤ bn
  | none => e = Bad
/-- What is left of reading a call's words. -/
def wordsLeft (o : Nat) (ws : List Nat) (k : Nat) (l : List Nat) : Option (Cal × List Nat) := match readW k l with
  | none => none
  | some (ns, l2) => some (calOf o (ws ++ ns), l2)
theorem wordsLeft_done (o : Nat) (ws l : List Nat) : wordsLeft o ws 0 l = some (calOf o ws, l) := by simp [wordsLeft, readW]
theorem wordsLeft_none {o : Nat} {ws l : List Nat} {k : Nat} (h : readN l = none) : wordsLeft o ws (k + 1) l = none := by simp [wordsLeft, readW, h]
theorem wordsLeft_next {o n : Nat} {ws l l' : List Nat} {k : Nat} (h : readN l = some (n, l')) : wordsLeft o ws (k + 1) l = wordsLeft o (ws ++ [n]) k l' := by
  unfold wordsLeft
  rw [readW, h]
  simp only
  cases readW k l' with
  | none => rfl
  | some x => simp
theorem mostR_le {limit : Nat} {l : List Nat} {n : Nat} {r : List Nat} (h : mostR limit l = some (n, r)) : n ≤ limit ∧ readN l = some (n, r) := by
  unfold mostR at h
  split at h
  · split at h
    · cases h; exact ⟨by assumption, by assumption⟩
    · cases h
  · cases h
theorem drop_of {l r : List Nat} {p p' bn : Nat} (hl : bn = l.length) (hr : ∃ k, r = (l.drop p).drop k) (h : p' + r.length = bn) (hp : p' ≤ bn) : l.drop p' = r := by
  obtain ⟨k, hk⟩ := hr
  rw [List.drop_drop] at hk
  have h1 := congrArg List.length hk
  rw [List.length_drop] at h1
  by_cases h2 : p + k ≤ l.length
  · rw [hk]; congr 1; omega
  · have h3 : r = [] := by rw [hk]; exact List.drop_eq_nil_of_le (by omega)
    rw [h3] at h ⊢
    simp at h
    exact List.drop_eq_nil_of_le (by omega)
theorem calOf_put {o n : Nat} {ws : List Nat} (h : ws.length < 3) : (calA (calOf o ws)).setIfInBounds (ws.length + 1) (.int .u64 (n : Int)) = calA (calOf o (ws ++ [n])) := by
  match ws, h with
  | [], _ => rfl
  | [a], _ => rfl
  | [a, b], _ => rfl
theorem ptrs_at {B i : Nat} (h : i < 3) : (#[.pointer (some ⟨B, 1, none⟩), .pointer (some ⟨B, 2, none⟩), .pointer (some ⟨B, 3, none⟩)] : Array Value)[i]? = some (.pointer (some ⟨B, i + 1, none⟩)) := by
  rcases (show i = 0 ∨ i = 1 ∨ i = 2 by omega) with rfl | rfl | rfl <;> rfl
theorem calA_at {c : Cal} {i : Nat} (h : i < 3) : ∃ u, (calA c)[i + 1]? = some u := by
  rcases (show i = 0 ∨ i = 1 ∨ i = 2 by omega) with rfl | rfl | rfl <;> exact ⟨_, rfl⟩
set_option maxHeartbeats 2000000 in
theorem call_reads (rb : Nat) (v0 v1 v2 v3 v4 : Value) (bp : Option Addr) (bn bc p : Nat) (bytes : List Nat) (w : World) (hT : Tks w) (h0 : rb ≠ 0) (h : RdI w rb v0 v1 v2 v3 v4 bp bn bc bytes p w) (hby : ∀ b ∈ bytes, b < 256) (hp : p ≤ bn) :
    Calls Tryd.prog 64 #[.pointer (some ⟨rb, 0, none⟩)] w fun e w' => (∃ p', RdI w rb v0 v1 v2 v3 v4 bp bn bc bytes p' w' ∧ CallP (callR (bytes.drop p)) bn e p') := by
  have hbl : bn = bytes.length := by have := h.sl.1; rw [u8s_length] at this; exact this
  have hrb := lt_of_heap h.blk
  have hB1 : Below w.heap.size w (w.alloc (.cells #[.int .i64 0, .int .u64 0, .int .u64 0, .int .u64 0] 57)) := (Below.refl _ _).alloc (Nat.le_refl _) _
  have hI1 := h.wide hB1
  have hb2 : (w.alloc (.cells #[.int .i64 0, .int .u64 0, .int .u64 0, .int .u64 0] 57)).heap[w.heap.size]? = some (.cells #[.int .i64 0, .int .u64 0, .int .u64 0, .int .u64 0] 57) := World.alloc_heap_new _ _
  have C := most_reads rb v0 v1 v2 v3 v4 bp bn bc p 7 bytes _ hI1.self hby hp (by omega)
  obtain ⟨R, hR⟩ : ∃ R, R = callR (bytes.drop p) := ⟨_, rfl⟩
  rw [← hR]
  unfold callR at hR
  have hml := fun o l1 => mostR_le (limit := 7) (l := bytes.drop p) (n := o) (r := l1)
  cases hm : mostR 7 (bytes.drop p) with
  | none =>
    rw [hm] at C hR
    simp only [MostP] at C hR
    subst hR
    have C'h := Lib.hid C
    have hI1'h := Lib.hid hI1
    clear C hI1
    clear hml hb2 hB1
    go_enter Tryd.func64, Tryd.ntmps64
    go_wp2_with fail
    refine C'h.out.mono ?_
    rintro e w2 ⟨p', hI, rfl⟩
    exact ⟨rfl, p', hI1'h.out.then hI, rfl⟩
  | some x =>
    obtain ⟨o, l1⟩ := x
    rw [hm] at C hR
    obtain ⟨ho7, hrd⟩ := hml o l1 hm
    simp only [MostP] at C hR
    clear hml
    have hl1 := readN_drop hrd
    have C'h := Lib.hid C
    have hI1'h := Lib.hid hI1
    have hb2'h := Lib.hid hb2
    have hR'h := Lib.hid hR
    have hl1'h := Lib.hid hl1
    have hby'h := Lib.hid hby
    have hbl'h := Lib.hid hbl
    have hrd'h := Lib.hid hrd
    have hm'h := Lib.hid hm
    have h'h := Lib.hid h
    have hT'h := Lib.hid hT
    clear C hI1 hb2 hR hl1 hby hbl hrd hm h hT
    go_enter Tryd.func64, Tryd.ntmps64
    go_wp2_with fail
    refine C'h.out.mono ?_
    rintro e w2 ⟨p2, hI2, rfl, hp1, hp2⟩
    have hd2 := drop_of hbl'h.out hl1'h.out hp1 hp2
    have hb22 := hI2.other hb2'h.out (by omega)
    have hIw := hI1'h.out.then hI2
    have hT2 : Tks w2 := fun i hi => cell_of_heap ((hIw.by'.block 0 (by have := hT'h.out.lt; omega) (fun e => h0 (by injection e with e; exact e.symm)))) (hT'h.out i hi)
    clear hI2
    have hp1'h := Lib.hid hp1
    have hp2'h := Lib.hid hp2
    have hd2'h := Lib.hid hd2
    have hb22'h := Lib.hid hb22
    have hIw'h := Lib.hid hIw
    have hT2'h := Lib.hid hT2
    clear hp1 hp2 hd2 hb22 hIw hT2
    clear C'h
    rcases Nat.eq_zero_or_pos o with ho0 | ho0
    · have hRn : R = none := by rw [hR'h.out, if_pos ho0]
      have hoz1 : decide ((1 : Int) ≤ (o : Int)) = false := decide_eq_false (by omega)
      have hoz2 : decide (1 ≤ o) = false := decide_eq_false (by omega)
      have hoz3 : decide (0 < o) = false := decide_eq_false (by omega)
      have hb3 := (Below.refl w2.heap.size w2).alloc (Nat.le_refl _) (.cells #[.int .i64 (o : Int), .int .u64 0, .int .u64 0, .int .u64 0] 57)
      have hI3 := hIw'h.out.wide hb3
      have hRn'h := Lib.hid hRn
      have hI3'h := Lib.hid hI3
      have ho0'h := Lib.hid ho0
      clear hRn hI3 ho0
      clear hb3
      go_wp2_with (go_at_call 65; refine (need_no _).mono ?_; rintro e w' ⟨rfl, hw⟩; obtain rfl := hw.symm)
      refine ⟨rfl, p2, hI3'h.out, ?_⟩
      rw [hRn'h.out]
      rfl
    · have hRy : R = wordsLeft o [] (takesI (o : Int)).toNat l1 := by
        rw [hR'h.out, if_neg (by omega)]
        unfold wordsLeft
        cases readW (takesI (o : Int)).toNat l1 <;> rfl
      have hto := takesI_range (o : Int)
      have hT5 : takesI (o : Int) = tkL.getD o 0 := by unfold takesI; rw [if_neg (by omega), Int.toNat_natCast]
      have htn : 0 ≤ takesI (o : Int) := by
        rw [hT5]
        rcases (show o = 1 ∨ o = 2 ∨ o = 3 ∨ o = 4 ∨ o = 5 ∨ o = 6 ∨ o = 7 by omega) with rfl | rfl | rfl | rfl | rfl | rfl | rfl <;> decide
      obtain ⟨t, ht⟩ : ∃ t : Nat, takesI (o : Int) = (t : Int) := ⟨(takesI (o : Int)).toNat, by omega⟩
      rw [ht, Int.toNat_natCast] at hRy
      have htc : tkL.getD o 0 = (t : Int) := by rw [← hT5, ht]
      have ht3 : t ≤ 3 := by omega
      have hoz : (o : Int) ≥ 1 := by omega
      have hb3 := (Below.refl w2.heap.size w2).alloc (Nat.le_refl _) (.cells #[.int .i64 (o : Int), .int .u64 0, .int .u64 0, .int .u64 0] 57)
      have hI3 := hIw'h.out.wide hb3
      have hb23 := heap_below hb3 hb22'h.out (lt_of_heap hb22'h.out)
      have hb33 : (w2.alloc (.cells #[.int .i64 (o : Int), .int .u64 0, .int .u64 0, .int .u64 0] 57)).heap[w2.heap.size]? = _ := World.alloc_heap_new _ _
      have hT3 := hT2'h.out.next hb3
      have hz2 := lt_of_heap hb22'h.out
      clear hb3 hT5 htn hto ht
      have hRy'h := Lib.hid hRy
      have hI3'h := Lib.hid hI3
      have hb23'h := Lib.hid hb23
      have hb33'h := Lib.hid hb33
      have hT3'h := Lib.hid hT3
      have htc'h := Lib.hid htc
      clear hRy hI3 hb23 hb33 hT3 htc
      clear hIw'h hT2'h hb22'h hR'h
      go_wp2_with (go_at_call 65; refine (need_yes _).mono ?_; rintro e w' ⟨rfl, hw⟩; obtain rfl := hw.symm)
      refine (words_any w2.heap.size 0 _).mono ?_
      rintro e w4 ⟨rfl, hB4⟩
      have hI4 := hI3'h.out.wide hB4
      have hb24 := heap_below hB4 hb23'h.out (lt_of_heap hb23'h.out)
      have hb34 := heap_below hB4 hb33'h.out (lt_of_heap hb33'h.out)
      have hT4 := hT3'h.out.next hB4
      have hz4 := lt_of_heap hb34
      have hb5 := (Below.refl w4.heap.size w4).alloc (Nat.le_refl _) (.cells #[.pointer (some ⟨w2.heap.size, 1, none⟩), .pointer (some ⟨w2.heap.size, 2, none⟩), .pointer (some ⟨w2.heap.size, 3, none⟩)] 93)
      have hI5 := hI4.wide hb5
      have hb25 := heap_below hb5 hb24 (lt_of_heap hb24)
      have hb35 := heap_below hb5 hb34 (lt_of_heap hb34)
      have hb45 : (w4.alloc (.cells #[.pointer (some ⟨w2.heap.size, 1, none⟩), .pointer (some ⟨w2.heap.size, 2, none⟩), .pointer (some ⟨w2.heap.size, 3, none⟩)] 93)).heap[w4.heap.size]? = _ := World.alloc_heap_new _ _
      have tc := (hT4.next hb5) o (by omega)
      rw [htc'h.out] at tc
      have e0 := blk_cell (i := 0) hb35 rfl
      have i3 : (0 : Int) ≤ (o : Int) := by omega
      have i4 : (o : Int) < 8 := by omega
      have i5 : (t : Int) ≤ 3 := by omega
      have i6 : ¬ ((t : Int) < 0) := by omega
      have i7 : ¬ ((3 : Int) < (t : Int)) := by omega
      clear hI4 hb24 hb34 hT4 hb5 hB4
      have hI5'h := Lib.hid hI5
      have hb25'h := Lib.hid hb25
      have hb35'h := Lib.hid hb35
      have hb45'h := Lib.hid hb45
      clear hI5 hb25 hb35 hb45
      clear hI3'h hb23'h hb33'h hT3'h
      go_wp2
      obtain ⟨B3, hB3⟩ : ∃ B3, B3 = w2.heap.size := ⟨_, rfl⟩
      obtain ⟨B4, hB4⟩ : ∃ B4, B4 = w4.heap.size := ⟨_, rfl⟩
      have hI5 := hI5'h.out
      have hb25 := hb25'h.out
      have hb35 := hb35'h.out
      have hb45 := hb45'h.out
      rw [← hB4] at hb45
      rw [← hB3] at hb35 hb45 hb25 hI5
      rw [← hB3, ← hB4]
      generalize w4.alloc _ = W5 at hI5 hb25 hb35 hb45 ⊢
      have hB3w : w.heap.size < B3 := by omega
      have hB4w : B3 < B4 := by omega
      have hb35' : W5.heap[B3]? = some (.cells (calA (calOf o [])) 57) := hb35
      clear hI5'h hb25'h hb35'h hb45'h hb35 tc e0 hz2 hz4 hB3 hB4 hoz i3 i4 i6 i7
      have hI5'h := Lib.hid hI5
      have hb25'h := Lib.hid hb25
      have hb35''h := Lib.hid hb35'
      have hb45'h := Lib.hid hb45
      clear hI5 hb25 hb35' hb45
      go_loopg [21] t (fun q ix wr => ∃ (i : Nat) (ws : List Nat) (x : Nat), i + q = t ∧ ix = .int .i64 (i : Int) ∧ ws.length = i ∧ x ≤ bn ∧ RdI w rb v0 v1 v2 v3 v4 bp bn bc bytes x wr ∧ Hid (R = wordsLeft o ws (t - i) (bytes.drop x)) ∧
        wr.heap[w.heap.size]? = some (.cells #[.int .i64 0, .int .u64 0, .int .u64 0, .int .u64 0] 57) ∧ wr.heap[B3]? = some (.cells (calA (calOf o ws)) 57) ∧
        wr.heap[B4]? = some (.cells #[.pointer (some ⟨B3, 1, none⟩), .pointer (some ⟨B3, 2, none⟩), .pointer (some ⟨B3, 3, none⟩)] 93))
      case atStart => exact ⟨0, [], p2, by omega, rfl, rfl, hp2'h.out, hI5'h.out, by show R = _; rw [hd2'h.out, hRy'h.out]; rfl, hb25'h.out, hb35''h.out, hb45'h.out⟩
      case round =>
        obtain ⟨i, ws, x, hq, rfl, hws, hx, hI, hE, y2, y3, y4⟩ := hrel
        obtain ⟨go, rfl⟩ : ∃ go : Nat, go = gk := ⟨_, rfl⟩
        by_cases hlt : i < t
        · have u1 := blk_cell y4 (ptrs_at (show i < 3 by omega))
          have i1 : (i : Int) < (t : Int) := by omega
          have i2 : (0 : Int) ≤ (i : Int) := by omega
          have N := number_reads rb v0 v1 v2 v3 v4 bp bn bc x bytes wr hI.self hby'h.out hx
          have hne2 : w.heap.size ≠ rb := by omega
          have hne3 : B3 ≠ rb := by omega
          have hne4 : B4 ≠ rb := by omega
          cases hn : readN (bytes.drop x) with
          | none =>
            rw [hn] at N
            simp only [NumP] at N
            have hRn : R = none := by rw [hE.out, show t - i = t - i - 1 + 1 by omega, wordsLeft_none hn]
            have N'h := Lib.hid N
            have hI'h := Lib.hid hI
            have hRn'h := Lib.hid hRn
            clear N hI hRn
            clear hE y2 y3 y4
            go_wp2_with fail
            refine N'h.out.mono ?_
            rintro e w6 ⟨p6, hI6, rfl⟩
            refine ⟨rfl, p6, hI'h.out.then hI6, ?_⟩
            rw [hRn'h.out]
            rfl
          | some z =>
            obtain ⟨n, l6⟩ := z
            rw [hn] at N
            simp only [NumP] at N
            obtain ⟨cv, hcv⟩ := calA_at (c := calOf o ws) (show i < 3 by omega)
            have N'h := Lib.hid N
            have hI'h := Lib.hid hI
            have hn'h := Lib.hid hn
            have hE'h := Lib.hid hE
            have hq'h := Lib.hid hq
            have hws'h := Lib.hid hws
            clear N hI hn hE hq hws
            go_wp2_with fail
            refine N'h.out.mono ?_
            rintro e w6 ⟨p6, hI6, rfl, hp61, hp62⟩
            have hd6 := drop_of hbl'h.out (readN_drop hn'h.out) hp61 hp62
            have z2 := hI6.other y2 hne2
            have z3 := hI6.other y3 hne3
            have z4 := hI6.other y4 hne4
            have hI7 := (hI'h.out.then hI6).aside h'h.out (b := B3) (by omega) (i + 1) (.int .u64 (n : Int))
            have s2 := (Below.heap_setCell w6 ⟨B3, i + 1, none⟩ (.int .u64 (n : Int)) w.heap.size (by show w.heap.size ≠ B3; omega)).trans z2
            have s3 := blk_set (i := i + 1) (.int .u64 (n : Int)) z3
            have s4 := (Below.heap_setCell w6 ⟨B3, i + 1, none⟩ (.int .u64 (n : Int)) B4 (by show B4 ≠ B3; omega)).trans z4
            have a1 := blk_cell z3 hcv
            have a2 := blk_free (i + 1) z3
            rw [← hws'h.out, calOf_put (by have := hws'h.out; omega)] at s3
            rw [hws'h.out] at s3
            have hE7 : R = wordsLeft o (ws ++ [n]) (t - (i + 1)) (bytes.drop p6) := by
              rw [hE'h.out.out, show t - i = t - (i + 1) + 1 by omega, wordsLeft_next hn'h.out, hd6]
            clear hI6 z2 z3 z4 u1 y2 y3 y4 hd6 hp61 hcv
            have hI7'h := Lib.hid hI7
            have s2'h := Lib.hid s2
            have s3'h := Lib.hid s3
            have s4'h := Lib.hid s4
            have hE7'h := Lib.hid hE7
            clear hI7 s2 s3 s4 hE7
            go_wp2
            go_roundg (go - 1)
            case measure => have := hq'h.out; omega
            case rel => exact ⟨i + 1, ws ++ [n], p6, by have := hq'h.out; omega, by go_num, by rw [List.length_append, hws'h.out]; rfl, hp62, hI7'h.out, hE7'h.out, s2'h.out, s3'h.out, s4'h.out⟩
        · have i1 : ¬ (i : Int) < (t : Int) := by omega
          have hRe : R = some (calOf o ws, bytes.drop x) := by rw [hE.out, show t - i = 0 by omega, wordsLeft_done]
          have hlen : x + (bytes.drop x).length = bn := by rw [List.length_drop]; have := hbl'h.out; omega
          obtain ⟨c, hc⟩ : ∃ c, c = calOf o ws := ⟨_, rfl⟩
          rw [← hc] at hRe y3
          clear hE hc
          have hI'h := Lib.hid hI
          have hRe'h := Lib.hid hRe
          have hlen'h := Lib.hid hlen
          have y2'h := Lib.hid y2
          have y3'h := Lib.hid y3
          clear hI hRe hlen y2 y3
          clear y4
          go_wp2_with (first
            | (guard_target = wpList _ _ _ (Oper.mk _ (.load _ (.tmp 3)) _ _ _ _ :: _) _ _; refine wpList_load_row rfl 57 (.tmp 3) rfl (B3) rfl 57 (calA c) (0, 0) _ y3'h.out Tryd.underlying57 rfl info_cal ?_)
            | (guard_target = wpList _ _ _ (Oper.mk _ (.store _ (.tmp 2) _) _ _ _ _ :: _) _ _; refine wpList_store_row rfl 57 (.tmp 2) _ rfl (w.heap.size) (calA c) rfl rfl 57 _ y2'h.out info_cal rfl (calA_one c) ?_))
          refine bodyPost_ret (results_cell_row rfl _ _ w.heap.size 57 (calA c) (0, 0) _ rfl (setRow_heap _ _ _ _ _ _ y2'h.out) Tryd.underlying57 rfl info_cal) rfl ?_
          refine ⟨x, hI'h.out.low h'h.out (below_setRow' (Below.refl _ _) (Nat.le_refl _) _), ?_⟩
          rw [hRe'h.out]
          exact ⟨rfl, hlen'h.out, hx⟩
end Go.Proofs.YtifofdciablljaaDoor

/-
  Layer 3 (script): reading: rows of calls, and all of a script: what it comes to, and what lies in memory meanwhile.
-/
set_option linter.unusedSimpArgs false
set_option linter.unusedVariables false
set_option maxRecDepth 100000
namespace Go.Proofs.YtifofdciablljaaDoor
open Go.RowKit

def listR : Nat → List Nat → Option (List Cal × List Nat)
  | 0, l => some ([], l)
  | k + 1, l => match callR l with
    | none => none
    | some (c, l') => match listR k l' with
      | none => none
      | some (cs, l'') => some (c :: cs, l'')
def listsR : Nat → Nat → List Nat → Option (List (List Cal) × List Nat)
  | 0, _, l => some ([], l)
  | g + 1, left, l => match mostR left l with
    | none => none
    | some (n, l1) => match listR n l1 with
      | none => none
      | some (cs, l2) => match listsR g (left - n) l2 with
        | none => none
        | some (ls, l3) => some (cs :: ls, l3)
def endR (g sb : Nat) (seed : Nat) (ls : List (List Cal)) (l : List Nat) : Option (Scr × List Nat) := match mostR 4096 l with
  | none => none
  | some (n, l1) => match readW n l1 with
    | none => none
    | some (ps, l2) => if rightS ⟨(g : Int), (sb : Int), seed, ls, ps⟩ = true then some (⟨(g : Int), (sb : Int), seed, ls, ps⟩, l2) else none
def restR (g sb : Nat) (seed : Nat) (ls : List (List Cal)) (k left : Nat) (l : List Nat) : Option (Scr × List Nat) := match listsR k left l with
  | none => none
  | some (ls', l') => endR g sb seed (ls ++ ls') l'
def scriptR (l : List Nat) : Option (Scr × List Nat) := match mostR 8 l with
  | none => none
  | some (g, l1) => match mostR 128 l1 with
    | none => none
    | some (sb, l2) => match readN l2 with
      | none => none
      | some (seed, l3) => restR g sb seed [] g 64 l3

theorem callR_drop {l : List Nat} {c : Cal} {r : List Nat} (h : callR l = some (c, r)) : ∃ k, r = l.drop k := by
  unfold callR at h
  cases hm : mostR 7 l with
  | none => rw [hm] at h; cases h
  | some x =>
    obtain ⟨o, l1⟩ := x
    rw [hm] at h
    simp only at h
    obtain ⟨k1, hk1⟩ := readN_drop (mostR_le hm).2
    split at h
    · cases h
    · have hw : ∀ (k : Nat) (l ws l' : List Nat), readW k l = some (ws, l') → ∃ j, l' = l.drop j := by
        intro k
        induction k with
        | zero => intro l ws l' h; simp [readW] at h; exact ⟨0, h.2.symm⟩
        | succ k ih =>
          intro l ws l' h
          rw [readW] at h
          cases hn : readN l with
          | none => rw [hn] at h; cases h
          | some y =>
            obtain ⟨n, l2⟩ := y
            rw [hn] at h
            simp only at h
            cases hk : readW k l2 with
            | none => rw [hk] at h; cases h
            | some z =>
              obtain ⟨ns, l3⟩ := z
              rw [hk] at h
              cases h
              obtain ⟨j1, hj1⟩ := readN_drop hn
              obtain ⟨j2, hj2⟩ := ih _ _ _ hk
              exact ⟨j1 + j2, by rw [hj2, hj1, List.drop_drop]⟩
      cases hk : readW (takesI (o : Int)).toNat l1 with
      | none => rw [hk] at h; cases h
      | some z =>
        obtain ⟨ns, l3⟩ := z
        rw [hk] at h
        cases h
        obtain ⟨j, hj⟩ := hw _ _ _ _ hk
        exact ⟨k1 + j, by rw [hj, hk1, List.drop_drop]⟩
theorem readW_some : ∀ (k : Nat) (l ws l' : List Nat), (∀ b ∈ l, b < 256) → readW k l = some (ws, l') → ws.length = k ∧ (∀ n ∈ ws, n < 2 ^ 64) ∧ ∃ j, l' = l.drop j
  | 0, l, ws, l', _, h => by simp [readW] at h; obtain ⟨rfl, rfl⟩ := h; exact ⟨rfl, by simp, 0, rfl⟩
  | k + 1, l, ws, l', hb, h => by
    rw [readW] at h
    cases hn : readN l with
    | none => rw [hn] at h; cases h
    | some y =>
      obtain ⟨n, l2⟩ := y
      rw [hn] at h
      simp only at h
      obtain ⟨j1, hj1⟩ := readN_drop hn
      cases hk : readW k l2 with
      | none => rw [hk] at h; cases h
      | some z =>
        obtain ⟨ns, l3⟩ := z
        rw [hk] at h
        cases h
        obtain ⟨h1, h2, j2, hj2⟩ := readW_some k l2 ns l' (fun b hb' => hb b (List.mem_of_mem_drop (by rw [hj1] at hb'; exact hb'))) hk
        refine ⟨by simp [h1], fun x hx => ?_, j1 + j2, by rw [hj2, hj1, List.drop_drop]⟩
        rcases List.mem_cons.1 hx with rfl | hx
        · exact readN_lt hb hn
        · exact h2 x hx
/-- A call that was read may be. -/
theorem callR_ok {l : List Nat} {c : Cal} {r : List Nat} (hb : ∀ b ∈ l, b < 256) (h : callR l = some (c, r)) : CalOk c := by
  unfold callR at h
  cases hm : mostR 7 l with
  | none => rw [hm] at h; cases h
  | some x =>
    obtain ⟨o, l1⟩ := x
    rw [hm] at h
    simp only at h
    obtain ⟨ho, hr⟩ := mostR_le hm
    obtain ⟨k1, hk1⟩ := readN_drop hr
    split at h
    · cases h
    · cases hk : readW (takesI (o : Int)).toNat l1 with
      | none => rw [hk] at h; cases h
      | some z =>
        obtain ⟨ns, l3⟩ := z
        rw [hk] at h
        cases h
        obtain ⟨-, h2, -⟩ := readW_some _ l1 ns r (fun b hb' => hb b (List.mem_of_mem_drop (by rw [hk1] at hb'; exact hb'))) hk
        have hg : ∀ i, ns.getD i 0 < 2 ^ 64 := by
          intro i
          rw [List.getD_eq_getElem?_getD]
          cases hi : ns[i]? with
          | none => exact Nat.two_pow_pos _
          | some x => exact h2 x (List.mem_of_getElem? hi)
        exact ⟨by show (-9223372036854775808 : Int) ≤ (o : Int); omega, by show (o : Int) ≤ 9223372036854775807; omega, hg 0, hg 1, hg 2⟩

/-! ### Rows of one's own, beside each other -/
theorem ownsRow_other {W W' : World} {base : Nat} {e : TypeId} {size : Nat} {v : Value} {n : Nat} {xs : List Value} {row : Option Nat} (h : W.ownsRow base e size v n xs) (hg : W.grownBy W' row) (hne : ∀ g, v.ownBlock = some g → row ≠ some g) :
    W'.ownsRow base e size v n xs := by
  obtain ⟨h1, h2⟩ := h
  refine ⟨h1, h2.imp id ?_⟩
  rintro ⟨g, cap, cur, hv, hb, hh, r⟩
  refine ⟨g, cap, cur, hv, hb, (hg.block g (lt_of_heap hh) (fun e => ?_)).trans hh, r⟩
  exact hne g (by rw [hv]; rfl) e.symm
/-- Rows of elements of other types lie in other blocks. -/
theorem ownsRow_apart {W : World} {b b' : Nat} {e e' : TypeId} {k k' : Nat} {v v' : Value} {n n' : Nat} {xs xs' : List Value} (h : W.ownsRow b e k v n xs) (h' : W.ownsRow b' e' k' v' n' xs') (hne : e ≠ e') : ∀ g, v.ownBlock = some g → v'.ownBlock ≠ some g := by
  intro g hg hg'
  rcases h.2 with ⟨hv, _⟩ | ⟨g1, c1, cur1, hv, _, hh, _⟩
  · rw [hv] at hg; cases hg
  · rcases h'.2 with ⟨hv', _⟩ | ⟨g2, c2, cur2, hv', _, hh', _⟩
    · rw [hv'] at hg'; cases hg'
    · rw [hv] at hg
      rw [hv'] at hg'
      have e1 : g1 = g := by injection hg
      have e2 : g2 = g := by injection hg'
      rw [e1] at hh
      rw [e2, hh] at hh'
      injection hh' with hh'
      injection hh' with _ hh' _
      exact hne hh'
/-- What lies in memory while a script is read. -/
structure ScI (w : World) (rb : Nat) (v0 v1 v2 : Value) (bp : Option Addr) (bn bc : Nat) (bytes : List Nat) (lv pv : Value) (rows : List CRow) (ps : List Nat) (p : Nat) (wr : World) : Prop where
  rd : RdI w rb v0 v1 v2 lv pv bp bn bc bytes p wr
  outer : wr.ownsRow w.heap.size 55 1 lv rows.length (rows.map crV)
  inner : ∀ r ∈ rows, wr.ownsRow w.heap.size 57 4 (crV r) r.len (cals r.cs)
  len : ∀ r ∈ rows, r.len = r.cs.length ∧ r.cs.length ≤ 64 ∧ ∀ c ∈ r.cs, CalOk c
  picks : wr.ownsRow w.heap.size 22 1 pv ps.length (u64s ps)
  low : rb < w.heap.size
section
variable {w : World} {rb : Nat} {v0 v1 v2 lv pv : Value} {bp : Option Addr} {bn bc : Nat} {bytes : List Nat} {rows : List CRow} {ps : List Nat} {p p' : Nat} {wr wr' : World}
/-- A step that touches the reader alone. -/
theorem ScI.step {u0 u1 u2 : Value} (h : ScI w rb v0 v1 v2 bp bn bc bytes lv pv rows ps p wr) (h' : RdI wr rb u0 u1 u2 lv pv bp bn bc bytes p' wr') : ScI w rb u0 u1 u2 bp bn bc bytes lv pv rows ps p' wr' := by
  have hne : ∀ {e : TypeId} {k : Nat} {v : Value} {n : Nat} {xs : List Value}, wr.ownsRow w.heap.size e k v n xs → ∀ g, v.ownBlock = some g → some rb ≠ some g := fun hr g hg e => by
    have h1 := (hr.lt g hg).1
    have h2 := h.low
    injection e with e
    omega
  exact ⟨h.rd.then h', ownsRow_other h.outer h'.by' (hne h.outer), fun r hr => ownsRow_other (h.inner r hr) h'.by' (hne (h.inner r hr)), h.len, ownsRow_other h.picks h'.by' (hne h.picks), h.low⟩
theorem ScI.wide (h : ScI w rb v0 v1 v2 bp bn bc bytes lv pv rows ps p wr) (hb : Below wr.heap.size wr wr') : ScI w rb v0 v1 v2 bp bn bc bytes lv pv rows ps p wr' :=
  ⟨h.rd.wide hb, ownsRow_next h.outer hb, fun r hr => ownsRow_next (h.inner r hr) hb, h.len, ownsRow_next h.picks hb, h.low⟩
/-- A step that touches the reader and what is new. -/
theorem ScI.jump {W0 : World} (h : ScI w rb v0 v1 v2 bp bn bc bytes lv pv rows ps p W0) (h' : RdI W0 rb v0 v1 v2 lv pv bp bn bc bytes p' wr) : ScI w rb v0 v1 v2 bp bn bc bytes lv pv rows ps p' wr := h.step h'
/-- A finished row of calls is laid behind the others (ahead of the store). -/
theorem ScI.row {r : CRow} {lv' : Value} (h : ScI w rb v0 v1 v2 bp bn bc bytes lv pv rows ps p wr) (hw : RdI w rb v0 v1 v2 lv pv bp bn bc bytes p w ∨ True) (hr : wr.ownsRow w.heap.size 57 4 (crV r) r.len (cals r.cs)) (hl : r.len = r.cs.length ∧ r.cs.length ≤ 64 ∧ ∀ c ∈ r.cs, CalOk c)
    (ho : wr'.ownsRow w.heap.size 55 1 lv' (rows.length + 1) (rows.map crV ++ [crV r])) (hg : wr.grownBy wr' lv.ownBlock) (hrd : RdI w rb v0 v1 v2 lv pv bp bn bc bytes p wr') :
    RdI w rb v0 v1 v2 lv pv bp bn bc bytes p wr' ∧ wr'.ownsRow w.heap.size 55 1 lv' (rows ++ [r]).length ((rows ++ [r]).map crV) ∧ (∀ x ∈ rows ++ [r], wr'.ownsRow w.heap.size 57 4 (crV x) x.len (cals x.cs)) ∧
    (∀ x ∈ rows ++ [r], x.len = x.cs.length ∧ x.cs.length ≤ 64 ∧ ∀ c ∈ x.cs, CalOk c) ∧ wr'.ownsRow w.heap.size 22 1 pv ps.length (u64s ps) := by
  have hne : ∀ (x : CRow), wr.ownsRow w.heap.size 57 4 (crV x) x.len (cals x.cs) → ∀ g, (crV x).ownBlock = some g → lv.ownBlock ≠ some g := fun x hx => ownsRow_apart hx h.outer (by decide)
  refine ⟨hrd, by simpa using ho, fun x hx => ?_, fun x hx => ?_, ownsRow_other h.picks hg (ownsRow_apart h.picks h.outer (by decide))⟩
  · rcases List.mem_append.1 hx with hx | hx
    · exact ownsRow_other (h.inner x hx) hg (hne x (h.inner x hx))
    · obtain rfl : x = r := by simpa using hx
      exact ownsRow_other hr hg (hne x hr)
  · rcases List.mem_append.1 hx with hx | hx
    · exact h.len x hx
    · obtain rfl : x = r := by simpa using hx
      exact hl
/-- The script that was read, as it lies. -/
theorem ScI.script {lp : Option Addr} {ln lc : Nat} {pp : Option Addr} {pn pc : Nat} {g sb seed : Nat} (h : ScI w rb v0 v1 v2 bp bn bc bytes (.slice lp ln lc) (.slice pp pn pc) rows ps p wr) (hg : g ≤ 8) (hsb : sb ≤ 128) (hseed : seed < 2 ^ 64) (hn : rows.length ≤ 16) (hp : ps.length ≤ 4200) (h64 : W64 ps) :
    SmIn wr ⟨(g : Int), (sb : Int), seed, lp, ln, lc, rows, pp, pn, pc, ps⟩ := by
  obtain ⟨s1, c1, e1, k1, k2, -⟩ := row_form h.outer
  obtain ⟨s2, c2, e2, k3, k4, -⟩ := row_form h.picks
  have hln : ln = rows.length := by injection e1
  have hpn : pn = ps.length := by injection e2
  have hlc : c1 = lc := by injection e1 with a b c; exact c.symm
  have hpc : c2 = pc := by injection e2 with a b c; exact c.symm
  have hls : s1 = lp := by injection e1 with a b c; exact a.symm
  have hps : s2 = pp := by injection e2 with a b c; exact a.symm
  subst hlc hpc hls hps hln hpn
  have m1 : rows.length ≤ maxLen := by unfold maxLen; omega
  have m2 : ps.length ≤ maxLen := by unfold maxLen; omega
  have m3 : -9223372036854775808 ≤ (g : Int) ∧ (g : Int) ≤ 9223372036854775807 := by omega
  have m4 : -9223372036854775808 ≤ (sb : Int) ∧ (sb : Int) ≤ 9223372036854775807 := by omega
  refine ⟨⟨SlK.of_row h.outer m1, fun r hr => ?_, fun r hr => ?_, fun r hr => ?_, fun r hr => (h.len r hr).2.2, hn, fun r hr => by have := (h.len r hr).2.1; omega⟩,
    (SlK.of_row h.picks m2).sl, h64, hseed, m3, m4, k2, k1, k4, k3, hp⟩
  · exact SlK.of_row (h.inner r hr) (by have := h.len r hr; unfold maxLen; omega)
  · exact row_nil' (h.inner r hr)
  · obtain ⟨s3, c3, e3, k5, -, -⟩ := row_form (h.inner r hr)
    unfold crV at e3
    injection e3 with a b c
    rw [c]; exact k5
end
end Go.Proofs.YtifofdciablljaaDoor

/-
  Layer 3 (script): reading: all of a script.
-/
set_option linter.unusedSimpArgs false
set_option linter.unusedVariables false
set_option maxRecDepth 100000
namespace Go.Proofs.YtifofdciablljaaDoor
open Go.RowKit

def listsIn (rb : Nat) (w : World) : Nat := match w.cell? ⟨rb, 3, none⟩ with | some (.slice _ n _) => n | _ => 0
/-- The rows of a script, as one's own since some world. -/
structure SmOwn (B : Nat) (sm : Sm) (w : World) : Prop where
  outer : w.ownsRow B 55 1 (.slice sm.lp sm.ln sm.lc) sm.rows.length (sm.rows.map crV)
  inner : ∀ r ∈ sm.rows, w.ownsRow B 57 4 (crV r) r.len (cals r.cs)
  picks : w.ownsRow B 22 1 (.slice sm.pp sm.pn sm.pc) sm.picks.length (u64s sm.picks)
theorem SmOwn.next {B : Nat} {sm : Sm} {w w' : World} (h : SmOwn B sm w) (hb : Below w.heap.size w w') : SmOwn B sm w' :=
  ⟨ownsRow_next h.outer hb, fun r hr => ownsRow_next (h.inner r hr) hb, ownsRow_next h.picks hb⟩
/-- What reading a script comes to. -/
def ScriptP (w : World) (rb : Nat) (bp : Option Addr) (bn bc : Nat) (bytes : List Nat) (R : Option (Scr × List Nat)) (e : Ending) (w' : World) : Prop := w.grownBy w' (some rb) ∧ match R with
  | some (s, rest) => e = .returned (.tuple #[]) ∧ ∃ (sm : Sm) (p' : Nat), RdI w rb (.int .i64 sm.goers) (.int .i64 sm.slabs) (.int .u64 (sm.seed : Int)) (.slice sm.lp sm.ln sm.lc) (.slice sm.pp sm.pn sm.pc) bp bn bc bytes p' w' ∧ SmIn w' sm ∧ SmOwn w.heap.size sm w' ∧ sm.scr = s ∧ p' + rest.length = bn ∧ p' ≤ bn
  | none => e = Bad
theorem ScriptP.bad {w w' : World} {rb : Nat} {bp : Option Addr} {bn bc : Nat} {bytes : List Nat} {v0 v1 v2 v3 v4 : Value} {p : Nat} {R : Option (Scr × List Nat)} (hR : R = none) (h : RdI w rb v0 v1 v2 v3 v4 bp bn bc bytes p w') : ScriptP w rb bp bn bc bytes R Bad w' := by subst hR; exact ⟨h.by', rfl⟩
/-- At the label: rows of calls that were read, those that are still to come. -/
def AtLabel (w : World) (rb : Nat) (bp : Option Addr) (bn bc : Nat) (bytes : List Nat) (R : Option (Scr × List Nat)) (a' : Act) (w' : World) : Prop := ∃ (g sb seed left x : Nat) (rows : List CRow) (lv : Value) (f : Nat → Value),
  a' = { tmps := #[.pointer (some ⟨rb, 0, none⟩), f 1, .int .i64 (left : Int), f 3, f 4, f 5, f 6, f 7, f 8, f 9, f 10, f 11, f 12, f 13, f 14, f 15, f 16, f 17, f 18, f 19, f 20, f 21, f 22, f 23, f 24, f 25, f 26, f 27, f 28, f 29, f 30, f 31, f 32, f 33, f 34, f 35, f 36, f 37, f 38, f 39, f 40, f 41, f 42, f 43, f 44, f 45, f 46, f 47, f 48, f 49, f 50, f 51, f 52, f 53, f 54, f 55, f 56, f 57, f 58, f 59, f 60, f 61, f 62, f 63, f 64, f 65, f 66, f 67, f 68, f 69, f 70, f 71, f 72, f 73, f 74, f 75, f 76, f 77, f 78, f 79, f 80, f 81, f 82, f 83, f 84, f 85], defers := [] } ∧ g ≤ 8 ∧ sb ≤ 128 ∧ seed < 2 ^ 64 ∧ left ≤ 64 ∧ rows.length ≤ g ∧ x ≤ bn ∧
  ScI w rb (.int .i64 (g : Int)) (.int .i64 (sb : Int)) (.int .u64 (seed : Int)) bp bn bc bytes lv (.slice none 0 0) rows [] x w' ∧ R = restR g sb seed (rows.map (·.cs)) (g - rows.length) left (bytes.drop x)
theorem AtLabel.mk {w : World} {rb : Nat} {bp : Option Addr} {bn bc : Nat} {bytes : List Nat} {R : Option (Scr × List Nat)} {w' : World} {g sb seed left x : Nat} {rows : List CRow} {lv : Value} {t : Array Value}
    (ht : t = #[.pointer (some ⟨rb, 0, none⟩), t.getD 1 undef, .int .i64 (left : Int), t.getD 3 undef, t.getD 4 undef, t.getD 5 undef, t.getD 6 undef, t.getD 7 undef, t.getD 8 undef, t.getD 9 undef, t.getD 10 undef, t.getD 11 undef, t.getD 12 undef, t.getD 13 undef, t.getD 14 undef, t.getD 15 undef, t.getD 16 undef, t.getD 17 undef, t.getD 18 undef, t.getD 19 undef, t.getD 20 undef, t.getD 21 undef, t.getD 22 undef, t.getD 23 undef, t.getD 24 undef, t.getD 25 undef, t.getD 26 undef, t.getD 27 undef, t.getD 28 undef, t.getD 29 undef, t.getD 30 undef, t.getD 31 undef, t.getD 32 undef, t.getD 33 undef, t.getD 34 undef, t.getD 35 undef, t.getD 36 undef, t.getD 37 undef, t.getD 38 undef, t.getD 39 undef, t.getD 40 undef, t.getD 41 undef, t.getD 42 undef, t.getD 43 undef, t.getD 44 undef, t.getD 45 undef, t.getD 46 undef, t.getD 47 undef, t.getD 48 undef, t.getD 49 undef, t.getD 50 undef, t.getD 51 undef, t.getD 52 undef, t.getD 53 undef, t.getD 54 undef, t.getD 55 undef, t.getD 56 undef, t.getD 57 undef, t.getD 58 undef, t.getD 59 undef, t.getD 60 undef, t.getD 61 undef, t.getD 62 undef, t.getD 63 undef, t.getD 64 undef, t.getD 65 undef, t.getD 66 undef, t.getD 67 undef, t.getD 68 undef, t.getD 69 undef, t.getD 70 undef, t.getD 71 undef, t.getD 72 undef, t.getD 73 undef, t.getD 74 undef, t.getD 75 undef, t.getD 76 undef, t.getD 77 undef, t.getD 78 undef, t.getD 79 undef, t.getD 80 undef, t.getD 81 undef, t.getD 82 undef, t.getD 83 undef, t.getD 84 undef, t.getD 85 undef]) (h : g ≤ 8 ∧ sb ≤ 128 ∧ seed < 2 ^ 64 ∧ left ≤ 64 ∧ rows.length ≤ g ∧ x ≤ bn ∧
  ScI w rb (.int .i64 (g : Int)) (.int .i64 (sb : Int)) (.int .u64 (seed : Int)) bp bn bc bytes lv (.slice none 0 0) rows [] x w' ∧ R = restR g sb seed (rows.map (·.cs)) (g - rows.length) left (bytes.drop x)) :
    AtLabel w rb bp bn bc bytes R { tmps := t, defers := [] } w' := ⟨g, sb, seed, left, x, rows, lv, fun i => t.getD i undef, congrArg (fun t => ({ tmps := t, defers := [] } : Act)) ht, h⟩
theorem restR_step (g sb seed : Nat) (ls : List (List Cal)) (k left : Nat) (l : List Nat) : restR g sb seed ls (k + 1) left l = match mostR left l with
    | none => none
    | some (n, l1) => match listR n l1 with
      | none => none
      | some (cs, l2) => restR g sb seed (ls ++ [cs]) k (left - n) l2 := by
  unfold restR
  rw [listsR]
  cases mostR left l with
  | none => rfl
  | some y =>
    obtain ⟨n, l1⟩ := y
    simp only
    cases listR n l1 with
    | none => rfl
    | some z =>
      obtain ⟨cs, l2⟩ := z
      simp only
      cases listsR k (left - n) l2 with
      | none => rfl
      | some q => simp
def listLeft (cs : List Cal) (k : Nat) (l : List Nat) : Option (List Cal × List Nat) := match listR k l with
  | none => none
  | some (cs', r) => some (cs ++ cs', r)
theorem restR_zero (g sb seed : Nat) (ls : List (List Cal)) (left : Nat) (l : List Nat) : restR g sb seed ls 0 left l = endR g sb seed ls l := by simp [restR, listsR]
def picksLeft (ps : List Nat) (k : Nat) (l : List Nat) : Option (List Nat × List Nat) := match readW k l with
  | none => none
  | some (ns, r) => some (ps ++ ns, r)
theorem picksLeft_zero (n : Nat) (l : List Nat) : picksLeft [] n l = readW n l := by unfold picksLeft; cases readW n l <;> rfl
theorem picksLeft_done (ps l : List Nat) : picksLeft ps 0 l = some (ps, l) := by simp [picksLeft, readW]
theorem picksLeft_none {ps l : List Nat} {k : Nat} (h : readN l = none) : picksLeft ps (k + 1) l = none := by simp [picksLeft, readW, h]
theorem picksLeft_next {n : Nat} {ps l l' : List Nat} {k : Nat} (h : readN l = some (n, l')) : picksLeft ps (k + 1) l = picksLeft (ps ++ [n]) k l' := by
  unfold picksLeft
  rw [readW, h]
  simp only
  cases readW k l' with
  | none => rfl
  | some x => simp
/-- What is told of the end of a script. -/
def finR (g sb seed : Nat) (ls : List (List Cal)) (q : Option (List Nat × List Nat)) : Option (Scr × List Nat) := match q with
  | none => none
  | some (ps, l2) => if rightS ⟨(g : Int), (sb : Int), seed, ls, ps⟩ = true then some (⟨(g : Int), (sb : Int), seed, ls, ps⟩, l2) else none
theorem endR_fin (g sb seed : Nat) (ls : List (List Cal)) (l : List Nat) : endR g sb seed ls l = match mostR 4096 l with
    | none => none
    | some (n, l1) => finR g sb seed ls (readW n l1) := by
  unfold endR finR
  cases mostR 4096 l with
  | none => rfl
  | some x => rfl
theorem listLeft_zero (n : Nat) (l : List Nat) : listLeft [] n l = listR n l := by unfold listLeft; cases listR n l <;> rfl
theorem listLeft_done (cs : List Cal) (l : List Nat) : listLeft cs 0 l = some (cs, l) := by simp [listLeft, listR]
theorem listLeft_none {cs : List Cal} {l : List Nat} {k : Nat} (h : callR l = none) : listLeft cs (k + 1) l = none := by simp [listLeft, listR, h]
theorem listLeft_next {c : Cal} {cs : List Cal} {l l' : List Nat} {k : Nat} (h : callR l = some (c, l')) : listLeft cs (k + 1) l = listLeft (cs ++ [c]) k l' := by
  unfold listLeft
  rw [listR, h]
  simp only
  cases listR k l' with
  | none => rfl
  | some x => simp
theorem RdI.tks {w : World} {rb : Nat} {v0 v1 v2 v3 v4 : Value} {bp : Option Addr} {bn bc : Nat} {bytes : List Nat} {p : Nat} {wr : World} (h : RdI w rb v0 v1 v2 v3 v4 bp bn bc bytes p wr) (hT : Tks w) (h0 : rb ≠ 0) : Tks wr :=
  fun i hi => cell_of_heap (h.by'.block 0 hT.lt (fun e => h0 (by injection e with e; exact e.symm))) (hT i hi)
theorem info_lst : (Tryd.prog.info? 55).map (fun i => (i.zero, i.size, i.bytes)) = some (some (.slice none 0 0), 1, 24) := by kernel_rfl
theorem rd_c3 {w : World} {rb : Nat} {v0 v1 v2 v3 v4 : Value} {bp : Option Addr} {bn bc : Nat} {bytes : List Nat} {p : Nat} {wr : World} (h : RdI w rb v0 v1 v2 v3 v4 bp bn bc bytes p wr) : wr.cell? ⟨rb, 3, none⟩ = some v3 := blk_cell (i := 3) h.blk rfl
theorem ScI.pick {w : World} {rb : Nat} {v0 v1 v2 lv pv pv' : Value} {bp : Option Addr} {bn bc : Nat} {bytes : List Nat} {rows : List CRow} {ps : List Nat} {p q : Nat} {W W' : World} (h : ScI w rb v0 v1 v2 bp bn bc bytes lv pv rows ps p W)
    (ho : W'.ownsRow w.heap.size 22 1 pv' (ps.length + 1) (u64s ps ++ u64s [q])) (hg : W.grownBy W' pv.ownBlock) (hrd : RdI w rb v0 v1 v2 lv pv bp bn bc bytes p W') :
    ScI w rb v0 v1 v2 bp bn bc bytes lv pv' rows (ps ++ [q]) p (W'.setCell ⟨rb, 4, none⟩ pv') := by
  have hgT := (hrd.self.set (i := 4) pv' (u0 := v0) (u1 := v1) (u2 := v2) (u3 := lv) (u4 := pv') rfl).by'
  have hne : ∀ {e : TypeId} {k : Nat} {v : Value} {n : Nat} {xs : List Value}, W'.ownsRow w.heap.size e k v n xs → ∀ g, v.ownBlock = some g → some rb ≠ some g := fun hr g hg e => by
    have h1 := (hr.lt g hg).1
    have h2 := h.low
    injection e with e
    omega
  have z1 := ownsRow_other h.outer hg (ownsRow_apart h.outer h.picks (by decide))
  have z2 := fun r hr => ownsRow_other (h.inner r hr) hg (ownsRow_apart (h.inner r hr) h.picks (by decide))
  have z3 : W'.ownsRow w.heap.size 22 1 pv' (ps ++ [q]).length (u64s (ps ++ [q])) := by rw [List.length_append, u64s_snoc]; exact ho
  exact ⟨hrd.set (i := 4) pv' rfl, ownsRow_other z1 hgT (hne z1), fun r hr => ownsRow_other (z2 r hr) hgT (hne (z2 r hr)), h.len, ownsRow_other z3 hgT (hne z3), h.low⟩
theorem wp_scope_jumps2 {P : Program} {Q : Exit → Act → World → Prop} {a : Act} {w : World} {c rest : Code} (l : Nat) (J : Act → World → Prop) (μ : Act → World → Nat) (hf : findLabel c l = some (Code.skip.seq rest))
    (first : (∀ a w, J a w → rest.wp P (Exit.jump l J Q) a w) → c.wp P (Exit.jump l J Q) a w)
    (pass : ∀ a w, J a w → rest.wp P (Exit.jump l (fun a' w' => J a' w' ∧ μ a' w' < μ a w) Q) a w) : (Code.scope c).wp P Q a w := by
  refine wp_scope_jumps l J μ hf (first fun a w h => wp_mono (pass a w h) ?_) fun a w h => wp_seq (wp_skip ?_)
  · intro e a w h
    cases e with
    | goto l' => exact ⟨h.1, h.2.1⟩
    | _ => exact h
  · exact pass a w h
set_option maxHeartbeats 4000000 in
theorem script_reads (rb : Nat) (bp : Option Addr) (bn bc : Nat) (bytes : List Nat) (w : World) (hT : Tks w) (h0 : rb ≠ 0) (h : RdI w rb (.int .i64 0) (.int .i64 0) (.int .u64 0) (.slice none 0 0) (.slice none 0 0) bp bn bc bytes 0 w) (hby : ∀ b ∈ bytes, b < 256) (hbn : bn ≤ 100000) :
    Calls Tryd.prog 47 #[.pointer (some ⟨rb, 0, none⟩)] w fun e w' => ScriptP w rb bp bn bc bytes (scriptR bytes) e w' := by
  have hbl : bn = bytes.length := by have := h.sl.1; rw [u8s_length] at this; exact this
  have hrb := lt_of_heap h.blk
  have hS0 : ScI w rb (.int .i64 0) (.int .i64 0) (.int .u64 0) bp bn bc bytes (.slice none 0 0) (.slice none 0 0) [] [] 0 w := ⟨h, ⟨rfl, .inl ⟨rfl, rfl⟩⟩, fun r hr => by simp at hr, fun r hr => by simp at hr, ⟨rfl, .inl ⟨rfl, rfl⟩⟩, hrb⟩
  obtain ⟨R, hR⟩ : ∃ R, R = scriptR bytes := ⟨_, rfl⟩
  rw [← hR]
  unfold scriptR at hR
  have hS0'h := Lib.hid hS0
  have hR'h := Lib.hid hR
  have hby'h := Lib.hid hby
  have hbl'h := Lib.hid hbl
  have h'h := Lib.hid h
  have hT'h := Lib.hid hT
  clear hS0 hR hby hbl h hT
  go_enter Tryd.func47, Tryd.ntmps47
  go_wp2
  refine wp_scope_jumps2 0 (AtLabel w rb bp bn bc bytes R) (fun _ w' => 8 - listsIn rb w') rfl ?_ ?_
  · intro hrest
    have HREST := Lib.hid hrest
    clear hrest
    have M1 := most_reads rb _ _ _ _ _ bp bn bc 0 8 bytes w h'h.out hby'h.out (Nat.zero_le _) (by omega)
    have hR1 := hR'h.out
    unfold scriptR at hR1
    rw [List.drop_zero] at M1
    cases hm1 : mostR 8 bytes with
    | none =>
      rw [hm1] at M1 hR1
      simp only [MostP] at M1 hR1
      have hRn : R = none := hR1
      clear hR1
      have hRn'h := Lib.hid hRn
      clear hRn
      have M1'h := Lib.hid M1
      clear M1
      clear hm1
      go_wp2_with fail
      refine M1'h.out.mono ?_
      rintro e w2 ⟨p', hI, rfl⟩
      exact ⟨rfl, ScriptP.bad hRn'h.out hI⟩
    | some x1 =>
      obtain ⟨g, l1⟩ := x1
      rw [hm1] at M1 hR1
      simp only [MostP] at M1 hR1
      obtain ⟨hg8, hrd1⟩ := mostR_le hm1
      have hk1 := readN_drop hrd1
      have M2 := fun (w2 : World) (p2 : Nat) (hI : RdI w rb (.int .i64 0) (.int .i64 0) (.int .u64 0) (.slice none 0 0) (.slice none 0 0) bp bn bc bytes p2 w2) (hp : p2 ≤ bn) => most_reads rb _ _ _ _ _ bp bn bc p2 128 bytes w2 hI.self hby'h.out hp (by omega)
      have M1'h := Lib.hid M1
      have M2'h := Lib.hid M2
      have hR1'h := Lib.hid hR1
      have hk1'h := Lib.hid hk1
      have hrd1'h := Lib.hid hrd1
      have hm1'h := Lib.hid hm1
      clear M1 M2 hR1 hk1 hrd1 hm1
      go_wp2_with fail
      refine M1'h.out.mono ?_
      rintro e w2 ⟨p2, hI2, rfl, hp2, hp2'⟩
      have hd2 := drop_of (p := 0) hbl'h.out (by rw [List.drop_zero]; exact hk1'h.out) hp2 hp2'
      have M3 := M2'h.out w2 p2 hI2 hp2'
      rw [hd2] at M3
      clear M1'h M2'h
      cases hm2 : mostR 128 l1 with
      | none =>
        have hRn : R = none := by rw [hR1'h.out, hm2]
        rw [hm2] at M3
        simp only [MostP] at M3
        have M3'h := Lib.hid M3
        have hI2'h := Lib.hid hI2
        have hRn'h := Lib.hid hRn
        clear M3 hI2 hRn
        clear hd2 hp2
        go_wp2_with fail
        refine M3'h.out.mono ?_
        rintro e w3 ⟨p3, hI3, rfl⟩
        exact ⟨rfl, ScriptP.bad hRn'h.out (hI2'h.out.then hI3)⟩
      | some x2 =>
        obtain ⟨sb, l2⟩ := x2
        rw [hm2] at M3
        simp only [MostP] at M3
        obtain ⟨hsb, hrd2⟩ := mostR_le hm2
        have hk2 := readN_drop hrd2
        have M3'h := Lib.hid M3
        have hI2'h := Lib.hid hI2
        have hk2'h := Lib.hid hk2
        have hrd2'h := Lib.hid hrd2
        have hm2'h := Lib.hid hm2
        have hd2'h := Lib.hid hd2
        clear M3 hI2 hk2 hrd2 hm2 hd2
        clear hp2
        go_wp2_with fail
        refine M3'h.out.mono ?_
        rintro e w3 ⟨p3, hI3, rfl, hp3, hp3'⟩
        have hd3 := drop_of (p := p2) hbl'h.out (by rw [hd2'h.out]; exact hk2'h.out) hp3 hp3'
        have hJ3 := hI2'h.out.then hI3
        have M4 := number_reads rb _ _ _ _ _ bp bn bc p3 bytes w3 hI3.self hby'h.out hp3'
        rw [hd3] at M4
        clear M3'h hI3
        cases hm3 : readN l2 with
        | none =>
          have hRn : R = none := by rw [hR1'h.out, hm2'h.out]; simp only [hm3]
          rw [hm3] at M4
          simp only [NumP] at M4
          have M4'h := Lib.hid M4
          have hJ3'h := Lib.hid hJ3
          have hRn'h := Lib.hid hRn
          clear M4 hJ3 hRn
          clear hd3 hp3
          go_wp2_with fail
          refine M4'h.out.mono ?_
          rintro e w4 ⟨p4, hI4, rfl⟩
          exact ⟨rfl, ScriptP.bad hRn'h.out (hJ3'h.out.then hI4)⟩
        | some x3 =>
          obtain ⟨seed, l3⟩ := x3
          rw [hm3] at M4
          simp only [NumP] at M4
          have hRy : R = restR g sb seed [] g 64 l3 := by rw [hR1'h.out, hm2'h.out]; simp only [hm3]
          have hk3 := readN_drop hm3
          have hseed : seed < 2 ^ 64 := readN_lt (fun b hb => hby'h.out b (List.mem_of_mem_drop (by rw [hd3]; exact hb))) hm3
          have M4'h := Lib.hid M4
          have hJ3'h := Lib.hid hJ3
          have hRy'h := Lib.hid hRy
          have hk3'h := Lib.hid hk3
          have hd3'h := Lib.hid hd3
          have hseed'h := Lib.hid hseed
          have hm3'h := Lib.hid hm3
          clear M4 hJ3 hRy hk3 hd3 hseed hm3
          clear hp3 hR1'h
          go_wp2_with fail
          refine M4'h.out.mono ?_
          rintro e w4 ⟨p4, hI4, rfl, hp4, hp4'⟩
          have hd4 := drop_of (p := p3) hbl'h.out (by rw [hd3'h.out]; exact hk3'h.out) hp4 hp4'
          have hS4 := hS0'h.out.step (hJ3'h.out.then hI4)
          have y0 := blk_cell (i := 0) hS4.rd.blk rfl
          have y1 := blk_cell (i := 1) hS4.rd.blk rfl
          have y2 := blk_cell (i := 2) hS4.rd.blk rfl
          have f0 := blk_free 0 hS4.rd.blk
          have f1 := blk_free 1 hS4.rd.blk
          have f2 := blk_free 2 hS4.rd.blk
          have hb4 := hS4
          clear hI4
          have hS4'h := Lib.hid hS4
          have hd4'h := Lib.hid hd4
          clear hS4 hd4
          clear hb4
          go_wp2
          have hS5 := hS4'h.out.step (hS4'h.out.rd.self.set (i := 0) (.int .i64 (g : Int)) rfl)
          have hS6 := hS5.step (hS5.rd.self.set (i := 1) (.int .i64 (sb : Int)) rfl)
          have hS7 := hS6.step (hS6.rd.self.set (i := 2) (.int .u64 (seed : Int)) rfl)
          clear y0 y1 y2 f0 f1 f2 hS5 hS6
          refine wp_label ?_
          rename_i K hK
          refine hK _ _ (HREST.out _ _ ?_)
          exact AtLabel.mk rfl ⟨hg8, hsb, hseed'h.out, Nat.le_refl _, Nat.zero_le _, hp4', hS7, by rw [hRy'h.out, hd4'h.out]; rfl⟩
  · rintro a' wr0 ⟨g, sb, seed, left, x, rows, lv, f, rfl, hg8, hsb, hseed, hleft, hrows, hx, hS, hE⟩
    obtain ⟨lp, lc, rfl⟩ := row_slice' hS.outer
    have y0 : wr0.cell? ⟨rb, 0, none⟩ = some (.int .i64 (g : Int)) := blk_cell (i := 0) hS.rd.blk rfl
    have y3 : wr0.cell? ⟨rb, 3, none⟩ = some (.slice lp rows.length lc) := blk_cell (i := 3) hS.rd.blk rfl
    obtain ⟨w2, hw2⟩ : ∃ w2, w2 = wr0.drew := ⟨_, rfl⟩
    have hS2 := hS.wide ((Below.refl wr0.heap.size wr0).drew)
    have hlw : listsIn rb wr0 = rows.length := by unfold listsIn; rw [y3]
    rw [← hw2] at hS2
    by_cases hlt : rows.length < g
    · have hltd : decide (rows.length < g) = true := decide_eq_true hlt
      have hltz : (rows.length : Int) < (g : Int) := by omega
      have M := most_reads rb _ _ _ _ _ bp bn bc x left bytes w2 hS2.rd.self hby'h.out hx (by omega)
      have hE1 : R = restR g sb seed (rows.map (·.cs)) (g - rows.length - 1 + 1) left (bytes.drop x) := by rw [hE]; congr 1; omega
      rw [restR_step] at hE1
      clear hS hE
      cases hm : mostR left (bytes.drop x) with
      | none =>
        rw [hm] at M hE1
        simp only [MostP] at M hE1
        have M'h := Lib.hid M
        have hE1'h := Lib.hid hE1
        have hS2'h := Lib.hid hS2
        have hm'h := Lib.hid hm
        have hlw'h := Lib.hid hlw
        clear M hE1 hS2 hm hlw
        go_wp2_with fail
        go_still_tail 11, (by kernel_rfl)
        change wpList _ _ _ _ _ wr0.drew
        rw [← hw2]
        clear y0 y3 hw2
        go_wp2_with fail
        refine M'h.out.mono ?_
        rintro e w3 ⟨p3, hI3, rfl⟩
        exact ⟨rfl, ScriptP.bad hE1'h.out (hS2'h.out.rd.then hI3)⟩
      | some y =>
        obtain ⟨n, l1⟩ := y
        rw [hm] at M hE1
        simp only [MostP] at M hE1
        obtain ⟨hnl, hrd⟩ := mostR_le hm
        have hk1 := readN_drop hrd
        have M'h := Lib.hid M
        have hE1'h := Lib.hid hE1
        have hS2'h := Lib.hid hS2
        have hm'h := Lib.hid hm
        have hlw'h := Lib.hid hlw
        have hk1'h := Lib.hid hk1
        have hrd'h := Lib.hid hrd
        clear M hE1 hS2 hm hlw hk1 hrd
        go_wp2_with fail
        go_still_tail 11, (by kernel_rfl)
        change wpList _ _ _ _ _ wr0.drew
        rw [← hw2]
        clear y0 y3 hw2
        go_wp2_with fail
        refine M'h.out.mono ?_
        rintro e w3 ⟨p3, hI3, rfl, hp3, hp3'⟩
        have hd3 := drop_of hbl'h.out hk1'h.out hp3 hp3'
        have hS3 := hS2'h.out.step hI3
        clear hI3 hp3
        have hS3'h := Lib.hid hS3
        have hd3'h := Lib.hid hd3
        clear hS3 hd3
        have hE3 : R = match listLeft [] n (bytes.drop p3) with
          | none => none
          | some (cs, l2) => restR g sb seed (rows.map (·.cs) ++ [cs]) (g - rows.length - 1) (left - n) l2 := by rw [hE1'h.out, hd3'h.out, listLeft_zero]
        have hE3'h := Lib.hid hE3
        clear hE3
        clear M'h hS2'h
        obtain ⟨i0, hi, hz, hs, hby⟩ := info_calp
        go_wp2
        go_loopg [3, 37] n (fun q v ix wr => ∃ (j x : Nat) (cs : List Cal), j + q = n ∧ ix = .int .i64 (j : Int) ∧ x ≤ bn ∧ cs.length = j ∧ (∀ c ∈ cs, CalOk c) ∧ wr.ownsRow w3.heap.size 57 4 v cs.length (cals cs) ∧
          RdI w3 rb (.int .i64 (g : Int)) (.int .i64 (sb : Int)) (.int .u64 (seed : Int)) (.slice lp rows.length lc) (.slice none 0 0) bp bn bc bytes x wr ∧ Hid (R = match listLeft cs (n - j) (bytes.drop x) with
          | none => none
          | some (cs, l2) => restR g sb seed (rows.map (·.cs) ++ [cs]) (g - rows.length - 1) (left - n) l2))
        case atStart => exact ⟨0, p3, [], by omega, rfl, hp3', rfl, fun c hc => by simp at hc, ⟨rfl, .inl ⟨rfl, rfl⟩⟩, hS3'h.out.rd.self, hE3'h.out⟩
        case round =>
          obtain ⟨j, x, cs, hj, rfl, hx, hcl, hok, hrow, hI, hE⟩ := hrel
          obtain ⟨go, rfl⟩ : ∃ go : Nat, go = gk := ⟨_, rfl⟩
          obtain ⟨vs, vc, hv, -, -, -⟩ := row_form hrow
          subst hv
          by_cases hlt2 : j < n
          · have i1 : (j : Int) < (n : Int) := by omega
            have C := call_reads rb _ _ _ _ _ bp bn bc x bytes wr (hI.tks (hS3'h.out.rd.tks hT'h.out h0) h0) h0 hI.self hby'h.out hx
            cases hc : callR (bytes.drop x) with
            | none =>
              rw [hc] at C
              simp only [CallP] at C
              have hRn : R = none := by rw [hE.out, show n - j = n - j - 1 + 1 by omega, listLeft_none hc]
              clear hE
              have C'h := Lib.hid C
              have hI'h := Lib.hid hI
              have hRn'h := Lib.hid hRn
              have hc'h := Lib.hid hc
              have hrow'h := Lib.hid hrow
              have hok'h := Lib.hid hok
              clear C hI hRn hc hrow hok
              go_wp2_with fail
              refine C'h.out.mono ?_
              rintro e w4 ⟨p4, hI4, rfl⟩
              exact ⟨rfl, ScriptP.bad hRn'h.out (hS3'h.out.rd.then (hI'h.out.then hI4))⟩
            | some y =>
              obtain ⟨c, l4⟩ := y
              rw [hc] at C
              simp only [CallP] at C
              have hE4 : R = match listLeft (cs ++ [c]) (n - (j + 1)) l4 with
                | none => none
                | some (cs, l2) => restR g sb seed (rows.map (·.cs) ++ [cs]) (g - rows.length - 1) (left - n) l2 := by
                rw [hE.out, show n - j = n - (j + 1) + 1 by omega, listLeft_next hc]
              have hcd := callR_drop hc
              have hco := callR_ok (fun b hb => hby'h.out b (List.mem_of_mem_drop hb)) hc
              clear hE
              have C'h := Lib.hid C
              have hI'h := Lib.hid hI
              have hE4'h := Lib.hid hE4
              have hc'h := Lib.hid hc
              have hcd'h := Lib.hid hcd
              have hco'h := Lib.hid hco
              have hok'h := Lib.hid hok
              have hrow'h := Lib.hid hrow
              have hj'h := Lib.hid hj
              have hcl'h := Lib.hid hcl
              clear C hI hE4 hc hcd hco hok hrow hj hcl
              go_wp2_with fail
              refine C'h.out.mono ?_
              rintro e w4 ⟨p4, hI4, rfl, hp4, hp4'⟩
              have hd4 := drop_of hbl'h.out hcd'h.out hp4 hp4'
              have hrw3 : rb < w3.heap.size := lt_of_heap hS3'h.out.rd.blk
              have hJ4 := hI'h.out.then hI4
              have hrow4 := ownsRow_other hrow'h.out hI4.by' (fun g' hg' e => by have := (hrow'h.out.lt g' hg').1; injection e with e; omega)
              have hz34 := hJ4.by'.size
              have hB5 := (Below.refl w4.heap.size w4).alloc (Nat.le_refl _) (.cells #[.int .i64 c.op, .int .u64 (c.key : Int), .int .u64 (c.a : Int), .int .u64 (c.b : Int)] 57)
              have hJ5 := hJ4.wide hB5
              have hrow5 := ownsRow_next hrow4 hB5
              have hb5 := Nat.le_trans hz34 hB5.size
              have hsl : SlK (w4.alloc (.cells #[.int .i64 c.op, .int .u64 (c.key : Int), .int .u64 (c.a : Int), .int .u64 (c.b : Int)] 57)) 4 (some ⟨w4.heap.size, 0, none⟩) 1 (cals [c]) := SlK.of_blk (World.alloc_heap_new _ _) rfl (by unfold maxLen; omega)
              have hcl64 : cs.length ≤ 64 := by have := hcl'h.out; omega
              have hone := cals_one [c]
              unfold calA
              clear hI4 hp4 hJ4 hrow4 hB5 hz34
              have hd4'h := Lib.hid hd4
              have hJ5'h := Lib.hid hJ5
              have hrow5'h := Lib.hid hrow5
              have hb5'h := Lib.hid hb5
              have hsl'h := Lib.hid hsl
              have hone'h := Lib.hid hone
              clear hd4 hJ5 hrow5 hb5 hsl hone
              clear C'h hI'h hrow'h
              go_wp2_with (at_builtin; refine wpList_append_slk _ rfl (.tmp 39) (.tmp 42) 55 rfl w3.heap.size 57 i0 calZ 4 32 Tryd.underlying55 hi hz hs hby rfl (by decide) (.slice vs cs.length vc) cs.length _ rfl hrow5'h.out _ 1 1 _ rfl hsl'h.out hone'h.out (by unfold maxLen; omega) (by omega) hb5'h.out ?_; intro v' w9 hown' hgrow hwh)
              have hJ9 := hJ5'h.out.low hS3'h.out.rd.self ((Below.refl w3.heap.size _).grown hgrow hb5'h.out (fun q hq => (hrow5'h.out.lt q hq).1))
              rw [cals_app] at hown'
              clear hgrow hwh
              have hJ9'h := Lib.hid hJ9
              have hown''h := Lib.hid hown'
              clear hJ9 hown'
              go_wp2
              go_roundg (go - 1)
              case measure => have := hj'h.out; omega
              case rel => exact ⟨j + 1, p4, cs ++ [c], by have := hj'h.out; omega, by go_num, hp4', by rw [List.length_append, hcl'h.out]; rfl, fun q hq => by
                  rcases List.mem_append.1 hq with hq | hq
                  · exact hok'h.out q hq
                  · obtain rfl : q = c := by simpa using hq
                    exact hco'h.out, by rw [List.length_append]; exact hown''h.out, hJ9'h.out, by show R = _; rw [hE4'h.out, hd4'h.out]⟩
          · have i1 : ¬ (j : Int) < (n : Int) := by omega
            have hE4 : R = restR g sb seed (rows.map (·.cs) ++ [cs]) (g - rows.length - 1) (left - n) (bytes.drop x) := by rw [hE.out, show n - j = 0 by omega, listLeft_done]
            have hcn : cs.length = n := by omega
            have hS4 := hS3'h.out.step hI
            have hws := hS3'h.out.rd.by'.size
            have hrow4 := ownsRow_mono hrow hws
            clear hE hI hrow hj
            obtain ⟨r, hr⟩ : ∃ r : CRow, r = ⟨vs, cs.length, vc, cs⟩ := ⟨_, rfl⟩
            have hrV : Value.slice vs cs.length vc = crV r := by rw [hr]; rfl
            have hr2 : wr.ownsRow w.heap.size 57 4 (crV r) r.len (cals r.cs) := by rw [hr]; exact hrow4
            have hr3 : r.len = r.cs.length ∧ r.cs.length ≤ 64 ∧ ∀ c ∈ r.cs, CalOk c := by rw [hr]; exact ⟨rfl, by show cs.length ≤ 64; omega, hok⟩
            have hrc : r.cs = cs := by rw [hr]
            have y3 : wr.cell? ⟨rb, 3, none⟩ = some (.slice lp rows.length lc) := blk_cell (i := 3) hS4.rd.blk rfl
            have hB5 := (Below.refl wr.heap.size wr).alloc (Nat.le_refl _) (.cells #[.slice vs cs.length vc] 55)
            have hS5 := hS4.wide hB5
            have hr5 := ownsRow_next hr2 hB5
            have hsl : SlK (wr.alloc (.cells #[.slice vs cs.length vc] 55)) 1 (some ⟨wr.heap.size, 0, none⟩) 1 [crV r] := by rw [← hrV]; exact SlK.of_blk (World.alloc_heap_new _ _) rfl (by unfold maxLen; omega)
            have y5 : (wr.alloc (.cells #[.slice vs cs.length vc] 55)).cell? ⟨rb, 3, none⟩ = some (.slice lp rows.length lc) := blk_cell (i := 3) hS5.rd.blk rfl
            have hb5 := hS5.rd.by'.size
            have hone : ∀ v ∈ [crV r], v.oneCell' = true := by intro v hv; simp at hv; subst hv; rfl
            have hrl16 : rows.length ≤ 8 := by omega
            obtain ⟨i1', hi', hz', hs', hby'⟩ := info_parts info_lst
            have hclb : cs.length ≤ left := by omega
            clear hr hr2 hrow4 hB5 hS4 hok
            have hS5'h := Lib.hid hS5
            have hr5'h := Lib.hid hr5
            have hsl'h := Lib.hid hsl
            have hb5'h := Lib.hid hb5
            have hone'h := Lib.hid hone
            have hr3'h := Lib.hid hr3
            have hrc'h := Lib.hid hrc
            have hE4'h := Lib.hid hE4
            have hrV'h := Lib.hid hrV
            have hws'h := Lib.hid hws
            have hcl'h := Lib.hid hcl
            have hcn'h := Lib.hid hcn
            clear hS5 hr5 hsl hb5 hone hr3 hrc hE4 hrV hws hcl hcn
            clear hS3'h
            go_wp2_with (at_builtin; refine wpList_append_slk _ rfl (.tmp 50) (.tmp 52) 23 rfl w.heap.size 55 i1' (.slice none 0 0) 1 24 Tryd.underlying23 hi' hz' hs' hby' rfl (by decide) (.slice lp rows.length lc) rows.length _ rfl hS5'h.out.outer _ 1 1 _ rfl hsl'h.out hone'h.out (by unfold maxLen; omega) (by omega) hb5'h.out ?_; intro v' w9 hown' hgrow hwh; obtain ⟨sp', cp', hv', -, -, -⟩ := row_form hown'; subst hv'; have hrd9 := hS5'h.out.rd.low h'h.out ((Below.refl w.heap.size _).grown hgrow hb5'h.out (fun q hq => (hS5'h.out.outer.lt q hq).1)); have y9 := rd_c3 hrd9; have f9 := blk_free 3 hrd9.blk; have hZ := hS5'h.out.row (.inr trivial) hr5'h.out hr3'h.out hown' hgrow hrd9; have hZ'h := Lib.hid hZ; have hrd9'h := Lib.hid hrd9; clear hZ hrd9 hgrow hwh hown')
            have hn64 : n ≤ 64 := by omega
            obtain ⟨z1, z2, z3, z4, z5⟩ := hZ'h.out
            have hrdT := hrd9'h.out.set (i := 3) (.slice sp' (rows.length + 1) cp') (u0 := .int .i64 (g : Int)) (u1 := .int .i64 (sb : Int)) (u2 := .int .u64 (seed : Int)) (u3 := .slice sp' (rows.length + 1) cp') (u4 := .slice none 0 0) rfl
            have hgT := (hrd9'h.out.self.set (i := 3) (.slice sp' (rows.length + 1) cp') (u0 := .int .i64 (g : Int)) (u1 := .int .i64 (sb : Int)) (u2 := .int .u64 (seed : Int)) (u3 := .slice sp' (rows.length + 1) cp') (u4 := .slice none 0 0) rfl).by'
            have hne : ∀ {e : TypeId} {k : Nat} {v : Value} {n : Nat} {xs : List Value}, w9.ownsRow w.heap.size e k v n xs → ∀ g, v.ownBlock = some g → some rb ≠ some g := fun hr g hg e => by
              have h1 := (hr.lt g hg).1
              injection e with e
              omega
            have hST : ScI w rb (.int .i64 (g : Int)) (.int .i64 (sb : Int)) (.int .u64 (seed : Int)) bp bn bc bytes (.slice sp' (rows.length + 1) cp') (.slice none 0 0) (rows ++ [r]) [] x (w9.setCell ⟨rb, 3, none⟩ (.slice sp' (rows.length + 1) cp')) :=
              ⟨hrdT, ownsRow_other z2 hgT (hne z2), fun q hq => ownsRow_other (z3 q hq) hgT (hne (z3 q hq)), z4, ownsRow_other z5 hgT (hne z5), hrb⟩
            have hlT : listsIn rb (w9.setCell ⟨rb, 3, none⟩ (.slice sp' (rows.length + 1) cp')) = rows.length + 1 := by unfold listsIn; rw [rd_c3 hrdT]
            clear z1 z2 z3 z4 z5 hrdT hgT hne
            have eL : (left : Int) - (cs.length : Int) = ((left - n : Nat) : Int) := by have := hcn'h.out; omega
            rw [eL]
            go_step3
            refine ⟨rfl, AtLabel.mk (left := left - n) rfl ⟨hg8, hsb, hseed, by omega, by rw [List.length_append, List.length_singleton]; omega, hx, hST, ?_⟩, ?_⟩
            · rw [hE4'h.out, List.map_append, List.map_singleton, hrc'h.out, List.length_append, List.length_singleton, Nat.sub_sub]
            · show 8 - listsIn rb _ < 8 - listsIn rb wr0
              rw [hlT, hlw'h.out]
              omega
    · have hltd : decide (rows.length < g) = false := decide_eq_false hlt
      have hltz : ¬ (rows.length : Int) < (g : Int) := by omega
      have hgr : rows.length = g := by omega
      have M := most_reads rb _ _ _ _ _ bp bn bc x 4096 bytes w2 hS2.rd.self hby'h.out hx (by omega)
      have hE1 : R = endR g sb seed (rows.map (·.cs)) (bytes.drop x) := by rw [hE, show g - rows.length = 0 by omega, restR_zero]
      rw [endR_fin] at hE1
      clear hS hE
      cases hm : mostR 4096 (bytes.drop x) with
      | none =>
        rw [hm] at M hE1
        simp only [MostP] at M hE1
        have M'h := Lib.hid M
        have hE1'h := Lib.hid hE1
        have hS2'h := Lib.hid hS2
        have hm'h := Lib.hid hm
        have hlw'h := Lib.hid hlw
        have hgr'h := Lib.hid hgr
        clear M hE1 hS2 hm hlw hgr
        go_wp2_with fail
        go_still_tail 11, (by kernel_rfl)
        change wpList _ _ _ _ _ wr0.drew
        rw [← hw2]
        clear y0 y3 hw2
        go_wp2_with fail
        refine M'h.out.mono ?_
        rintro e w3 ⟨p3, hI3, rfl⟩
        exact ⟨rfl, ScriptP.bad hE1'h.out (hS2'h.out.rd.then hI3)⟩
      | some y =>
        obtain ⟨n, l1⟩ := y
        rw [hm] at M hE1
        simp only [MostP] at M hE1
        obtain ⟨hnl, hrd⟩ := mostR_le hm
        have hk1 := readN_drop hrd
        have M'h := Lib.hid M
        have hE1'h := Lib.hid hE1
        have hS2'h := Lib.hid hS2
        have hm'h := Lib.hid hm
        have hlw'h := Lib.hid hlw
        have hk1'h := Lib.hid hk1
        have hrd'h := Lib.hid hrd
        have hgr'h := Lib.hid hgr
        clear M hE1 hS2 hm hlw hk1 hrd hgr
        go_wp2_with fail
        go_still_tail 11, (by kernel_rfl)
        change wpList _ _ _ _ _ wr0.drew
        rw [← hw2]
        clear y0 y3 hw2
        go_wp2_with fail
        refine M'h.out.mono ?_
        rintro e w3 ⟨p3, hI3, rfl, hp3, hp3'⟩
        have hd3 := drop_of hbl'h.out hk1'h.out hp3 hp3'
        have hS3 := hS2'h.out.step hI3
        clear hI3 hp3
        have hE3 : R = finR g sb seed (rows.map (·.cs)) (picksLeft [] n (bytes.drop p3)) := by rw [hE1'h.out, hd3, picksLeft_zero]
        have hS3'h := Lib.hid hS3
        have hd3'h := Lib.hid hd3
        have hE3'h := Lib.hid hE3
        clear hS3 hd3 hE3
        clear M'h hS2'h
        obtain ⟨i0, hi, hz, hs, hby⟩ := info_parts info_clone64
        go_wp2
        go_loopg [63] n (fun q ix wr => ∃ (j x : Nat) (ps : List Nat) (pv : Value), j + q = n ∧ ix = .int .i64 (j : Int) ∧ x ≤ bn ∧ ps.length = j ∧ W64 ps ∧ ScI w rb (.int .i64 (g : Int)) (.int .i64 (sb : Int)) (.int .u64 (seed : Int)) bp bn bc bytes (.slice lp rows.length lc) pv rows ps x wr ∧ Hid (R = finR g sb seed (rows.map (·.cs)) (picksLeft ps (n - j) (bytes.drop x))))
        case atStart => exact ⟨0, p3, [], _, by omega, rfl, hp3', rfl, fun c hc => by simp at hc, hS3'h.out, hE3'h.out⟩
        case round =>
          obtain ⟨j, x, ps, pv, hj, rfl, hx, hpl, hp64, hS, hE⟩ := hrel
          obtain ⟨go, rfl⟩ : ∃ go : Nat, go = gk := ⟨_, rfl⟩
          obtain ⟨pp, pc, rfl⟩ := row_slice' hS.picks
          by_cases hlt2 : j < n
          · have i1 : (j : Int) < (n : Int) := by omega
            obtain ⟨V0, hV0⟩ : ∃ V0, V0 = wr.drew := ⟨_, rfl⟩
            have hSV := hS.wide ((Below.refl wr.heap.size wr).drew)
            rw [← hV0] at hSV
            have N := number_reads rb _ _ _ _ _ bp bn bc x bytes V0 hSV.rd.self hby'h.out hx
            have R4 : V0.cell? ⟨rb, 4, none⟩ = some (.slice pp ps.length pc) := blk_cell (i := 4) hSV.rd.blk rfl
            clear hS
            have hSV'h := Lib.hid hSV
            have hE'h := Lib.hid hE
            have hj'h := Lib.hid hj
            have hpl'h := Lib.hid hpl
            have hp64'h := Lib.hid hp64
            have N'h := Lib.hid N
            clear hSV hE hj hpl hp64 N
            go_wp2_with fail
            refine wp_region_heldF (fun w' => w'.cell? ⟨rb, 4, none⟩ = some (.slice pp ps.length pc)) 13 (by kernel_rfl) ?_
            rw [← hV0]
            clear hV0
            refine wpAnyF_take (i := 0) (v := .pointer (some ⟨rb, 0, none⟩)) rfl (by kernel_rfl) (by kernel_rfl) (by kernel_rfl) (by kernel_rfl) (fun _ _ _ h => h) (Or.inl ⟨by kernel_rfl, fun w hSw => by (try dsimp only at hSw); go_simp⟩) R4 ?_; try simp only [Act.put, List.getElem_toArray, List.getElem_cons_succ, List.getElem_cons_zero, List.setIfInBounds_toArray, List.set_cons_zero, List.set_cons_succ]
            refine wpAnyF_take (i := 1) (v := .pointer (some ⟨rb, 0, none⟩)) rfl (by kernel_rfl) (by kernel_rfl) (by kernel_rfl) (by kernel_rfl) (fun _ _ _ h => h) (Or.inl ⟨by kernel_rfl, fun w hSw => by (try dsimp only at hSw); go_simp⟩) R4 ?_; try simp only [Act.put, List.getElem_toArray, List.getElem_cons_succ, List.getElem_cons_zero, List.setIfInBounds_toArray, List.set_cons_zero, List.set_cons_succ]
            refine wpAnyF_take (i := 2) (v := .pointer (some ⟨rb, 0, none⟩)) rfl (by kernel_rfl) (by kernel_rfl) (by kernel_rfl) (by kernel_rfl) (fun _ _ _ h => h) (Or.inl ⟨by kernel_rfl, fun w hSw => by (try dsimp only at hSw); go_simp⟩) R4 ?_; try simp only [Act.put, List.getElem_toArray, List.getElem_cons_succ, List.getElem_cons_zero, List.setIfInBounds_toArray, List.set_cons_zero, List.set_cons_succ]
            refine wpAnyF_take (i := 3) (v := .pointer (some ⟨rb, 0, none⟩)) rfl (by kernel_rfl) (by kernel_rfl) (by kernel_rfl) (by kernel_rfl) (fun _ _ _ h => h) (Or.inl ⟨by kernel_rfl, fun w hSw => by (try dsimp only at hSw); go_simp⟩) R4 ?_; try simp only [Act.put, List.getElem_toArray, List.getElem_cons_succ, List.getElem_cons_zero, List.setIfInBounds_toArray, List.set_cons_zero, List.set_cons_succ]
            refine wpAnyF_take (i := 4) (v := .pointer (some ⟨rb, 4, none⟩)) rfl (by kernel_rfl) (by kernel_rfl) (by kernel_rfl) (by kernel_rfl) (fun _ _ _ h => h) (Or.inl ⟨by kernel_rfl, fun w hSw => by (try dsimp only at hSw); go_simp⟩) R4 ?_; try simp only [Act.put, List.getElem_toArray, List.getElem_cons_succ, List.getElem_cons_zero, List.setIfInBounds_toArray, List.set_cons_zero, List.set_cons_succ]
            refine wpAnyF_take (i := 5) (v := .slice pp ps.length pc) rfl (by kernel_rfl) (by kernel_rfl) (by kernel_rfl) (by kernel_rfl) (fun _ _ _ h => h) (Or.inl ⟨by kernel_rfl, fun w hSw => by (try dsimp only at hSw); go_simp⟩) R4 ?_; try simp only [Act.put, List.getElem_toArray, List.getElem_cons_succ, List.getElem_cons_zero, List.setIfInBounds_toArray, List.set_cons_zero, List.set_cons_succ]
            refine wpAnyF_take (i := 6) (v := .pointer (some ⟨rb, 0, none⟩)) rfl (by kernel_rfl) (by kernel_rfl) (by kernel_rfl) (by kernel_rfl) (fun _ _ _ h => h) (Or.inl ⟨by kernel_rfl, fun w hSw => by (try dsimp only at hSw); go_simp⟩) R4 ?_; try simp only [Act.put, List.getElem_toArray, List.getElem_cons_succ, List.getElem_cons_zero, List.setIfInBounds_toArray, List.set_cons_zero, List.set_cons_succ]
            refine wpAnyF_one (i := 7) (by kernel_rfl) rfl (fun K hK => ?_); go_simp
            have N := N'h.out
            clear N'h
            cases hn : readN (bytes.drop x) with
            | none =>
              rw [hn] at N
              simp only [NumP] at N
              have hRn : R = none := by rw [hE'h.out.out, show n - j = n - j - 1 + 1 by omega, picksLeft_none hn]; rfl
              refine N.mono ?_
              rintro e w4 ⟨p4, hI4, rfl⟩
              exact ⟨rfl, ScriptP.bad hRn (hSV'h.out.rd.then hI4)⟩
            | some y =>
              obtain ⟨q, l4⟩ := y
              rw [hn] at N
              simp only [NumP] at N
              refine N.mono ?_
              rintro e V1 ⟨p4, hI4, rfl, hp4, hp4'⟩
              clear N
              dsimp only
              have hq64 : q < 2 ^ 64 := readN_lt (fun b hb => hby'h.out b (List.mem_of_mem_drop hb)) hn
              have hd4 := drop_of hbl'h.out (readN_drop hn) hp4 hp4'
              have hSV1 := hSV'h.out.step hI4
              have hE4 : R = finR g sb seed (rows.map (·.cs)) (picksLeft (ps ++ [q]) (n - (j + 1)) (bytes.drop p4)) := by
                rw [hE'h.out.out, show n - j = n - (j + 1) + 1 by omega, picksLeft_next hn, hd4]
              clear R4 hn hI4 hp4 hd4 hSV'h hE'h
              have R4 : V1.cell? ⟨rb, 4, none⟩ = some (.slice pp ps.length pc) := blk_cell (i := 4) hSV1.rd.blk rfl
              refine hK.out _ _ (fun _ => R4) ?_; clear hK K; try simp only [Act.put, List.getElem_toArray, List.getElem_cons_succ, List.getElem_cons_zero, List.setIfInBounds_toArray, List.set_cons_zero, List.set_cons_succ]
              have hE4'h := Lib.hid hE4
              clear hE4
              have hB2 := (Below.refl V1.heap.size V1).alloc (Nat.le_refl _) (.cells #[.int .u64 (q : Int)] 22)
              have hSV2 := hSV1.wide hB2
              have hsl : SlK (V1.alloc (.cells #[.int .u64 (q : Int)] 22)) 1 (some ⟨V1.heap.size, 0, none⟩) 1 (u64s [q]) := SlK.of_blk (World.alloc_heap_new _ _) rfl (by unfold maxLen; omega)
              clear hB2 hSV1 R4
              refine wpAnyF_one (i := 8) (by kernel_rfl) rfl (fun K hK => ?_); go_simp
              have R4 : (V1.alloc (.cells #[.int .u64 (q : Int)] 22)).cell? ⟨rb, 4, none⟩ = some (.slice pp ps.length pc) := blk_cell (i := 4) hSV2.rd.blk rfl
              refine hK.out _ _ (fun _ => R4) ?_; clear hK K; try simp only [Act.put, List.getElem_toArray, List.getElem_cons_succ, List.getElem_cons_zero, List.setIfInBounds_toArray, List.set_cons_zero, List.set_cons_succ]
              have hb2 := hSV2.rd.by'.size
              generalize V1.alloc _ = V2 at R4 hSV2 hsl hb2 ⊢
              have hpl2 : ps.length ≤ 4096 := by have := hpl'h.out; omega
              refine wpAnyF_one (i := 9) (by kernel_rfl) rfl (fun K hK => ?_)
              refine step_append_slk _ rfl (.tmp 70) (.tmp 73) 24 rfl w.heap.size 22 i0 (.int .u64 0) 1 8 Tryd.underlying24 hi hz hs hby rfl (by decide) (.slice pp ps.length pc) ps.length (u64s ps) rfl hSV2.picks _ 1 1 (u64s [q]) rfl hsl (oneCell_u64s _) (by unfold maxLen; omega) (by omega) hb2 ?_
              intro v' V3 hown3 hgrow3 hwh3
              have hrd3 := hSV2.rd.low h'h.out ((Below.refl w.heap.size _).grown hgrow3 hb2 (fun k hk => (hSV2.picks.lt k hk).1))
              obtain ⟨sp', cp', hv', -, -, -⟩ := row_form hown3
              subst hv'
              have hS4 := hSV2.pick hown3 hgrow3 hrd3
              have y9 : V3.cell? ⟨rb, 4, none⟩ = some (.slice pp ps.length pc) := blk_cell (i := 4) hrd3.blk rfl
              have f9 := blk_free 4 hrd3.blk
              clear hgrow3 hwh3 hown3 hrd3 R4 hSV2 hsl hb2
              refine hK.out _ _ (fun _ => y9) ?_; clear hK K; try simp only [Act.put, List.getElem_toArray, List.getElem_cons_succ, List.getElem_cons_zero, List.setIfInBounds_toArray, List.set_cons_zero, List.set_cons_succ]
              refine wpAnyF_one (i := 10) (by kernel_rfl) rfl (fun K hK => ?_); go_simp
              refine hK.out _ _ (fun _ => y9) ?_; clear hK K; try simp only [Act.put, List.getElem_toArray, List.getElem_cons_succ, List.getElem_cons_zero, List.setIfInBounds_toArray, List.set_cons_zero, List.set_cons_succ]
              refine wpAnyF_one (i := 11) (by kernel_rfl) rfl (fun K hK => ?_); go_simp
              refine hK.out _ _ (fun _ => y9) ?_; clear hK K; try simp only [Act.put, List.getElem_toArray, List.getElem_cons_succ, List.getElem_cons_zero, List.setIfInBounds_toArray, List.set_cons_zero, List.set_cons_succ]
              refine wpAnyF_one (i := 12) (by kernel_rfl) rfl (fun K hK => ?_); go_simp
              refine hK.out _ _ (fun _ => y9) ?_; clear hK K; try simp only [Act.put, List.getElem_toArray, List.getElem_cons_succ, List.getElem_cons_zero, List.setIfInBounds_toArray, List.set_cons_zero, List.set_cons_succ]
              refine wpAnyF_one (i := 13) (by kernel_rfl) rfl (fun K hK => ?_); go_simp
              refine hK.out _ _ (fun h => absurd rfl h) ?_
              clear hK K y9 f9
              try simp only [Act.put, List.getElem_toArray, List.getElem_cons_succ, List.getElem_cons_zero, List.setIfInBounds_toArray, List.set_cons_zero, List.set_cons_succ]
              refine wpAnyF_done (by kernel_rfl) ?_ _
              have hS4'h := Lib.hid hS4
              clear hS4
              go_wp2
              go_roundg (go - 1)
              case measure => have := hj'h.out; omega
              case rel => exact ⟨j + 1, p4, ps ++ [q], _, by have := hj'h.out; omega, by go_num, hp4', by rw [List.length_append, hpl'h.out]; rfl, fun z hz => by
                  rcases List.mem_append.1 hz with hz | hz
                  · exact hp64'h.out z hz
                  · obtain rfl : z = q := by simpa using hz
                    exact hq64, hS4'h.out, hE4'h.out⟩
          · have i1 : ¬ (j : Int) < (n : Int) := by omega
            have hjn : n - j = 0 := by omega
            rw [hjn, picksLeft_done] at hE
            have hIn := hS.script (g := g) (sb := sb) (seed := seed) hg8 hsb hseed (by omega) (by omega) hp64
            obtain ⟨sm, hsm⟩ : ∃ sm : Sm, sm = ⟨(g : Int), (sb : Int), seed, lp, rows.length, lc, rows, pp, ps.length, pc, ps⟩ := ⟨_, rfl⟩
            rw [← hsm] at hIn
            have C := check_any sm wr (hS.rd.tks hT'h.out h0) hIn
            have hscr : sm.scr = ⟨(g : Int), (sb : Int), seed, rows.map (·.cs), ps⟩ := by rw [hsm]; rfl
            have hA : smA sm = #[.int .i64 (g : Int), .int .i64 (sb : Int), .int .u64 (seed : Int), .slice lp rows.length lc, .slice pp ps.length pc] := by rw [hsm]; rfl
            have hRd : RdI w rb (.int .i64 sm.goers) (.int .i64 sm.slabs) (.int .u64 (sm.seed : Int)) (.slice sm.lp sm.ln sm.lc) (.slice sm.pp sm.pn sm.pc) bp bn bc bytes x wr := by rw [hsm]; exact hS.rd
            have hOwn : SmOwn w.heap.size sm wr := by rw [hsm]; exact ⟨hS.outer, hS.inner, hS.picks⟩
            have hlx : x + (bytes.drop x).length = bn := by rw [List.length_drop]; have := hbl'h.out; omega
            have hEo := hE.out
            unfold finR at hEo
            simp only at hEo
            rw [← hscr] at hEo
            rw [hA] at C
            have q0 : wr.cell? ⟨rb, 0, none⟩ = some (.int .i64 (g : Int)) := blk_cell (i := 0) hS.rd.blk rfl
            have q1 : wr.cell? ⟨rb, 1, none⟩ = some (.int .i64 (sb : Int)) := blk_cell (i := 1) hS.rd.blk rfl
            have q2 : wr.cell? ⟨rb, 2, none⟩ = some (.int .u64 (seed : Int)) := blk_cell (i := 2) hS.rd.blk rfl
            have q3 : wr.cell? ⟨rb, 3, none⟩ = some (.slice lp rows.length lc) := blk_cell (i := 3) hS.rd.blk rfl
            have q4 : wr.cell? ⟨rb, 4, none⟩ = some (.slice pp ps.length pc) := blk_cell (i := 4) hS.rd.blk rfl
            clear hE hS hsm hA hscr
            unfold chkS at C
            cases hr : rightS sm.scr with
            | false =>
              rw [hr] at C hEo
              simp only [Bool.false_eq_true, if_false] at C hEo
              clear hOwn
              have C'h := Lib.hid C
              have hEo'h := Lib.hid hEo
              have hRd'h := Lib.hid hRd
              have hIn'h := Lib.hid hIn
              have hpl'h := Lib.hid hpl
              have hp64'h := Lib.hid hp64
              have hr'h := Lib.hid hr
              clear C hEo hRd hIn hpl hp64 hr
              go_wp2_with fail
              refine C'h.out.mono ?_
              rintro e w5 ⟨rfl, hB5⟩
              go_wp2_with (go_at_call 65; refine (need_no _).mono ?_; rintro e w' ⟨rfl, hw⟩; obtain rfl := hw.symm)
              exact ⟨rfl, ScriptP.bad hEo'h.out (hRd'h.out.wide hB5)⟩
            | true =>
              rw [hr] at C hEo
              simp only [if_true] at C hEo
              have C'h := Lib.hid C
              have hEo'h := Lib.hid hEo
              have hRd'h := Lib.hid hRd
              have hIn'h := Lib.hid hIn
              have hpl'h := Lib.hid hpl
              have hp64'h := Lib.hid hp64
              have hr'h := Lib.hid hr
              have hOwn'h := Lib.hid hOwn
              clear C hEo hRd hIn hpl hp64 hr hOwn
              go_wp2_with fail
              refine C'h.out.mono ?_
              rintro e w5 ⟨rfl, hB5⟩
              have hOwn5 := hOwn'h.out.next hB5
              have hRd5 := hRd'h.out.wide hB5
              have hIn5 := hIn'h.out.below hB5
              clear hB5
              have hRd5'h := Lib.hid hRd5
              have hIn5'h := Lib.hid hIn5
              have hOwn5'h := Lib.hid hOwn5
              clear hRd5 hIn5 hOwn5
              go_wp2_with (go_at_call 65; refine (need_yes _).mono ?_; rintro e w' ⟨rfl, hw⟩; obtain rfl := hw.symm)
              simp only [Exit.jump]
              refine bodyPost_end (results_none rfl _ _ _) rfl ?_
              rw [hEo'h.out]
              exact ⟨hRd5'h.out.by', rfl, sm, x, hRd5'h.out, hIn5'h.out, hOwn5'h.out, rfl, hlx, hx⟩
end Go.Proofs.YtifofdciablljaaDoor

/-
  Layer 3 (script): Decode.
-/
set_option linter.unusedSimpArgs false
set_option linter.unusedVariables false
set_option maxRecDepth 100000
namespace Go.Proofs.YtifofdciablljaaDoor
open Go.RowKit

/-- What a deferred call that hands nothing back comes to. -/
def RestD (w1 : World) : Exit → Act → World → Prop := fun e a w => (e = .normal ∨ e = .ret) ∧ a.defers = [] ∧ w = w1
theorem wpS_rest {P : Program} {fn : Func} (hres : fn.results = #[]) {c : Code} {c₀ : Frame} {cs cs' : List Frame} {R : Ending → FrameMode → World → Prop} {u' : FrameMode} {a : Act} {w w1 : World}
    (hcs : cs' = { c₀ with mode := u' } :: cs) (h : c.wp P (RestD w1) a w) (hR : R (.returned (.tuple #[])) u' w1) : c.wpS P (bodyPostS P fn c₀ cs R) a cs' w := by
  subst hcs
  refine wpS_of_wp ?_
  intro b k cs1
  obtain ⟨e, a', w', ⟨he, hd, hw⟩, harr⟩ := h b k cs1
  refine ⟨e, a', w', ?_, harr⟩
  subst hw
  rcases he with rfl | rfl <;> exact ⟨hd, u', rfl, .tuple #[], results_none hres _ _ _, hR⟩
abbrev zeroSm : Array Value := #[.int .i64 0, .int .i64 0, .int .u64 0, .slice none 0 0, .slice none 0 0]
theorem idleDec (p q r : Addr) (w : World) :
    CallsD Tryd.prog 46 #[.pointer (some p), .pointer (some q), .pointer (some r)] .returning w fun e u' w' => e = .returned (.tuple #[]) ∧ u' = .returning ∧ w' = w := by
  refine callsD_of_wpS Tryd.func46 rfl fun c₀ cs hu => ?_
  simp only [Tryd.ntmps46, List.size_toArray, List.length_cons, List.length_nil, Nat.reduceAdd, Nat.reduceSub, Array.replicate_succ, Array.replicate_zero, List.push_toArray, List.append_toArray, List.nil_append, List.cons_append]
  apply wpS_seq
  apply wpS_region
  simp [wpOpsS, go_sem, recoverD, hu, Exit.thenS]
  refine wpS_rest (u' := .returning) (w1 := w) rfl (by cases c₀; simp_all) ?_ ⟨rfl, rfl, rfl⟩
  clear hu
  go_wp2
  exact ⟨.inl rfl, rfl, rfl⟩
def boomW (a b c : Nat) (w : World) : World := (((w.alloc (.cells #[] 79)).setRow a zeroSm).setCell ⟨b, 0, none⟩ (.int .i64 0)).setCell ⟨c, 0, none⟩ (.int .i64 131)
theorem boomDec (a b c : Nat) (w : World) (ha : w.heap[a]? = some (.cells zeroSm 26)) (hb : w.heap[b]? = some (.cells #[.int .i64 0] 3)) (hc : w.heap[c]? = some (.cells #[.int .i64 0] 31)) (hab : a ≠ b) (hac : a ≠ c) (hbc : b ≠ c) :
    CallsD Tryd.prog 46 #[.pointer (some ⟨a, 0, none⟩), .pointer (some ⟨b, 0, none⟩), .pointer (some ⟨c, 0, none⟩)] (.panicking [{ v := .iface 79 (.agg #[]), recovered := false }]) w fun e u' w' =>
      e = .returned (.tuple #[]) ∧ u' = .panicking [{ v := .iface 79 (.agg #[]), recovered := true }] ∧ w' = boomW a b c w := by
  have hta : ∀ (w : World), (Instr.typeAssert (.iface 79 (.agg #[])) 20 79 true).run Tryd.prog w = .ok (.tuple #[.agg #[], .bool true]) w := fun _ => by kernel_rfl
  have hal := (Below.refl w.heap.size w).alloc (Nat.le_refl _) (.cells #[] 79)
  have ha1 := heap_below hal ha (lt_of_heap ha)
  have hb1 := heap_below hal hb (lt_of_heap hb)
  have hc1 := heap_below hal hc (lt_of_heap hc)
  have hw1 : ∀ k, k ≠ a → ((w.alloc (.cells #[] 79)).setRow a zeroSm).heap[k]? = (w.alloc (.cells #[] 79)).heap[k]? := fun k hk => setRow_other _ _ _ _ hk
  have hb2 := (hw1 b hab.symm).trans hb1
  have hc2 := (hw1 c hac.symm).trans hc1
  have y1 := blk_cell (i := 0) hb2 rfl
  have f1 := blk_free 0 hb2
  have hc3 := (Below.heap_setCell ((w.alloc (.cells #[] 79)).setRow a zeroSm) ⟨b, 0, none⟩ (.int .i64 0) c (by show c ≠ b; exact hbc.symm)).trans hc2
  have y2 := blk_cell (i := 0) hc3 rfl
  have f2 := blk_free 0 hc3
  clear hw1 hb1 hc1 hb2 hc2 hc3 hal
  have ha1'h := Lib.hid ha1
  clear ha1
  refine callsD_of_wpS Tryd.func46 rfl fun c₀ cs hu => ?_
  simp only [Tryd.ntmps46, List.size_toArray, List.length_cons, List.length_nil, Nat.reduceAdd, Nat.reduceSub, Array.replicate_succ, Array.replicate_zero, List.push_toArray, List.append_toArray, List.nil_append, List.cons_append]
  apply wpS_seq
  apply wpS_region
  simp [wpOpsS, go_sem, recoverD, hu, Exit.thenS]
  refine wpS_rest (u' := .panicking [{ v := .iface 79 (.agg #[]), recovered := true }]) (w1 := boomW a b c w) rfl (by cases c₀; simp_all) ?_ ⟨rfl, rfl, rfl⟩
  clear hu
  go_wp2_with (guard_target = wpList _ _ _ (Oper.mk _ (.store _ (.tmp 0) _) _ _ _ _ :: _) _ _; refine wpList_store_row rfl 26 (.tmp 0) _ rfl (a) zeroSm rfl rfl 26 _ ha1'h.out info_sm rfl (by kernel_rfl) ?_)
  exact ⟨.inl rfl, rfl, rfl⟩
end Go.Proofs.YtifofdciablljaaDoor

/-
  Layer 3 (script): Decode, whole.
-/
set_option linter.unusedSimpArgs false
set_option linter.unusedVariables false
set_option maxRecDepth 100000
namespace Go.Proofs.YtifofdciablljaaDoor
open Go.RowKit

theorem SmOwn.keep {B : Nat} {sm : Sm} {w w' : World} (h : SmOwn B sm w) (hh : Kept (fun b => B ≤ b) w w') : SmOwn B sm w' := by
  have hne : ∀ {e : TypeId} {k : Nat} {v : Value} {n : Nat} {xs : List Value}, w.ownsRow B e k v n xs → w'.ownsRow B e k v n xs := fun hr => by
    refine ⟨hr.1, hr.2.imp id ?_⟩
    rintro ⟨g, cap, cur, h1, hb, hg, hr⟩
    exact ⟨g, cap, cur, h1, hb, (hh.block g (lt_of_heap hg) hb).trans hg, hr⟩
  exact ⟨hne h.outer, fun r hr => hne (h.inner r hr), hne h.picks⟩
theorem SmIn.own {B : Nat} {sm : Sm} {w w' : World} (h : SmIn w sm) (ho : SmOwn B sm w') : SmIn w' sm := by
  have hrow : ∀ r ∈ sm.rows, r.len ≤ maxLen := fun r hr => by
    have h1 := h.rows.short r hr
    have h2 := h.rows.rlen hr
    unfold maxLen; omega
  have m1 : sm.ln ≤ maxLen := by have := h.rows.few; unfold maxLen; omega
  have m2 : sm.pn ≤ maxLen := by have := h.many; unfold maxLen; omega
  exact ⟨⟨SlK.of_row ho.outer m1, fun r hr => SlK.of_row (ho.inner r hr) (hrow r hr), h.rows.nil, h.rows.le, h.rows.ok, h.rows.few, h.rows.short⟩, (SlK.of_row ho.picks m2).sl, h.w64, h.seed, h.g, h.sl, h.lnil, h.lle, h.pnil, h.ple, h.many⟩
theorem Hs.grownTop {w0 : World} {x : Blk3} {l : List Blk3} {W W' : World} (h : Hs w0 (x :: l) W) (hg : W.grownBy W' (some x.1)) : Hs w0 l W' := by
  refine ⟨HasL.of fun y hy => ?_, h.old.grown hg h.old.size (fun k hk => by injection hk with hk; subst hk; exact h.low x (List.mem_cons_self ..)), h.tail.low, h.desc.tail⟩
  have hlt := (List.pairwise_cons.1 h.desc).1 y hy
  exact (hg.block y.1 (h.lt y (List.mem_cons_of_mem _ hy)) (fun e => by injection e with e; omega)).trans (h.rows.2.mem y hy)
/-- What Decode comes to. -/
def DecP (w : World) (bn : Nat) (R : Option (Scr × List Nat)) (e : Ending) (w' : World) : Prop := Below w.heap.size w w' ∧ match R with
  | some (s, rest) => ∃ sm : Sm, e = .returned (.tuple #[.agg (smA sm), .int .i64 ((bn - rest.length : Nat) : Int), .int .i64 0]) ∧ SmIn w' sm ∧ sm.scr = s ∧ rest.length ≤ bn
  | none => e = .returned (.tuple #[.agg zeroSm, .int .i64 0, .int .i64 131])
theorem decode_any (bp : Option Addr) (bn bc : Nat) (bytes : List Nat) (w : World) (hT : Tks w) (hsl : Sl w bp bn (u8s bytes)) (hby : ∀ b ∈ bytes, b < 256) (hbn : bn ≤ 100000) :
    Calls Tryd.prog 26 #[.slice bp bn bc] w fun e w' => DecP w bn (scriptR bytes) e w' := by
  have hmf : ∀ (fn : Fn) (first cap : Array Value) (w : World), (Instr.makeFunc fn first cap).run Tryd.prog w = .ok (.func fn first cap) w := fun _ _ _ _ => rfl
  have H0 := ((((Hs.nil w).new zeroSm 26).new #[.int .i64 0] 3).new #[.int .i64 0] 31).new (rdC (.int .i64 0) (.int .i64 0) (.int .u64 0) (.slice none 0 0) (.slice none 0 0) bp bn bc 0) 83
  simp only [World.size_alloc] at H0
  obtain ⟨W0, hW0⟩ : ∃ W0, W0 = ((((w.alloc (.cells zeroSm 26)).alloc (.cells #[.int .i64 0] 3)).alloc (.cells #[.int .i64 0] 31)).alloc (.cells (rdC (.int .i64 0) (.int .i64 0) (.int .u64 0) (.slice none 0 0) (.slice none 0 0) bp bn bc 0) 83)) := ⟨_, rfl⟩
  rw [← hW0] at H0
  have hne : 0 < bn → bp.map (·.block) ≠ some (w.heap.size + 1 + 1 + 1) := fun h0 e => by
    obtain ⟨b, o, rfl, hc⟩ := (SlK.of_sl hsl).some' (by omega)
    have hl : 0 < (u8s bytes).length := by have := hsl.1; omega
    have := lt_of_cell (hc 0 _ (List.getElem?_eq_getElem hl))
    injection e with e
    simp only at e this
    omega
  have hRd : RdI W0 (w.heap.size + 1 + 1 + 1) (.int .i64 0) (.int .i64 0) (.int .u64 0) (.slice none 0 0) (.slice none 0 0) bp bn bc bytes 0 W0 := ⟨H0.rows.1, World.grownBy.refl _ _, hsl.below H0.old, hne⟩
  have S := script_reads (w.heap.size + 1 + 1 + 1) bp bn bc bytes W0 (hT.next H0.old) (by omega) hRd hby hbn
  obtain ⟨R, hR⟩ : ∃ R, R = scriptR bytes := ⟨_, rfl⟩
  rw [← hR] at S ⊢
  have hR'h := Lib.hid hR
  have hby'h := Lib.hid hby
  have hbn'h := Lib.hid hbn
  have hsl'h := Lib.hid hsl
  have hT'h := Lib.hid hT
  have S'h := Lib.hid S
  have H0'h := Lib.hid H0
  have hRd'h := Lib.hid hRd
  clear hR hby hbn hsl hT S H0 hRd
  go_enter_defers Tryd.func26, Tryd.ntmps26
  go_wp2_with fail
  change Calls _ _ _ ((((w.alloc (.cells zeroSm 26)).alloc (.cells #[.int .i64 0] 3)).alloc (.cells #[.int .i64 0] 31)).alloc (.cells (rdC (.int .i64 0) (.int .i64 0) (.int .u64 0) (.slice none 0 0) (.slice none 0 0) bp bn bc 0) 83)) _
  rw [← hW0]
  refine S'h.out.mono ?_
  rintro e W1 ⟨hg, hP⟩
  have H1 := H0'h.out.grownTop hg
  clear hg
  cases R with
  | none =>
    simp only at hP
    subst hP
    have H1'h := Lib.hid H1
    clear H1
    go_wp2
    refine leaves_cons (f := 46) (args := #[.pointer (some ⟨w.heap.size, 0, none⟩), .pointer (some ⟨w.heap.size + 1, 0, none⟩), .pointer (some ⟨w.heap.size + 1 + 1, 0, none⟩)]) (by simp) (by simp [go_sem]) ?_
    refine (boomDec _ _ _ W1 H1'h.out.rows.2.2.1 H1'h.out.rows.2.1 H1'h.out.rows.1 (by omega) (by omega) (by omega)).mono ?_
    rintro e u' w'' ⟨rfl, rfl, rfl⟩
    have H2 := ((((H1'h.out.new #[] 79).set 3 rfl zeroSm).put 2 rfl 0 (.int .i64 0)).put 1 rfl 0 (.int .i64 131))
    unfold boomW
    generalize World.setCell _ _ _ = W2 at H2 ⊢
    have d0 : W2.cell? ⟨w.heap.size, 0, none⟩ = some (.int .i64 0) := blk_cell (i := 0) H2.rows.2.2.2.1 rfl
    have d1 : W2.cell? ⟨w.heap.size, 1, none⟩ = some (.int .i64 0) := blk_cell (i := 1) H2.rows.2.2.2.1 rfl
    have d2 : W2.cell? ⟨w.heap.size, 2, none⟩ = some (.int .u64 0) := blk_cell (i := 2) H2.rows.2.2.2.1 rfl
    have d3 : W2.cell? ⟨w.heap.size, 3, none⟩ = some (.slice none 0 0) := blk_cell (i := 3) H2.rows.2.2.2.1 rfl
    have d4 : W2.cell? ⟨w.heap.size, 4, none⟩ = some (.slice none 0 0) := blk_cell (i := 4) H2.rows.2.2.2.1 rfl
    have d5 : W2.cell? ⟨w.heap.size + 1, 0, none⟩ = some (.int .i64 0) := blk_cell (i := 0) H2.rows.2.2.1 rfl
    have d6 : W2.cell? ⟨w.heap.size + 1 + 1, 0, none⟩ = some (.int .i64 131) := blk_cell (i := 0) H2.rows.2.1 rfl
    have hD : DecP w bn none (.returned (.tuple #[.agg zeroSm, .int .i64 0, .int .i64 131])) W2 := ⟨H2.old, rfl⟩
    clear H2
    simp [Leaves, settle, results, Tryd.results26, go_sem, d0, d1, d2, d3, d4, d5, d6, hD]
  | some sr =>
    obtain ⟨s, rest⟩ := sr
    simp only at hP
    obtain ⟨rfl, sm, p', hRd1, hIn1, hOwn1, rfl, hp1, hp2⟩ := hP
    have hat : (p' : Int) = ((bn - rest.length : Nat) : Int) := by omega
    have hrl : rest.length ≤ bn := by omega
    have y0 : W1.cell? ⟨w.heap.size + 1 + 1 + 1, 0, none⟩ = some (.int .i64 sm.goers) := blk_cell (i := 0) hRd1.blk rfl
    have y1 : W1.cell? ⟨w.heap.size + 1 + 1 + 1, 1, none⟩ = some (.int .i64 sm.slabs) := blk_cell (i := 1) hRd1.blk rfl
    have y2 : W1.cell? ⟨w.heap.size + 1 + 1 + 1, 2, none⟩ = some (.int .u64 (sm.seed : Int)) := blk_cell (i := 2) hRd1.blk rfl
    have y3 : W1.cell? ⟨w.heap.size + 1 + 1 + 1, 3, none⟩ = some (.slice sm.lp sm.ln sm.lc) := blk_cell (i := 3) hRd1.blk rfl
    have y4 : W1.cell? ⟨w.heap.size + 1 + 1 + 1, 4, none⟩ = some (.slice sm.pp sm.pn sm.pc) := blk_cell (i := 4) hRd1.blk rfl
    have y6 : W1.cell? ⟨w.heap.size + 1 + 1 + 1, 6, none⟩ = some (.int .i64 (p' : Int)) := blk_cell (i := 6) hRd1.blk rfl
    have q1 : ∀ (W : World) (o o' : Nat) (v : Value), (W.setCell ⟨w.heap.size, o, none⟩ v).cell? ⟨w.heap.size + 1 + 1 + 1, o', none⟩ = W.cell? ⟨w.heap.size + 1 + 1 + 1, o', none⟩ := fun W o o' v => World.cell?_of_block (Below.heap_setCell _ _ _ _ (by simp only; omega))
    have q2 : ∀ (W : World) (o o' : Nat) (v : Value), (W.setCell ⟨w.heap.size + 1, o, none⟩ v).cell? ⟨w.heap.size + 1 + 1 + 1, o', none⟩ = W.cell? ⟨w.heap.size + 1 + 1 + 1, o', none⟩ := fun W o o' v => World.cell?_of_block (Below.heap_setCell _ _ _ _ (by simp only; omega))
    have q3 : ∀ (W : World) (o o' : Nat) (v : Value), (W.setCell ⟨w.heap.size + 1 + 1, o, none⟩ v).cell? ⟨w.heap.size + 1 + 1 + 1, o', none⟩ = W.cell? ⟨w.heap.size + 1 + 1 + 1, o', none⟩ := fun W o o' v => World.cell?_of_block (Below.heap_setCell _ _ _ _ (by simp only; omega))
    have z0 : W1.cell? ⟨w.heap.size, 0, none⟩ = some (.int .i64 0) := blk_cell (i := 0) H1.rows.2.2.1 rfl
    have z1 : W1.cell? ⟨w.heap.size, 1, none⟩ = some (.int .i64 0) := blk_cell (i := 1) H1.rows.2.2.1 rfl
    have z2 : W1.cell? ⟨w.heap.size, 2, none⟩ = some (.int .u64 0) := blk_cell (i := 2) H1.rows.2.2.1 rfl
    have z3 : W1.cell? ⟨w.heap.size, 3, none⟩ = some (.slice none 0 0) := blk_cell (i := 3) H1.rows.2.2.1 rfl
    have z4 : W1.cell? ⟨w.heap.size, 4, none⟩ = some (.slice none 0 0) := blk_cell (i := 4) H1.rows.2.2.1 rfl
    have z5 : W1.cell? ⟨w.heap.size + 1, 0, none⟩ = some (.int .i64 0) := blk_cell (i := 0) H1.rows.2.1 rfl
    have z6 : W1.cell? ⟨w.heap.size + 1 + 1, 0, none⟩ = some (.int .i64 0) := blk_cell (i := 0) H1.rows.1 rfl
    have f0 := blk_free 0 H1.rows.2.2.1
    have f1 := blk_free 1 H1.rows.2.2.1
    have f2 := blk_free 2 H1.rows.2.2.1
    have f3 := blk_free 3 H1.rows.2.2.1
    have f4 := blk_free 4 H1.rows.2.2.1
    have f5 := blk_free 0 H1.rows.2.1
    have f6 := blk_free 0 H1.rows.1
    have hs1 := hRd1.by'.size
    have hs0 := (H0'h.out.lt _ (List.mem_cons_self ..))
    have H1'h := Lib.hid H1
    have hRd1'h := Lib.hid hRd1
    have hIn1'h := Lib.hid hIn1
    have hOwn1'h := Lib.hid hOwn1
    have hat'h := Lib.hid hat
    have hrl'h := Lib.hid hrl
    have hs1'h := Lib.hid hs1
    have hs0'h := Lib.hid hs0
    clear H1 hRd1 hIn1 hOwn1 hat hrl hs1 hs0
    go_upto_region 1 with fail
    go_region_held3 (fun w' => w'.cell? ⟨w.heap.size + 1 + 1 + 1, 0, none⟩ = some (.int .i64 sm.goers) ∧ w'.cell? ⟨w.heap.size + 1 + 1 + 1, 1, none⟩ = some (.int .i64 sm.slabs) ∧ w'.cell? ⟨w.heap.size + 1 + 1 + 1, 2, none⟩ = some (.int .u64 (sm.seed : Int)) ∧ w'.cell? ⟨w.heap.size + 1 + 1 + 1, 3, none⟩ = some (.slice sm.lp sm.ln sm.lc) ∧ w'.cell? ⟨w.heap.size + 1 + 1 + 1, 4, none⟩ = some (.slice sm.pp sm.pn sm.pc) ∧ w'.cell? ⟨w.heap.size + 1 + 1 + 1, 6, none⟩ = some (.int .i64 (p' : Int))) (go_keep) (fail)
    have H2 := (((((((H1'h.out.put 2 rfl 0 (.int .i64 sm.goers)).put 2 rfl 1 (.int .i64 sm.slabs)).put 2 rfl 2 (.int .u64 (sm.seed : Int))).put 2 rfl 3 (.slice sm.lp sm.ln sm.lc)).put 2 rfl 4 (.slice sm.pp sm.pn sm.pc)).put 1 rfl 0 (.int .i64 (p' : Int))).put 0 rfl 0 (.int .i64 0)).drew
    have h0 : w.heap.size + 1 + 1 < W0.heap.size := by have := hs0'h.out; exact Nat.lt_of_succ_lt this
    have hOwn2 := hOwn1'h.out.keep ((((((((Kept.setCell _ W1 ⟨w.heap.size, 0, none⟩ (.int .i64 sm.goers) (by simp only; omega)).trans (Kept.setCell _ _ ⟨w.heap.size, 1, none⟩ (.int .i64 sm.slabs) (by simp only; omega))).trans (Kept.setCell _ _ ⟨w.heap.size, 2, none⟩ (.int .u64 (sm.seed : Int)) (by simp only; omega))).trans (Kept.setCell _ _ ⟨w.heap.size, 3, none⟩ (.slice sm.lp sm.ln sm.lc) (by simp only; omega))).trans (Kept.setCell _ _ ⟨w.heap.size, 4, none⟩ (.slice sm.pp sm.pn sm.pc) (by simp only; omega))).trans (Kept.setCell _ _ ⟨w.heap.size + 1, 0, none⟩ (.int .i64 (p' : Int)) (by simp only; omega))).trans (Kept.setCell _ _ ⟨w.heap.size + 1 + 1, 0, none⟩ (.int .i64 0) (by simp only; omega))).trans (Kept.drew _ _))
    clear y0 y1 y2 y3 y4 y6 q1 q2 q3 z0 z1 z2 z3 z4 z5 z6 f0 f1 f2 f3 f4 f5 f6
    generalize World.drew _ = W2 at H2 hOwn2 ⊢
    have hIn2 := hIn1'h.out.own hOwn2
    rw [hat'h.out] at H2
    have d0 : W2.cell? ⟨w.heap.size, 0, none⟩ = some (.int .i64 sm.goers) := blk_cell (i := 0) H2.rows.2.2.1 rfl
    have d1 : W2.cell? ⟨w.heap.size, 1, none⟩ = some (.int .i64 sm.slabs) := blk_cell (i := 1) H2.rows.2.2.1 rfl
    have d2 : W2.cell? ⟨w.heap.size, 2, none⟩ = some (.int .u64 (sm.seed : Int)) := blk_cell (i := 2) H2.rows.2.2.1 rfl
    have d3 : W2.cell? ⟨w.heap.size, 3, none⟩ = some (.slice sm.lp sm.ln sm.lc) := blk_cell (i := 3) H2.rows.2.2.1 rfl
    have d4 : W2.cell? ⟨w.heap.size, 4, none⟩ = some (.slice sm.pp sm.pn sm.pc) := blk_cell (i := 4) H2.rows.2.2.1 rfl
    have d5 : W2.cell? ⟨w.heap.size + 1, 0, none⟩ = some (.int .i64 ((bn - rest.length : Nat) : Int)) := blk_cell (i := 0) H2.rows.2.1 rfl
    have d6 : W2.cell? ⟨w.heap.size + 1 + 1, 0, none⟩ = some (.int .i64 0) := blk_cell (i := 0) H2.rows.1 rfl
    have hD : DecP w bn (some (sm.scr, rest)) (.returned (.tuple #[.agg (smA sm), .int .i64 ((bn - rest.length : Nat) : Int), .int .i64 0])) W2 := ⟨H2.old, sm, rfl, hIn2, rfl, hrl'h.out⟩
    unfold smA at hD
    clear H2 hOwn2 hIn2
    have hD'h := Lib.hid hD
    clear hD
    go_wp2
    refine leaves_cons (f := 46) (args := #[.pointer (some ⟨w.heap.size, 0, none⟩), .pointer (some ⟨w.heap.size + 1, 0, none⟩), .pointer (some ⟨w.heap.size + 1 + 1, 0, none⟩)]) (by simp) (by simp [go_sem]) ?_
    refine (idleDec _ _ _ W2).mono ?_
    rintro e u' w'' ⟨rfl, rfl, rfl⟩
    refine ⟨_, ?_, hD'h.out⟩
    simp [results, Tryd.results26, go_sem, d0, d1, d2, d3, d4, d5, d6]
end Go.Proofs.YtifofdciablljaaDoor

