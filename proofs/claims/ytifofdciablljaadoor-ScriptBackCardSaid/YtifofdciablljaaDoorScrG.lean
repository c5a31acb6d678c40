/-
  Layer 3 (script): the numbers of a script, as its iterator tells them.
-/
import Derived.Test.YtifofdciablljaaDoorScrF
import Derived.Test.YtifofdciablljaaDoorKitT
import Derived.Sort.LoopGhostIn
import Derived.Sort.CutIn
set_option linter.unusedSimpArgs false
set_option linter.unusedVariables false
set_option maxRecDepth 100000
namespace Go.Proofs.YtifofdciablljaaDoor
open Go.RowKit

/-- The numbers of a call, of a row of calls, of a script. -/
def encC (c : Cal) : List Nat := c.op.toNat :: (wordsC c).take (takesI c.op).toNat
def encL (l : List Cal) : List Nat := l.length :: l.flatMap encC
def encS (s : Scr) : List Nat := s.goers.toNat :: s.slabs.toNat :: s.seed :: (s.lists.flatMap encL ++ s.picks.length :: s.picks)
theorem drop_at {α : Type} {l : List α} {k : Nat} {x : α} (h : l[k]? = some x) : l.drop k = x :: l.drop (k + 1) := by
  obtain ⟨hk, e⟩ := List.getElem?_eq_some_iff.1 h
  rw [List.drop_eq_getElem_cons hk, e]
def valV (n : Nat) : Array Value := #[.int .u64 (n : Int)]

/-- The blocks that are read while a script's numbers are told. -/
def numRO (bs : Nat) (s : Sm) (b : Nat) : Prop := b = bs ∨ b = 0 ∨ (0 < s.ln ∧ s.lp.map (·.block) = some b) ∨ (0 < s.pn ∧ s.pp.map (·.block) = some b) ∨ ∃ r ∈ s.rows, 0 < r.len ∧ r.sp.map (·.block) = some b
theorem SlK.keepP {w w' : World} {k : Nat} {sp : Option Addr} {n : Nat} {vals : List Value} (h : SlK w k sp n vals) (hk : 0 < n → ∀ b, b < w.heap.size → sp.map (·.block) = some b → w'.heap[b]? = w.heap[b]?) : SlK w' k sp n vals := by
  obtain ⟨h1, h2, h3⟩ := h
  refine ⟨h1, h2, ?_⟩
  rcases Nat.eq_zero_or_pos n with h0 | h0
  · exact .inl h0
  · obtain ⟨b, off, rfl, hc⟩ := h3.resolve_left (by omega)
    refine .inr ⟨b, off, rfl, fun j u hu => ?_⟩
    have hcj := hc j u hu
    exact cell_of_heap (hk h0 b (lt_of_cell hcj) rfl) hcj
theorem SlK.low {w : World} {k : Nat} {sp : Option Addr} {n : Nat} {vals : List Value} (h : SlK w k sp n vals) (hk : 0 < k) (hn : 0 < n) {b : Nat} (hb : sp.map (·.block) = some b) : b < w.heap.size := by
  obtain ⟨b', off, rfl, hc⟩ := h.some' hn
  have e : b' = b := by simpa using hb
  subst e
  have hl : 0 < vals.length := by rw [h.1]; exact Nat.mul_pos hn hk
  exact lt_of_cell (hc 0 _ (List.getElem?_eq_getElem hl))
theorem SmIn.low {w : World} {s : Sm} (h : SmIn w s) (hT : Tks w) {bs b : Nat} (hb : numRO bs s b) : b = bs ∨ b < w.heap.size := by
  rcases hb with hb | rfl | ⟨h0, hb⟩ | ⟨h0, hb⟩ | ⟨r, hr, h0, hb⟩
  · exact .inl hb
  · exact .inr hT.lt
  · exact .inr (h.rows.sl.low (by decide) h0 hb)
  · exact .inr ((SlK.of_sl h.picks).low (by decide) h0 hb)
  · exact .inr ((h.rows.each r hr).low (by decide) h0 hb)
structure NumR (bs : Nat) (s : Sm) (W : World) : Prop where
  box : W.heap[bs]? = some (.cells (smA s) 26)
  inn : SmIn W s
  tks : Tks W
theorem NumR.kept {bs : Nat} {s : Sm} {W W' : World} (h : NumR bs s W) (hk : ∀ b, b < W.heap.size → numRO bs s b → W'.heap[b]? = W.heap[b]?) : NumR bs s W' := by
  obtain ⟨h1, h2, h3⟩ := h
  refine ⟨(hk bs (lt_of_heap h1) (.inl rfl)).trans h1, ⟨⟨h2.rows.sl.keepP fun h0 b hb hm => hk b hb (.inr (.inr (.inl ⟨h0, hm⟩))), fun r hr => (h2.rows.each r hr).keepP fun h0 b hb hm => hk b hb (.inr (.inr (.inr (.inr ⟨r, hr, h0, hm⟩)))), h2.rows.nil, h2.rows.le, h2.rows.ok, h2.rows.few, h2.rows.short⟩,
    ((SlK.of_sl h2.picks).keepP fun h0 b hb hm => hk b hb (.inr (.inr (.inr (.inl ⟨h0, hm⟩))))).sl, h2.w64, h2.seed, h2.g, h2.sl, h2.lnil, h2.lle, h2.pnil, h2.ple, h2.many⟩, fun i hi => cell_of_heap (hk 0 h3.lt (.inr (.inl rfl))) (h3 i hi)⟩
theorem NumR.below {bs : Nat} {s : Sm} {W W' : World} (h : NumR bs s W) (hb : Below W.heap.size W W') : NumR bs s W' := h.kept fun b hb' _ => hb.block b hb'
theorem NumR.c0 {bs : Nat} {s : Sm} {W : World} (h : NumR bs s W) : W.cell? ⟨bs, 0, none⟩ = some (.int .i64 s.goers) := blk_cell (i := 0) h.box rfl
theorem NumR.c1 {bs : Nat} {s : Sm} {W : World} (h : NumR bs s W) : W.cell? ⟨bs, 1, none⟩ = some (.int .i64 s.slabs) := blk_cell (i := 1) h.box rfl
theorem NumR.c2 {bs : Nat} {s : Sm} {W : World} (h : NumR bs s W) : W.cell? ⟨bs, 2, none⟩ = some (.int .u64 (s.seed : Int)) := blk_cell (i := 2) h.box rfl
theorem NumR.c3 {bs : Nat} {s : Sm} {W : World} (h : NumR bs s W) : W.cell? ⟨bs, 3, none⟩ = some (.slice s.lp s.ln s.lc) := blk_cell (i := 3) h.box rfl
theorem NumR.c4 {bs : Nat} {s : Sm} {W : World} (h : NumR bs s W) : W.cell? ⟨bs, 4, none⟩ = some (.slice s.pp s.pn s.pc) := blk_cell (i := 4) h.box rfl
/-- What a script's iterator says of what it has told. -/
def NumY (told : List Nat) (vs : Vs) (_ : Nat → Prop) (_ : World) : Prop := ∃ pre rest, told = pre ++ rest ∧ vs = pre.map valV
theorem NumY.keeps (RO : Nat → Prop) (told : List Nat) : KeepsY RO (NumY told) := fun _ _ _ _ h _ => h
/-- While the numbers are told: rest is still to be told. -/
structure NumI (J : Vs → (Nat → Prop) → World → Prop) (told : List Nat) (bs : Nat) (s : Sm) (W : World) (rest : List Nat) (S : Nat → Prop) (wr : World) : Prop where
  pre : ∃ pre, told = pre ++ rest ∧ J (pre.map valV) S wr
  own : ∀ b, S b → W.heap.size ≤ b
  num : NumR bs s wr
  size : W.heap.size ≤ wr.heap.size
section
variable {J : Vs → (Nat → Prop) → World → Prop} {told : List Nat} {bs : Nat} {s : Sm} {W : World} {rest : List Nat} {S : Nat → Prop} {wr wr' : World}
theorem NumI.below (h : NumI J told bs s W rest S wr) (hJ : ∀ vs, Stable (J vs)) (hb : Below wr.heap.size wr wr') : NumI J told bs s W rest S wr' := by
  obtain ⟨⟨pre, h1, h2⟩, h3, h4, h5⟩ := h
  exact ⟨⟨pre, h1, hJ _ _ _ _ _ h2 (Foreign.of_below hb)⟩, h3, h4.below hb, Nat.le_trans h5 hb.size⟩
theorem NumI.alloc (h : NumI J told bs s W rest S wr) (hJ : ∀ vs, Stable (J vs)) (o : Obj) : NumI J told bs s W rest (fun b => S b ∨ b = wr.heap.size) (wr.alloc o) := by
  obtain ⟨⟨pre, h1, h2⟩, h3, h4, h5⟩ := h
  refine ⟨⟨pre, h1, hJ _ _ _ _ _ h2 (Foreign.alloc _ _)⟩, fun b hb => ?_, h4.below ((Below.refl _ _).alloc (Nat.le_refl _) _), by simp; omega⟩
  rcases hb with hb | rfl
  · exact h3 b hb
  · exact h5
theorem NumI.yield {n l : Nat} {F : Fence} {m : Nat} (h : NumI J told bs s W (n :: rest) S wr)
    (hY : ∀ vs v S1 W1, J vs S1 W1 → vs.length < told.length → NumY told (vs ++ [v]) S1 W1 → YieldAt F m Tryd.prog l v W1 fun e W' => e = .returned (.bool true) ∧ J (vs ++ [v]) S1 W' ∧ Kept (fun b => numRO bs s b ∨ S1 b) W1 W') :
    ∃ fn tmps assign body, (Instr.yield l #[.int .u64 (n : Int)]).run Tryd.prog wr = .ok (.round l fn tmps assign body) wr ∧ RoundIn F m Tryd.prog l fn tmps assign body wr fun e W' =>
      e = .returned (.bool true) ∧ NumI J told bs s W rest S W' ∧ Kept (fun b => numRO bs s b ∨ S b) wr W' := by
  obtain ⟨⟨pre, h1, h2⟩, h3, h4, h5⟩ := h
  have e : (pre ++ [n]).map valV = pre.map valV ++ [valV n] := by simp
  obtain ⟨fn, tmps, assign, body, hy, hR⟩ := hY (pre.map valV) (valV n) S wr h2 (by rw [List.length_map, h1]; simp) ⟨pre ++ [n], rest, by rw [h1]; simp, e.symm⟩
  refine ⟨fn, tmps, assign, body, hy, hR.mono ?_⟩
  rintro e W' ⟨rfl, hj, hk⟩
  exact ⟨rfl, ⟨⟨pre ++ [n], by rw [h1]; simp, by rw [e]; exact hj⟩, h3, h4.kept fun b hb hr => hk.block b hb (.inl hr), Nat.le_trans h5 hk.size⟩, hk⟩
end
set_option maxHeartbeats 4000000 in
theorem numbers_it (bs : Nat) (s : Sm) (w : World) (hN : NumR bs s w) (hr : rightS s.scr = true) :
    SeqItT Fence.wide 0 Tryd.prog 61 #[.pointer (some ⟨bs, 0, none⟩)] (encS s.scr).length (NumY (encS s.scr)) (fun _ => False) (numRO bs s) w := by
  intro ly J W hJ hW hY h0
  have hNW := hN.below hW
  have hI0 : NumI J (encS s.scr) bs s W (encS s.scr) (fun _ => False) W := ⟨⟨[], rfl, h0⟩, fun b h => h.elim, hNW, Nat.le_refl _⟩
  obtain ⟨told, htold⟩ : ∃ told, told = encS s.scr := ⟨_, rfl⟩
  rw [← htold] at hI0 hY ⊢
  have hln := hN.inn.ln
  have hrlen := hN.inn.rows.len
  have hrr := hr
  unfold rightS headS sizesS at hr
  simp only [Bool.and_eq_true, decide_eq_true_eq] at hr
  obtain ⟨⟨⟨⟨⟨⟨g1, g2⟩, b1⟩, b2⟩, hgl⟩, hpl⟩, hcl, hall⟩ := hr
  have g1' : 1 ≤ s.goers := g1
  have g2' : s.goers ≤ 8 := g2
  have b1' : 2 ≤ s.slabs := b1
  have b2' : s.slabs ≤ 128 := b2
  obtain ⟨g, hg⟩ : ∃ g : Nat, s.goers = (g : Int) := ⟨s.goers.toNat, by omega⟩
  obtain ⟨sb, hsb⟩ : ∃ sb : Nat, s.slabs = (sb : Int) := ⟨s.slabs.toNat, by omega⟩
  have hg8 : g ≤ 8 := by omega
  have hsb8 : sb ≤ 128 := by omega
  have hbody : told = g :: sb :: s.seed :: (s.scr.lists.flatMap encL ++ s.picks.length :: s.picks) := by rw [htold]; unfold encS Sm.scr; simp only [hg, hsb]; rfl
  have hI0' : NumI J told bs s W (g :: sb :: s.seed :: (s.scr.lists.flatMap encL ++ s.picks.length :: s.picks)) (fun _ => False) W := by rw [← hbody]; exact hI0
  have c0 := hNW.c0
  rw [hg] at c0
  obtain ⟨rest, hrest⟩ : ∃ rest, rest = s.scr.lists.flatMap encL ++ s.picks.length :: s.picks := ⟨_, rfl⟩
  rw [← hrest] at hI0'
  have hseed := hN.inn.seed
  clear hI0 hbody hW h0 g1 g2 b1 b2 g1' g2' b1' b2' hrr hgl
  have hY'h := Lib.hid hY
  have hJ'h := Lib.hid hJ
  have hN'h := Lib.hid hN
  have hNW'h := Lib.hid hNW
  have htold'h := Lib.hid htold
  have hln'h := Lib.hid hln
  have hrlen'h := Lib.hid hrlen
  have hpl'h := Lib.hid hpl
  have hcl'h := Lib.hid hcl
  have hall'h := Lib.hid hall
  have hg'h := Lib.hid hg
  have hsb'h := Lib.hid hsb
  have hI0''h := Lib.hid hI0'
  have hrest'h := Lib.hid hrest
  have hseed'h := Lib.hid hseed
  clear hY hJ hN hNW htold hln hrlen hpl hcl hall hg hsb hI0' hrest hseed
  obtain ⟨fn, tmps, assign, body, hy, hR⟩ := hI0''h.out.yield hY'h.out
  refine callsIn_of_wp Tryd.func61 rfl trivial ?_ rfl
  simp only [Tryd.ntmps61, List.size_toArray, List.length_cons, List.length_nil, Nat.reduceAdd, Nat.reduceSub, Array.replicate_succ, Array.replicate_zero, List.push_toArray, List.append_toArray, List.nil_append, List.cons_append]
  gi_wp2_with fail
  refine hR.mono ?_; clear hy hR; clear fn tmps assign body
  rintro e W1 ⟨rfl, h1, -⟩
  have c1 := h1.num.c1
  rw [hsb'h.out] at c1
  have h1'h := Lib.hid h1
  clear h1
  obtain ⟨fn, tmps, assign, body, hy, hR⟩ := h1'h.out.yield hY'h.out
  clear c0
  gi_wp2_with fail
  refine hR.mono ?_; clear hy hR; clear fn tmps assign body
  rintro e W2 ⟨rfl, h2, -⟩
  have c2 := h2.num.c2
  have h2'h := Lib.hid h2
  clear h2
  obtain ⟨fn, tmps, assign, body, hy, hR⟩ := h2'h.out.yield hY'h.out
  clear c1
  gi_wp2_with fail
  refine hR.mono ?_; clear hy hR; clear fn tmps assign body
  rintro e W3 ⟨rfl, h3, -⟩
  have c3 := h3.num.c3
  have h3'h := Lib.hid h3
  clear h3
  clear c2
  have hn16 : s.ln ≤ 16 := hN'h.out.inn.rows.few
  gi_wp2
  gi_loopg [3, 34] s.ln (fun q on ix wr => ∃ (k : Nat) (S : Nat → Prop), k + q = s.ln ∧ on = .bool true ∧ ix = .int .i64 (k : Int) ∧ NumI J told bs s W ((s.scr.lists.drop k).flatMap encL ++ s.picks.length :: s.picks) S wr)
  case atStart => exact ⟨0, _, by omega, rfl, rfl, by have := h3'h.out; rw [hrest'h.out] at this; exact this⟩
  case round =>
    obtain ⟨k, S, hk, rfl, rfl, hI⟩ := hrel
    obtain ⟨go, rfl⟩ : ∃ go : Nat, go = gk := ⟨_, rfl⟩
    clear c3
    by_cases hlt : k < s.ln
    · have hkl : k < s.rows.length := by have := hrlen'h.out; omega
      obtain ⟨rb, ro, hlp, d1⟩ := hI.num.inn.rows.head hlt
      have hlk : s.scr.lists[k]? = some (nthR s.rows k).cs := by unfold Sm.scr; simp only [List.getElem?_map]; rw [nthR_at hkl]; rfl
      have hrl := hI.num.inn.rows.rlen (nthR_mem hkl)
      have hrs := hI.num.inn.rows.short _ (nthR_mem hkl)
      have hmem := nthR_mem hkl
      obtain ⟨r, hr⟩ : ∃ r, r = nthR s.rows k := ⟨_, rfl⟩
      rw [← hr] at d1 hlk hrl hrs hmem
      have hall2 : ∀ c ∈ r.cs, rightC c = true := fun c hc => List.all_eq_true.1 hall'h.out c (List.mem_flatten.2 ⟨r.cs, List.mem_of_getElem? hlk, hc⟩)
      have hdr : (s.scr.lists.drop k).flatMap encL = r.len :: (r.cs.flatMap encC ++ (s.scr.lists.drop (k + 1)).flatMap encL) := by
        rw [drop_at hlk, List.flatMap_cons, hrl]; rfl
      rw [hdr] at hI
      obtain ⟨R1, hR1⟩ : ∃ R1, R1 = (s.scr.lists.drop (k + 1)).flatMap encL ++ s.picks.length :: s.picks := ⟨_, rfl⟩
      have hI2 : NumI J told bs s W (r.len :: (r.cs.flatMap encC ++ R1)) S wr := by rw [hR1]; simpa using hI
      have c3 := hI.num.c3
      rw [hlp] at c3
      have i1 : (k : Int) < (s.ln : Int) := by omega
      have i2 : (0 : Int) ≤ (k : Int) := by omega
      have hrl66 : r.len ≤ 66 := by omega
      clear hI hdr hr
      have hk'h := Lib.hid hk
      have hlk'h := Lib.hid hlk
      have hrl'h := Lib.hid hrl
      have hrs'h := Lib.hid hrs
      have hmem'h := Lib.hid hmem
      have hall2'h := Lib.hid hall2
      have hI2'h := Lib.hid hI2
      have hR1'h := Lib.hid hR1
      have hkl'h := Lib.hid hkl
      clear hk hlk hrl hrs hmem hall2 hI2 hR1 hkl
      obtain ⟨fn, tmps, assign, body, hy, hR⟩ := hI2'h.out.yield hY'h.out
      rw [hlp]
      gi_wp2_with fail
      refine hR.mono ?_; clear hy hR; clear fn tmps assign body
      rintro e W4 ⟨rfl, h4, -⟩
      clear c3 d1
      have h4'h := Lib.hid h4
      clear h4
      gi_wp2
      gi_loopg [3, 48] r.len (fun q on ix wr => ∃ (j : Nat) (S : Nat → Prop), j + q = r.len ∧ on = .bool true ∧ ix = .int .i64 (j : Int) ∧ NumI J told bs s W ((r.cs.drop j).flatMap encC ++ R1) S wr)
      case atStart => exact ⟨0, _, by omega, rfl, rfl, h4'h.out⟩
      case round =>
        obtain ⟨j, S5, hj, rfl, rfl, h5⟩ := hrel
        obtain ⟨go5, rfl⟩ : ∃ go5 : Nat, go5 = gk := ⟨_, rfl⟩
        by_cases hjl : j < r.len
        · have hjc : j < r.cs.length := by have := hrl'h.out; omega
          have hS5 := h5.num.inn.rows.each r hmem'h.out
          obtain ⟨cb, co, hsp⟩ := slk_some hS5 (by omega)
          rw [hsp] at hS5
          obtain ⟨x0, x1, x2, x3⟩ := cals_cells hS5 hjc
          have hcj : r.cs[j]? = some (nthCal r.cs j) := nthCal_at hjc
          obtain ⟨c, hc⟩ : ∃ c, c = nthCal r.cs j := ⟨_, rfl⟩
          rw [← hc] at x0 x1 x2 x3 hcj
          have hrc := hall2'h.out c (List.mem_of_getElem? hcj)
          unfold rightC at hrc
          simp only [Bool.and_eq_true, decide_eq_true_eq] at hrc
          obtain ⟨ho1, ho7⟩ := takesI_some hrc.1
          have htr := takesI_range c.op
          have hT5 : takesI c.op = tkL.getD c.op.toNat 0 := by unfold takesI; rw [if_neg (by omega)]
          obtain ⟨o, ho⟩ : ∃ o : Nat, c.op = (o : Int) := ⟨c.op.toNat, by omega⟩
          obtain ⟨t, ht⟩ : ∃ t : Nat, takesI c.op = (t : Int) := ⟨(takesI c.op).toNat, by omega⟩
          have hto : tkL.getD o 0 = (t : Int) := by rw [← ht, hT5, ho, Int.toNat_natCast]
          have ho8 : o < 8 := by omega
          have ho1' : 1 ≤ o := by omega
          have ht3 : t ≤ 3 := by omega
          have hdr : (r.cs.drop j).flatMap encC ++ R1 = o :: ((wordsC c).take t ++ ((r.cs.drop (j + 1)).flatMap encC ++ R1)) := by
            rw [drop_at hcj, List.flatMap_cons]
            unfold encC
            rw [ht, ho]
            simp
          rw [hdr] at h5
          obtain ⟨R2, hR2⟩ : ∃ R2, R2 = (r.cs.drop (j + 1)).flatMap encC ++ R1 := ⟨_, rfl⟩
          rw [← hR2] at h5
          obtain ⟨ww, hww⟩ : ∃ ww : List Nat, ww = wordsC c := ⟨_, rfl⟩
          rw [← hww] at h5
          have hww3 : ww = [c.key, c.a, c.b] := hww
          rw [ho] at x0
          obtain ⟨op, key, a, b⟩ := c
          simp only at x0 x1 x2 x3 hww3 ho
          subst ho
          have i1 : (j : Int) < (r.len : Int) := by omega
          have i2 : (0 : Int) ≤ (j : Int) := by omega
          have h6 := h5.alloc hJ'h.out (.cells #[.int .i64 (o : Int), .int .u64 (key : Int), .int .u64 (a : Int), .int .u64 (b : Int)] 57)
          have hb7 : (wr.alloc (.cells #[.int .i64 (o : Int), .int .u64 (key : Int), .int .u64 (a : Int), .int .u64 (b : Int)] 57)).heap[wr.heap.size]? = some (.cells #[.int .i64 (o : Int), .int .u64 (key : Int), .int .u64 (a : Int), .int .u64 (b : Int)] 57) := World.alloc_heap_new _ _
          clear hc hcj hrc htr hT5 hdr hww ht hS5 h5 ho1 ho7
          rw [hsp]
          have hj'h := Lib.hid hj
          have hjl'h := Lib.hid hjl
          have hjc'h := Lib.hid hjc
          have hsp'h := Lib.hid hsp
          have hto'h := Lib.hid hto
          have hR2'h := Lib.hid hR2
          have hww3'h := Lib.hid hww3
          have h6'h := Lib.hid h6
          have hb7'h := Lib.hid hb7
          clear hj hjl hjc hsp hto hR2 hww3 h6 hb7
          obtain ⟨fn, tmps, assign, body, hy, hR⟩ := h6'h.out.yield hY'h.out
          gi_wp2_with fail
          refine hR.mono ?_; clear hy hR; clear fn tmps assign body
          rintro e W5 ⟨rfl, h7, hk7⟩
          have hb75 := (hk7.block wr.heap.size (lt_of_heap hb7'h.out) (.inr (.inr rfl))).trans hb7'h.out
          clear x0 x1 x2 x3 hk7
          have h7'h := Lib.hid h7
          have hb75'h := Lib.hid hb75
          clear h7 hb75
          gi_wp2_with fail
          refine (callsIn_wide.2 (words_any wr.heap.size 0 W5)).mono ?_
          rintro e W6 ⟨rfl, hB6⟩
          have h8 := h7'h.out.below hJ'h.out hB6
          have hb76 := heap_below hB6 hb75'h.out (lt_of_heap hb75'h.out)
          have h9 := h8.alloc hJ'h.out (.cells #[.pointer (some ⟨wr.heap.size, 1, none⟩), .pointer (some ⟨wr.heap.size, 2, none⟩), .pointer (some ⟨wr.heap.size, 3, none⟩)] 93)
          have hb8 : (W6.alloc (.cells #[.pointer (some ⟨wr.heap.size, 1, none⟩), .pointer (some ⟨wr.heap.size, 2, none⟩), .pointer (some ⟨wr.heap.size, 3, none⟩)] 93)).heap[W6.heap.size]? = _ := World.alloc_heap_new _ _
          have hb79 := heap_below ((Below.refl W6.heap.size W6).alloc (Nat.le_refl _) (.cells #[.pointer (some ⟨wr.heap.size, 1, none⟩), .pointer (some ⟨wr.heap.size, 2, none⟩), .pointer (some ⟨wr.heap.size, 3, none⟩)] 93)) hb76 (lt_of_heap hb76)
          have tc := h9.num.tks o ho8
          rw [hto'h.out] at tc
          have e0 := blk_cell (i := 0) hb79 rfl
          have i3 : (0 : Int) ≤ (o : Int) := by omega
          have i4 : (o : Int) < 8 := by omega
          have i5 : (t : Int) ≤ 3 := by omega
          have i6 : ¬ ((t : Int) < 0) := by omega
          have i7 : ¬ ((3 : Int) < (t : Int)) := by omega
          clear hB6 h8 hb76
          have h9'h := Lib.hid h9
          have hb8'h := Lib.hid hb8
          have hb79'h := Lib.hid hb79
          clear h9 hb8 hb79
          gi_wp2
          obtain ⟨B7, hB7e⟩ : ∃ B7, B7 = wr.heap.size := ⟨_, rfl⟩
          obtain ⟨B8, hB8e⟩ : ∃ B8, B8 = W6.heap.size := ⟨_, rfl⟩
          rw [← hB7e, ← hB8e]
          have h9 := h9'h.out
          have hb8 := hb8'h.out
          have hb79 := hb79'h.out
          rw [← hB7e] at h9 hb8 hb79
          rw [← hB8e] at h9 hb8
          clear h9'h hb8'h hb79'h tc e0 i1 i2 i3 i4 i6 i7
          generalize hWg : W6.alloc _ = W9 at h9 hb8 hb79 ⊢
          clear hWg
          have hwq : ∀ i, i < t → ∃ p x : Nat, (#[.pointer (some ⟨B7, 1, none⟩), .pointer (some ⟨B7, 2, none⟩), .pointer (some ⟨B7, 3, none⟩)] : Array Value)[i]? = some (.pointer (some ⟨B7, p, none⟩)) ∧
              (#[.int .i64 (o : Int), .int .u64 (key : Int), .int .u64 (a : Int), .int .u64 (b : Int)] : Array Value)[p]? = some (.int .u64 (x : Int)) ∧ (ww.take t).drop i = x :: (ww.take t).drop (i + 1) := by
            intro i hi
            have hx : ∀ x, ww[i]? = some x → (ww.take t).drop i = x :: (ww.take t).drop (i + 1) := fun x hx => drop_at (by rw [List.getElem?_take, if_pos hi]; exact hx)
            rcases (show i = 0 ∨ i = 1 ∨ i = 2 by omega) with rfl | rfl | rfl
            · exact ⟨1, key, rfl, rfl, hx key (by rw [hww3'h.out]; rfl)⟩
            · exact ⟨2, a, rfl, rfl, hx a (by rw [hww3'h.out]; rfl)⟩
            · exact ⟨3, b, rfl, rfl, hx b (by rw [hww3'h.out]; rfl)⟩
          have h9'h := Lib.hid h9
          have hb8'h := Lib.hid hb8
          have hb79'h := Lib.hid hb79
          have hwq'h := Lib.hid hwq
          have hB7e'h := Lib.hid hB7e
          have hB8e'h := Lib.hid hB8e
          clear h9 hb8 hb79 hwq hB7e hB8e
          gi_loopg [3, 67] t (fun q on ix wr => ∃ (i : Nat) (S : Nat → Prop), i + q = t ∧ on = .bool true ∧ ix = .int .i64 (i : Int) ∧ NumI J told bs s W ((ww.take t).drop i ++ R2) S wr ∧ S B7 ∧ S B8 ∧
            wr.heap[B7]? = some (.cells #[.int .i64 (o : Int), .int .u64 (key : Int), .int .u64 (a : Int), .int .u64 (b : Int)] 57) ∧
            wr.heap[B8]? = some (.cells #[.pointer (some ⟨B7, 1, none⟩), .pointer (some ⟨B7, 2, none⟩), .pointer (some ⟨B7, 3, none⟩)] 93))
          case atStart => exact ⟨0, _, by omega, rfl, rfl, h9'h.out, .inl (.inr rfl), .inr rfl, hb79'h.out, hb8'h.out⟩
          case round =>
            obtain ⟨i, S9, hi, rfl, rfl, hI9, s7, s8, y7, y8⟩ := hrel
            obtain ⟨go9, rfl⟩ : ∃ go9 : Nat, go9 = gk := ⟨_, rfl⟩
            by_cases hit : i < t
            · obtain ⟨p, x, z1, z2, z3⟩ := hwq'h.out i hit
              have u1 := blk_cell y8 z1
              have u2 := blk_cell y7 z2
              rw [z3] at hI9
              have i1 : (i : Int) < (t : Int) := by omega
              have i2 : (0 : Int) ≤ (i : Int) := by omega
              have hI9' : NumI J told bs s W (x :: ((ww.take t).drop (i + 1) ++ R2)) S9 wr := hI9
              clear hI9 z1 z2 z3
              have hi'h := Lib.hid hi
              have hI9''h := Lib.hid hI9'
              have s7'h := Lib.hid s7
              have s8'h := Lib.hid s8
              have y7'h := Lib.hid y7
              have y8'h := Lib.hid y8
              clear hi hI9' s7 s8 y7 y8
              obtain ⟨fn, tmps, assign, body, hy, hR⟩ := hI9''h.out.yield hY'h.out
              gi_wp2_with fail
              refine hR.mono ?_; clear hy hR; clear fn tmps assign body
              rintro e W10 ⟨rfl, h10, hk10⟩
              have y7' := (hk10.block B7 (lt_of_heap y7'h.out) (.inr s7'h.out)).trans y7'h.out
              have y8' := (hk10.block B8 (lt_of_heap y8'h.out) (.inr s8'h.out)).trans y8'h.out
              clear hk10 u1 u2
              have h10'h := Lib.hid h10
              have y7''h := Lib.hid y7'
              have y8''h := Lib.hid y8'
              clear h10 y7' y8'
              gi_wp2
              gi_roundg (go9 - 1)
              case measure => have := hi'h.out; omega
              case rel => exact ⟨i + 1, S9, by have := hi'h.out; omega, rfl, by go_num, h10'h.out, s7'h.out, s8'h.out, y7''h.out, y8''h.out⟩
            · have i1 : ¬ (i : Int) < (t : Int) := by omega
              have hit2 : i = t := by omega
              have hI9' : NumI J told bs s W ((r.cs.drop (j + 1)).flatMap encC ++ R1) S9 wr := by
                rw [hR2'h.out, hit2] at hI9
                rwa [List.drop_eq_nil_of_le (by rw [List.length_take]; omega), List.nil_append] at hI9
              clear hI9 s7 s8 y7 y8
              have hI9''h := Lib.hid hI9'
              have hit2'h := Lib.hid hit2
              clear hI9' hit2
              have hjr := hjl'h.out
              gi_wp2
              rw [← hsp'h.out]
              gi_roundg (go5 - 1)
              case measure => have := hj'h.out; omega
              case rel => exact ⟨j + 1, S9, by have := hj'h.out; omega, rfl, by go_num, hI9''h.out⟩
        · have i1 : ¬ (j : Int) < (r.len : Int) := by omega
          have h5' : NumI J told bs s W ((s.scr.lists.drop (k + 1)).flatMap encL ++ s.picks.length :: s.picks) S5 wr := by
            rw [List.drop_eq_nil_of_le (by have := hrl'h.out; omega), List.flatMap_nil, List.nil_append, hR1'h.out] at h5
            exact h5
          clear h5
          have h5''h := Lib.hid h5'
          clear h5'
          gi_wp2
          rw [← hlp]
          gi_roundg (go - 1)
          case measure => have := hk'h.out; omega
          case rel => exact ⟨k + 1, S5, by have := hk'h.out; omega, rfl, by go_num, h5''h.out⟩
    · have i1 : ¬ (k : Int) < (s.ln : Int) := by omega
      have hI4 : NumI J told bs s W (s.pn :: s.picks) S wr := by
        rw [List.drop_eq_nil_of_le (by unfold Sm.scr; rw [List.length_map]; have := hrlen'h.out; omega), List.flatMap_nil, List.nil_append] at hI
        have e : s.picks.length = s.pn := by have := hI.num.inn.picks.1; rw [u64s_length] at this; exact this.symm
        rwa [e] at hI
      have c4 := hI.num.c4
      have hpn := hN'h.out.inn.many
      clear hI
      have hI4'h := Lib.hid hI4
      clear hI4
      obtain ⟨fn, tmps, assign, body, hy, hR⟩ := hI4'h.out.yield hY'h.out
      gi_wp2_with fail
      refine hR.mono ?_; clear hy hR; clear fn tmps assign body
      rintro e W5 ⟨rfl, h5, -⟩
      have c5 := h5.num.c4
      clear c4
      have h5'h := Lib.hid h5
      clear h5
      gi_wp2
      gi_loopg [3, 94] s.pn (fun q on ix wr => ∃ (j : Nat) (S : Nat → Prop), j + q = s.pn ∧ on = .bool true ∧ ix = .int .i64 (j : Int) ∧ NumI J told bs s W (s.picks.drop j) S wr)
      case atStart => exact ⟨0, _, by omega, rfl, rfl, h5'h.out⟩
      case round =>
        obtain ⟨j, S6, hj, rfl, rfl, h6⟩ := hrel
        obtain ⟨go6, rfl⟩ : ∃ go6 : Nat, go6 = gk := ⟨_, rfl⟩
        clear c5
        have hpl2 : s.pn = s.picks.length := by have := h6.num.inn.picks.1; rw [u64s_length] at this; exact this
        by_cases hjl : j < s.pn
        · have i1 : (j : Int) < (s.pn : Int) := by omega
          have i2 : (0 : Int) ≤ (j : Int) := by omega
          obtain ⟨pb, po, hpp, hcs⟩ := h6.num.inn.picks.some' (by omega)
          have d1 : wr.cell? ⟨pb, po + j, none⟩ = some (.int .u64 ((nthN s.picks j : Nat) : Int)) := hcs j _ (u64s_at (by omega))
          have hd : s.picks.drop j = nthN s.picks j :: s.picks.drop (j + 1) := by
            refine drop_at ?_
            rw [List.getElem?_eq_getElem (by omega)]
            unfold nthN
            rw [List.getD_eq_getElem?_getD, List.getElem?_eq_getElem (by omega)]
            rfl
          rw [hd] at h6
          generalize nthN s.picks j = x at *
          clear hcs hd
          have h6'h := Lib.hid h6
          have hj'h := Lib.hid hj
          have hpl2'h := Lib.hid hpl2
          clear h6 hj hpl2
          obtain ⟨fn, tmps, assign, body, hy, hR⟩ := h6'h.out.yield hY'h.out
          rw [hpp]
          gi_wp2_with fail
          refine hR.mono ?_; clear hy hR; clear fn tmps assign body
          rintro e W7 ⟨rfl, h7, -⟩
          clear d1
          have h7'h := Lib.hid h7
          clear h7
          gi_wp2
          rw [← hpp]
          gi_roundg (go6 - 1)
          case measure => have := hj'h.out; omega
          case rel => exact ⟨j + 1, S6, by have := hj'h.out; omega, rfl, by go_num, h7'h.out⟩
        · have i1 : ¬ (j : Int) < (s.pn : Int) := by omega
          rw [List.drop_eq_nil_of_le (by omega)] at h6
          have h6'h := Lib.hid h6
          clear h6
          gi_wp2
          refine bodyPost_end (results_none rfl _ _ _) rfl ?_
          obtain ⟨pre, e1, e2⟩ := h6'h.out.pre
          rw [List.append_nil] at e1
          exact ⟨⟨_, rfl⟩, _, _, by rw [List.length_map, e1], ⟨pre, [], by rw [e1]; simp, rfl⟩, e2⟩
end Go.Proofs.YtifofdciablljaaDoor
