/-
  Package model: the least, and the greatest, number of keys behind calls.
-/
import Derived.Test.YtihccjmmnpldjaaModelT
import Derived.Test.YtihccjmmnpldjaaRoundT
set_option linter.unusedSimpArgs false
set_option linter.unusedVariables false
set_option maxRecDepth 100000
namespace Go.Proofs.Ytihccjmmnpldjaa
open Go.RowKit

def leastK (l : List Cl) (ps : Ps) : Nat → Nat
  | 0 => ps.length
  | k + 1 => min (leastK l ps k) (mapP l ps (k + 1)).length
def mostK (l : List Cl) (ps : Ps) : Nat → Nat
  | 0 => ps.length
  | k + 1 => max (mostK l ps k) (mapP l ps (k + 1)).length
theorem leastK_le (l : List Cl) (ps : Ps) : ∀ k, leastK l ps k ≤ ps.length + k
  | 0 => Nat.le_refl _
  | k + 1 => by have := leastK_le l ps k; rw [leastK]; omega
theorem mostK_le (l : List Cl) (ps : Ps) : ∀ k, mostK l ps k ≤ ps.length + k
  | 0 => Nat.le_refl _
  | k + 1 => by have := mostK_le l ps k; have := len_mapP l ps (k + 1); rw [mostK]; omega
/-- What the loop's body holds. -/
structure SizI (w : World) (L : List Blk3) (bt tb b1 b2 : Nat) (l : List Cl) (ps : Ps) (vs : Vs) (S : Nat → Prop) (W : World) : Prop where
  rows : HasL W L
  mine : ∀ x ∈ L, ¬ S x.1
  old : Old w.heap.size w S W
  ptr : W.heap[bt]? = some (.cells #[.pointer (some ⟨tb, 0, none⟩)] 63 (0, 0)) ∧ ¬ S bt
  least : W.heap[b1]? = some (.cells #[.int .i64 (leastK l ps vs.length)] 3 (0, 0)) ∧ ¬ S b1
  most : W.heap[b2]? = some (.cells #[.int .i64 (mostK l ps vs.length)] 3 (0, 0)) ∧ ¬ S b2
theorem SizI.stable (w : World) (L : List Blk3) (bt tb b1 b2 : Nat) (l : List Cl) (ps : Ps) (vs : Vs) : Stable (SizI w L bt tb b1 b2 l ps vs) := by
  rintro S S' W W' ⟨h1, h2, h3, ⟨h4, g4⟩, ⟨h5, g5⟩, ⟨h6, g6⟩⟩ hf
  obtain ⟨g1, g2⟩ := h1.foreign h2 hf
  exact ⟨g1, g2, Old.stable _ _ _ _ _ _ h3 hf, ⟨hf.heap' g4 h4, hf.not (lt_of_heap h4) g4⟩, ⟨hf.heap' g5 h5, hf.not (lt_of_heap h5) g5⟩, ⟨hf.heap' g6 h6, hf.not (lt_of_heap h6) g6⟩⟩
structure SizA (tm : An → Bool → Act) (w : World) (L : List Blk3) (bt tb b1 b2 : Nat) (l : List Cl) (ps : Ps) (vs : Vs) (v : Array Value) (a₁ : Act) (S : Nat → Prop) (W : World) : Prop where
  held : SizI w L bt tb b1 b2 l ps vs S W
  blk : ∃ c, l[vs.length]? = some c ∧ a₁ = tm (toldA c (mapP l ps vs.length)) (isOp c)
theorem SizA.stable (tm : An → Bool → Act) (w : World) (L : List Blk3) (bt tb b1 b2 : Nat) (l : List Cl) (ps : Ps) (vs : Vs) (v : Array Value) (a₁ : Act) : Stable (SizA tm w L bt tb b1 b2 l ps vs v a₁) := by
  rintro S S' W W' ⟨h1, h2⟩ hf
  exact ⟨SizI.stable _ _ _ _ _ _ _ _ _ _ _ _ _ h1 hf, h2⟩
def noXv (c : Code) (vs : Vs) (S : Nat → Prop) (W : World) : Prop := False
theorem noXv_stable (c : Code) (vs : Vs) : Stable (noXv c vs) := fun _ _ _ _ h _ => h.elim
set_option maxHeartbeats 8000000 in
theorem mSizes_yes (sp slc : Option Addr) (n cap nc capc : Nat) (ps : Ps) (l : List Cl) (w : World) (h : SlK w 2 sp n (prs ps)) (hc : SlK w 4 slc nc (cls l)) (hup : upB ps = true) (h6 : ∀ c ∈ l, c.op ≠ 6) (hn : ps.length + l.length ≤ 4096) (hall : l.all isOp = true) :
    Calls Try.prog 24 #[.agg #[.slice sp n cap], .slice slc nc capc] w fun e w' => e = .returned (.tuple #[.int .i64 (leastK l ps l.length), .int .i64 (mostK l ps l.length), .int .i64 0]) ∧ Below w.heap.size w w' := by
  have H0 := (((Hs.nil w).new2 #[.slice sp n cap] #[.int .i64 0] 24 3).new #[.int .i64 0] 3).new #[.int .i64 0] 28
  simp only [World.size_alloc] at H0
  obtain ⟨W0, hW0⟩ : ∃ W0, W0 = ((((w.alloc (.cells #[.slice sp n cap] 24)).alloc (.cells #[.int .i64 0] 3)).alloc (.cells #[.int .i64 0] 3)).alloc (.cells #[.int .i64 0] 28)) := ⟨_, rfl⟩
  rw [← hW0] at H0
  have C := mcheck_yes sp n cap ps W0 (h.below H0.old) hup
  have hlps := prs_len h
  have hn4 : n ≤ 4096 := by omega
  have h'h := Lib.hid h
  have hc'h := Lib.hid hc
  have hup'h := Lib.hid hup
  have H0'h := Lib.hid H0
  have hW0'h := Lib.hid hW0
  have C'h := Lib.hid C
  have h6'h := Lib.hid h6
  have hall'h := Lib.hid hall
  have hlps'h := Lib.hid hlps
  clear h hc hup H0 hW0 C h6 hall hlps
  refine (callsIn_wide (n := 0)).1 ?_
  refine callsIn_of_wp_marks Try.func24 rfl trivial ?_
  simp only [Try.ntmps24, List.size_toArray, List.length_cons, List.length_nil, Nat.reduceAdd, Nat.reduceSub, Array.replicate_succ, Array.replicate_zero, List.push_toArray, List.append_toArray, List.nil_append, List.cons_append]
  refine wpIn_wide.2 ?_
  go_upto_region 1 with fail
  change Code.wp _ _ _ _ ((((w.alloc (.cells #[.slice sp n cap] 24)).alloc (.cells #[.int .i64 0] 3)).alloc (.cells #[.int .i64 0] 3)).alloc (.cells #[.int .i64 0] 28))
  rw [← hW0'h.out]
  have x0 : W0.cell? ⟨w.heap.size, 0, none⟩ = some (.slice sp n cap) := blk_cell (i := 0) H0'h.out.rows.2.2.2.1 rfl
  go_upto_region 4 with (go_at_call 9; refine C'h.out.mono ?_; rintro e w2 ⟨rfl, hb2⟩)
  clear x0
  have H2 := H0'h.out.next hb2
  have O := mof_any sp n cap ps w2 (h'h.out.below H2.old) hn4
  have x0 : w2.cell? ⟨w.heap.size, 0, none⟩ = some (.slice sp n cap) := blk_cell (i := 0) H2.rows.2.2.2.1 rfl
  have H2'h := Lib.hid H2
  have O'h := Lib.hid O
  have hb2'h := Lib.hid hb2
  clear H2 O hb2
  go_upto_region 5 with (go_at_call 26; refine O'h.out.mono ?_; rintro e w3 ⟨tb, g, rfl, hb3, hT3⟩)
  clear x0
  have H3 := H2'h.out.next hb3
  have H4 := H3.new #[.pointer (some ⟨tb, 0, none⟩)] 63
  have hT4 := hT3.below (W' := w3.alloc (.cells #[.pointer (some ⟨tb, 0, none⟩)] 63)) ((Below.refl _ _).alloc (Nat.le_refl _) _)
  obtain ⟨W4, hW4⟩ : ∃ W4, W4 = w3.alloc (.cells #[.pointer (some ⟨tb, 0, none⟩)] 63) := ⟨_, rfl⟩
  rw [← hW4] at H4 hT4
  rw [← hW4]
  have x0 : W4.cell? ⟨w.heap.size, 0, none⟩ = some (.slice sp n cap) := blk_cell (i := 0) H4.rows.2.2.2.2.1 rfl
  have e1 : ∀ o, (W4.alloc o).cell? ⟨w.heap.size, 0, none⟩ = some (.slice sp n cap) := fun o => keep_alloc _ _ _ _ x0
  have e2 : ∀ o, (W4.drew.alloc o).cell? ⟨w.heap.size, 0, none⟩ = some (.slice sp n cap) := fun o => keep_alloc _ _ _ _ (show W4.drew.cell? _ = _ from x0)
  have H3'h := Lib.hid H3
  have H4'h := Lib.hid H4
  have hb3'h := Lib.hid hb3
  have hT3'h := Lib.hid hT3
  have hT4'h := Lib.hid hT4
  have hW4'h := Lib.hid hW4
  clear H3 H4 hb3 hT3 hT4 hW4
  go_region_held3 (fun w' => w'.cell? ⟨w.heap.size, 0, none⟩ = some (.slice sp n cap)) (go_keep) (fail)
  · skip
    have hbA : Below W4.heap.size W4 (((W4.alloc (.cells #[.int .i64 n] 3)).alloc (.cells #[.int .i64 n] 3)).drew) := Below.drew (((Below.refl _ _).alloc (Nat.le_refl _) _).alloc (by simp) _)
    have HA := (H4'h.out.new2 #[.int .i64 n] #[.int .i64 n] 3 3).drew
    have hTA := hT4'h.out.below hbA
    have hzA : (((W4.alloc (.cells #[.int .i64 n] 3)).alloc (.cells #[.int .i64 n] 3)).drew).heap.size = W4.heap.size + 2 := by simp
    clear e1 e2 x0
    generalize World.drew _ = WA at HA hTA hzA hbA ⊢
    have A4 := answers_any tb slc nc capc WA
    obtain ⟨W5, hW5⟩ : ∃ W5, W5 = (WA.alloc (.cells #[.pointer (some ⟨tb, 0, none⟩)] 63)).alloc (.cells #[.slice slc nc capc] 25) := ⟨_, rfl⟩
    rw [← hW5] at A4
    have xp : WA.cell? ⟨w3.heap.size, 0, none⟩ = some (.pointer (some ⟨tb, 0, none⟩)) := blk_cell (i := 0) HA.rows.2.2.1 rfl
    have A4'h := Lib.hid A4
    have hW5'h := Lib.hid hW5
    have HA'h := Lib.hid HA
    have hTA'h := Lib.hid hTA
    have hzA'h := Lib.hid hzA
    have hbA'h := Lib.hid hbA
    clear A4 hW5 HA hTA hzA hbA
    go_wp2_with (go_at_call 31; refine A4'h.out.mono ?_; rintro e w5 ⟨rfl, rfl⟩)
    clear xp
    have hTA := hTA'h.out
    have h5 := hW5'h.out
    have hb5 : Below WA.heap.size WA w5 := by rw [h5]; exact ((Below.refl _ _).alloc (Nat.le_refl _) _).alloc (by simp) _
    have hz5 : w5.heap.size = WA.heap.size + 2 := by rw [h5]; simp
    have hzA := hzA'h.out
    have hz4 : W4.heap.size = w3.heap.size + 1 := by rw [hW4'h.out]; simp
    have H5 := HA'h.out.next hb5
    have hT5 := hTA.below hb5
    have hR5 : AnsR WA.heap.size (WA.heap.size + 1) tb slc nc capc l w5 := ⟨by rw [h5]; exact heap_alloc2_old WA _ _, by rw [h5]; exact heap_alloc2_new WA _ _, hc'h.out.below H5.old⟩
    have hgl : w2.heap.size ≤ g := hT5.lowrow ⟨g, 0, none⟩ rfl
    have hgs : g < w3.heap.size := hT3'h.out.spot g rfl
    have hts : tb < w3.heap.size := lt_of_heap hT3'h.out.tbl
    have hwl : w.heap.size ≤ w2.heap.size := H2'h.out.old.size
    have hsl : ∀ b, 0 < nc → slc.map (·.block) = some b → b < w.heap.size := by
      intro b h0 e
      obtain ⟨b', off, rfl, hcs⟩ := hc'h.out.some' h0
      cases e
      have h1 := hc'h.out.1
      obtain ⟨u, us, hu⟩ := List.exists_cons_of_ne_nil (l := cls l) (fun e => by rw [e] at h1; simp at h1; omega)
      have := lt_of_cell (hcs 0 u (by rw [hu]; rfl))
      exact this
    have htl := hT5.low
    have hap : ∀ b, ansRO WA.heap.size (WA.heap.size + 1) slc nc b → b ≠ tb ∧ (some (⟨g, 0, none⟩ : Addr)).map (·.block) ≠ some b := by
      rintro b (rfl | rfl | ⟨h0, e⟩)
      · exact ⟨by omega, fun e => by simp at e; omega⟩
      · exact ⟨by omega, fun e => by simp at e; omega⟩
      · have := hsl b h0 e
        exact ⟨by omega, fun e => by simp at e; omega⟩
    have it := answers_it w2.heap.size WA.heap.size (WA.heap.size + 1) tb (some ⟨g, 0, none⟩) slc n n nc capc l ps w5 hR5 hT5 hup'h.out h6'h.out hn hap
    obtain ⟨L, hL⟩ : ∃ L : List Blk3, L = [(w.heap.size + 1 + 1 + 1, #[.int .i64 0], 28), (w.heap.size + 1 + 1, #[.int .i64 0], 3), (w.heap.size + 1, #[.int .i64 0], 3), (w.heap.size, #[.slice sp n cap], 24)] := ⟨_, rfl⟩
    have HL := H5.tail.tail.tail
    rw [← hL] at HL
    have hLlow := HL.low
    have hLdesc := HL.desc
    have hL2 : ∀ x ∈ L, x.1 < w2.heap.size := by rw [hL]; exact H2'h.out.lt
    have hb12 : w3.heap.size < W4.heap.size ∧ w3.heap.size < W4.heap.size + 1 ∧ W4.heap.size ≠ W4.heap.size + 1 ∧ W4.heap.size < WA.heap.size ∧ W4.heap.size + 1 < WA.heap.size := by omega
    have hI0 : SizI w L w3.heap.size tb (W4.heap.size) (W4.heap.size + 1) l ps [] (fun b => b = tb ∨ (some (⟨g, 0, none⟩ : Addr)).map (·.block) = some b) w5 := by
      have hS : ∀ b, b ≠ tb → b ≠ g → ¬ (b = tb ∨ (some (⟨g, 0, none⟩ : Addr)).map (·.block) = some b) := fun b h1 h2 h => h.elim h1 (fun e => by simp at e; exact h2 e.symm)
      refine ⟨HL.rows, fun x hx => hS _ (by have := hL2 x hx; omega) (by have := hL2 x hx; omega), ⟨H5.old, Nat.le_refl _, fun b hb => hS _ (by omega) (by omega)⟩, ⟨H5.rows.2.2.1, hS _ (by omega) (by omega)⟩, ⟨?_, hS _ (by omega) (by omega)⟩, ⟨?_, hS _ (by omega) (by omega)⟩⟩
      · rw [show leastK l ps ([] : Vs).length = n from hlps'h.out.symm]; exact H5.rows.2.1
      · rw [show mostK l ps ([] : Vs).length = n from hlps'h.out.symm]; exact H5.rows.1
    have hRO : ∀ b, ansRO WA.heap.size (WA.heap.size + 1) slc nc b → b < w5.heap.size ∧ ¬ (b = tb ∨ (some (⟨g, 0, none⟩ : Addr)).map (·.block) = some b) := fun b hb => ⟨hR5.lt b hb, fun h => h.elim (hap b hb).1 (hap b hb).2⟩
    have hS0 : ∀ b, (b = tb ∨ (some (⟨g, 0, none⟩ : Addr)).map (·.block) = some b) → b < w5.heap.size := by
      rintro b (e | e)
      · omega
      · simp at e; omega
    obtain ⟨p1, hp1⟩ : ∃ p1, p1 = W4.heap.size := ⟨_, rfl⟩
    obtain ⟨p2, hp2⟩ : ∃ p2, p2 = W4.heap.size + 1 := ⟨_, rfl⟩
    rw [← hp2, ← hp1] at hI0 hb12 ⊢
    have hTA'h := Lib.hid hTA
    have h5'h := Lib.hid h5
    have hb5'h := Lib.hid hb5
    have hz5'h := Lib.hid hz5
    have hz4'h := Lib.hid hz4
    have hzA'h := Lib.hid hzA
    have H5'h := Lib.hid H5
    have hT5'h := Lib.hid hT5
    have hR5'h := Lib.hid hR5
    have hgl'h := Lib.hid hgl
    have hgs'h := Lib.hid hgs
    have hts'h := Lib.hid hts
    have hwl'h := Lib.hid hwl
    have hsl'h := Lib.hid hsl
    have hap'h := Lib.hid hap
    have it'h := Lib.hid it
    have hI0'h := Lib.hid hI0
    have hRO'h := Lib.hid hRO
    have hS0'h := Lib.hid hS0
    have hL'h := Lib.hid hL
    have HL'h := Lib.hid HL
    have hLlow'h := Lib.hid hLlow
    have hLdesc'h := Lib.hid hLdesc
    have hL2'h := Lib.hid hL2
    have hb12'h := Lib.hid hb12
    have htl'h := Lib.hid htl
    clear hTA h5 hb5 hz5 hz4 hzA H5 hT5 hR5 hgl hgs hts hwl hsl hap it hI0 hRO hS0 hL HL hLlow hLdesc hL2 hb12 htl
    clear hp1 hp2
    refine (wpIn_wide (n := 0)).1 ?_
    refine' wpIn_rangeH rfl (fun h => by cases h) rfl trivial enters_answers it'h.out (AnsY.keeps _ _ _ _ _) hS0'h.out (fun vs v S W hy => by rw [hy.last]; exact toldV_size _ _ _) hRO'h.out
      (SizI w L w3.heap.size tb p1 p2 l ps) noXv (SizI.stable _ _ _ _ _ _ _ _) noXv_stable hI0'h.out
      (SizA (fun a ok => { tmps := #[.agg #[.slice sp n cap], .slice slc nc capc, .pointer (some ⟨w.heap.size, 0, none⟩), undef, .pointer (some ⟨w.heap.size + 1, 0, none⟩), .pointer (some ⟨w.heap.size + 1 + 1, 0, none⟩), .pointer (some ⟨w.heap.size + 1 + 1 + 1, 0, none⟩), .int .i64 0, .pointer (some ⟨w3.heap.size, 0, none⟩), .pointer (some ⟨p1, 0, none⟩), .pointer (some ⟨p2, 0, none⟩), undef, .bool ok, .agg #[.slice sp n cap], .int .i64 0, .int .i64 0, .bool false, undef, .agg #[.slice sp n cap], .pointer (some ⟨tb, 0, none⟩), .pointer (some ⟨w.heap.size, 0, none⟩), .slice sp n cap, .int .i64 n, .pointer (some ⟨w.heap.size, 0, none⟩), .slice sp n cap, .int .i64 n, .pointer (some ⟨tb, 0, none⟩), .slice slc nc capc, .func (.func 41) #[] #[.pointer (some ⟨WA.heap.size + 1, 0, none⟩), .pointer (some ⟨WA.heap.size, 0, none⟩)], .agg (anA a none 0 0), .bool ok, undef, undef, undef, undef, undef, undef, undef, undef, undef, undef, undef, undef, undef, undef, undef, undef, undef, undef, undef, undef], defers := [] }) w L w3.heap.size tb p1 p2 l ps) (SizA.stable _ _ _ _ _ _ _ _ _) ?assign ?body ?done (fun _ _ _ _ _ _ _ _ _ _ _ _ h _ => h.elim)
    case assign =>
      intro ly vs v S S1 W hk hl hs1 hro hSb hY hI
      obtain ⟨c, hc⟩ : ∃ c, l[vs.length]? = some c := ⟨_, List.getElem?_eq_getElem hk⟩
      have hv := hY.last
      rw [toldV_at hc] at hv
      have hok : isOp c = true := (List.all_eq_true.1 hall'h.out) c (List.mem_of_getElem? hc)
      rw [hok] at hv
      obtain ⟨a, ha⟩ : ∃ a, a = toldA c (mapP l ps vs.length) := ⟨_, rfl⟩
      rw [← ha] at hv
      subst hv
      have hY'h := Lib.hid hY
      have hI'h := Lib.hid hI
      have hro'h := Lib.hid hro
      have hSb'h := Lib.hid hSb
      have hc'h := Lib.hid hc
      have ha'h := Lib.hid ha
      have hok'h := Lib.hid hok
      clear hY hI hro hSb hc ha hok
      gi_wp2
      exact ⟨⟨hI'h.out, c, hc'h.out, by rw [← ha'h.out, hok'h.out]⟩, Kept.refl _ _⟩
    case body =>
      rintro ly vs v S S1 a₁ W r hk hl hs1 hlr hro hSb hY ⟨hI, c, hc, rfl⟩
      have hok : isOp c = true := (List.all_eq_true.1 hall'h.out) c (List.mem_of_getElem? hc)
      rw [hok]
      obtain ⟨a, ha⟩ : ∃ a, a = toldA c (mapP l ps vs.length) := ⟨_, rfl⟩
      rw [← ha]
      obtain ⟨_, hSt, sp', n', cap', hT, hsS⟩ := hY
      obtain ⟨a0, ha0⟩ : ∃ a0 : Int, a0 = (leastK l ps vs.length : Int) := ⟨_, rfl⟩
      obtain ⟨a1, ha1⟩ : ∃ a1 : Int, a1 = (mostK l ps vs.length : Int) := ⟨_, rfl⟩
      have z0 : W.drew.cell? ⟨p1, 0, none⟩ = some (.int .i64 a0) := by rw [ha0]; exact blk_cell (W := W.drew) hI.least.1 rfl
      have z1 : W.drew.cell? ⟨p2, 0, none⟩ = some (.int .i64 a1) := by rw [ha1]; exact blk_cell (W := W.drew) hI.most.1 rfl
      have z2 : W.drew.cell? ⟨w3.heap.size, 0, none⟩ = some (.pointer (some ⟨tb, 0, none⟩)) := blk_cell (W := W.drew) hI.ptr.1 rfl
      have z3 : W.drew.cell? ⟨tb, 0, none⟩ = some (.slice sp' n' cap') := blk_cell (W := W.drew) hT.tbl rfl
      have fr1 : W.drew.frozen? ⟨p1, 0, none⟩ = false := blk_free (W := W.drew) 0 hI.least.1
      have fr2 : W.drew.frozen? ⟨p2, 0, none⟩ = false := blk_free (W := W.drew) 0 hI.most.1
      have hp12 : p1 ≠ p2 := hb12'h.out.2.2.1
      have fr2' : ∀ v, (W.setCell ⟨p1, 0, none⟩ v).frozen? ⟨p2, 0, none⟩ = false := fun v => (World.frozen?_of_block (Below.heap_setCell _ _ _ _ (fun e => hp12 e.symm))).trans (blk_free 0 hI.most.1)
      have z1' : ∀ v, (W.setCell ⟨p1, 0, none⟩ v).cell? ⟨p2, 0, none⟩ = some (.int .i64 a1) := fun v => (World.cell?_of_block (Below.heap_setCell _ _ _ _ (fun e => hp12 e.symm))).trans (by rw [ha1]; exact blk_cell hI.most.1 rfl)
      have htp : tb ≠ p1 ∧ tb ≠ p2 ∧ w3.heap.size ≠ p1 ∧ w3.heap.size ≠ p2 := by have := hb12'h.out; have := hts'h.out; omega
      have z2' : ∀ (W : World) (o : Nat) v, (W.setCell ⟨p1, o, none⟩ v).cell? ⟨w3.heap.size, 0, none⟩ = W.cell? ⟨w3.heap.size, 0, none⟩ := fun W o v => World.cell?_of_block (Below.heap_setCell _ _ _ _ htp.2.2.1)
      have z3' : ∀ (W : World) (o : Nat) v, (W.setCell ⟨p1, o, none⟩ v).cell? ⟨tb, 0, none⟩ = W.cell? ⟨tb, 0, none⟩ := fun W o v => World.cell?_of_block (Below.heap_setCell _ _ _ _ htp.1)
      have z2'' : ∀ (W : World) (o : Nat) v, (W.setCell ⟨p2, o, none⟩ v).cell? ⟨w3.heap.size, 0, none⟩ = W.cell? ⟨w3.heap.size, 0, none⟩ := fun W o v => World.cell?_of_block (Below.heap_setCell _ _ _ _ htp.2.2.2)
      have z3'' : ∀ (W : World) (o : Nat) v, (W.setCell ⟨p2, o, none⟩ v).cell? ⟨tb, 0, none⟩ = W.cell? ⟨tb, 0, none⟩ := fun W o v => World.cell?_of_block (Below.heap_setCell _ _ _ _ htp.2.1)
      have z5 : W.cell? ⟨w3.heap.size, 0, none⟩ = some (.pointer (some ⟨tb, 0, none⟩)) := z2
      have z6 : W.cell? ⟨tb, 0, none⟩ = some (.slice sp' n' cap') := z3
      have hI'h := Lib.hid hI
      have hc'h := Lib.hid hc
      have ha'h := Lib.hid ha
      have hok'h := Lib.hid hok
      have hT'h := Lib.hid hT
      have hSt'h := Lib.hid hSt
      have hsS'h := Lib.hid hsS
      have hro'h := Lib.hid hro
      have hSb'h := Lib.hid hSb
      have hlr'h := Lib.hid hlr
      have ha0'h := Lib.hid ha0
      have ha1'h := Lib.hid ha1
      have hp12'h := Lib.hid hp12
      have htp'h := Lib.hid htp
      clear hI hc ha hok hT hSt hsS hro hSb hlr ha0 ha1 hp12 htp
      gi_wp2
      refine wpIn_round_heldT ⟨16, fun w' => w'.cell? ⟨p1, 0, none⟩ = some (.int .i64 a0), 17, fun w' => w'.cell? ⟨p2, 0, none⟩ = some (.int .i64 a1), fun w' => w'.cell? ⟨w3.heap.size, 0, none⟩ = some (.pointer (some ⟨tb, 0, none⟩)) ∧ w'.cell? ⟨tb, 0, none⟩ = some (.slice sp' n' cap')⟩ (by kernel_rfl) (by kernel_rfl) (inBlock_noLet rangePost_noLet) ?_
      refine wpAnyT_take true false (i := 0) (v := .int .i64 a0) rfl (by kernel_rfl) (by kernel_rfl) (by kernel_rfl) (by kernel_rfl) (fun _ _ _ h => h) (Or.inl ⟨by rfl, ?_⟩) ⟨fun _ => z0, fun _ => z1, z2, z3⟩ ?_
      · intro w hSw; obtain ⟨s0, s1, s2, s3⟩ := hSw; simp only [true_implies, Bool.false_eq_true, false_implies] at s0 s1; (try dsimp only at s2 s3); go_simp
      try simp only [Act.put, List.setIfInBounds_toArray, List.set_cons_zero, List.set_cons_succ]
      refine wpAnyT_take false false (i := 1) (v := .pointer (some ⟨tb, 0, none⟩)) rfl (by kernel_rfl) (by kernel_rfl) (by kernel_rfl) (by kernel_rfl) (fun _ _ _ h => h) (Or.inl ⟨by rfl, ?_⟩) ⟨fun _ => z0, fun _ => z1, z2, z3⟩ ?_
      · intro w hSw; obtain ⟨s0, s1, s2, s3⟩ := hSw; simp only [true_implies, Bool.false_eq_true, false_implies] at s0 s1; (try dsimp only at s2 s3); go_simp
      try simp only [Act.put, List.setIfInBounds_toArray, List.set_cons_zero, List.set_cons_succ]
      refine wpAnyT_take false false (i := 2) (v := .pointer (some ⟨tb, 0, none⟩)) rfl (by kernel_rfl) (by kernel_rfl) (by kernel_rfl) (by kernel_rfl) (fun _ _ _ h => h) (Or.inl ⟨by rfl, ?_⟩) ⟨fun _ => z0, fun _ => z1, z2, z3⟩ ?_
      · intro w hSw; obtain ⟨s0, s1, s2, s3⟩ := hSw; simp only [true_implies, Bool.false_eq_true, false_implies] at s0 s1; (try dsimp only at s2 s3); go_simp
      try simp only [Act.put, List.setIfInBounds_toArray, List.set_cons_zero, List.set_cons_succ]
      refine wpAnyT_take false false (i := 3) (v := .pointer (some ⟨tb, 0, none⟩)) rfl (by kernel_rfl) (by kernel_rfl) (by kernel_rfl) (by kernel_rfl) (fun _ _ _ h => h) (Or.inl ⟨by rfl, ?_⟩) ⟨fun _ => z0, fun _ => z1, z2, z3⟩ ?_
      · intro w hSw; obtain ⟨s0, s1, s2, s3⟩ := hSw; simp only [true_implies, Bool.false_eq_true, false_implies] at s0 s1; (try dsimp only at s2 s3); go_simp
      try simp only [Act.put, List.setIfInBounds_toArray, List.set_cons_zero, List.set_cons_succ]
      refine wpAnyT_take false false (i := 4) (v := .pointer (some ⟨tb, 0, none⟩)) rfl (by kernel_rfl) (by kernel_rfl) (by kernel_rfl) (by kernel_rfl) (fun _ _ _ h => h) (Or.inl ⟨by rfl, ?_⟩) ⟨fun _ => z0, fun _ => z1, z2, z3⟩ ?_
      · intro w hSw; obtain ⟨s0, s1, s2, s3⟩ := hSw; simp only [true_implies, Bool.false_eq_true, false_implies] at s0 s1; (try dsimp only at s2 s3); go_simp
      try simp only [Act.put, List.setIfInBounds_toArray, List.set_cons_zero, List.set_cons_succ]
      refine wpAnyT_take false false (i := 5) (v := .slice sp' n' cap') rfl (by kernel_rfl) (by kernel_rfl) (by kernel_rfl) (by kernel_rfl) (fun _ _ _ h => h) (Or.inl ⟨by rfl, ?_⟩) ⟨fun _ => z0, fun _ => z1, z2, z3⟩ ?_
      · intro w hSw; obtain ⟨s0, s1, s2, s3⟩ := hSw; simp only [true_implies, Bool.false_eq_true, false_implies] at s0 s1; (try dsimp only at s2 s3); go_simp
      try simp only [Act.put, List.setIfInBounds_toArray, List.set_cons_zero, List.set_cons_succ]
      refine wpAnyT_take false false (i := 6) (v := .int .i64 (n' : Int)) rfl (by kernel_rfl) (by kernel_rfl) (by kernel_rfl) (by kernel_rfl) (fun _ _ _ h => h) (Or.inl ⟨by rfl, ?_⟩) ⟨fun _ => z0, fun _ => z1, z2, z3⟩ ?_
      · intro w hSw; obtain ⟨s0, s1, s2, s3⟩ := hSw; simp only [true_implies, Bool.false_eq_true, false_implies] at s0 s1; (try dsimp only at s2 s3); go_simp
      try simp only [Act.put, List.setIfInBounds_toArray, List.set_cons_zero, List.set_cons_succ]
      refine wpAnyT_take false false (i := 7) (v := .int .i64 (min a0 (n' : Int))) rfl (by kernel_rfl) (by kernel_rfl) (by kernel_rfl) (by kernel_rfl) (fun _ _ _ h => h) (Or.inl ⟨by rfl, ?_⟩) ⟨fun _ => z0, fun _ => z1, z2, z3⟩ ?_
      · intro w hSw; obtain ⟨s0, s1, s2, s3⟩ := hSw; simp only [true_implies, Bool.false_eq_true, false_implies] at s0 s1; (try dsimp only at s2 s3); go_simp; split <;> omega
      try simp only [Act.put, List.setIfInBounds_toArray, List.set_cons_zero, List.set_cons_succ]
      refine wpAnyT_take false true (i := 8) (v := .int .i64 a1) rfl (by kernel_rfl) (by kernel_rfl) (by kernel_rfl) (by kernel_rfl) (fun _ _ _ h => h) (Or.inl ⟨by rfl, ?_⟩) ⟨fun _ => z0, fun _ => z1, z2, z3⟩ ?_
      · intro w hSw; obtain ⟨s0, s1, s2, s3⟩ := hSw; simp only [true_implies, Bool.false_eq_true, false_implies] at s0 s1; (try dsimp only at s2 s3); go_simp
      try simp only [Act.put, List.setIfInBounds_toArray, List.set_cons_zero, List.set_cons_succ]
      refine wpAnyT_take false false (i := 9) (v := .pointer (some ⟨tb, 0, none⟩)) rfl (by kernel_rfl) (by kernel_rfl) (by kernel_rfl) (by kernel_rfl) (fun _ _ _ h => h) (Or.inl ⟨by rfl, ?_⟩) ⟨fun _ => z0, fun _ => z1, z2, z3⟩ ?_
      · intro w hSw; obtain ⟨s0, s1, s2, s3⟩ := hSw; simp only [true_implies, Bool.false_eq_true, false_implies] at s0 s1; (try dsimp only at s2 s3); go_simp
      try simp only [Act.put, List.setIfInBounds_toArray, List.set_cons_zero, List.set_cons_succ]
      refine wpAnyT_take false false (i := 10) (v := .pointer (some ⟨tb, 0, none⟩)) rfl (by kernel_rfl) (by kernel_rfl) (by kernel_rfl) (by kernel_rfl) (fun _ _ _ h => h) (Or.inl ⟨by rfl, ?_⟩) ⟨fun _ => z0, fun _ => z1, z2, z3⟩ ?_
      · intro w hSw; obtain ⟨s0, s1, s2, s3⟩ := hSw; simp only [true_implies, Bool.false_eq_true, false_implies] at s0 s1; (try dsimp only at s2 s3); go_simp
      try simp only [Act.put, List.setIfInBounds_toArray, List.set_cons_zero, List.set_cons_succ]
      refine wpAnyT_take false false (i := 11) (v := .pointer (some ⟨tb, 0, none⟩)) rfl (by kernel_rfl) (by kernel_rfl) (by kernel_rfl) (by kernel_rfl) (fun _ _ _ h => h) (Or.inl ⟨by rfl, ?_⟩) ⟨fun _ => z0, fun _ => z1, z2, z3⟩ ?_
      · intro w hSw; obtain ⟨s0, s1, s2, s3⟩ := hSw; simp only [true_implies, Bool.false_eq_true, false_implies] at s0 s1; (try dsimp only at s2 s3); go_simp
      try simp only [Act.put, List.setIfInBounds_toArray, List.set_cons_zero, List.set_cons_succ]
      refine wpAnyT_take false false (i := 12) (v := .pointer (some ⟨tb, 0, none⟩)) rfl (by kernel_rfl) (by kernel_rfl) (by kernel_rfl) (by kernel_rfl) (fun _ _ _ h => h) (Or.inl ⟨by rfl, ?_⟩) ⟨fun _ => z0, fun _ => z1, z2, z3⟩ ?_
      · intro w hSw; obtain ⟨s0, s1, s2, s3⟩ := hSw; simp only [true_implies, Bool.false_eq_true, false_implies] at s0 s1; (try dsimp only at s2 s3); go_simp
      try simp only [Act.put, List.setIfInBounds_toArray, List.set_cons_zero, List.set_cons_succ]
      refine wpAnyT_take false false (i := 13) (v := .slice sp' n' cap') rfl (by kernel_rfl) (by kernel_rfl) (by kernel_rfl) (by kernel_rfl) (fun _ _ _ h => h) (Or.inl ⟨by rfl, ?_⟩) ⟨fun _ => z0, fun _ => z1, z2, z3⟩ ?_
      · intro w hSw; obtain ⟨s0, s1, s2, s3⟩ := hSw; simp only [true_implies, Bool.false_eq_true, false_implies] at s0 s1; (try dsimp only at s2 s3); go_simp
      try simp only [Act.put, List.setIfInBounds_toArray, List.set_cons_zero, List.set_cons_succ]
      refine wpAnyT_take false false (i := 14) (v := .int .i64 (n' : Int)) rfl (by kernel_rfl) (by kernel_rfl) (by kernel_rfl) (by kernel_rfl) (fun _ _ _ h => h) (Or.inl ⟨by rfl, ?_⟩) ⟨fun _ => z0, fun _ => z1, z2, z3⟩ ?_
      · intro w hSw; obtain ⟨s0, s1, s2, s3⟩ := hSw; simp only [true_implies, Bool.false_eq_true, false_implies] at s0 s1; (try dsimp only at s2 s3); go_simp
      try simp only [Act.put, List.setIfInBounds_toArray, List.set_cons_zero, List.set_cons_succ]
      refine wpAnyT_take false false (i := 15) (v := .int .i64 (max a1 (n' : Int))) rfl (by kernel_rfl) (by kernel_rfl) (by kernel_rfl) (by kernel_rfl) (fun _ _ _ h => h) (Or.inl ⟨by rfl, ?_⟩) ⟨fun _ => z0, fun _ => z1, z2, z3⟩ ?_
      · intro w hSw; obtain ⟨s0, s1, s2, s3⟩ := hSw; simp only [true_implies, Bool.false_eq_true, false_implies] at s0 s1; (try dsimp only at s2 s3); go_simp; split <;> omega
      try simp only [Act.put, List.setIfInBounds_toArray, List.set_cons_zero, List.set_cons_succ]
      refine wpAnyT_one (i := 16) (by kernel_rfl) rfl (fun K hK => ?_)
      go_simp
      refine hK.out _ _ ⟨fun h => absurd (h.symm.trans (show _ = true by kernel_rfl)) (by decide), fun _ => by simp [z1'], by simp [z2', z5], by simp [z3', z6]⟩ ?_
      clear hK K
      try simp only [Act.put, List.setIfInBounds_toArray, List.set_cons_zero, List.set_cons_succ]
      refine wpAnyT_one (i := 17) (by kernel_rfl) rfl (fun K hK => ?_)
      go_simp
      refine hK.out _ _ ⟨fun h => absurd (h.symm.trans (show _ = true by kernel_rfl)) (by decide), fun h => absurd (h.symm.trans (show _ = true by kernel_rfl)) (by decide), by simp [z2', z2'', z5], by simp [z3', z3'', z6]⟩ ?_
      clear hK K
      refine wpAnyT_done (by kernel_rfl) ?_ _
      clear z0 z1 z2 z3 fr1 fr2 fr2' z1' z2' z3' z2'' z3'' z5 z6
      have hI := hI'h.out
      have hne := hp12'h.out
      have hb12 := hb12'h.out
      have hlen1 : (vs ++ [v]).length = vs.length + 1 := by simp
      have hn' := hT'h.out.row.len
      rw [hlen1] at hn'
      have hoth : ∀ u1 u2 b, b ≠ p1 → b ≠ p2 → (((W.setCell ⟨p1, 0, none⟩ u1).setCell ⟨p2, 0, none⟩ u2).drew).heap[b]? = W.heap[b]? := fun u1 u2 b h1 h2 => (Below.heap_setCell _ ⟨p2, 0, none⟩ _ b h2).trans (Below.heap_setCell _ ⟨p1, 0, none⟩ _ b h1)
      have hkB : Kept (fun b => b ≠ p1 ∧ b ≠ p2) W _ := ((Kept.setCell _ W ⟨p1, 0, none⟩ (.int .i64 (min a0 (n' : Int))) (fun h => h.1 rfl)).trans (Kept.setCell _ _ ⟨p2, 0, none⟩ (.int .i64 (max a1 (n' : Int))) (fun h => h.2 rfl))).trans (Kept.drew _ _)
      have hLne : ∀ x ∈ L, x.1 ≠ p1 ∧ x.1 ≠ p2 := fun x hx => by
        have h1 := hL2'h.out x hx
        have h2 := hgl'h.out
        have h3 := hgs'h.out
        omega
      refine ⟨hkB.mono ?_, ?_⟩
      · rintro b (h | h)
        · rcases h with e | e | ⟨h0, e⟩
          · omega
          · omega
          · have h1 := hsl'h.out b h0 e
            have h2 := hwl'h.out
            have h3 := hgl'h.out
            have h4 := hgs'h.out
            omega
        · exact ⟨fun e => hI.least.2 (e ▸ h), fun e => hI.most.2 (e ▸ h)⟩
      · refine ⟨HasL.of fun x hx => (hoth _ _ _ (hLne x hx).1 (hLne x hx).2).trans (hI.rows.mem x hx), hI.mine, ⟨?_, Nat.le_refl _, hI.old.mine⟩, ⟨(hoth _ _ _ (by omega) (by omega)).trans hI.ptr.1, hI.ptr.2⟩, ⟨?_, hI.least.2⟩, ⟨?_, hI.most.2⟩⟩
        · refine hI.old.below.trans ((hkB.mono fun b hb => ?_).below hI.old.below.size)
          have h2 := hwl'h.out
          have h3 := hgl'h.out
          have h4 := hgs'h.out
          omega
        · rw [hlen1, show leastK l ps (vs.length + 1) = min (leastK l ps vs.length) (mapP l ps (vs.length + 1)).length from rfl, ← hn', show ((min (leastK l ps vs.length) n' : Nat) : Int) = min a0 (n' : Int) by rw [ha0'h.out]; omega]
          exact (Below.heap_setCell _ ⟨p2, 0, none⟩ _ p1 hne).trans (blk_set (cs := #[.int .i64 (leastK l ps vs.length)]) (i := 0) _ hI.least.1)
        · rw [hlen1, show mostK l ps (vs.length + 1) = max (mostK l ps vs.length) (mapP l ps (vs.length + 1)).length from rfl, ← hn', show ((max (mostK l ps vs.length) n' : Nat) : Int) = max a1 (n' : Int) by rw [ha1'h.out]; omega]
          exact blk_set (cs := #[.int .i64 (mostK l ps vs.length)]) (i := 0) _ ((Below.heap_setCell _ ⟨p1, 0, none⟩ _ p2 (fun e => hne e.symm)).trans hI.most.1)
    case done =>
      rintro D S S1 vs W hD hSD hro hs1 hS1D hn0 hY hI hK
      have HW : Hs w L W := ⟨hI.rows, hI.old.below, hLlow'h.out, hLdesc'h.out⟩
      rw [hL'h.out] at HW
      have y1 : W.cell? ⟨w.heap.size + 1, 0, none⟩ = some (.int .i64 0) := blk_cell (i := 0) HW.rows.2.2.1 rfl
      have y2 : W.cell? ⟨w.heap.size + 1 + 1, 0, none⟩ = some (.int .i64 0) := blk_cell (i := 0) HW.rows.2.1 rfl
      have y3 : W.cell? ⟨w.heap.size + 1 + 1 + 1, 0, none⟩ = some (.int .i64 0) := blk_cell (i := 0) HW.rows.1 rfl
      have f1 : W.frozen? ⟨w.heap.size + 1, 0, none⟩ = false := blk_free 0 HW.rows.2.2.1
      have f2 : W.frozen? ⟨w.heap.size + 1 + 1, 0, none⟩ = false := blk_free 0 HW.rows.2.1
      have f3 : W.frozen? ⟨w.heap.size + 1 + 1 + 1, 0, none⟩ = false := blk_free 0 HW.rows.1
      obtain ⟨a0, ha0⟩ : ∃ a0 : Int, a0 = (leastK l ps l.length : Int) := ⟨_, rfl⟩
      obtain ⟨a1, ha1⟩ : ∃ a1 : Int, a1 = (mostK l ps l.length : Int) := ⟨_, rfl⟩
      have y4 : W.cell? ⟨p1, 0, none⟩ = some (.int .i64 a0) := by rw [ha0, ← hn0]; exact blk_cell hI.least.1 rfl
      have y5 : W.cell? ⟨p2, 0, none⟩ = some (.int .i64 a1) := by rw [ha1, ← hn0]; exact blk_cell hI.most.1 rfl
      have hb2s := H2'h.out.lt (w.heap.size + 1 + 1 + 1, #[.int .i64 0], 28) (List.mem_cons_self ..)
      simp only at hb2s
      have hb12 := hb12'h.out
      have hgl := hgl'h.out
      have hgs := hgs'h.out
      have hDW : D < W.heap.size := lt_of_heap hK
      have hz5 := hz5'h.out
      have q00 : ∀ (W : World) (o o' : Nat) (v : Value), (W.setCell ⟨w.heap.size + 1, o, none⟩ v).cell? ⟨p1, o', none⟩ = W.cell? ⟨p1, o', none⟩ := fun W o o' v => World.cell?_of_block (Below.heap_setCell _ _ _ _ (by simp only; omega))
      have q01 : ∀ (W : World) (o o' : Nat) (v : Value), (W.setCell ⟨w.heap.size + 1, o, none⟩ v).cell? ⟨p2, o', none⟩ = W.cell? ⟨p2, o', none⟩ := fun W o o' v => World.cell?_of_block (Below.heap_setCell _ _ _ _ (by simp only; omega))
      have q10 : ∀ (W : World) (o o' : Nat) (v : Value), (W.setCell ⟨w.heap.size + 1 + 1, o, none⟩ v).cell? ⟨p1, o', none⟩ = W.cell? ⟨p1, o', none⟩ := fun W o o' v => World.cell?_of_block (Below.heap_setCell _ _ _ _ (by simp only; omega))
      have q11 : ∀ (W : World) (o o' : Nat) (v : Value), (W.setCell ⟨w.heap.size + 1 + 1, o, none⟩ v).cell? ⟨p2, o', none⟩ = W.cell? ⟨p2, o', none⟩ := fun W o o' v => World.cell?_of_block (Below.heap_setCell _ _ _ _ (by simp only; omega))
      have q20 : ∀ (W : World) (o o' : Nat) (v : Value), (W.setCell ⟨w.heap.size + 1 + 1 + 1, o, none⟩ v).cell? ⟨p1, o', none⟩ = W.cell? ⟨p1, o', none⟩ := fun W o o' v => World.cell?_of_block (Below.heap_setCell _ _ _ _ (by simp only; omega))
      have q21 : ∀ (W : World) (o o' : Nat) (v : Value), (W.setCell ⟨w.heap.size + 1 + 1 + 1, o, none⟩ v).cell? ⟨p2, o', none⟩ = W.cell? ⟨p2, o', none⟩ := fun W o o' v => World.cell?_of_block (Below.heap_setCell _ _ _ _ (by simp only; omega))
      have hI'h := Lib.hid hI
      have hY'h := Lib.hid hY
      have hro'h := Lib.hid hro
      have hs1'h := Lib.hid hs1
      have hK'h := Lib.hid hK
      have HW'h := Lib.hid HW
      have ha0'h := Lib.hid ha0
      have ha1'h := Lib.hid ha1
      clear hI hY hro hs1 hK HW ha0 ha1
      clear hb12 hgl hgs hn0
      go_wp2
      go_region_held3 (fun w' => w'.cell? ⟨p1, 0, none⟩ = some (.int .i64 a0) ∧ w'.cell? ⟨p2, 0, none⟩ = some (.int .i64 a1)) (go_keep) (fail)
      all_goals
        have H6 := (((HW'h.out.put 2 rfl 0 (.int .i64 a0)).put 1 rfl 0 (.int .i64 a1)).put 0 rfl 0 (.int .i64 0)).drew
        have hK6 : Kept (fun b => b ≠ w.heap.size + 1 ∧ b ≠ w.heap.size + 1 + 1 ∧ b ≠ w.heap.size + 1 + 1 + 1) W _ := (((Kept.setCell _ W ⟨w.heap.size + 1, 0, none⟩ (.int .i64 a0) (fun h => h.1 rfl)).trans (Kept.setCell _ _ ⟨w.heap.size + 1 + 1, 0, none⟩ (.int .i64 a1) (fun h => h.2.1 rfl))).trans (Kept.setCell _ _ ⟨w.heap.size + 1 + 1 + 1, 0, none⟩ (.int .i64 0) (fun h => h.2.2 rfl))).trans (Kept.drew _ _)
        clear y1 y2 y3 y4 y5 f1 f2 f3 q00 q01 q10 q11 q20 q21
        generalize World.drew _ = W7 at H6 hK6 ⊢
        have hw5 := hb5'h.out.size
        have hwA := hzA'h.out
        have hw4 := hz4'h.out
        have hw3 := H3'h.out.lt (w.heap.size + 1 + 1 + 1, #[.int .i64 0], 28) (List.mem_cons_self ..)
        simp only at hw3
        have hb9 := below_putObj H6.old (D := D) (by omega) (.deferred none)
        have e1 : (W7.putObj D (.deferred none)).cell? ⟨w.heap.size + 1, 0, none⟩ = some (.int .i64 a0) := blk_cell (i := 0) ((World.putObj_heap_other (by omega)).trans H6.rows.2.2.1) rfl
        have e2 : (W7.putObj D (.deferred none)).cell? ⟨w.heap.size + 1 + 1, 0, none⟩ = some (.int .i64 a1) := blk_cell (i := 0) ((World.putObj_heap_other (by omega)).trans H6.rows.2.1) rfl
        have e3 : (W7.putObj D (.deferred none)).cell? ⟨w.heap.size + 1 + 1 + 1, 0, none⟩ = some (.int .i64 0) := blk_cell (i := 0) ((World.putObj_heap_other (by omega)).trans H6.rows.1) rfl
        go_wp2
        refine post_mark (W := W7) (v := .tuple #[.int .i64 a0, .int .i64 a1, .int .i64 0]) (.inl rfl) ((hK6.block D hDW ⟨by omega, by omega, by omega⟩).trans hK'h.out) ?_ ⟨by rw [ha0'h.out, ha1'h.out], hb9⟩
        simp [results, Try.results24, go_sem, e1, e2, e3]
  · skip
    have hbA : Below W4.heap.size W4 (((W4.alloc (.cells #[.int .i64 n] 3)).alloc (.cells #[.int .i64 n] 3)).drew) := Below.drew (((Below.refl _ _).alloc (Nat.le_refl _) _).alloc (by simp) _)
    have HA := (H4'h.out.new2 #[.int .i64 n] #[.int .i64 n] 3 3).drew
    have hTA := hT4'h.out.below hbA
    have hzA : (((W4.alloc (.cells #[.int .i64 n] 3)).alloc (.cells #[.int .i64 n] 3)).drew).heap.size = W4.heap.size + 2 := by simp
    clear e1 e2 x0
    generalize World.drew _ = WA at HA hTA hzA hbA ⊢
    have A4 := answers_any tb slc nc capc WA
    obtain ⟨W5, hW5⟩ : ∃ W5, W5 = (WA.alloc (.cells #[.pointer (some ⟨tb, 0, none⟩)] 63)).alloc (.cells #[.slice slc nc capc] 25) := ⟨_, rfl⟩
    rw [← hW5] at A4
    have xp : WA.cell? ⟨w3.heap.size, 0, none⟩ = some (.pointer (some ⟨tb, 0, none⟩)) := blk_cell (i := 0) HA.rows.2.2.1 rfl
    have A4'h := Lib.hid A4
    have hW5'h := Lib.hid hW5
    have HA'h := Lib.hid HA
    have hTA'h := Lib.hid hTA
    have hzA'h := Lib.hid hzA
    have hbA'h := Lib.hid hbA
    clear A4 hW5 HA hTA hzA hbA
    go_wp2_with (go_at_call 31; refine A4'h.out.mono ?_; rintro e w5 ⟨rfl, rfl⟩)
    clear xp
    have hTA := hTA'h.out
    have h5 := hW5'h.out
    have hb5 : Below WA.heap.size WA w5 := by rw [h5]; exact ((Below.refl _ _).alloc (Nat.le_refl _) _).alloc (by simp) _
    have hz5 : w5.heap.size = WA.heap.size + 2 := by rw [h5]; simp
    have hzA := hzA'h.out
    have hz4 : W4.heap.size = w3.heap.size + 1 := by rw [hW4'h.out]; simp
    have H5 := HA'h.out.next hb5
    have hT5 := hTA.below hb5
    have hR5 : AnsR WA.heap.size (WA.heap.size + 1) tb slc nc capc l w5 := ⟨by rw [h5]; exact heap_alloc2_old WA _ _, by rw [h5]; exact heap_alloc2_new WA _ _, hc'h.out.below H5.old⟩
    have hgl : w2.heap.size ≤ g := hT5.lowrow ⟨g, 0, none⟩ rfl
    have hgs : g < w3.heap.size := hT3'h.out.spot g rfl
    have hts : tb < w3.heap.size := lt_of_heap hT3'h.out.tbl
    have hwl : w.heap.size ≤ w2.heap.size := H2'h.out.old.size
    have hsl : ∀ b, 0 < nc → slc.map (·.block) = some b → b < w.heap.size := by
      intro b h0 e
      obtain ⟨b', off, rfl, hcs⟩ := hc'h.out.some' h0
      cases e
      have h1 := hc'h.out.1
      obtain ⟨u, us, hu⟩ := List.exists_cons_of_ne_nil (l := cls l) (fun e => by rw [e] at h1; simp at h1; omega)
      have := lt_of_cell (hcs 0 u (by rw [hu]; rfl))
      exact this
    have htl := hT5.low
    have hap : ∀ b, ansRO WA.heap.size (WA.heap.size + 1) slc nc b → b ≠ tb ∧ (some (⟨g, 0, none⟩ : Addr)).map (·.block) ≠ some b := by
      rintro b (rfl | rfl | ⟨h0, e⟩)
      · exact ⟨by omega, fun e => by simp at e; omega⟩
      · exact ⟨by omega, fun e => by simp at e; omega⟩
      · have := hsl b h0 e
        exact ⟨by omega, fun e => by simp at e; omega⟩
    have it := answers_it w2.heap.size WA.heap.size (WA.heap.size + 1) tb (some ⟨g, 0, none⟩) slc n n nc capc l ps w5 hR5 hT5 hup'h.out h6'h.out hn hap
    obtain ⟨L, hL⟩ : ∃ L : List Blk3, L = [(w.heap.size + 1 + 1 + 1, #[.int .i64 0], 28), (w.heap.size + 1 + 1, #[.int .i64 0], 3), (w.heap.size + 1, #[.int .i64 0], 3), (w.heap.size, #[.slice sp n cap], 24)] := ⟨_, rfl⟩
    have HL := H5.tail.tail.tail
    rw [← hL] at HL
    have hLlow := HL.low
    have hLdesc := HL.desc
    have hL2 : ∀ x ∈ L, x.1 < w2.heap.size := by rw [hL]; exact H2'h.out.lt
    have hb12 : w3.heap.size < W4.heap.size + 1 ∧ w3.heap.size < W4.heap.size ∧ W4.heap.size + 1 ≠ W4.heap.size ∧ W4.heap.size + 1 < WA.heap.size ∧ W4.heap.size < WA.heap.size := by omega
    have hI0 : SizI w L w3.heap.size tb (W4.heap.size + 1) (W4.heap.size) l ps [] (fun b => b = tb ∨ (some (⟨g, 0, none⟩ : Addr)).map (·.block) = some b) w5 := by
      have hS : ∀ b, b ≠ tb → b ≠ g → ¬ (b = tb ∨ (some (⟨g, 0, none⟩ : Addr)).map (·.block) = some b) := fun b h1 h2 h => h.elim h1 (fun e => by simp at e; exact h2 e.symm)
      refine ⟨HL.rows, fun x hx => hS _ (by have := hL2 x hx; omega) (by have := hL2 x hx; omega), ⟨H5.old, Nat.le_refl _, fun b hb => hS _ (by omega) (by omega)⟩, ⟨H5.rows.2.2.1, hS _ (by omega) (by omega)⟩, ⟨?_, hS _ (by omega) (by omega)⟩, ⟨?_, hS _ (by omega) (by omega)⟩⟩
      · rw [show leastK l ps ([] : Vs).length = n from hlps'h.out.symm]; exact H5.rows.1
      · rw [show mostK l ps ([] : Vs).length = n from hlps'h.out.symm]; exact H5.rows.2.1
    have hRO : ∀ b, ansRO WA.heap.size (WA.heap.size + 1) slc nc b → b < w5.heap.size ∧ ¬ (b = tb ∨ (some (⟨g, 0, none⟩ : Addr)).map (·.block) = some b) := fun b hb => ⟨hR5.lt b hb, fun h => h.elim (hap b hb).1 (hap b hb).2⟩
    have hS0 : ∀ b, (b = tb ∨ (some (⟨g, 0, none⟩ : Addr)).map (·.block) = some b) → b < w5.heap.size := by
      rintro b (e | e)
      · omega
      · simp at e; omega
    obtain ⟨p1, hp1⟩ : ∃ p1, p1 = W4.heap.size + 1 := ⟨_, rfl⟩
    obtain ⟨p2, hp2⟩ : ∃ p2, p2 = W4.heap.size := ⟨_, rfl⟩
    rw [← hp1, ← hp2] at hI0 hb12 ⊢
    have hTA'h := Lib.hid hTA
    have h5'h := Lib.hid h5
    have hb5'h := Lib.hid hb5
    have hz5'h := Lib.hid hz5
    have hz4'h := Lib.hid hz4
    have hzA'h := Lib.hid hzA
    have H5'h := Lib.hid H5
    have hT5'h := Lib.hid hT5
    have hR5'h := Lib.hid hR5
    have hgl'h := Lib.hid hgl
    have hgs'h := Lib.hid hgs
    have hts'h := Lib.hid hts
    have hwl'h := Lib.hid hwl
    have hsl'h := Lib.hid hsl
    have hap'h := Lib.hid hap
    have it'h := Lib.hid it
    have hI0'h := Lib.hid hI0
    have hRO'h := Lib.hid hRO
    have hS0'h := Lib.hid hS0
    have hL'h := Lib.hid hL
    have HL'h := Lib.hid HL
    have hLlow'h := Lib.hid hLlow
    have hLdesc'h := Lib.hid hLdesc
    have hL2'h := Lib.hid hL2
    have hb12'h := Lib.hid hb12
    have htl'h := Lib.hid htl
    clear hTA h5 hb5 hz5 hz4 hzA H5 hT5 hR5 hgl hgs hts hwl hsl hap it hI0 hRO hS0 hL HL hLlow hLdesc hL2 hb12 htl
    clear hp1 hp2
    refine (wpIn_wide (n := 0)).1 ?_
    refine' wpIn_rangeH rfl (fun h => by cases h) rfl trivial enters_answers it'h.out (AnsY.keeps _ _ _ _ _) hS0'h.out (fun vs v S W hy => by rw [hy.last]; exact toldV_size _ _ _) hRO'h.out
      (SizI w L w3.heap.size tb p1 p2 l ps) noXv (SizI.stable _ _ _ _ _ _ _ _) noXv_stable hI0'h.out
      (SizA (fun a ok => { tmps := #[.agg #[.slice sp n cap], .slice slc nc capc, .pointer (some ⟨w.heap.size, 0, none⟩), undef, .pointer (some ⟨w.heap.size + 1, 0, none⟩), .pointer (some ⟨w.heap.size + 1 + 1, 0, none⟩), .pointer (some ⟨w.heap.size + 1 + 1 + 1, 0, none⟩), .int .i64 0, .pointer (some ⟨w3.heap.size, 0, none⟩), .pointer (some ⟨p1, 0, none⟩), .pointer (some ⟨p2, 0, none⟩), undef, .bool ok, .agg #[.slice sp n cap], .int .i64 0, .int .i64 0, .bool false, undef, .agg #[.slice sp n cap], .pointer (some ⟨tb, 0, none⟩), .pointer (some ⟨w.heap.size, 0, none⟩), .slice sp n cap, .int .i64 n, .pointer (some ⟨w.heap.size, 0, none⟩), .slice sp n cap, .int .i64 n, .pointer (some ⟨tb, 0, none⟩), .slice slc nc capc, .func (.func 41) #[] #[.pointer (some ⟨WA.heap.size + 1, 0, none⟩), .pointer (some ⟨WA.heap.size, 0, none⟩)], .agg (anA a none 0 0), .bool ok, undef, undef, undef, undef, undef, undef, undef, undef, undef, undef, undef, undef, undef, undef, undef, undef, undef, undef, undef, undef], defers := [] }) w L w3.heap.size tb p1 p2 l ps) (SizA.stable _ _ _ _ _ _ _ _ _) ?assign ?body ?done (fun _ _ _ _ _ _ _ _ _ _ _ _ h _ => h.elim)
    case assign =>
      intro ly vs v S S1 W hk hl hs1 hro hSb hY hI
      obtain ⟨c, hc⟩ : ∃ c, l[vs.length]? = some c := ⟨_, List.getElem?_eq_getElem hk⟩
      have hv := hY.last
      rw [toldV_at hc] at hv
      have hok : isOp c = true := (List.all_eq_true.1 hall'h.out) c (List.mem_of_getElem? hc)
      rw [hok] at hv
      obtain ⟨a, ha⟩ : ∃ a, a = toldA c (mapP l ps vs.length) := ⟨_, rfl⟩
      rw [← ha] at hv
      subst hv
      have hY'h := Lib.hid hY
      have hI'h := Lib.hid hI
      have hro'h := Lib.hid hro
      have hSb'h := Lib.hid hSb
      have hc'h := Lib.hid hc
      have ha'h := Lib.hid ha
      have hok'h := Lib.hid hok
      clear hY hI hro hSb hc ha hok
      gi_wp2
      exact ⟨⟨hI'h.out, c, hc'h.out, by rw [← ha'h.out, hok'h.out]⟩, Kept.refl _ _⟩
    case body =>
      rintro ly vs v S S1 a₁ W r hk hl hs1 hlr hro hSb hY ⟨hI, c, hc, rfl⟩
      have hok : isOp c = true := (List.all_eq_true.1 hall'h.out) c (List.mem_of_getElem? hc)
      rw [hok]
      obtain ⟨a, ha⟩ : ∃ a, a = toldA c (mapP l ps vs.length) := ⟨_, rfl⟩
      rw [← ha]
      obtain ⟨_, hSt, sp', n', cap', hT, hsS⟩ := hY
      obtain ⟨a0, ha0⟩ : ∃ a0 : Int, a0 = (leastK l ps vs.length : Int) := ⟨_, rfl⟩
      obtain ⟨a1, ha1⟩ : ∃ a1 : Int, a1 = (mostK l ps vs.length : Int) := ⟨_, rfl⟩
      have z0 : W.drew.cell? ⟨p1, 0, none⟩ = some (.int .i64 a0) := by rw [ha0]; exact blk_cell (W := W.drew) hI.least.1 rfl
      have z1 : W.drew.cell? ⟨p2, 0, none⟩ = some (.int .i64 a1) := by rw [ha1]; exact blk_cell (W := W.drew) hI.most.1 rfl
      have z2 : W.drew.cell? ⟨w3.heap.size, 0, none⟩ = some (.pointer (some ⟨tb, 0, none⟩)) := blk_cell (W := W.drew) hI.ptr.1 rfl
      have z3 : W.drew.cell? ⟨tb, 0, none⟩ = some (.slice sp' n' cap') := blk_cell (W := W.drew) hT.tbl rfl
      have fr1 : W.drew.frozen? ⟨p1, 0, none⟩ = false := blk_free (W := W.drew) 0 hI.least.1
      have fr2 : W.drew.frozen? ⟨p2, 0, none⟩ = false := blk_free (W := W.drew) 0 hI.most.1
      have hp12 : p1 ≠ p2 := hb12'h.out.2.2.1
      have fr2' : ∀ v, (W.setCell ⟨p1, 0, none⟩ v).frozen? ⟨p2, 0, none⟩ = false := fun v => (World.frozen?_of_block (Below.heap_setCell _ _ _ _ (fun e => hp12 e.symm))).trans (blk_free 0 hI.most.1)
      have z1' : ∀ v, (W.setCell ⟨p1, 0, none⟩ v).cell? ⟨p2, 0, none⟩ = some (.int .i64 a1) := fun v => (World.cell?_of_block (Below.heap_setCell _ _ _ _ (fun e => hp12 e.symm))).trans (by rw [ha1]; exact blk_cell hI.most.1 rfl)
      have htp : tb ≠ p1 ∧ tb ≠ p2 ∧ w3.heap.size ≠ p1 ∧ w3.heap.size ≠ p2 := by have := hb12'h.out; have := hts'h.out; omega
      have z2' : ∀ (W : World) (o : Nat) v, (W.setCell ⟨p1, o, none⟩ v).cell? ⟨w3.heap.size, 0, none⟩ = W.cell? ⟨w3.heap.size, 0, none⟩ := fun W o v => World.cell?_of_block (Below.heap_setCell _ _ _ _ htp.2.2.1)
      have z3' : ∀ (W : World) (o : Nat) v, (W.setCell ⟨p1, o, none⟩ v).cell? ⟨tb, 0, none⟩ = W.cell? ⟨tb, 0, none⟩ := fun W o v => World.cell?_of_block (Below.heap_setCell _ _ _ _ htp.1)
      have z2'' : ∀ (W : World) (o : Nat) v, (W.setCell ⟨p2, o, none⟩ v).cell? ⟨w3.heap.size, 0, none⟩ = W.cell? ⟨w3.heap.size, 0, none⟩ := fun W o v => World.cell?_of_block (Below.heap_setCell _ _ _ _ htp.2.2.2)
      have z3'' : ∀ (W : World) (o : Nat) v, (W.setCell ⟨p2, o, none⟩ v).cell? ⟨tb, 0, none⟩ = W.cell? ⟨tb, 0, none⟩ := fun W o v => World.cell?_of_block (Below.heap_setCell _ _ _ _ htp.2.1)
      have z5 : W.cell? ⟨w3.heap.size, 0, none⟩ = some (.pointer (some ⟨tb, 0, none⟩)) := z2
      have z6 : W.cell? ⟨tb, 0, none⟩ = some (.slice sp' n' cap') := z3
      have hI'h := Lib.hid hI
      have hc'h := Lib.hid hc
      have ha'h := Lib.hid ha
      have hok'h := Lib.hid hok
      have hT'h := Lib.hid hT
      have hSt'h := Lib.hid hSt
      have hsS'h := Lib.hid hsS
      have hro'h := Lib.hid hro
      have hSb'h := Lib.hid hSb
      have hlr'h := Lib.hid hlr
      have ha0'h := Lib.hid ha0
      have ha1'h := Lib.hid ha1
      have hp12'h := Lib.hid hp12
      have htp'h := Lib.hid htp
      clear hI hc ha hok hT hSt hsS hro hSb hlr ha0 ha1 hp12 htp
      gi_wp2
      refine wpIn_round_heldT ⟨16, fun w' => w'.cell? ⟨p1, 0, none⟩ = some (.int .i64 a0), 17, fun w' => w'.cell? ⟨p2, 0, none⟩ = some (.int .i64 a1), fun w' => w'.cell? ⟨w3.heap.size, 0, none⟩ = some (.pointer (some ⟨tb, 0, none⟩)) ∧ w'.cell? ⟨tb, 0, none⟩ = some (.slice sp' n' cap')⟩ (by kernel_rfl) (by kernel_rfl) (inBlock_noLet rangePost_noLet) ?_
      refine wpAnyT_take true false (i := 0) (v := .int .i64 a0) rfl (by kernel_rfl) (by kernel_rfl) (by kernel_rfl) (by kernel_rfl) (fun _ _ _ h => h) (Or.inl ⟨by rfl, ?_⟩) ⟨fun _ => z0, fun _ => z1, z2, z3⟩ ?_
      · intro w hSw; obtain ⟨s0, s1, s2, s3⟩ := hSw; simp only [true_implies, Bool.false_eq_true, false_implies] at s0 s1; (try dsimp only at s2 s3); go_simp
      try simp only [Act.put, List.setIfInBounds_toArray, List.set_cons_zero, List.set_cons_succ]
      refine wpAnyT_take false false (i := 1) (v := .pointer (some ⟨tb, 0, none⟩)) rfl (by kernel_rfl) (by kernel_rfl) (by kernel_rfl) (by kernel_rfl) (fun _ _ _ h => h) (Or.inl ⟨by rfl, ?_⟩) ⟨fun _ => z0, fun _ => z1, z2, z3⟩ ?_
      · intro w hSw; obtain ⟨s0, s1, s2, s3⟩ := hSw; simp only [true_implies, Bool.false_eq_true, false_implies] at s0 s1; (try dsimp only at s2 s3); go_simp
      try simp only [Act.put, List.setIfInBounds_toArray, List.set_cons_zero, List.set_cons_succ]
      refine wpAnyT_take false false (i := 2) (v := .pointer (some ⟨tb, 0, none⟩)) rfl (by kernel_rfl) (by kernel_rfl) (by kernel_rfl) (by kernel_rfl) (fun _ _ _ h => h) (Or.inl ⟨by rfl, ?_⟩) ⟨fun _ => z0, fun _ => z1, z2, z3⟩ ?_
      · intro w hSw; obtain ⟨s0, s1, s2, s3⟩ := hSw; simp only [true_implies, Bool.false_eq_true, false_implies] at s0 s1; (try dsimp only at s2 s3); go_simp
      try simp only [Act.put, List.setIfInBounds_toArray, List.set_cons_zero, List.set_cons_succ]
      refine wpAnyT_take false false (i := 3) (v := .pointer (some ⟨tb, 0, none⟩)) rfl (by kernel_rfl) (by kernel_rfl) (by kernel_rfl) (by kernel_rfl) (fun _ _ _ h => h) (Or.inl ⟨by rfl, ?_⟩) ⟨fun _ => z0, fun _ => z1, z2, z3⟩ ?_
      · intro w hSw; obtain ⟨s0, s1, s2, s3⟩ := hSw; simp only [true_implies, Bool.false_eq_true, false_implies] at s0 s1; (try dsimp only at s2 s3); go_simp
      try simp only [Act.put, List.setIfInBounds_toArray, List.set_cons_zero, List.set_cons_succ]
      refine wpAnyT_take false false (i := 4) (v := .pointer (some ⟨tb, 0, none⟩)) rfl (by kernel_rfl) (by kernel_rfl) (by kernel_rfl) (by kernel_rfl) (fun _ _ _ h => h) (Or.inl ⟨by rfl, ?_⟩) ⟨fun _ => z0, fun _ => z1, z2, z3⟩ ?_
      · intro w hSw; obtain ⟨s0, s1, s2, s3⟩ := hSw; simp only [true_implies, Bool.false_eq_true, false_implies] at s0 s1; (try dsimp only at s2 s3); go_simp
      try simp only [Act.put, List.setIfInBounds_toArray, List.set_cons_zero, List.set_cons_succ]
      refine wpAnyT_take false false (i := 5) (v := .slice sp' n' cap') rfl (by kernel_rfl) (by kernel_rfl) (by kernel_rfl) (by kernel_rfl) (fun _ _ _ h => h) (Or.inl ⟨by rfl, ?_⟩) ⟨fun _ => z0, fun _ => z1, z2, z3⟩ ?_
      · intro w hSw; obtain ⟨s0, s1, s2, s3⟩ := hSw; simp only [true_implies, Bool.false_eq_true, false_implies] at s0 s1; (try dsimp only at s2 s3); go_simp
      try simp only [Act.put, List.setIfInBounds_toArray, List.set_cons_zero, List.set_cons_succ]
      refine wpAnyT_take false false (i := 6) (v := .int .i64 (n' : Int)) rfl (by kernel_rfl) (by kernel_rfl) (by kernel_rfl) (by kernel_rfl) (fun _ _ _ h => h) (Or.inl ⟨by rfl, ?_⟩) ⟨fun _ => z0, fun _ => z1, z2, z3⟩ ?_
      · intro w hSw; obtain ⟨s0, s1, s2, s3⟩ := hSw; simp only [true_implies, Bool.false_eq_true, false_implies] at s0 s1; (try dsimp only at s2 s3); go_simp
      try simp only [Act.put, List.setIfInBounds_toArray, List.set_cons_zero, List.set_cons_succ]
      refine wpAnyT_take false false (i := 7) (v := .int .i64 (min a0 (n' : Int))) rfl (by kernel_rfl) (by kernel_rfl) (by kernel_rfl) (by kernel_rfl) (fun _ _ _ h => h) (Or.inl ⟨by rfl, ?_⟩) ⟨fun _ => z0, fun _ => z1, z2, z3⟩ ?_
      · intro w hSw; obtain ⟨s0, s1, s2, s3⟩ := hSw; simp only [true_implies, Bool.false_eq_true, false_implies] at s0 s1; (try dsimp only at s2 s3); go_simp; split <;> omega
      try simp only [Act.put, List.setIfInBounds_toArray, List.set_cons_zero, List.set_cons_succ]
      refine wpAnyT_take false true (i := 8) (v := .int .i64 a1) rfl (by kernel_rfl) (by kernel_rfl) (by kernel_rfl) (by kernel_rfl) (fun _ _ _ h => h) (Or.inl ⟨by rfl, ?_⟩) ⟨fun _ => z0, fun _ => z1, z2, z3⟩ ?_
      · intro w hSw; obtain ⟨s0, s1, s2, s3⟩ := hSw; simp only [true_implies, Bool.false_eq_true, false_implies] at s0 s1; (try dsimp only at s2 s3); go_simp
      try simp only [Act.put, List.setIfInBounds_toArray, List.set_cons_zero, List.set_cons_succ]
      refine wpAnyT_take false false (i := 9) (v := .pointer (some ⟨tb, 0, none⟩)) rfl (by kernel_rfl) (by kernel_rfl) (by kernel_rfl) (by kernel_rfl) (fun _ _ _ h => h) (Or.inl ⟨by rfl, ?_⟩) ⟨fun _ => z0, fun _ => z1, z2, z3⟩ ?_
      · intro w hSw; obtain ⟨s0, s1, s2, s3⟩ := hSw; simp only [true_implies, Bool.false_eq_true, false_implies] at s0 s1; (try dsimp only at s2 s3); go_simp
      try simp only [Act.put, List.setIfInBounds_toArray, List.set_cons_zero, List.set_cons_succ]
      refine wpAnyT_take false false (i := 10) (v := .pointer (some ⟨tb, 0, none⟩)) rfl (by kernel_rfl) (by kernel_rfl) (by kernel_rfl) (by kernel_rfl) (fun _ _ _ h => h) (Or.inl ⟨by rfl, ?_⟩) ⟨fun _ => z0, fun _ => z1, z2, z3⟩ ?_
      · intro w hSw; obtain ⟨s0, s1, s2, s3⟩ := hSw; simp only [true_implies, Bool.false_eq_true, false_implies] at s0 s1; (try dsimp only at s2 s3); go_simp
      try simp only [Act.put, List.setIfInBounds_toArray, List.set_cons_zero, List.set_cons_succ]
      refine wpAnyT_take false false (i := 11) (v := .pointer (some ⟨tb, 0, none⟩)) rfl (by kernel_rfl) (by kernel_rfl) (by kernel_rfl) (by kernel_rfl) (fun _ _ _ h => h) (Or.inl ⟨by rfl, ?_⟩) ⟨fun _ => z0, fun _ => z1, z2, z3⟩ ?_
      · intro w hSw; obtain ⟨s0, s1, s2, s3⟩ := hSw; simp only [true_implies, Bool.false_eq_true, false_implies] at s0 s1; (try dsimp only at s2 s3); go_simp
      try simp only [Act.put, List.setIfInBounds_toArray, List.set_cons_zero, List.set_cons_succ]
      refine wpAnyT_take false false (i := 12) (v := .pointer (some ⟨tb, 0, none⟩)) rfl (by kernel_rfl) (by kernel_rfl) (by kernel_rfl) (by kernel_rfl) (fun _ _ _ h => h) (Or.inl ⟨by rfl, ?_⟩) ⟨fun _ => z0, fun _ => z1, z2, z3⟩ ?_
      · intro w hSw; obtain ⟨s0, s1, s2, s3⟩ := hSw; simp only [true_implies, Bool.false_eq_true, false_implies] at s0 s1; (try dsimp only at s2 s3); go_simp
      try simp only [Act.put, List.setIfInBounds_toArray, List.set_cons_zero, List.set_cons_succ]
      refine wpAnyT_take false false (i := 13) (v := .slice sp' n' cap') rfl (by kernel_rfl) (by kernel_rfl) (by kernel_rfl) (by kernel_rfl) (fun _ _ _ h => h) (Or.inl ⟨by rfl, ?_⟩) ⟨fun _ => z0, fun _ => z1, z2, z3⟩ ?_
      · intro w hSw; obtain ⟨s0, s1, s2, s3⟩ := hSw; simp only [true_implies, Bool.false_eq_true, false_implies] at s0 s1; (try dsimp only at s2 s3); go_simp
      try simp only [Act.put, List.setIfInBounds_toArray, List.set_cons_zero, List.set_cons_succ]
      refine wpAnyT_take false false (i := 14) (v := .int .i64 (n' : Int)) rfl (by kernel_rfl) (by kernel_rfl) (by kernel_rfl) (by kernel_rfl) (fun _ _ _ h => h) (Or.inl ⟨by rfl, ?_⟩) ⟨fun _ => z0, fun _ => z1, z2, z3⟩ ?_
      · intro w hSw; obtain ⟨s0, s1, s2, s3⟩ := hSw; simp only [true_implies, Bool.false_eq_true, false_implies] at s0 s1; (try dsimp only at s2 s3); go_simp
      try simp only [Act.put, List.setIfInBounds_toArray, List.set_cons_zero, List.set_cons_succ]
      refine wpAnyT_take false false (i := 15) (v := .int .i64 (max a1 (n' : Int))) rfl (by kernel_rfl) (by kernel_rfl) (by kernel_rfl) (by kernel_rfl) (fun _ _ _ h => h) (Or.inl ⟨by rfl, ?_⟩) ⟨fun _ => z0, fun _ => z1, z2, z3⟩ ?_
      · intro w hSw; obtain ⟨s0, s1, s2, s3⟩ := hSw; simp only [true_implies, Bool.false_eq_true, false_implies] at s0 s1; (try dsimp only at s2 s3); go_simp; split <;> omega
      try simp only [Act.put, List.setIfInBounds_toArray, List.set_cons_zero, List.set_cons_succ]
      refine wpAnyT_one (i := 16) (by kernel_rfl) rfl (fun K hK => ?_)
      go_simp
      refine hK.out _ _ ⟨fun h => absurd (h.symm.trans (show _ = true by kernel_rfl)) (by decide), fun _ => by simp [z1'], by simp [z2', z5], by simp [z3', z6]⟩ ?_
      clear hK K
      try simp only [Act.put, List.setIfInBounds_toArray, List.set_cons_zero, List.set_cons_succ]
      refine wpAnyT_one (i := 17) (by kernel_rfl) rfl (fun K hK => ?_)
      go_simp
      refine hK.out _ _ ⟨fun h => absurd (h.symm.trans (show _ = true by kernel_rfl)) (by decide), fun h => absurd (h.symm.trans (show _ = true by kernel_rfl)) (by decide), by simp [z2', z2'', z5], by simp [z3', z3'', z6]⟩ ?_
      clear hK K
      refine wpAnyT_done (by kernel_rfl) ?_ _
      clear z0 z1 z2 z3 fr1 fr2 fr2' z1' z2' z3' z2'' z3'' z5 z6
      have hI := hI'h.out
      have hne := hp12'h.out
      have hb12 := hb12'h.out
      have hlen1 : (vs ++ [v]).length = vs.length + 1 := by simp
      have hn' := hT'h.out.row.len
      rw [hlen1] at hn'
      have hoth : ∀ u1 u2 b, b ≠ p1 → b ≠ p2 → (((W.setCell ⟨p1, 0, none⟩ u1).setCell ⟨p2, 0, none⟩ u2).drew).heap[b]? = W.heap[b]? := fun u1 u2 b h1 h2 => (Below.heap_setCell _ ⟨p2, 0, none⟩ _ b h2).trans (Below.heap_setCell _ ⟨p1, 0, none⟩ _ b h1)
      have hkB : Kept (fun b => b ≠ p1 ∧ b ≠ p2) W _ := ((Kept.setCell _ W ⟨p1, 0, none⟩ (.int .i64 (min a0 (n' : Int))) (fun h => h.1 rfl)).trans (Kept.setCell _ _ ⟨p2, 0, none⟩ (.int .i64 (max a1 (n' : Int))) (fun h => h.2 rfl))).trans (Kept.drew _ _)
      have hLne : ∀ x ∈ L, x.1 ≠ p1 ∧ x.1 ≠ p2 := fun x hx => by
        have h1 := hL2'h.out x hx
        have h2 := hgl'h.out
        have h3 := hgs'h.out
        omega
      refine ⟨hkB.mono ?_, ?_⟩
      · rintro b (h | h)
        · rcases h with e | e | ⟨h0, e⟩
          · omega
          · omega
          · have h1 := hsl'h.out b h0 e
            have h2 := hwl'h.out
            have h3 := hgl'h.out
            have h4 := hgs'h.out
            omega
        · exact ⟨fun e => hI.least.2 (e ▸ h), fun e => hI.most.2 (e ▸ h)⟩
      · refine ⟨HasL.of fun x hx => (hoth _ _ _ (hLne x hx).1 (hLne x hx).2).trans (hI.rows.mem x hx), hI.mine, ⟨?_, Nat.le_refl _, hI.old.mine⟩, ⟨(hoth _ _ _ (by omega) (by omega)).trans hI.ptr.1, hI.ptr.2⟩, ⟨?_, hI.least.2⟩, ⟨?_, hI.most.2⟩⟩
        · refine hI.old.below.trans ((hkB.mono fun b hb => ?_).below hI.old.below.size)
          have h2 := hwl'h.out
          have h3 := hgl'h.out
          have h4 := hgs'h.out
          omega
        · rw [hlen1, show leastK l ps (vs.length + 1) = min (leastK l ps vs.length) (mapP l ps (vs.length + 1)).length from rfl, ← hn', show ((min (leastK l ps vs.length) n' : Nat) : Int) = min a0 (n' : Int) by rw [ha0'h.out]; omega]
          exact (Below.heap_setCell _ ⟨p2, 0, none⟩ _ p1 hne).trans (blk_set (cs := #[.int .i64 (leastK l ps vs.length)]) (i := 0) _ hI.least.1)
        · rw [hlen1, show mostK l ps (vs.length + 1) = max (mostK l ps vs.length) (mapP l ps (vs.length + 1)).length from rfl, ← hn', show ((max (mostK l ps vs.length) n' : Nat) : Int) = max a1 (n' : Int) by rw [ha1'h.out]; omega]
          exact blk_set (cs := #[.int .i64 (mostK l ps vs.length)]) (i := 0) _ ((Below.heap_setCell _ ⟨p1, 0, none⟩ _ p2 (fun e => hne e.symm)).trans hI.most.1)
    case done =>
      rintro D S S1 vs W hD hSD hro hs1 hS1D hn0 hY hI hK
      have HW : Hs w L W := ⟨hI.rows, hI.old.below, hLlow'h.out, hLdesc'h.out⟩
      rw [hL'h.out] at HW
      have y1 : W.cell? ⟨w.heap.size + 1, 0, none⟩ = some (.int .i64 0) := blk_cell (i := 0) HW.rows.2.2.1 rfl
      have y2 : W.cell? ⟨w.heap.size + 1 + 1, 0, none⟩ = some (.int .i64 0) := blk_cell (i := 0) HW.rows.2.1 rfl
      have y3 : W.cell? ⟨w.heap.size + 1 + 1 + 1, 0, none⟩ = some (.int .i64 0) := blk_cell (i := 0) HW.rows.1 rfl
      have f1 : W.frozen? ⟨w.heap.size + 1, 0, none⟩ = false := blk_free 0 HW.rows.2.2.1
      have f2 : W.frozen? ⟨w.heap.size + 1 + 1, 0, none⟩ = false := blk_free 0 HW.rows.2.1
      have f3 : W.frozen? ⟨w.heap.size + 1 + 1 + 1, 0, none⟩ = false := blk_free 0 HW.rows.1
      obtain ⟨a0, ha0⟩ : ∃ a0 : Int, a0 = (leastK l ps l.length : Int) := ⟨_, rfl⟩
      obtain ⟨a1, ha1⟩ : ∃ a1 : Int, a1 = (mostK l ps l.length : Int) := ⟨_, rfl⟩
      have y4 : W.cell? ⟨p1, 0, none⟩ = some (.int .i64 a0) := by rw [ha0, ← hn0]; exact blk_cell hI.least.1 rfl
      have y5 : W.cell? ⟨p2, 0, none⟩ = some (.int .i64 a1) := by rw [ha1, ← hn0]; exact blk_cell hI.most.1 rfl
      have hb2s := H2'h.out.lt (w.heap.size + 1 + 1 + 1, #[.int .i64 0], 28) (List.mem_cons_self ..)
      simp only at hb2s
      have hb12 := hb12'h.out
      have hgl := hgl'h.out
      have hgs := hgs'h.out
      have hDW : D < W.heap.size := lt_of_heap hK
      have hz5 := hz5'h.out
      have q00 : ∀ (W : World) (o o' : Nat) (v : Value), (W.setCell ⟨w.heap.size + 1, o, none⟩ v).cell? ⟨p1, o', none⟩ = W.cell? ⟨p1, o', none⟩ := fun W o o' v => World.cell?_of_block (Below.heap_setCell _ _ _ _ (by simp only; omega))
      have q01 : ∀ (W : World) (o o' : Nat) (v : Value), (W.setCell ⟨w.heap.size + 1, o, none⟩ v).cell? ⟨p2, o', none⟩ = W.cell? ⟨p2, o', none⟩ := fun W o o' v => World.cell?_of_block (Below.heap_setCell _ _ _ _ (by simp only; omega))
      have q10 : ∀ (W : World) (o o' : Nat) (v : Value), (W.setCell ⟨w.heap.size + 1 + 1, o, none⟩ v).cell? ⟨p1, o', none⟩ = W.cell? ⟨p1, o', none⟩ := fun W o o' v => World.cell?_of_block (Below.heap_setCell _ _ _ _ (by simp only; omega))
      have q11 : ∀ (W : World) (o o' : Nat) (v : Value), (W.setCell ⟨w.heap.size + 1 + 1, o, none⟩ v).cell? ⟨p2, o', none⟩ = W.cell? ⟨p2, o', none⟩ := fun W o o' v => World.cell?_of_block (Below.heap_setCell _ _ _ _ (by simp only; omega))
      have q20 : ∀ (W : World) (o o' : Nat) (v : Value), (W.setCell ⟨w.heap.size + 1 + 1 + 1, o, none⟩ v).cell? ⟨p1, o', none⟩ = W.cell? ⟨p1, o', none⟩ := fun W o o' v => World.cell?_of_block (Below.heap_setCell _ _ _ _ (by simp only; omega))
      have q21 : ∀ (W : World) (o o' : Nat) (v : Value), (W.setCell ⟨w.heap.size + 1 + 1 + 1, o, none⟩ v).cell? ⟨p2, o', none⟩ = W.cell? ⟨p2, o', none⟩ := fun W o o' v => World.cell?_of_block (Below.heap_setCell _ _ _ _ (by simp only; omega))
      have hI'h := Lib.hid hI
      have hY'h := Lib.hid hY
      have hro'h := Lib.hid hro
      have hs1'h := Lib.hid hs1
      have hK'h := Lib.hid hK
      have HW'h := Lib.hid HW
      have ha0'h := Lib.hid ha0
      have ha1'h := Lib.hid ha1
      clear hI hY hro hs1 hK HW ha0 ha1
      clear hb12 hgl hgs hn0
      go_wp2
      go_region_held3 (fun w' => w'.cell? ⟨p1, 0, none⟩ = some (.int .i64 a0) ∧ w'.cell? ⟨p2, 0, none⟩ = some (.int .i64 a1)) (go_keep) (fail)
      all_goals
        have H6 := (((HW'h.out.put 2 rfl 0 (.int .i64 a0)).put 1 rfl 0 (.int .i64 a1)).put 0 rfl 0 (.int .i64 0)).drew
        have hK6 : Kept (fun b => b ≠ w.heap.size + 1 ∧ b ≠ w.heap.size + 1 + 1 ∧ b ≠ w.heap.size + 1 + 1 + 1) W _ := (((Kept.setCell _ W ⟨w.heap.size + 1, 0, none⟩ (.int .i64 a0) (fun h => h.1 rfl)).trans (Kept.setCell _ _ ⟨w.heap.size + 1 + 1, 0, none⟩ (.int .i64 a1) (fun h => h.2.1 rfl))).trans (Kept.setCell _ _ ⟨w.heap.size + 1 + 1 + 1, 0, none⟩ (.int .i64 0) (fun h => h.2.2 rfl))).trans (Kept.drew _ _)
        clear y1 y2 y3 y4 y5 f1 f2 f3 q00 q01 q10 q11 q20 q21
        generalize World.drew _ = W7 at H6 hK6 ⊢
        have hw5 := hb5'h.out.size
        have hwA := hzA'h.out
        have hw4 := hz4'h.out
        have hw3 := H3'h.out.lt (w.heap.size + 1 + 1 + 1, #[.int .i64 0], 28) (List.mem_cons_self ..)
        simp only at hw3
        have hb9 := below_putObj H6.old (D := D) (by omega) (.deferred none)
        have e1 : (W7.putObj D (.deferred none)).cell? ⟨w.heap.size + 1, 0, none⟩ = some (.int .i64 a0) := blk_cell (i := 0) ((World.putObj_heap_other (by omega)).trans H6.rows.2.2.1) rfl
        have e2 : (W7.putObj D (.deferred none)).cell? ⟨w.heap.size + 1 + 1, 0, none⟩ = some (.int .i64 a1) := blk_cell (i := 0) ((World.putObj_heap_other (by omega)).trans H6.rows.2.1) rfl
        have e3 : (W7.putObj D (.deferred none)).cell? ⟨w.heap.size + 1 + 1 + 1, 0, none⟩ = some (.int .i64 0) := blk_cell (i := 0) ((World.putObj_heap_other (by omega)).trans H6.rows.1) rfl
        go_wp2
        refine post_mark (W := W7) (v := .tuple #[.int .i64 a0, .int .i64 a1, .int .i64 0]) (.inl rfl) ((hK6.block D hDW ⟨by omega, by omega, by omega⟩).trans hK'h.out) ?_ ⟨by rw [ha0'h.out, ha1'h.out], hb9⟩
        simp [results, Try.results24, go_sem, e1, e2, e3]
end Go.Proofs.Ytihccjmmnpldjaa
