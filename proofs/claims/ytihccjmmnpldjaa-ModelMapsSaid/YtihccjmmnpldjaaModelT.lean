/-
  Package model: calls, one behind the other.
-/
import Derived.Test.YtihccjmmnpldjaaModelS
set_option linter.unusedSimpArgs false
set_option linter.unusedVariables false
set_option maxRecDepth 100000
namespace Go.Proofs.Ytihccjmmnpldjaa
open Go.RowKit

def anL (a : An) : List Value := [.int .i64 a.err, .int .u64 (a.val : Int), .bool a.done, .slice none 0 0]
theorem anL_len (a : An) : (anL a).length = 4 := rfl
theorem anL_one (a : An) : ∀ v ∈ anL a, v.oneCell' = true := by intro v hv; unfold anL at hv; simp at hv; rcases hv with rfl | rfl | rfl | rfl <;> rfl
abbrev ans (l : List An) : List Value := l.flatMap anL
def ansK (l : List Cl) (ps : Ps) (k : Nat) : List An := (List.range k).map (ansP l ps)
theorem ansK_succ (l : List Cl) (ps : Ps) (k : Nat) : ansK l ps (k + 1) = ansK l ps k ++ [ansP l ps k] := by unfold ansK; rw [List.range_succ, List.map_append]; rfl
theorem ansK_len (l : List Cl) (ps : Ps) (k : Nat) : (ansK l ps k).length = k := by unfold ansK; simp
theorem info_anF : (Try.prog.info? 35).map (fun i => (i.zero, i.size, i.bytes)) = some (some (.agg #[.int .i64 0, .int .u64 0, .bool false, .slice none 0 0]), 4, 48) := by kernel_rfl
def okTo (l : List Cl) (k : Nat) : Bool := (l.take k).all isOp
theorem okTo_succ {l : List Cl} {k : Nat} {c : Cl} (h : l[k]? = some c) (h1 : okTo l k = true) (h2 : isOp c = true) : okTo l (k + 1) = true := by
  unfold okTo at *
  rw [List.take_add_one, h]
  simp [List.all_append, h1, h2]
theorem own_slice {sp : Option Addr} {n c b : Nat} (h : sp.map (·.block) = some b) : (Value.slice sp n c).ownBlock = some b := by
  cases sp with
  | none => cases h
  | some a => exact h
/-- What a row of calls leaves. -/
def RunEnd (l : List Cl) (ps : Ps) (w : World) (e : Ending) (w' : World) : Prop :=
  Below w.heap.size w w' ∧ if l.all isOp then ∃ sp' n' cap' sa na ca, e = .returned (.tuple #[.agg #[.slice sp' n' cap'], .slice sa na ca, .int .i64 0]) ∧ SlK w' 2 sp' n' (prs (mapP l ps l.length)) ∧ SlK w' 4 sa na (ans (ansK l ps l.length)) ∧ (sp' = none → cap' = 0) ∧ n' ≤ cap'
    else e = .returned (.tuple #[.agg #[.slice none 0 0], .slice none 0 0, .int .i64 341])
/-- What the loop's body holds. -/
structure RunI (w : World) (L : List Blk3) (bo base : Nat) (l : List Cl) (ps : Ps) (vs : Vs) (S : Nat → Prop) (W : World) : Prop where
  rows : HasL W L
  mine : ∀ x ∈ L, ¬ S x.1
  old : Old w.heap.size w S W
  lo : base ≤ W.heap.size
  ok : okTo l vs.length = true
  out : ∃ v, W.heap[bo]? = some (.cells #[v] 51 (0, 0)) ∧ ¬ S bo ∧ OwnR base 35 4 v vs.length (ans (ansK l ps vs.length)) S W
theorem HasL.foreign {S S' : Nat → Prop} {W W' : World} {L : List Blk3} (h : HasL W L) (hm : ∀ x ∈ L, ¬ S x.1) (hf : Foreign S S' W W') : HasL W' L ∧ ∀ x ∈ L, ¬ S' x.1 :=
  ⟨HasL.of fun x hx => hf.heap' (hm x hx) (h.mem x hx), fun x hx => hf.not (lt_of_heap (h.mem x hx)) (hm x hx)⟩
theorem RunI.stable (w : World) (L : List Blk3) (bo base : Nat) (l : List Cl) (ps : Ps) (vs : Vs) : Stable (RunI w L bo base l ps vs) := by
  rintro S S' W W' ⟨h1, h2, h3, hlo, h4, v, h5, h6, h7⟩ hf
  obtain ⟨g1, g2⟩ := h1.foreign h2 hf
  exact ⟨g1, g2, Old.stable _ _ _ _ _ _ h3 hf, Nat.le_trans hlo hf.size, h4, v, hf.heap' h6 h5, hf.not (lt_of_heap h5) h6, OwnR.stable _ _ _ _ _ _ _ _ _ _ h7 hf⟩
/-- What is left where a call is of no Op. -/
def RunX (w : World) (L : List Blk3) (l : List Cl) (c : Code) (vs : Vs) (S : Nat → Prop) (W : World) : Prop :=
  c = .ret ∧ HasL W L ∧ (∀ x ∈ L, ¬ S x.1) ∧ Old w.heap.size w S W ∧ l.all isOp = false
theorem RunX.stable (w : World) (L : List Blk3) (l : List Cl) (c : Code) (vs : Vs) : Stable (RunX w L l c vs) := by
  rintro S S' W W' ⟨h0, h1, h2, h3, h4⟩ hf
  obtain ⟨g1, g2⟩ := h1.foreign h2 hf
  exact ⟨h0, g1, g2, Old.stable _ _ _ _ _ _ h3 hf, h4⟩
theorem AnsY.last {B tb : Nat} {l : List Cl} {ps : Ps} {vs : Vs} {v : Array Value} {S : Nat → Prop} {W : World} (h : AnsY B tb l ps (vs ++ [v]) S W) : v = toldV l ps vs.length := h.told vs.length v (by rw [List.getElem?_append_right (Nat.le_refl _), Nat.sub_self]; rfl)
theorem toldV_size (l : List Cl) (ps : Ps) (k : Nat) : (toldV l ps k).size = 2 := by unfold toldV; split <;> rfl
/-- Behind the assignment: the answer's own block. -/
structure RunA (tm : Nat → An → Bool → Act) (w : World) (L : List Blk3) (bo base : Nat) (l : List Cl) (ps : Ps) (vs : Vs) (v : Array Value) (a₁ : Act) (S : Nat → Prop) (W : World) : Prop where
  held : RunI w L bo base l ps vs S W
  blk : ∃ bx c, l[vs.length]? = some c ∧ a₁ = tm bx (toldA c (mapP l ps vs.length)) (isOp c) ∧ W.heap[bx]? = some (.cells (anA (toldA c (mapP l ps vs.length)) none 0 0) 35 (0, 0)) ∧ ¬ S bx
theorem RunA.stable (tm : Nat → An → Bool → Act) (w : World) (L : List Blk3) (bo base : Nat) (l : List Cl) (ps : Ps) (vs : Vs) (v : Array Value) (a₁ : Act) : Stable (RunA tm w L bo base l ps vs v a₁) := by
  rintro S S' W W' ⟨h1, bx, c, h2, h3, h4, h5⟩ hf
  exact ⟨RunI.stable _ _ _ _ _ _ _ _ _ _ _ h1 hf, bx, c, h2, h3, hf.heap' h5 h4, hf.not (lt_of_heap h4) h5⟩
set_option maxHeartbeats 4000000 in
theorem mRun_yes (sp slc : Option Addr) (n cap nc capc : Nat) (ps : Ps) (l : List Cl) (w : World) (h : SlK w 2 sp n (prs ps)) (hc : SlK w 4 slc nc (cls l)) (hup : upB ps = true) (h6 : ∀ c ∈ l, c.op ≠ 6) (hn : ps.length + l.length ≤ 4096) :
    Calls Try.prog 21 #[.agg #[.slice sp n cap], .slice slc nc capc] w (RunEnd l ps w) := by
  have H0 := (((Hs.nil w).new2 #[.slice sp n cap] #[.slice none 0 0] 24 24).new #[.slice none 0 0] 51).new #[.int .i64 0] 28
  simp only [World.size_alloc] at H0
  obtain ⟨W0, hW0⟩ : ∃ W0, W0 = ((((w.alloc (.cells #[.slice sp n cap] 24)).alloc (.cells #[.slice none 0 0] 24)).alloc (.cells #[.slice none 0 0] 51)).alloc (.cells #[.int .i64 0] 28)) := ⟨_, rfl⟩
  rw [← hW0] at H0
  have C := mcheck_yes sp n cap ps W0 (h.below H0.old) hup
  have hn4 : n ≤ 4096 := by have := prs_len h; omega
  have h'h := Lib.hid h
  have hc'h := Lib.hid hc
  have hup'h := Lib.hid hup
  have H0'h := Lib.hid H0
  have hW0'h := Lib.hid hW0
  have C'h := Lib.hid C
  have h6'h := Lib.hid h6
  clear h hc hup H0 hW0 C h6
  refine (callsIn_wide (n := 0)).1 ?_
  refine callsIn_of_wp_marks Try.func21 rfl trivial ?_
  simp only [Try.ntmps21, List.size_toArray, List.length_cons, List.length_nil, Nat.reduceAdd, Nat.reduceSub, Array.replicate_succ, Array.replicate_zero, List.push_toArray, List.append_toArray, List.nil_append, List.cons_append]
  refine wpIn_wide.2 ?_
  go_upto_region 1 with fail
  change Code.wp _ _ _ _ ((((w.alloc (.cells #[.slice sp n cap] 24)).alloc (.cells #[.slice none 0 0] 24)).alloc (.cells #[.slice none 0 0] 51)).alloc (.cells #[.int .i64 0] 28))
  rw [← hW0'h.out]
  have x0 : W0.cell? ⟨w.heap.size, 0, none⟩ = some (.slice sp n cap) := blk_cell (i := 0) H0'h.out.rows.2.2.2.1 rfl
  go_upto_region 4 with (go_at_call 9; refine C'h.out.mono ?_; rintro e w2 ⟨rfl, hb2⟩)
  clear x0
  have H2 := H0'h.out.next hb2
  have O := mof_any sp n cap ps w2 (h'h.out.below H2.old) hn4
  have x0 : w2.cell? ⟨w.heap.size, 0, none⟩ = some (.slice sp n cap) := blk_cell (i := 0) H2.rows.2.2.2.1 rfl
  have H2'h := Lib.hid H2
  have O'h := Lib.hid O
  have hb2'h := Lib.hid hb2
  clear H2 O hb2
  go_upto_region 5 with (go_at_call 26; refine O'h.out.mono ?_; rintro e w3 ⟨tb, g, rfl, hb3, hT3⟩)
  clear x0
  have H3 := H2'h.out.next hb3
  have H4 := H3.new #[.slice none 0 0] 51
  have hT4 := hT3.below (W' := w3.alloc (.cells #[.slice none 0 0] 51)) ((Below.refl _ _).alloc (Nat.le_refl _) _)
  obtain ⟨W4, hW4⟩ : ∃ W4, W4 = w3.alloc (.cells #[.slice none 0 0] 51) := ⟨_, rfl⟩
  rw [← hW4] at H4 hT4
  have H3'h := Lib.hid H3
  have H4'h := Lib.hid H4
  have hb3'h := Lib.hid hb3
  have hT3'h := Lib.hid hT3
  have hT4'h := Lib.hid hT4
  clear H3 H4 hb3 hT3 hT4
  go_upto_region 6 with fail
  rw [← hW4]
  have A4 := answers_any tb slc nc capc W4
  obtain ⟨W5, hW5⟩ : ∃ W5, W5 = (W4.alloc (.cells #[.pointer (some ⟨tb, 0, none⟩)] 63)).alloc (.cells #[.slice slc nc capc] 25) := ⟨_, rfl⟩
  rw [← hW5] at A4
  have hW4'h := Lib.hid hW4
  have A4'h := Lib.hid A4
  have hW5'h := Lib.hid hW5
  clear hW4 A4 hW5
  go_wp2_with (go_at_call 31; refine A4'h.out.mono ?_; rintro e w5 ⟨rfl, rfl⟩)
  have H4 := H4'h.out
  have H3 := H3'h.out
  have hT4 := hT4'h.out
  have h5 := hW5'h.out
  have hb5 : Below W4.heap.size W4 w5 := by rw [h5]; exact ((Below.refl _ _).alloc (Nat.le_refl _) _).alloc (by simp) _
  have hz5 : w5.heap.size = W4.heap.size + 2 := by rw [h5]; simp
  have hz4 : W4.heap.size = w3.heap.size + 1 := by rw [hW4'h.out]; simp
  have H5 := H4.next hb5
  have hT5 := hT4.below hb5
  have hR5 : AnsR W4.heap.size (W4.heap.size + 1) tb slc nc capc l w5 := ⟨by rw [h5]; exact heap_alloc2_old W4 _ _, by rw [h5]; exact heap_alloc2_new W4 _ _, hc'h.out.below H5.old⟩
  have hgl : w2.heap.size ≤ g := hT5.lowrow ⟨g, 0, none⟩ rfl
  have hgs : g < W4.heap.size := hT4.spot g rfl
  have hts : tb < W4.heap.size := lt_of_heap hT4.tbl
  have hwl : w.heap.size ≤ w2.heap.size := H2'h.out.old.size
  have hsl : ∀ b, 0 < nc → slc.map (·.block) = some b → b < w.heap.size := by
    intro b h0 e
    obtain ⟨b', off, rfl, hcs⟩ := hc'h.out.some' h0
    cases e
    have h1 := hc'h.out.1
    obtain ⟨u, us, hu⟩ := List.exists_cons_of_ne_nil (l := cls l) (fun e => by rw [e] at h1; simp at h1; omega)
    have := lt_of_cell (hcs 0 u (by rw [hu]; rfl))
    exact this
  have hap : ∀ b, ansRO W4.heap.size (W4.heap.size + 1) slc nc b → b ≠ tb ∧ (some (⟨g, 0, none⟩ : Addr)).map (·.block) ≠ some b := by
    rintro b (rfl | rfl | ⟨h0, e⟩)
    · exact ⟨by omega, fun e => by simp at e; omega⟩
    · exact ⟨by omega, fun e => by simp at e; omega⟩
    · have := hsl b h0 e
      have := hT5.low
      exact ⟨by omega, fun e => by simp at e; omega⟩
  have it := answers_it w2.heap.size W4.heap.size (W4.heap.size + 1) tb (some ⟨g, 0, none⟩) slc n n nc capc l ps w5 hR5 hT5 hup'h.out h6'h.out hn hap
  obtain ⟨L, hL⟩ : ∃ L : List Blk3, L = [(w.heap.size + 1 + 1 + 1, #[.int .i64 0], 28), (w.heap.size + 1 + 1, #[.slice none 0 0], 51), (w.heap.size + 1, #[.slice none 0 0], 24), (w.heap.size, #[.slice sp n cap], 24)] := ⟨_, rfl⟩
  obtain ⟨L2, hL2⟩ : ∃ L : List Blk3, L = [(w.heap.size + 1 + 1 + 1, #[.int .i64 341], 28), (w.heap.size + 1 + 1, #[.slice none 0 0], 51), (w.heap.size + 1, #[.slice none 0 0], 24), (w.heap.size, #[.slice sp n cap], 24)] := ⟨_, rfl⟩
  have HL := H5.tail
  rw [← hL] at HL
  have hLlow := HL.low
  have hLdesc := HL.desc
  have hI0 : RunI w L w3.heap.size w5.heap.size l ps [] (fun b => b = tb ∨ (some (⟨g, 0, none⟩ : Addr)).map (·.block) = some b) w5 := by
    have hlo : ∀ b, w2.heap.size ≤ b → b ≠ tb → b ≠ g → True := fun _ _ _ _ => trivial
    refine ⟨HL.rows, fun x hx => ?_, ⟨H5.old, Nat.le_refl _, fun b hb h => ?_⟩, Nat.le_refl _, rfl, .slice none 0 0, H5.rows.1, ?_, ⟨rfl, .inl ⟨rfl, rfl⟩⟩, fun k e => by cases e⟩
    · rw [hL] at hx
      have := H2'h.out.lt x hx
      have := hT5.low
      rintro (e | e)
      · omega
      · simp at e; omega
    · have := hT5.low
      rcases h with e | e
      · omega
      · simp at e; omega
    · have h3 := hT3'h.out.spot g rfl
      have h4 := lt_of_heap hT3'h.out.tbl
      rintro (e | e)
      · omega
      · simp at e; omega
  have hRO : ∀ b, ansRO W4.heap.size (W4.heap.size + 1) slc nc b → b < w5.heap.size ∧ ¬ (b = tb ∨ (some (⟨g, 0, none⟩ : Addr)).map (·.block) = some b) := fun b hb => ⟨hR5.lt b hb, fun h => h.elim (hap b hb).1 (hap b hb).2⟩
  have hS0 : ∀ b, (b = tb ∨ (some (⟨g, 0, none⟩ : Addr)).map (·.block) = some b) → b < w5.heap.size := by
    rintro b (e | e)
    · omega
    · simp at e; omega
  have hw3 : w3.heap.size < w5.heap.size := by omega
  have H4'h := Lib.hid H4
  have H3'h := Lib.hid H3
  have hT4'h := Lib.hid hT4
  have h5'h := Lib.hid h5
  have hb5'h := Lib.hid hb5
  have hz5'h := Lib.hid hz5
  have hz4'h := Lib.hid hz4
  have H5'h := Lib.hid H5
  have hT5'h := Lib.hid hT5
  have hR5'h := Lib.hid hR5
  have hgl'h := Lib.hid hgl
  have hgs'h := Lib.hid hgs
  have hts'h := Lib.hid hts
  have hwl'h := Lib.hid hwl
  have hsl'h := Lib.hid hsl
  have hap'h := Lib.hid hap
  have it'h := Lib.hid it
  have hI0'h := Lib.hid hI0
  have hRO'h := Lib.hid hRO
  have hS0'h := Lib.hid hS0
  have hL'h := Lib.hid hL
  have HL'h := Lib.hid HL
  have hLlow'h := Lib.hid hLlow
  have hLdesc'h := Lib.hid hLdesc
  have hL2'h := Lib.hid hL2
  clear H4 H3 hT4 h5 hb5 hz5 hz4 H5 hT5 hR5 hgl hgs hts hwl hsl hap it hI0 hRO hS0 hL HL hLlow hLdesc hL2
  refine (wpIn_wide (n := 0)).1 ?_
  refine' wpIn_rangeH rfl (fun h => by cases h) rfl trivial enters_answers it'h.out (AnsY.keeps _ _ _ _ _) hS0'h.out (fun vs v S W hy => by rw [hy.last]; exact toldV_size _ _ _) hRO'h.out
    (RunI w L w3.heap.size w5.heap.size l ps) (RunX w L2 l) (RunI.stable _ _ _ _ _ _) (RunX.stable _ _ _) hI0'h.out
    (RunA (fun bx a ok => { tmps := #[.agg #[.slice sp n cap], .slice slc nc capc, .pointer (some ⟨w.heap.size, 0, none⟩), undef, .pointer (some ⟨w.heap.size + 1, 0, none⟩), .pointer (some ⟨w.heap.size + 1 + 1, 0, none⟩), .pointer (some ⟨w.heap.size + 1 + 1 + 1, 0, none⟩), .int .i64 0, .pointer (some ⟨tb, 0, none⟩), .pointer (some ⟨w3.heap.size, 0, none⟩), .pointer (some ⟨bx, 0, none⟩), .bool ok, .agg #[.slice sp n cap], .int .i64 0, .int .i64 0, .bool false, undef, undef, .agg #[.slice sp n cap], .pointer (some ⟨tb, 0, none⟩), .pointer (some ⟨tb, 0, none⟩), .slice slc nc capc, .func (.func 41) #[] #[.pointer (some ⟨W4.heap.size + 1, 0, none⟩), .pointer (some ⟨W4.heap.size, 0, none⟩)], .agg (anA a none 0 0), .bool ok, undef, undef, undef, undef, undef, undef, undef, undef, undef, undef, undef, undef], defers := [] }) w L w3.heap.size w5.heap.size l ps) (RunA.stable _ _ _ _ _ _ _) ?assign ?body ?done ?stop
  case assign =>
    intro ly vs v S S1 W hk hl hs1 hro hSb hY hI
    obtain ⟨c, hc⟩ : ∃ c, l[vs.length]? = some c := ⟨_, List.getElem?_eq_getElem hk⟩
    have hv := hY.last
    rw [toldV_at hc] at hv
    obtain ⟨a, ha⟩ : ∃ a, a = toldA c (mapP l ps vs.length) := ⟨_, rfl⟩
    obtain ⟨ok, hok⟩ : ∃ ok, ok = isOp c := ⟨_, rfl⟩
    rw [← ha, ← hok] at hv
    subst hv
    have hY'h := Lib.hid hY
    have hI'h := Lib.hid hI
    have hro'h := Lib.hid hro
    have hSb'h := Lib.hid hSb
    have hc'h := Lib.hid hc
    have ha'h := Lib.hid ha
    have hok'h := Lib.hid hok
    clear hY hI hro hSb hc ha hok
    gi_wp2_with (refine wpListIn_store_row rfl _ _ _ rfl W.heap.size (anA a none 0 0) rfl rfl 35 _ (World.alloc_heap_new _ _) info_an rfl (anA_one _ _ _ _) ?_)
    have hbw : Below W.heap.size W ((W.alloc (.cells (anA ⟨0, 0, false⟩ none 0 0) 35)).setRow W.heap.size (anA a none 0 0)) := below_setRow' ((Below.refl _ _).alloc (Nat.le_refl _) _) (Nat.le_refl _) _
    refine ⟨⟨RunI.stable _ _ _ _ _ _ _ _ _ _ _ hI'h.out (Foreign.of_below hbw), W.heap.size, c, hc'h.out, ?_, ?_, fun h => by have := hSb'h.out _ h; omega⟩, Kept.of_below hbw⟩
    · rw [← ha'h.out, ← hok'h.out]
    · rw [← ha'h.out]; exact setRow_heap _ _ _ _ _ _ (World.alloc_heap_new _ _)
  case body =>
    rintro ly vs v S S1 a₁ W r hk hl hs1 hlr hro hSb hY ⟨hI, bx, c, hc, rfl, hbx, hbs⟩
    obtain ⟨a, ha⟩ : ∃ a, a = toldA c (mapP l ps vs.length) := ⟨_, rfl⟩
    rw [← ha] at hbx ⊢
    cases hok : isOp c with
    | true =>
      obtain ⟨u, hu, hbo, hrow⟩ := hI.out
      have y0 : W.cell? ⟨w3.heap.size, 0, none⟩ = some u := blk_cell hu rfl
      obtain ⟨i0, hi0, hz0, hzs, hzb⟩ := info_parts info_anF
      have hI'h := Lib.hid hI
      have hc'h := Lib.hid hc
      have ha'h := Lib.hid ha
      have hbx'h := Lib.hid hbx
      have hok'h := Lib.hid hok
      have hu'h := Lib.hid hu
      have hrow'h := Lib.hid hrow
      have hY'h := Lib.hid hY
      have hro'h := Lib.hid hro
      have hSb'h := Lib.hid hSb
      have hi0'h := Lib.hid hi0
      have hz0'h := Lib.hid hz0
      have hzs'h := Lib.hid hzs
      have hzb'h := Lib.hid hzb
      have hlr'h := Lib.hid hlr
      clear hI hc ha hbx hok hu hrow hY hro hSb hi0 hz0 hzs hzb hlr
      have hro9 : ∀ b, u.ownBlock = some b → w5.heap.size ≤ b := hrow'h.out.lo
      have hlo9 := hI'h.out.lo
      have hown := fun o => ownsRow_next hrow'h.out.row (w' := W.alloc o) ((Below.refl _ _).alloc (Nat.le_refl _) _)
      have hkl : vs.length < 4096 := by omega
      have hcl : ∀ (o : Obj) (j : Nat) (q : Value), o = .cells #[.int .i64 a.err, .int .u64 (a.val : Int), .bool a.done, .slice none 0 0] 35 → (anL a)[j]? = some q → (W.alloc o).cell? ((⟨W.heap.size, 0, none⟩ : Addr).add j) = some q := by
        rintro o j q rfl hq
        rw [add_lit', Nat.zero_add]
        exact blk_cell (World.alloc_heap_new _ _) (by simpa [anL] using hq)
      have hro9'h := Lib.hid hro9
      have hown'h := Lib.hid hown
      have hcl'h := Lib.hid hcl
      clear hro9 hown hcl
      gi_wp2_with (first | (refine wpListIn_load_row rfl _ _ rfl bx rfl 35 #[.int .i64 a.err, .int .u64 (a.val : Int), .bool a.done, .slice none 0 0] (0, 0) _ hbx'h.out Try.underlying35 rfl info_an ?_) | (refine wpListIn_append _ rfl _ _ 51 rfl w5.heap.size 35 i0 _ 4 48 Try.underlying51 hi0'h.out hz0'h.out hzs'h.out hzb'h.out rfl (by decide) u vs.length _ rfl (hown'h.out _) ⟨W.heap.size, 0, none⟩ 1 1 (anL a) rfl rfl (fun j q hq => hcl'h.out _ j q rfl hq) (anL_one a) (by unfold maxLen; omega) (by omega) (by rw [World.size_alloc]; omega) (by decide) ?_; intro v' w7 hown7 hgrow7 hwhere7; obtain ⟨sv, cv, rfl⟩ := row_slice' hown7; have hne7 : some w3.heap.size ≠ u.ownBlock := (fun e => by have := hro9'h.out _ e.symm; omega); have hu7 := (hgrow7.block w3.heap.size (by rw [World.size_alloc]; omega) hne7).trans ((Below.heap_alloc _ _ _ (by omega)).trans hu'h.out); have y7 := blk_cell (i := 0) hu7 rfl; have f7 := blk_free 0 hu7; have hown7'h := Lib.hid hown7; have hgrow7'h := Lib.hid hgrow7; have hwhere7'h := Lib.hid hwhere7; clear hown7 hgrow7 hwhere7))
      have hgW := hgrow7'h.out
      have hsz1 : (W.alloc (.cells #[.int .i64 a.err, .int .u64 (a.val : Int), .bool a.done, .slice none 0 0] 35)).heap.size = W.heap.size + 1 := World.size_alloc _ _
      have hkA : Kept (fun b => some b ≠ u.ownBlock) W w7 := (Kept.alloc _ W _).trans ⟨hgW.os, hgW.tape, hgW.output, hgW.size, fun b hb hs => hgW.block b hb hs⟩
      have hkB : Kept (fun b => some b ≠ u.ownBlock ∧ b ≠ w3.heap.size) W (w7.setCell ⟨w3.heap.size, 0, none⟩ (.slice sv (vs.length + 1) cv)) := (hkA.mono fun b h => h.1).trans (Kept.setCell _ _ _ _ (fun h => h.2 rfl))
      have hnRO : ∀ b, (ansRO W4.heap.size (W4.heap.size + 1) slc nc b ∨ S b) → some b ≠ u.ownBlock ∧ b ≠ w3.heap.size := by
        rintro b (h | h)
        · have h1 := hR5'h.out.lt b h
          refine ⟨fun e => by have := hro9'h.out _ e.symm; omega, fun e => ?_⟩
          have hz4 := hz4'h.out
          rcases h with e1 | e1 | ⟨h0, e1⟩
          · omega
          · omega
          · have := hsl'h.out b h0 e1; have := hwl'h.out; have := hgl'h.out; have := hgs'h.out; omega
        · refine ⟨fun e => hrow'h.out.mine b e.symm h, fun e => ?_⟩
          obtain ⟨_, _, hb3, _⟩ := hI'h.out.out
          exact hb3 (e ▸ h)
      refine ⟨hkB.mono hnRO, ?_⟩
      have hlen1 : (vs ++ [v]).length = vs.length + 1 := by simp
      have hfr : ∀ x ∈ L, some x.1 ≠ u.ownBlock ∧ x.1 ≠ w3.heap.size := fun x hx => by
        have h1 := HL'h.out.lt x hx
        have h2 : x.1 < w3.heap.size := by rw [hL'h.out] at hx; exact H3'h.out.lt x hx
        exact ⟨fun e => by have := hro9'h.out _ e.symm; omega, by omega⟩
      have hanse : ansP l ps vs.length = a := by rw [ansP_at hc'h.out, ha'h.out]; unfold toldA; rw [if_pos hok'h.out]
      refine ⟨HasL.of fun x hx => (hkB.block x.1 (lt_of_heap (hI'h.out.rows.mem x hx)) (hfr x hx)).trans (hI'h.out.rows.mem x hx), hI'h.out.mine, ⟨?_, Nat.le_refl _, hI'h.out.old.mine⟩, Nat.le_trans hlo9 hkB.size, ?_, .slice sv (vs.length + 1) cv, blk_set (cs := #[u]) (i := 0) _ hu7, ?_, ?_⟩
      · refine hI'h.out.old.below.trans ((hkB.mono fun b hb => ⟨fun e => by have := hro9'h.out _ e.symm; have := hI'h.out.old.below.size; have := H5'h.out.old.size; omega, by have := H3'h.out.old.size; omega⟩).below hI'h.out.old.below.size)
      · rw [hlen1]; exact okTo_succ hc'h.out hI'h.out.ok hok'h.out
      · obtain ⟨_, _, hb3, _⟩ := hI'h.out.out
        exact hb3
      · rw [hlen1, ansK_succ, hanse]
        have hap7 : ans (ansK l ps vs.length ++ [a]) = ans (ansK l ps vs.length) ++ anL a := by simp [ans]
        rw [hap7]
        exact hrow'h.out.appended (ownsRow_setCell_below hown7'h.out hw3 _) hwhere7'h.out (by omega) hSb'h.out
    | false =>
      have HW : Hs w L W := ⟨hI.rows, hI.old.below, hLlow'h.out, hLdesc'h.out⟩
      rw [hL'h.out] at HW
      have y1 : W.cell? ⟨w.heap.size + 1, 0, none⟩ = some (.slice none 0 0) := blk_cell (i := 0) HW.rows.2.2.1 rfl
      have y2 : W.cell? ⟨w.heap.size + 1 + 1, 0, none⟩ = some (.slice none 0 0) := blk_cell (i := 0) HW.rows.2.1 rfl
      have y3 : W.cell? ⟨w.heap.size + 1 + 1 + 1, 0, none⟩ = some (.int .i64 0) := blk_cell (i := 0) HW.rows.1 rfl
      have f1 : W.frozen? ⟨w.heap.size + 1, 0, none⟩ = false := blk_free 0 HW.rows.2.2.1
      have f2 : W.frozen? ⟨w.heap.size + 1 + 1, 0, none⟩ = false := blk_free 0 HW.rows.2.1
      have f3 : W.frozen? ⟨w.heap.size + 1 + 1 + 1, 0, none⟩ = false := blk_free 0 HW.rows.1
      have hI'h := Lib.hid hI
      have hc'h := Lib.hid hc
      have ha'h := Lib.hid ha
      have hbx'h := Lib.hid hbx
      have hok'h := Lib.hid hok
      have hY'h := Lib.hid hY
      have hro'h := Lib.hid hro
      have hSb'h := Lib.hid hSb
      have hlr'h := Lib.hid hlr
      have HW'h := Lib.hid HW
      clear hI hc ha hbx hok hY hro hSb hlr HW
      gi_wp2
      have H6 := (((HW'h.out.put 2 rfl 0 (.slice none 0 0)).put 1 rfl 0 (.slice none 0 0)).put 0 rfl 0 (.int .i64 341))
      have hK6 : Kept (fun b => b ≠ w.heap.size + 1 ∧ b ≠ w.heap.size + 1 + 1 ∧ b ≠ w.heap.size + 1 + 1 + 1) W _ := ((Kept.setCell _ W ⟨w.heap.size + 1, 0, none⟩ (.slice none 0 0) (fun h => h.1 rfl)).trans (Kept.setCell _ _ ⟨w.heap.size + 1 + 1, 0, none⟩ (.slice none 0 0) (fun h => h.2.1 rfl))).trans (Kept.setCell _ _ ⟨w.heap.size + 1 + 1 + 1, 0, none⟩ (.int .i64 341) (fun h => h.2.2 rfl))
      clear y1 y2 y3 f1 f2 f3
      generalize World.setCell _ _ _ = W7 at H6 hK6 ⊢
      have hmine : ∀ x ∈ L, ¬ S x.1 := hI'h.out.mine
      have hm1 : ∀ i, i < 4 → ¬ S (w.heap.size + i) := by
        intro i hi h
        rw [hL'h.out] at hmine
        have g0 := hmine _ (List.mem_cons_self ..)
        have g1 := hmine _ (List.mem_cons_of_mem _ (List.mem_cons_self ..))
        have g2 := hmine _ (List.mem_cons_of_mem _ (List.mem_cons_of_mem _ (List.mem_cons_self ..)))
        have g3 := hmine _ (List.mem_cons_of_mem _ (List.mem_cons_of_mem _ (List.mem_cons_of_mem _ (List.mem_cons_self ..))))
        rcases (show i = 0 ∨ i = 1 ∨ i = 2 ∨ i = 3 by omega) with rfl | rfl | rfl | rfl
        · exact g3 h
        · exact g2 h
        · exact g1 h
        · exact g0 h
      have hzr : w.heap.size + 4 ≤ W4.heap.size := by
        have h1 := H3'h.out.lt (w.heap.size + 1 + 1 + 1, #[.int .i64 0], 28) (List.mem_cons_self ..)
        have := hz4'h.out
        simp only at h1; omega
      refine ⟨hK6.mono ?_, rfl, ?_, ?_, ⟨H6.old, Nat.le_refl _, hI'h.out.old.mine⟩, ?_⟩
      · rintro b (h | h)
        · rcases h with e | e | ⟨h0, e⟩
          · omega
          · omega
          · have := hsl'h.out b h0 e; omega
        · exact ⟨fun e => hm1 1 (by decide) (e ▸ h), fun e => hm1 2 (by decide) (e ▸ h), fun e => hm1 3 (by decide) (e ▸ h)⟩
      · rw [hL2'h.out]; exact H6.rows
      · rw [hL2'h.out]
        intro x hx
        simp only [List.mem_cons, List.not_mem_nil, or_false] at hx
        rcases hx with rfl | rfl | rfl | rfl
        · exact hm1 3 (by decide)
        · exact hm1 2 (by decide)
        · exact hm1 1 (by decide)
        · exact hm1 0 (by decide)
      · rw [Bool.eq_false_iff]
        intro h
        have := (List.all_eq_true.1 h) c (List.mem_of_getElem? hc'h.out)
        rw [hok'h.out] at this; cases this
  case stop =>
    rintro D c vs S S1 W hD hSD hro hs1 hS1D hY ⟨rfl, hrows, hmine, hold, hbad⟩ hK
    rw [hL2'h.out] at hrows
    have hDn : w.heap.size + 1 + 1 + 1 < D := by
      have h1 := H5'h.out.lt (w.heap.size + 1 + 1 + 1, #[.int .i64 0], 28) (List.mem_cons_of_mem _ (List.mem_cons_self ..))
      simp only at h1; omega
    have hb9 := below_putObj hold.below (D := D) (by omega) (.deferred none)
    have e1 : (W.putObj D (.deferred none)).cell? ⟨w.heap.size + 1, 0, none⟩ = some (.slice none 0 0) := blk_cell (i := 0) ((World.putObj_heap_other (by omega)).trans hrows.2.2.1) rfl
    have e2 : (W.putObj D (.deferred none)).cell? ⟨w.heap.size + 1 + 1, 0, none⟩ = some (.slice none 0 0) := blk_cell (i := 0) ((World.putObj_heap_other (by omega)).trans hrows.2.1) rfl
    have e3 : (W.putObj D (.deferred none)).cell? ⟨w.heap.size + 1 + 1 + 1, 0, none⟩ = some (.int .i64 341) := blk_cell (i := 0) ((World.putObj_heap_other (by omega)).trans hrows.1) rfl
    have hro'h := Lib.hid hro
    have hY'h := Lib.hid hY
    have hrows'h := Lib.hid hrows
    have hmine'h := Lib.hid hmine
    have hold'h := Lib.hid hold
    have hbad'h := Lib.hid hbad
    have hK'h := Lib.hid hK
    have hs1'h := Lib.hid hs1
    clear hro hY hrows hmine hold hbad hK hs1
    gi_wp2
    refine post_mark (v := .tuple #[.agg #[.slice none 0 0], .slice none 0 0, .int .i64 341]) (.inl rfl) hK'h.out ?_ ⟨hb9, ?_⟩
    · simp [results, Try.results21, go_sem, e1, e2, e3]
    · rw [hbad'h.out, if_neg (by decide)]
  case done =>
    rintro D S S1 vs W hD hSD hro hs1 hS1D hn hY hI hK
    obtain ⟨_, hSt, sp', n', cap', hT, hsS⟩ := hY
    obtain ⟨u, hu, hbo, hrow⟩ := hI.out
    obtain ⟨sa, ca, rfl⟩ := row_slice' hrow.row
    have HW : Hs w L W := ⟨hI.rows, hI.old.below, hLlow'h.out, hLdesc'h.out⟩
    rw [hL'h.out] at HW
    have y1 : W.cell? ⟨w.heap.size + 1, 0, none⟩ = some (.slice none 0 0) := blk_cell (i := 0) HW.rows.2.2.1 rfl
    have y2 : W.cell? ⟨w.heap.size + 1 + 1, 0, none⟩ = some (.slice none 0 0) := blk_cell (i := 0) HW.rows.2.1 rfl
    have y3 : W.cell? ⟨w.heap.size + 1 + 1 + 1, 0, none⟩ = some (.int .i64 0) := blk_cell (i := 0) HW.rows.1 rfl
    have f1 : W.frozen? ⟨w.heap.size + 1, 0, none⟩ = false := blk_free 0 HW.rows.2.2.1
    have f2 : W.frozen? ⟨w.heap.size + 1 + 1, 0, none⟩ = false := blk_free 0 HW.rows.2.1
    have f3 : W.frozen? ⟨w.heap.size + 1 + 1 + 1, 0, none⟩ = false := blk_free 0 HW.rows.1
    have y4 := hT.cell
    have y5 : W.cell? ⟨w3.heap.size, 0, none⟩ = some (.slice sa vs.length ca) := blk_cell hu rfl
    have hb2s := H2'h.out.lt (w.heap.size + 1 + 1 + 1, #[.int .i64 0], 28) (List.mem_cons_self ..)
    have hb3s := H3'h.out.lt (w.heap.size + 1 + 1 + 1, #[.int .i64 0], 28) (List.mem_cons_self ..)
    have htl := hT.low
    simp only at hb2s hb3s
    have q00 : ∀ (W : World) (o o' : Nat) (v : Value), (W.setCell ⟨w.heap.size + 1, o, none⟩ v).cell? ⟨tb, o', none⟩ = W.cell? ⟨tb, o', none⟩ := fun W o o' v => World.cell?_of_block (Below.heap_setCell _ _ _ _ (by simp only; omega))
    have q01 : ∀ (W : World) (o o' : Nat) (v : Value), (W.setCell ⟨w.heap.size + 1, o, none⟩ v).cell? ⟨w3.heap.size, o', none⟩ = W.cell? ⟨w3.heap.size, o', none⟩ := fun W o o' v => World.cell?_of_block (Below.heap_setCell _ _ _ _ (by simp only; omega))
    have q10 : ∀ (W : World) (o o' : Nat) (v : Value), (W.setCell ⟨w.heap.size + 1 + 1, o, none⟩ v).cell? ⟨tb, o', none⟩ = W.cell? ⟨tb, o', none⟩ := fun W o o' v => World.cell?_of_block (Below.heap_setCell _ _ _ _ (by simp only; omega))
    have q11 : ∀ (W : World) (o o' : Nat) (v : Value), (W.setCell ⟨w.heap.size + 1 + 1, o, none⟩ v).cell? ⟨w3.heap.size, o', none⟩ = W.cell? ⟨w3.heap.size, o', none⟩ := fun W o o' v => World.cell?_of_block (Below.heap_setCell _ _ _ _ (by simp only; omega))
    have q20 : ∀ (W : World) (o o' : Nat) (v : Value), (W.setCell ⟨w.heap.size + 1 + 1 + 1, o, none⟩ v).cell? ⟨tb, o', none⟩ = W.cell? ⟨tb, o', none⟩ := fun W o o' v => World.cell?_of_block (Below.heap_setCell _ _ _ _ (by simp only; omega))
    have q21 : ∀ (W : World) (o o' : Nat) (v : Value), (W.setCell ⟨w.heap.size + 1 + 1 + 1, o, none⟩ v).cell? ⟨w3.heap.size, o', none⟩ = W.cell? ⟨w3.heap.size, o', none⟩ := fun W o o' v => World.cell?_of_block (Below.heap_setCell _ _ _ _ (by simp only; omega))
    have hI'h := Lib.hid hI
    have hT'h := Lib.hid hT
    have hsS'h := Lib.hid hsS
    have hu'h := Lib.hid hu
    have hbo'h := Lib.hid hbo
    have hrow'h := Lib.hid hrow
    have hro'h := Lib.hid hro
    have hs1'h := Lib.hid hs1
    have hK'h := Lib.hid hK
    have HW'h := Lib.hid HW
    clear hI hT hsS hu hbo hrow hro hs1 hK HW
    clear hb2s hb3s htl
    go_wp2
    go_region_held3 (fun w' => w'.cell? ⟨tb, 0, none⟩ = some (.slice sp' n' cap') ∧ w'.cell? ⟨w3.heap.size, 0, none⟩ = some (.slice sa vs.length ca)) (go_keep) (fail)
    all_goals
      have H6 := (((HW'h.out.put 2 rfl 0 (.slice sp' n' cap')).put 1 rfl 0 (.slice sa l.length ca)).put 0 rfl 0 (.int .i64 0)).drew
      have hK6 : Kept (fun b => b ≠ w.heap.size + 1 ∧ b ≠ w.heap.size + 1 + 1 ∧ b ≠ w.heap.size + 1 + 1 + 1) W _ := (((Kept.setCell _ W ⟨w.heap.size + 1, 0, none⟩ (.slice sp' n' cap') (fun h => h.1 rfl)).trans (Kept.setCell _ _ ⟨w.heap.size + 1 + 1, 0, none⟩ (.slice sa l.length ca) (fun h => h.2.1 rfl))).trans (Kept.setCell _ _ ⟨w.heap.size + 1 + 1 + 1, 0, none⟩ (.int .i64 0) (fun h => h.2.2 rfl))).trans (Kept.drew _ _)
      clear y1 y2 y3 y4 y5 f1 f2 f3 q00 q01 q10 q11 q20 q21
      generalize World.drew _ = W7 at H6 hK6 ⊢
      have hDW : D < W.heap.size := lt_of_heap hK'h.out
      have hDn : w.heap.size + 1 + 1 + 1 < D := by
        have h1 := H5'h.out.lt (w.heap.size + 1 + 1 + 1, #[.int .i64 0], 28) (List.mem_cons_of_mem _ (List.mem_cons_self ..))
        simp only at h1; omega
      have hb9 := below_putObj H6.old (D := D) (by omega) (.deferred none)
      have e1 : (W7.putObj D (.deferred none)).cell? ⟨w.heap.size + 1, 0, none⟩ = some (.slice sp' n' cap') := blk_cell (i := 0) ((World.putObj_heap_other (by omega)).trans H6.rows.2.2.1) rfl
      have e2 : (W7.putObj D (.deferred none)).cell? ⟨w.heap.size + 1 + 1, 0, none⟩ = some (.slice sa l.length ca) := blk_cell (i := 0) ((World.putObj_heap_other (by omega)).trans H6.rows.2.1) rfl
      have e3 : (W7.putObj D (.deferred none)).cell? ⟨w.heap.size + 1 + 1 + 1, 0, none⟩ = some (.int .i64 0) := blk_cell (i := 0) ((World.putObj_heap_other (by omega)).trans H6.rows.1) rfl
      have hok := hI'h.out.ok
      rw [hn] at hok
      unfold okTo at hok
      rw [List.take_length] at hok
      have hsp1 : ∀ b, sp'.map (·.block) = some b → b ≠ D ∧ w.heap.size + 1 + 1 + 1 < b := fun b e => by
        have h1 := hT'h.out.lowrow
        have h2 := H2'h.out.lt (w.heap.size + 1 + 1 + 1, #[.int .i64 0], 28) (List.mem_cons_self ..)
        refine ⟨fun e1 => hS1D (e1 ▸ hsS'h.out b e), ?_⟩
        cases sp' with
        | none => cases e
        | some x => have := h1 x rfl; simp at e; simp only at h2; omega
      have hk8 : ∀ b, b < W.heap.size → b ≠ D → w.heap.size + 1 + 1 + 1 < b → (W7.putObj D (.deferred none)).heap[b]? = W.heap[b]? := fun b hb h1 h2 => (World.putObj_heap_other h1).trans (hK6.block b hb ⟨by omega, by omega, by omega⟩)
      have hSm : SlK (W7.putObj D (.deferred none)) 2 sp' n' (prs (mapP l ps l.length)) := by
        rw [← hn]
        exact hT'h.out.row.sl.keep fun b o hb e ho => (hk8 b hb (hsp1 b e).1 (hsp1 b e).2).trans ho
      have hlb := hrow'h.out.lo
      have hSa : SlK (W7.putObj D (.deferred none)) 4 sa l.length (ans (ansK l ps l.length)) := by
        have h1 := SlK.of_row hrow'h.out.row (by unfold maxLen; omega)
        rw [hn] at h1
        exact h1.keep fun b o hb e ho => (hk8 b hb (fun e1 => hrow'h.out.mine b (own_slice e) (e1 ▸ hSD)) (by have := hlb b (own_slice e); have := lt_of_heap (H5'h.out.rows.mem (w.heap.size + 1 + 1 + 1, #[.int .i64 0], 28) (List.mem_cons_of_mem _ (List.mem_cons_self ..))); simp only at this; omega)).trans ho
      go_wp2
      refine post_mark (W := W7) (v := .tuple #[.agg #[.slice sp' n' cap'], .slice sa l.length ca, .int .i64 0]) (.inl rfl) ((hK6.block D hDW ⟨by omega, by omega, by omega⟩).trans hK'h.out) ?_ ⟨hb9, ?_⟩
      · simp [results, Try.results21, go_sem, e1, e2, e3]
      · rw [if_pos hok]
        exact ⟨sp', n', cap', sa, l.length, ca, rfl, hSm, hSa, hT'h.out.row.nil0, hT'h.out.row.le⟩
set_option maxHeartbeats 1000000 in
theorem mRun_map (sp slc : Option Addr) (n cap nc capc : Nat) (ps : Ps) (w : World) (h : SlK w 2 sp n (prs ps)) (hup : upB ps = false) :
    Calls Try.prog 21 #[.agg #[.slice sp n cap], .slice slc nc capc] w fun e w' => e = .returned (.tuple #[.agg #[.slice none 0 0], .slice none 0 0, .int .i64 340]) ∧ Below w.heap.size w w' := by
  have H0 := (((Hs.nil w).new2 #[.slice sp n cap] #[.slice none 0 0] 24 24).new #[.slice none 0 0] 51).new #[.int .i64 0] 28
  simp only [World.size_alloc] at H0
  obtain ⟨W0, hW0⟩ : ∃ W0, W0 = ((((w.alloc (.cells #[.slice sp n cap] 24)).alloc (.cells #[.slice none 0 0] 24)).alloc (.cells #[.slice none 0 0] 51)).alloc (.cells #[.int .i64 0] 28)) := ⟨_, rfl⟩
  rw [← hW0] at H0
  have C := mcheck_no sp n cap ps W0 (h.below H0.old) hup
  have h'h := Lib.hid h
  have hup'h := Lib.hid hup
  have H0'h := Lib.hid H0
  have hW0'h := Lib.hid hW0
  have C'h := Lib.hid C
  clear h hup H0 hW0 C
  refine (callsIn_wide (n := 0)).1 ?_
  refine callsIn_of_wp_marks Try.func21 rfl trivial ?_
  simp only [Try.ntmps21, List.size_toArray, List.length_cons, List.length_nil, Nat.reduceAdd, Nat.reduceSub, Array.replicate_succ, Array.replicate_zero, List.push_toArray, List.append_toArray, List.nil_append, List.cons_append]
  refine wpIn_wide.2 ?_
  go_upto_region 1 with fail
  change Code.wp _ _ _ _ ((((w.alloc (.cells #[.slice sp n cap] 24)).alloc (.cells #[.slice none 0 0] 24)).alloc (.cells #[.slice none 0 0] 51)).alloc (.cells #[.int .i64 0] 28))
  rw [← hW0'h.out]
  have x0 : W0.cell? ⟨w.heap.size, 0, none⟩ = some (.slice sp n cap) := blk_cell (i := 0) H0'h.out.rows.2.2.2.1 rfl
  go_upto_region 3 with (go_at_call 9; refine C'h.out.mono ?_; rintro e w2 ⟨rfl, hb2⟩)
  clear x0
  have HW := H0'h.out.next hb2
  have y1 : w2.cell? ⟨w.heap.size + 1, 0, none⟩ = some (.slice none 0 0) := blk_cell (i := 0) HW.rows.2.2.1 rfl
  have y2 : w2.cell? ⟨w.heap.size + 1 + 1, 0, none⟩ = some (.slice none 0 0) := blk_cell (i := 0) HW.rows.2.1 rfl
  have y3 : w2.cell? ⟨w.heap.size + 1 + 1 + 1, 0, none⟩ = some (.int .i64 0) := blk_cell (i := 0) HW.rows.1 rfl
  have f1 : w2.frozen? ⟨w.heap.size + 1, 0, none⟩ = false := blk_free 0 HW.rows.2.2.1
  have f2 : w2.frozen? ⟨w.heap.size + 1 + 1, 0, none⟩ = false := blk_free 0 HW.rows.2.1
  have f3 : w2.frozen? ⟨w.heap.size + 1 + 1 + 1, 0, none⟩ = false := blk_free 0 HW.rows.1
  have HW'h := Lib.hid HW
  clear HW
  go_wp2
  have H6 := (((HW'h.out.put 2 rfl 0 (.slice none 0 0)).put 1 rfl 0 (.slice none 0 0)).put 0 rfl 0 (.int .i64 340))
  clear y1 y2 y3 f1 f2 f3
  generalize World.setCell _ _ _ = W7 at H6 ⊢
  have e1 : W7.cell? ⟨w.heap.size + 1, 0, none⟩ = some (.slice none 0 0) := blk_cell (i := 0) H6.rows.2.2.1 rfl
  have e2 : W7.cell? ⟨w.heap.size + 1 + 1, 0, none⟩ = some (.slice none 0 0) := blk_cell (i := 0) H6.rows.2.1 rfl
  have e3 : W7.cell? ⟨w.heap.size + 1 + 1 + 1, 0, none⟩ = some (.int .i64 340) := blk_cell (i := 0) H6.rows.1 rfl
  refine post_plain (v := .tuple #[.agg #[.slice none 0 0], .slice none 0 0, .int .i64 340]) (.inl rfl) ?_ ⟨rfl, H6.old⟩
  simp [results, Try.results21, go_sem, e1, e2, e3]
end Go.Proofs.Ytihccjmmnpldjaa
