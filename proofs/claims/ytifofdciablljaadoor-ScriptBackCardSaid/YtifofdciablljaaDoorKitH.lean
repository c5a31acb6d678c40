/-
  Ranges over functions whose iterator tells values out of memory of its own, which the body may read: what was told so far is a list, and what the iterator says of it stands beside it.
-/
import Derived.Test.YtifofdciablljaaDoorKit
set_option linter.unusedVariables false
set_option linter.unusedSimpArgs false
namespace Go.Proofs.YtifofdciablljaaDoor
open Go.RowKit

abbrev Vs := List (Array Value)

/-- WHAT AN ITERATOR VALUE PROMISES: it tells N times, and Y holds of what it has told so far, at each telling and at the end. S0: the blocks that are its own. RO: blocks that the body leaves alone. -/
def SeqItH (F : Fence) (n : Nat) (P : Program) (gf : Nat) (lb : Array Value) (N : Nat) (Y : Vs → (Nat → Prop) → World → Prop) (S0 RO : Nat → Prop) (w : World) : Prop :=
  ∀ (l : Nat) (J Jx : Vs → (Nat → Prop) → World → Prop) (W : World),
    (∀ vs, Stable (J vs)) → (∀ vs, Stable (Jx vs)) → Below w.heap.size w W →
    (∀ vs v S1 W1, J vs S1 W1 → vs.length < N → Y (vs ++ [v]) S1 W1 → YieldAt F (n - 1) P l v W1 fun e W' =>
      (e = .returned (.bool true) ∧ J (vs ++ [v]) S1 W' ∧ Kept (fun b => RO b ∨ S1 b) W1 W') ∨ (e = .returned (.bool false) ∧ Jx (vs ++ [v]) S1 W' ∧ Kept (fun b => RO b ∨ S1 b) W1 W')) →
    J [] S0 W →
    CallsIn F n P gf (#[.func (.yield l) #[] #[]] ++ lb) W fun e W' => (∃ v, e = .returned v) ∧ ((∃ S' vs, vs.length = N ∧ Y vs S' W' ∧ J vs S' W') ∨ (∃ S' vs, Y vs S' W' ∧ Jx vs S' W'))

/-- A body leaves what the iterator says alone. -/
def KeepsY (RO : Nat → Prop) (Y : Vs → (Nat → Prop) → World → Prop) : Prop := ∀ vs S W W', Y vs S W → Kept (fun b => RO b ∨ S b) W W' → Y vs S W'

section
variable {F : Fence} {n : Nat} {P : Program}

theorem wpIn_range_coreH {ps : Array Tmp} {assign body : Code} {Q : Exit → Act → World → Prop} {a : Act} {w W1 : World} {fn L dn : Nat} {mark : List Deferred} {rec : LoopState → Option Code → Loop}
    (hfn : F.fn fn) (hrec : rec = fun st pe => { state := st, pending := pe, fn, tmps := a.tmps, params := ps, assign, body, defers := dn })
    {gf : Nat} {lb : Array Value} {N : Nat} {Y : Vs → (Nat → Prop) → World → Prop} {S0 RO M : Nat → Prop} (hseq : SeqItH F (n - 1) P gf lb N Y S0 RO w) (hY : KeepsY RO Y) (hS0 : ∀ b, S0 b → b < w.heap.size) (hps : ∀ vs v S W, Y (vs ++ [v]) S W → v.size = ps.size)
    (hRO : ∀ b, RO b → b < w.heap.size ∧ ¬ S0 b)
    (hML : M L) (hM : ∀ b, M b → w.heap.size ≤ b ∧ b < W1.heap.size) (hL1 : W1.heap[L]? = some (.loop (rec .ready none))) (hb1 : Below w.heap.size w W1)
    (I : Vs → (Nat → Prop) → World → Prop) (Ix : Code → Vs → (Nat → Prop) → World → Prop) (hI : ∀ vs, Stable (I vs)) (hIx : ∀ c vs, Stable (Ix c vs)) (h0 : I [] S0 w)
    (Ax : Vs → Array Value → Act → (Nat → Prop) → World → Prop) (hAx : ∀ vs v a₁, Stable (Ax vs v a₁))
    (hassign : ∀ (l : Nat) (vs : Vs) (v : Array Value) (S S1 : Nat → Prop) (W : World), vs.length < N → S l → (∀ b, S1 b → S b) → (∀ b, RO b → ¬ S b) → (∀ b, S b → b < W.heap.size) → Y (vs ++ [v]) S1 W → I vs S W →
      assign.wpIn (F.inRound l) (n - 1 - 1) P (Exit.then (fun a₁ W₁ => Ax vs v a₁ S W₁ ∧ Kept (fun b => RO b ∨ S b) W W₁) (fun _ _ _ => False)) { tmps := (ps.zip v).foldl (fun t (p, v) => t.setIfInBounds p v) a.tmps, defers := [] } W)
    (hbody : ∀ (l : Nat) (vs : Vs) (v : Array Value) (S S1 : Nat → Prop) (a₁ : Act) (W : World) (r : Loop), vs.length < N → S l → (∀ b, S1 b → S b) → W.heap[l]? = some (.loop r) → (∀ b, RO b → ¬ S b) → (∀ b, S b → b < W.heap.size) → Y (vs ++ [v]) S1 W → Ax vs v a₁ S W →
      body.wpIn (F.inRound l) (n - 1 - 1) P (rangePostX (fun b => RO b ∨ S b) (I (vs ++ [v])) (fun c => Ix c (vs ++ [v])) S W) a₁ W)
    (hdone : ∀ (S S1 : Nat → Prop) (vs : Vs) (W : World), (∀ b, RO b → ¬ S b) → (∀ b, M b → S b) → (∀ b, S1 b → S b) → (∀ b, M b → ¬ S1 b) → vs.length = N → Y vs S1 W → I vs S W → (∀ b, M b → b ≠ L → W.heap[b]? = W1.heap[b]?) → Q .normal { a with defers := mark ++ a.defers } W)
    (hstop : ∀ (c : Code) (vs : Vs) (S S1 : Nat → Prop) (W : World), (∀ b, RO b → ¬ S b) → (∀ b, M b → S b) → (∀ b, S1 b → S b) → (∀ b, M b → ¬ S1 b) → Y vs S1 W → Ix c vs S W → (∀ b, M b → b ≠ L → W.heap[b]? = W1.heap[b]?) → c.wpIn F n P Q { a with defers := mark ++ a.defers } W) :
    CallsIn F (n - 1) P gf (#[.func (.yield L) #[] #[]] ++ lb) W1 (rangePost F n P L Q { a with defers := mark ++ a.defers }) := by
  have hst : ∀ st pe, (rec st pe).state = st ∧ (rec st pe).pending = pe := by intro st pe; rw [hrec]; exact ⟨rfl, rfl⟩
  have hw1 := hb1.size
  have hf1 : Foreign S0 (plusM S0 M) w W1 :=
    ⟨hb1.os, hb1.tape, hb1.output, hb1.size, fun b h => .inl h, fun b h => h.elim .inl (fun h => .inr (hM b h)), fun b hb _ => hb1.block b hb⟩
  have hI1 : I [] (plusM S0 M) W1 := hI [] _ _ _ _ h0 hf1
  have hLw := hM L hML
  -- beside I
  let Z : (Nat → Prop) → World → Prop := fun S W => (∀ b, M b → ¬ S b) ∧ (∀ b, RO b → ¬ S b) ∧ W1.heap.size ≤ W.heap.size ∧ (∀ b, M b → b ≠ L → W.heap[b]? = W1.heap[b]?) ∧ (∀ b, S b → b < W.heap.size)
  have hZ : Stable Z := by
    intro S S' W W' hz hf
    obtain ⟨z1, z2, z3, z4, z5⟩ := hz
    have hfs := hf.size
    refine ⟨fun b hb => hf.not (by have := hM b hb; omega) (z1 b hb), fun b hb => hf.not (by have := hRO b hb; omega) (z2 b hb), by omega, fun b hb hne => (hf.block b (by have := hM b hb; omega) (z1 b hb)).trans (z4 b hb hne), fun b hb => ?_⟩
    rcases hf.fresh b hb with h | h
    · have := z5 b h; omega
    · exact h.2
  have hRS : ∀ S W, Z S W → ∀ b, RO b → ¬ plusM S M b := by
    intro S W hz b hb hs
    rcases hs with hs | hs
    · exact hz.2.1 b hb hs
    · have := hM b hs; have := hRO b hb; omega
  -- the body's word leaves Z alone
  have hZk : ∀ S W W', Z S W → Kept (fun b => RO b ∨ plusM S M b) W W' → Z S W' := by
    intro S W W' hz hk
    obtain ⟨z1, z2, z3, z4, z5⟩ := hz
    exact ⟨z1, z2, Nat.le_trans z3 hk.size, fun b hb hne => (hk.block b (by have := hM b hb; omega) (.inr (.inr hb))).trans (z4 b hb hne), fun b hb => Nat.lt_of_lt_of_le (z5 b hb) hk.size⟩
  have hSB : ∀ S W, Z S W → ∀ b, plusM S M b → b < W.heap.size := by
    intro S W hz b hb
    rcases hb with hb | hb
    · exact hz.2.2.2.2 b hb
    · have := hM b hb; have := hz.2.2.1; omega
  have hZp : ∀ S W o, Z S W → Z S (W.putObj L o) := by
    intro S W o hz
    obtain ⟨z1, z2, z3, z4, z5⟩ := hz
    exact ⟨z1, z2, by simpa using z3, fun b hb hne => (World.putObj_heap_other hne).trans (z4 b hb hne), fun b hb => by simpa using z5 b hb⟩
  have hZ0 : Z S0 W1 := ⟨fun b hb hs => by have := hS0 b hs; have := hM b hb; omega, fun b hb => (hRO b hb).2, Nat.le_refl _, fun _ _ _ => rfl, fun b hb => Nat.lt_of_lt_of_le (hS0 b hb) hw1⟩
  have hMS : ∀ S : Nat → Prop, ∀ b, M b → plusM S M b := fun S b hb => .inr hb
  have hLn : ∀ S W, Z S W → ¬ (RO L ∨ S L) := by
    rintro S W hz (h | h)
    · have := hRO _ h; omega
    · exact hz.1 L hML h
  refine (hseq L
    (fun vs S W => I vs (plusM S M) W ∧ W.heap[L]? = some (.loop (rec .ready none)) ∧ Z S W)
    (fun vs S W => ∃ c, Ix c vs (plusM S M) W ∧ W.heap[L]? = some (.loop (rec .done (some c))) ∧ Z S W)
    W1 ?_ ?_ hb1 ?_ ⟨hI1, hL1, hZ0⟩).mono ?_
  · rintro k S S' W W' ⟨hi, hl, hz⟩ hf
    exact ⟨hI k _ _ _ _ hi hf.plusM, hf.heap (hz.1 L hML) hl, hZ _ _ _ _ hz hf⟩
  · rintro vs S S' W W' ⟨c, hi, hl, hz⟩ hf
    exact ⟨c, hIx c vs _ _ _ _ hi hf.plusM, hf.heap (hz.1 L hML) hl, hZ _ _ _ _ hz hf⟩
  · -- one round
    rintro vs v S W ⟨hi, hl, hz⟩ hk hYv
    have hsub : ∀ b, S b → plusM S M b := fun b hb => .inl hb
    have hy := run_yield (P := P) (args := v) hl (by rw [hrec]; exact hps _ _ _ _ hYv)
    have hy' : (Instr.yield L v).run P W = .ok (.round L fn ((ps.zip v).foldl (fun tmps (t, v) => tmps.setIfInBounds t v) a.tmps) assign body) W := by
      rw [hrec] at hy; exact hy
    refine ⟨fn, _, assign, body, hy', roundIn_of_wpIn hfn (wpIn_mono (hassign L vs v (plusM S M) S W hk (hMS S L hML) hsub (hRS S W hz) (hSB S W hz) hYv hi) ?_)⟩
    rintro e a₁ W2 hp
    cases e with
    | normal =>
      obtain ⟨hax, hk2⟩ := hp
      have hlt : L < W.heap.size := lt_of_heap hl
      have hl2 : W2.heap[L]? = some (.loop (rec .ready none)) := (hk2.block L hlt (.inr (.inr hML))).trans hl
      have hz2 := hZk _ _ _ hz hk2
      refine ⟨_, run_beginRound hl2 (hst _ _).1, ?_⟩
      obtain ⟨W3, hW3⟩ : ∃ W3, W3 = W2.putObj L (.loop { rec .ready none with state := .busy }) := ⟨_, rfl⟩
      rw [← hW3]
      have hl3 : W3.heap[L]? = some (.loop (rec .busy none)) := by
        rw [hW3, World.putObj_heap_same (lt_of_heap hl2), hrec]
      have hz3 : Z S W3 := by rw [hW3]; exact hZp _ _ _ hz2
      have hax3 : Ax vs v a₁ (plusM S M) W3 := by rw [hW3]; exact hAx vs v a₁ _ _ _ _ hax (Foreign.putObj _ _ _ (hMS S L hML))
      have hk3 : Kept (fun b => RO b ∨ S b) W W3 := by
        rw [hW3]
        exact Kept.trans (hk2.mono fun b hb => hb.elim .inl (fun h => .inr (.inl h))) (Kept.putObj _ _ _ _ (hLn _ _ hz))
      refine wpIn_mono (hbody L vs v (plusM S M) S a₁ W3 _ hk (hMS S L hML) hsub hl3 (hRS S W3 hz3) (hSB S W3 hz3) (hY _ _ _ _ hYv hk3) hax3) ?_
      have fin : ∀ (jump : Option Code) (W4 : World), Kept (fun b => RO b ∨ plusM S M b) W3 W4 →
          (Instr.endRound L jump).run P W4 = .ok (.bool jump.isNone) (W4.putObj L (.loop (rec (if jump.isNone then .ready else .done) jump))) ∧
          (W4.putObj L (.loop (rec (if jump.isNone then .ready else .done) jump))).heap[L]? = some (.loop (rec (if jump.isNone then .ready else .done) jump)) ∧
          Z S (W4.putObj L (.loop (rec (if jump.isNone then .ready else .done) jump))) ∧
          Kept (fun b => RO b ∨ S b) W (W4.putObj L (.loop (rec (if jump.isNone then .ready else .done) jump))) := fun jump W4 hk4 => by
        have hl4 := (hk4.block L (lt_of_heap hl3) (.inr (.inr hML))).trans hl3
        have := run_endRound (P := P) jump hl4
        rw [hrec] at this
        rw [hrec]
        exact ⟨this, World.putObj_heap_same (lt_of_heap hl4), hZp _ _ _ (hZk _ _ _ hz3 hk4), (hk3.trans (hk4.mono fun b hb => hb.elim .inl (fun h => .inr (.inl h)))).trans (Kept.putObj _ _ _ _ (hLn _ _ hz))⟩
      rintro e a3 W4 hp
      cases e with
      | normal =>
        obtain ⟨hk4, hi4⟩ := hp
        obtain ⟨hr, hl5, hz5, hk5⟩ := fin none W4 hk4
        exact ⟨_, _, hr, .inl ⟨rfl, ⟨hI _ _ _ _ _ hi4 (Foreign.putObj _ _ _ (hMS S L hML)), hl5, hz5⟩, hk5⟩⟩
      | ret =>
        obtain ⟨hk4, hi4⟩ := hp
        obtain ⟨hr, hl5, hz5, hk5⟩ := fin (some .ret) W4 hk4
        exact ⟨_, _, hr, .inr ⟨rfl, ⟨.ret, hIx _ _ _ _ _ _ hi4 (Foreign.putObj _ _ _ (hMS S L hML)), hl5, hz5⟩, hk5⟩⟩
      | exit id =>
        obtain ⟨hk4, hi4⟩ := hp
        obtain ⟨hr, hl5, hz5, hk5⟩ := fin (some (.exit id)) W4 hk4
        exact ⟨_, _, hr, .inr ⟨rfl, ⟨.exit id, hIx _ _ _ _ _ _ hi4 (Foreign.putObj _ _ _ (hMS S L hML)), hl5, hz5⟩, hk5⟩⟩
      | goto t =>
        obtain ⟨hk4, hi4⟩ := hp
        obtain ⟨hr, hl5, hz5, hk5⟩ := fin (some (.goto t)) W4 hk4
        exact ⟨_, _, hr, .inr ⟨rfl, ⟨.goto t, hIx _ _ _ _ _ _ hi4 (Foreign.putObj _ _ _ (hMS S L hML)), hl5, hz5⟩, hk5⟩⟩
      | panic ch => exact hp.elim
      | outgrown => exact hp.elim
    | ret => exact hp.elim
    | exit id => exact hp.elim
    | goto t => exact hp.elim
    | panic ch => exact hp.elim
    | outgrown => exact hp.elim
  · rintro e W2 ⟨⟨v, rfl⟩, (⟨S', vs, hn, hy, hi, hl, hz⟩ | ⟨S', vs, hy, c, hi, hl, hz⟩)⟩
    · refine ⟨none, _, by have := run_endLoop (P := P) hl (by rw [(hst _ _).1]; simp); rw [(hst _ _).2] at this; exact this, ?_⟩
      exact hdone (plusM S' M) S' vs _ (hRS _ _ hz) (hMS _) (fun b hb => .inl hb) hz.1 hn (hY _ _ _ _ hy (Kept.putObj _ _ _ _ (hLn _ _ hz))) (hI _ _ _ _ _ hi (Foreign.putObj _ _ _ (hMS _ L hML))) (fun b hb hne => (World.putObj_heap_other hne).trans (hz.2.2.2.1 b hb hne))
    · refine ⟨some c, _, by have := run_endLoop (P := P) hl (by rw [(hst _ _).1]; simp); rw [(hst _ _).2] at this; exact this, ?_⟩
      exact hstop c vs (plusM S' M) S' _ (hRS _ _ hz) (hMS _) (fun b hb => .inl hb) hz.1 (hY _ _ _ _ hy (Kept.putObj _ _ _ _ (hLn _ _ hz))) (hIx _ _ _ _ _ _ hi (Foreign.putObj _ _ _ (hMS _ L hML))) (fun b hb hne => (World.putObj_heap_other hne).trans (hz.2.2.2.1 b hb hne))

/-- **AN OUTERMOST RANGE OVER A FUNCTION.** -/
theorem wpIn_rangeH {g : Operand} {ps : Array Tmp} {assign body : Code} {Q : Exit → Act → World → Prop} {a : Act} {w : World}
    (hro : F.round = none) (h1 : F.depth.isSome = true → 1 ≤ n) {gf : Nat} {lb : Array Value} (hg : a.eval g = .func (.func gf) #[] lb) (hFg : F.fn gf) (eg : ∀ args w, (callFunc gf args).run P w = .ok (.enter gf args) w)
    {N : Nat} {Y : Vs → (Nat → Prop) → World → Prop} {S0 RO : Nat → Prop} (hseq : SeqItH F (n - 1) P gf lb N Y S0 RO w) (hY : KeepsY RO Y) (hS0 : ∀ b, S0 b → b < w.heap.size) (hps : ∀ vs v S W, Y (vs ++ [v]) S W → v.size = ps.size)
    (hRO : ∀ b, RO b → b < w.heap.size ∧ ¬ S0 b)
    (I : Vs → (Nat → Prop) → World → Prop) (Ix : Code → Vs → (Nat → Prop) → World → Prop) (hI : ∀ vs, Stable (I vs)) (hIx : ∀ c vs, Stable (Ix c vs)) (h0 : I [] S0 w)
    (Ax : Vs → Array Value → Act → (Nat → Prop) → World → Prop) (hAx : ∀ vs v a₁, Stable (Ax vs v a₁))
    (hassign : ∀ (l : Nat) (vs : Vs) (v : Array Value) (S S1 : Nat → Prop) (W : World), vs.length < N → S l → (∀ b, S1 b → S b) → (∀ b, RO b → ¬ S b) → (∀ b, S b → b < W.heap.size) → Y (vs ++ [v]) S1 W → I vs S W →
      assign.wpIn (F.inRound l) (n - 1 - 1) P (Exit.then (fun a₁ W₁ => Ax vs v a₁ S W₁ ∧ Kept (fun b => RO b ∨ S b) W W₁) (fun _ _ _ => False)) { tmps := (ps.zip v).foldl (fun t (p, v) => t.setIfInBounds p v) a.tmps, defers := [] } W)
    (hbody : ∀ (l : Nat) (vs : Vs) (v : Array Value) (S S1 : Nat → Prop) (a₁ : Act) (W : World) (r : Loop), vs.length < N → S l → (∀ b, S1 b → S b) → W.heap[l]? = some (.loop r) → (∀ b, RO b → ¬ S b) → (∀ b, S b → b < W.heap.size) → Y (vs ++ [v]) S1 W → Ax vs v a₁ S W →
      body.wpIn (F.inRound l) (n - 1 - 1) P (rangePostX (fun b => RO b ∨ S b) (I (vs ++ [v])) (fun c => Ix c (vs ++ [v])) S W) a₁ W)
    (hdone : ∀ (D : Nat) (S S1 : Nat → Prop) (vs : Vs) (W : World), w.heap.size ≤ D → S D → (∀ b, RO b → ¬ S b) → (∀ b, S1 b → S b) → ¬ S1 D → vs.length = N → Y vs S1 W → I vs S W → W.heap[D]? = some (.deferred (some [])) → Q .normal { a with defers := { target := .collected D, args := #[] } :: a.defers } W)
    (hstop : ∀ (D : Nat) (c : Code) (vs : Vs) (S S1 : Nat → Prop) (W : World), w.heap.size ≤ D → S D → (∀ b, RO b → ¬ S b) → (∀ b, S1 b → S b) → ¬ S1 D → Y vs S1 W → Ix c vs S W → W.heap[D]? = some (.deferred (some [])) → c.wpIn F n P Q { a with defers := { target := .collected D, args := #[] } :: a.defers } W) :
    (Code.rangeFunc g ps assign body).wpIn F n P Q a w := by
  refine wpIn_rangeFunc ?_
  intro fn hfn
  rw [hro]
  obtain ⟨rec, hrec⟩ : ∃ rec : LoopState → Option Code → Loop, rec = fun st pe => { state := st, pending := pe, fn, tmps := a.tmps, params := ps, assign, body, defers := w.heap.size } := ⟨_, rfl⟩
  obtain ⟨W1, hW1⟩ : ∃ W1, (w.alloc (.deferred (some []))).alloc (.loop (rec .ready none)) = W1 := ⟨_, rfl⟩
  have hsz : W1.heap.size = w.heap.size + 2 := by rw [← hW1]; simp
  have hL1 : W1.heap[w.heap.size + 1]? = some (.loop (rec .ready none)) := by
    rw [← hW1]; have := World.alloc_heap_new (w.alloc (.deferred (some []))) (.loop (rec .ready none)); rwa [World.size_alloc] at this
  have hK1 : W1.heap[w.heap.size]? = some (.deferred (some [])) := by
    rw [← hW1]; exact (Below.heap_alloc _ _ _ (by simp)).trans (World.alloc_heap_new w _)
  have hb1 : Below w.heap.size w W1 := by
    rw [← hW1]; exact ((Below.refl _ w).alloc (Nat.le_refl _) _).alloc (by simp) _
  refine ⟨w.heap.size + 1, [{ target := .collected w.heap.size, args := #[] }], W1, { target := .fn (.func gf) lb, args := #[.func (.yield (w.heap.size + 1)) #[] #[]] }, W1, gf,
    #[.func (.yield (w.heap.size + 1)) #[] #[]] ++ lb, W1, ?_, ?_, ?_, ?_, h1, ?_⟩
  · rw [← hW1, hrec]; exact run_enterLoop_outer _ _ _ _ _
  · simp only [resolve, hg]
    simp [go_sem]
  · intro f' hf'; simp [Target.leads] at hf'; subst hf'; exact hFg
  · simp [invoke, go_sem, eg]
  · refine wpIn_range_coreH (M := fun b => b = w.heap.size ∨ b = w.heap.size + 1) hfn (by rw [hrec]) hseq hY hS0 hps hRO (.inr rfl) (fun b hb => by omega) hL1 hb1 I Ix hI hIx h0 Ax hAx hassign hbody ?_ ?_
    · intro S S1 vs W hr hm hs hn1 hn hy hi hD
      exact hdone _ S S1 vs W (Nat.le_refl _) (hm _ (.inl rfl)) hr hs (hn1 _ (.inl rfl)) hn hy hi ((hD _ (.inl rfl) (by omega)).trans hK1)
    · intro c vs S S1 W hr hm hs hn1 hy hi hD
      exact hstop _ c vs S S1 W (Nat.le_refl _) (hm _ (.inl rfl)) hr hs (hn1 _ (.inl rfl)) hy hi ((hD _ (.inl rfl) (by omega)).trans hK1)

/-- **A RANGE OVER A FUNCTION IN THE BODY OF ANOTHER ONE.** -/
theorem wpIn_rangeNH {g : Operand} {ps : Array Tmp} {assign body : Code} {Q : Exit → Act → World → Prop} {a : Act} {w : World} {l₀ : Nat} {r₀ : Loop}
    (hro : F.round = some l₀) (hr₀ : w.heap[l₀]? = some (.loop r₀)) (h1 : F.depth.isSome = true → 1 ≤ n) {gf : Nat} {lb : Array Value} (hg : a.eval g = .func (.func gf) #[] lb) (hFg : F.fn gf) (eg : ∀ args w, (callFunc gf args).run P w = .ok (.enter gf args) w)
    {N : Nat} {Y : Vs → (Nat → Prop) → World → Prop} {S0 RO : Nat → Prop} (hseq : SeqItH F (n - 1) P gf lb N Y S0 RO w) (hY : KeepsY RO Y) (hS0 : ∀ b, S0 b → b < w.heap.size) (hps : ∀ vs v S W, Y (vs ++ [v]) S W → v.size = ps.size)
    (hRO : ∀ b, RO b → b < w.heap.size ∧ ¬ S0 b)
    (I : Vs → (Nat → Prop) → World → Prop) (Ix : Code → Vs → (Nat → Prop) → World → Prop) (hI : ∀ vs, Stable (I vs)) (hIx : ∀ c vs, Stable (Ix c vs)) (h0 : I [] S0 w)
    (Ax : Vs → Array Value → Act → (Nat → Prop) → World → Prop) (hAx : ∀ vs v a₁, Stable (Ax vs v a₁))
    (hassign : ∀ (l : Nat) (vs : Vs) (v : Array Value) (S S1 : Nat → Prop) (W : World), vs.length < N → S l → (∀ b, S1 b → S b) → (∀ b, RO b → ¬ S b) → (∀ b, S b → b < W.heap.size) → Y (vs ++ [v]) S1 W → I vs S W →
      assign.wpIn (F.inRound l) (n - 1 - 1) P (Exit.then (fun a₁ W₁ => Ax vs v a₁ S W₁ ∧ Kept (fun b => RO b ∨ S b) W W₁) (fun _ _ _ => False)) { tmps := (ps.zip v).foldl (fun t (p, v) => t.setIfInBounds p v) a.tmps, defers := [] } W)
    (hbody : ∀ (l : Nat) (vs : Vs) (v : Array Value) (S S1 : Nat → Prop) (a₁ : Act) (W : World) (r : Loop), vs.length < N → S l → (∀ b, S1 b → S b) → W.heap[l]? = some (.loop r) → (∀ b, RO b → ¬ S b) → (∀ b, S b → b < W.heap.size) → Y (vs ++ [v]) S1 W → Ax vs v a₁ S W →
      body.wpIn (F.inRound l) (n - 1 - 1) P (rangePostX (fun b => RO b ∨ S b) (I (vs ++ [v])) (fun c => Ix c (vs ++ [v])) S W) a₁ W)
    (hdone : ∀ (S S1 : Nat → Prop) (vs : Vs) (W : World), (∀ b, RO b → ¬ S b) → (∀ b, S1 b → S b) → vs.length = N → Y vs S1 W → I vs S W → Q .normal a W)
    (hstop : ∀ (c : Code) (vs : Vs) (S S1 : Nat → Prop) (W : World), (∀ b, RO b → ¬ S b) → (∀ b, S1 b → S b) → Y vs S1 W → Ix c vs S W → c.wpIn F n P Q a W) :
    (Code.rangeFunc g ps assign body).wpIn F n P Q a w := by
  refine wpIn_rangeFunc ?_
  intro fn hfn
  rw [hro]
  obtain ⟨rec, hrec⟩ : ∃ rec : LoopState → Option Code → Loop, rec = fun st pe => { state := st, pending := pe, fn, tmps := a.tmps, params := ps, assign, body, defers := r₀.defers } := ⟨_, rfl⟩
  obtain ⟨W1, hW1⟩ : ∃ W1, w.alloc (.loop (rec .ready none)) = W1 := ⟨_, rfl⟩
  have hsz : W1.heap.size = w.heap.size + 1 := by rw [← hW1]; simp
  have hL1 : W1.heap[w.heap.size]? = some (.loop (rec .ready none)) := by
    rw [← hW1]; exact World.alloc_heap_new _ _
  have hb1 : Below w.heap.size w W1 := by
    rw [← hW1]; exact (Below.refl _ w).alloc (Nat.le_refl _) _
  refine ⟨w.heap.size, [], W1, { target := .fn (.func gf) lb, args := #[.func (.yield w.heap.size) #[] #[]] }, W1, gf,
    #[.func (.yield w.heap.size) #[] #[]] ++ lb, W1, ?_, ?_, ?_, ?_, h1, ?_⟩
  · rw [← hW1, hrec]
    unfold Instr.enterLoop
    simp only [Sem.run_bind, run_getLoop hr₀, run_newObj_alloc, Result.andThen, Sem.run_pure]
  · simp only [resolve, hg]
    simp [go_sem]
  · intro f' hf'; simp [Target.leads] at hf'; subst hf'; exact hFg
  · simp [invoke, go_sem, eg]
  · refine wpIn_range_coreH (mark := []) (M := fun b => b = w.heap.size) hfn (by rw [hrec]) hseq hY hS0 hps hRO rfl (fun b hb => by omega) hL1 hb1 I Ix hI hIx h0 Ax hAx hassign hbody ?_ ?_
    · intro S S1 vs W hr hm hs hn1 hn hy hi hD
      exact hdone S S1 vs W hr hs hn hy hi
    · intro c vs S S1 W hr hm hs hn1 hy hi hD
      exact hstop c vs S S1 W hr hs hy hi
end
end Go.Proofs.YtifofdciablljaaDoor
