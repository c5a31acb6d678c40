/-
  Arguments of layer 10, opened: groups, slots, rows of slots.
-/
import Derived.Test.YtfoohdjgnphdgaaOpenK
import Derived.Test.YtfoohdjgnphdgaaGroupPure
set_option linter.unusedSimpArgs false
set_option linter.unusedVariables false
set_option maxRecDepth 100000
namespace Go.Proofs.Ytfoohdjgnphdgaa
open Go.ChangeShapes Go.WideShapes Go.RowKit Go.Joins Go.Deep
variable {H : Type} {enc : TypeId × Value → H} {w : World} {base : Nat} {spare : Nat → Bool} {held : Bool}

theorem u8_of {n : Nat} {cs : List Value} {y : DataW H × List MemPlace} (h : DataW.trod enc Try.prog w base spare held n 5 cs = some y) : ∃ x : Nat, cs = [.int .u8 (x : Int)] ∧ x < 256 := by
  obtain ⟨z, rfl, _, hw⟩ := DataW.trod_int Try.underlying5 h
  have h1 : IntKind.u8.min = 0 := rfl
  have h2 : IntKind.u8.max = 255 := rfl
  simp only [Lit.wf, h1, h2, Bool.and_eq_true, decide_eq_true_eq] at hw
  exact ⟨z.toNat, by rw [Int.toNat_of_nonneg (by omega)], by omega⟩
theorem u64_of {n : Nat} {cs : List Value} {y : DataW H × List MemPlace} (h : DataW.trod enc Try.prog w base spare held n 22 cs = some y) : ∃ x : Nat, cs = [.int .u64 (x : Int)] ∧ x < 2 ^ 64 := by
  obtain ⟨z, rfl, _, hw⟩ := DataW.trod_int Try.underlying22 h
  obtain ⟨x, rfl, hx⟩ := nat_of_u64 hw
  exact ⟨x, rfl, hx⟩
/-- The fields of a struct of several cells each. -/
theorem trod_parts {P : Program} {t : TypeId} {fs : Array Field} {cs : List Value} {n0 : Nat} {y0 : DataW H × List MemPlace} (hs : P.underlying t = some (.struct fs))
    (hf : DataW.trod enc P w base spare held n0 t cs = some y0) :
    ∃ n, ∀ (j : Nat) (t' : TypeId) (o k : Nat), (fs[j]?).map (fun f => (f.type, f.offset)) = some (t', o) → P.cellsOf t' = k → ∃ y : DataW H × List MemPlace, DataW.trod enc P w base spare held n t' ((cs.drop o).take k) = some y := by
  obtain ⟨xs, n, _, hx, _, hl', hg⟩ := DataW.trod_struct hs hf
  refine ⟨n, fun j t' o k hj' hk => ?_⟩
  obtain ⟨f, hj, hfo⟩ := Option.map_eq_some_iff.1 hj'
  simp only [Prod.mk.injEq] at hfo
  obtain ⟨rfl, rfl⟩ := hfo
  subst hk
  have hjl : j < fs.size := (Array.getElem?_eq_some_iff.1 hj).1
  have h1 := hg j f hj
  rw [List.getElem?_eq_getElem (by omega)] at h1
  exact ⟨_, h1⟩
/-- An array of eight words. -/
theorem open_eight {n : Nat} {cs : List Value} {y : DataW H × List MemPlace} (hl : cs.length = 8) (h : DataW.trod enc Try.prog w base spare held n 23 cs = some y) :
    ∃ f : Nat → Nat, (∀ i, f i < 2 ^ 64) ∧ ∀ i, i < 8 → cs[i]? = some (.int .u64 (f i : Int)) := by
  obtain ⟨xs, m, _, _, _, hl', hg⟩ := DataW.trod_array Try.underlying23 h
  have hC : Try.prog.cellsOf 22 = 1 := by kernel_rfl
  have hone : ∀ i, ∃ x : Nat, x < 2 ^ 64 ∧ (i < 8 → cs[i]? = some (.int .u64 (x : Int))) := by
    intro i
    by_cases hi : i < 8
    · have h1 := hg i hi
      rw [hC, Nat.mul_one, List.drop_eq_getElem_cons (by omega), List.getElem?_eq_getElem (by omega)] at h1
      rw [List.take_succ_cons, List.take_zero] at h1
      obtain ⟨x, hx, hlt⟩ := u64_of h1
      simp only [List.cons.injEq, and_true] at hx
      exact ⟨x, hlt, fun _ => by rw [List.getElem?_eq_getElem (by omega), hx]⟩
    · exact ⟨0, by decide, fun h => absurd h hi⟩
  exact ⟨fun i => Classical.choose (hone i), fun i => (Classical.choose_spec (hone i)).1, fun i hi => (Classical.choose_spec (hone i)).2 hi⟩
theorem group_of {n : Nat} {cs : List Value} {y : DataW H × List MemPlace} (hl : cs.length = 17) (h : DataW.trod enc Try.prog w base spare held n 25 cs = some y) : ∃ g : Gp, cs = (gpA g).toList ∧ GpOk g := by
  obtain ⟨m, hf⟩ := trod_parts Try.underlying25 h
  obtain ⟨y0, h0⟩ := hf 0 22 0 1 rfl (by kernel_rfl)
  obtain ⟨y1, h1⟩ := hf 1 23 1 8 rfl (by kernel_rfl)
  obtain ⟨y2, h2⟩ := hf 2 23 9 8 rfl (by kernel_rfl)
  match cs, hl with
  | [c0, c1, c2, c3, c4, c5, c6, c7, c8, d1, d2, d3, d4, d5, d6, d7, d8], _ =>
    obtain ⟨x, hx, hxl⟩ := u64_of h0
    obtain ⟨k, hk, hkc⟩ := open_eight rfl h1
    obtain ⟨v, hv, hvc⟩ := open_eight rfl h2
    refine ⟨⟨x, k, v⟩, ?_, ⟨hxl, hk, hv⟩⟩
    have k0 := hkc 0 (by decide); have k1 := hkc 1 (by decide); have k2 := hkc 2 (by decide); have k3 := hkc 3 (by decide)
    have k4 := hkc 4 (by decide); have k5 := hkc 5 (by decide); have k6 := hkc 6 (by decide); have k7 := hkc 7 (by decide)
    have v0 := hvc 0 (by decide); have v1 := hvc 1 (by decide); have v2 := hvc 2 (by decide); have v3 := hvc 3 (by decide)
    have v4 := hvc 4 (by decide); have v5 := hvc 5 (by decide); have v6 := hvc 6 (by decide); have v7 := hvc 7 (by decide)
    simp at hx k0 k1 k2 k3 k4 k5 k6 k7 v0 v1 v2 v3 v4 v5 v6 v7
    subst hx k0 k1 k2 k3 k4 k5 k6 k7 v0 v1 v2 v3 v4 v5 v6 v7
    rfl
theorem open_group {r : Reach} {b0 : Nat} {v : Value} {d : DataW H} {p : List MemPlace} (hv : Value.okWide Try.prog w r b0 25 v) (h : DataW.Trod enc Try.prog w base spare held 25 v d p) : ∃ g : Gp, v = .agg (gpA g) ∧ GpOk g := by
  obtain ⟨⟨cs⟩, rfl, hsz⟩ := okWide_struct Try.underlying25 hv
  obtain ⟨fuel, hf⟩ := h
  have hc : Try.prog.cellsOf 25 = 17 := by kernel_rfl
  have hl : cs.length = 17 := by rw [hc] at hsz; simpa using hsz
  obtain ⟨g, hg, hok⟩ := group_of hl hf
  exact ⟨g, by rw [hg], hok⟩
theorem slot_of {n : Nat} {cs : List Value} {y : DataW H × List MemPlace} (hl : cs.length = 3) (h : DataW.trod enc Try.prog w base spare held n 38 cs = some y) : ∃ s : Sl3, cs = slL s ∧ Sl3Ok s := by
  obtain ⟨m, hf⟩ := trod_parts Try.underlying38 h
  obtain ⟨y0, h0⟩ := hf 0 22 0 1 rfl (by kernel_rfl)
  obtain ⟨y1, h1⟩ := hf 1 22 1 1 rfl (by kernel_rfl)
  obtain ⟨y2, h2⟩ := hf 2 5 2 1 rfl (by kernel_rfl)
  match cs, hl with
  | [c0, c1, c2], _ =>
    obtain ⟨x, hx, hxl⟩ := u64_of h0
    obtain ⟨k, hk, hkl⟩ := u64_of h1
    obtain ⟨v, hv, hvl⟩ := u8_of h2
    simp at hx hk hv
    subst hx hk hv
    exact ⟨⟨x, k, v⟩, rfl, ⟨hxl, hkl, hvl⟩⟩
theorem open_slot {r : Reach} {b0 : Nat} {v : Value} {d : DataW H} {p : List MemPlace} (hv : Value.okWide Try.prog w r b0 38 v) (h : DataW.Trod enc Try.prog w base spare held 38 v d p) : ∃ s : Sl3, v = .agg (slA s) ∧ Sl3Ok s := by
  obtain ⟨⟨cs⟩, rfl, hsz⟩ := okWide_struct Try.underlying38 hv
  obtain ⟨fuel, hf⟩ := h
  have hc : Try.prog.cellsOf 38 = 3 := by kernel_rfl
  have hl : cs.length = 3 := by rw [hc] at hsz; simpa using hsz
  obtain ⟨s, hs, hok⟩ := slot_of hl hf
  exact ⟨s, by rw [hs]; rfl, hok⟩
/-- A row of slots that came in. -/
structure SlIn (w : World) (sp : Option Addr) (len cap : Nat) (l : List Sl3) : Prop where
  sl : SlK w 3 sp len (l.flatMap slL)
  ok : ∀ s ∈ l, Sl3Ok s
  nil : sp = none → cap = 0
  le : len ≤ cap
theorem open_slots {r : Reach} {b0 : Nat} {v : Value} {d : DataW H} {p : List MemPlace} (hv : Value.okWide Try.prog w r b0 26 v) (h : DataW.Trod enc Try.prog w base spare held 26 v d p) : ∃ sp len cap l, v = .slice sp len cap ∧ SlIn w sp len cap l := by
  obtain ⟨sp, len, cap, xs, hc, hS, _, hok, hn, hle⟩ := open_slice_k slL 3 Sl3Ok (fun _ => rfl) (by decide) Try.underlying26 (by kernel_rfl) (fun n cs y hl hy => slot_of hl hy) hv h
  exact ⟨sp, len, cap, xs, hc, hS, hok, hn, hle⟩
/-- A turn of chapter 10. -/
structure Tn where
  drops : Bool
  slot : Sl3
  lane : Int
structure TnOk (t : Tn) : Prop where
  slot : Sl3Ok t.slot
  lane : -9223372036854775808 ≤ t.lane ∧ t.lane ≤ 9223372036854775807
def tnL (t : Tn) : List Value := [.bool t.drops, .int .u64 (t.slot.key : Int), .int .u64 (t.slot.val : Int), .int .u8 (t.slot.h2 : Int), .int .i64 t.lane]
def tnA (t : Tn) : Array Value := #[.bool t.drops, .int .u64 (t.slot.key : Int), .int .u64 (t.slot.val : Int), .int .u8 (t.slot.h2 : Int), .int .i64 t.lane]
theorem tnA_one (t : Tn) : (tnA t).all (·.oneCell') = true := by kernel_rfl
structure TnIn (w : World) (sp : Option Addr) (len cap : Nat) (l : List Tn) : Prop where
  sl : SlK w 5 sp len (l.flatMap tnL)
  ok : ∀ t ∈ l, TnOk t
  nil : sp = none → cap = 0
  le : len ≤ cap
theorem turn_of {n : Nat} {cs : List Value} {y : DataW H × List MemPlace} (hl : cs.length = 5) (h : DataW.trod enc Try.prog w base spare held n 50 cs = some y) : ∃ t : Tn, cs = tnL t ∧ TnOk t := by
  obtain ⟨m, hf⟩ := trod_parts Try.underlying50 h
  obtain ⟨y0, h0⟩ := hf 0 4 0 1 rfl (by kernel_rfl)
  obtain ⟨y1, h1⟩ := hf 1 38 1 3 rfl (by kernel_rfl)
  obtain ⟨y2, h2⟩ := hf 2 3 4 1 rfl (by kernel_rfl)
  match cs, hl with
  | [c0, c1, c2, c3, c4], _ =>
    obtain ⟨b, hb, _⟩ := DataW.trod_bool Try.underlying4 h0
    obtain ⟨s, hs, hso⟩ := slot_of rfl h1
    obtain ⟨z, hz, _, hzw⟩ := DataW.trod_int Try.underlying3 h2
    simp [slL] at hb hs hz
    obtain ⟨rfl, rfl, rfl⟩ := hs
    subst hb hz
    exact ⟨⟨b, s, z⟩, rfl, ⟨hso, wf_i64' hzw⟩⟩
theorem open_turns {r : Reach} {b0 : Nat} {v : Value} {d : DataW H} {p : List MemPlace} (hv : Value.okWide Try.prog w r b0 48 v) (h : DataW.Trod enc Try.prog w base spare held 48 v d p) : ∃ sp len cap l, v = .slice sp len cap ∧ TnIn w sp len cap l := by
  obtain ⟨sp, len, cap, xs, hc, hS, _, hok, hn, hle⟩ := open_slice_k tnL 5 TnOk (fun _ => rfl) (by decide) Try.underlying48 (by kernel_rfl) (fun n cs y hl hy => turn_of hl hy) hv h
  exact ⟨sp, len, cap, xs, hc, hS, hok, hn, hle⟩
end Go.Proofs.Ytfoohdjgnphdgaa
