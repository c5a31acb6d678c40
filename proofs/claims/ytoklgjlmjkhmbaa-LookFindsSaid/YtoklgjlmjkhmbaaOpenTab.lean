/-
  An argument that is a Table, opened.
-/
import Derived.Test.YtoklgjlmjkhmbaaOpenS
import Derived.Test.YtoklgjlmjkhmbaaPz2
set_option linter.unusedSimpArgs false
set_option linter.unusedVariables false
set_option maxRecDepth 100000
namespace Go.Proofs.Ytoklgjlmjkhmbaa
open Go.ChangeShapes Go.WideShapes Go.RowKit Go.Joins Go.Deep
variable {H : Type} {enc : TypeId × Value → H} {w : World} {base : Nat} {spare : Nat → Bool} {held : Bool}

theorem tab_u64 {n : Nat} {cs : List Value} {y : DataW H × List MemPlace} (h : DataW.trod enc Try.prog w base spare held n 29 cs = some y) : ∃ x : Nat, cs = [.int .u64 (x : Int)] ∧ x < 2 ^ 64 := by
  obtain ⟨z, rfl, _, hw⟩ := DataW.trod_int Try.underlying29 h
  obtain ⟨x, rfl, hx⟩ := nat_of_u64 hw
  exact ⟨x, rfl, hx⟩
theorem tab_int {n : Nat} {cs : List Value} {y : DataW H × List MemPlace} (h : DataW.trod enc Try.prog w base spare held n 3 cs = some y) : ∃ z : Int, cs = [.int .i64 z] ∧ (-9223372036854775808 ≤ z ∧ z ≤ 9223372036854775807) := by
  obtain ⟨z, rfl, _, hw⟩ := DataW.trod_int Try.underlying3 h
  exact ⟨z, rfl, wf_i64' hw⟩
/-- The fields of a struct of several cells each. -/
theorem tab_parts {P : Program} {t : TypeId} {fs : Array Field} {cs : List Value} {n0 : Nat} {y0 : DataW H × List MemPlace} (hs : P.underlying t = some (.struct fs))
    (hf : DataW.trod enc P w base spare held n0 t cs = some y0) :
    ∃ n, ∀ (j : Nat) (t' : TypeId) (o k : Nat), (fs[j]?).map (fun f => (f.type, f.offset)) = some (t', o) → P.cellsOf t' = k → ∃ y : DataW H × List MemPlace, DataW.trod enc P w base spare held n t' ((cs.drop o).take k) = some y := by
  obtain ⟨xs, n, _, hx, _, hl', hg⟩ := DataW.trod_struct hs hf
  refine ⟨n, fun j t' o k hj' hk => ?_⟩
  obtain ⟨f, hj, hfo⟩ := Option.map_eq_some_iff.1 hj'
  simp only [Prod.mk.injEq] at hfo
  obtain ⟨rfl, rfl⟩ := hfo
  subst hk
  have hjl : j < fs.size := (Array.getElem?_eq_some_iff.1 hj).1
  have h1 := hg j f hj
  rw [List.getElem?_eq_getElem (by omega)] at h1
  exact ⟨_, h1⟩
/-- An array of words. -/
theorem tab_words {m : Nat} {ty : TypeId} (ht : Try.prog.underlying ty = some (.array m 29)) {n : Nat} {cs : List Value} {y : DataW H × List MemPlace} (hl : cs.length = m) (h : DataW.trod enc Try.prog w base spare held n ty cs = some y) :
    ∃ f : Nat → Nat, (∀ i, f i < 2 ^ 64) ∧ ∀ i, i < m → cs[i]? = some (.int .u64 (f i : Int)) := by
  obtain ⟨xs, q, _, _, _, hl', hg⟩ := DataW.trod_array ht h
  have hC : Try.prog.cellsOf 29 = 1 := by kernel_rfl
  have hone : ∀ i, ∃ x : Nat, x < 2 ^ 64 ∧ (i < m → cs[i]? = some (.int .u64 (x : Int))) := by
    intro i
    by_cases hi : i < m
    · have h1 := hg i hi
      rw [hC, Nat.mul_one, List.drop_eq_getElem_cons (by omega), List.getElem?_eq_getElem (by omega)] at h1
      rw [List.take_succ_cons, List.take_zero] at h1
      obtain ⟨x, hx, hlt⟩ := tab_u64 h1
      simp only [List.cons.injEq, and_true] at hx
      exact ⟨x, hlt, fun _ => by rw [List.getElem?_eq_getElem (by omega), hx]⟩
    · exact ⟨0, by decide, fun h => absurd h hi⟩
  exact ⟨fun i => Classical.choose (hone i), fun i => (Classical.choose_spec (hone i)).1, fun i hi => (Classical.choose_spec (hone i)).2 hi⟩
theorem open_table {r : Reach} {b0 : Nat} {v : Value} {d : DataW H} {p : List MemPlace} (hv : Value.okWide Try.prog w r b0 59 v) (h : DataW.Trod enc Try.prog w base spare held 59 v d p) : ∃ t : Tb, v = .agg (tbA t) ∧ TbOk t := by
  obtain ⟨⟨cs⟩, rfl, hsz⟩ := okWide_struct Try.underlying59 hv
  obtain ⟨fuel, hf0⟩ := h
  have hc : Try.prog.cellsOf 59 = 39 := by kernel_rfl
  have hl : cs.length = 39 := by rw [hc] at hsz; simpa using hsz
  have hf1 : DataW.trod enc Try.prog w base spare held fuel 59 cs = some (d, p) := hf0
  obtain ⟨m, hf⟩ := tab_parts Try.underlying59 hf1
  obtain ⟨y0, h0⟩ := hf 0 29 0 1 rfl (by kernel_rfl)
  obtain ⟨y1, h1⟩ := hf 1 3 1 1 rfl (by kernel_rfl)
  obtain ⟨y2, h2⟩ := hf 2 29 2 1 rfl (by kernel_rfl)
  obtain ⟨y3, h3⟩ := hf 3 3 3 1 rfl (by kernel_rfl)
  obtain ⟨y4, h4⟩ := hf 4 3 4 1 rfl (by kernel_rfl)
  obtain ⟨y5, h5⟩ := hf 5 30 5 2 rfl (by kernel_rfl)
  obtain ⟨y6, h6⟩ := hf 6 57 7 16 rfl (by kernel_rfl)
  obtain ⟨y7, h7⟩ := hf 7 57 23 16 rfl (by kernel_rfl)
  obtain ⟨x0, e0, b0⟩ := tab_u64 h0
  obtain ⟨x1, e1, b1⟩ := tab_int h1
  obtain ⟨x2, e2, b2⟩ := tab_u64 h2
  obtain ⟨x3, e3, b3⟩ := tab_int h3
  obtain ⟨x4, e4, b4⟩ := tab_int h4
  obtain ⟨ct, b5, e5⟩ := tab_words Try.underlying30 (by rw [List.length_take, List.length_drop]; omega) h5
  obtain ⟨ks, b6, e6⟩ := tab_words Try.underlying57 (by rw [List.length_take, List.length_drop]; omega) h6
  obtain ⟨vs, b7, e7⟩ := tab_words Try.underlying57 (by rw [List.length_take, List.length_drop]; omega) h7
  refine ⟨⟨x0, x1, x2, x3, x4, ct, ks, vs⟩, ?_, ⟨b0, b1, b2, b3, b4, b5, b6, b7⟩⟩
  have hcs : cs = [.int .u64 (x0 : Int)] ++ ([.int .i64 x1] ++ ([.int .u64 (x2 : Int)] ++ ([.int .i64 x3] ++ ([.int .i64 x4] ++ ((cs.drop 5).take 2 ++ ((cs.drop 7).take 16 ++ (cs.drop 23).take 16)))))) := by
    rw [← e0, ← e1, ← e2, ← e3, ← e4]
    have s : ∀ a b, (cs.drop a).take b ++ cs.drop (a + b) = cs.drop a := fun a b => by rw [← List.drop_drop]; exact List.take_append_drop b (cs.drop a)
    have z : (cs.drop 23).take 16 = cs.drop 23 := List.take_of_length_le (by rw [List.length_drop]; omega)
    rw [z, s 7 16, s 5 2, s 4 1, s 3 1, s 2 1, s 1 1, s 0 1]; rfl
  have f5 : (cs.drop 5).take 2 = [.int .u64 (ct 0 : Int), .int .u64 (ct 1 : Int)] := by
    apply List.ext_getElem?
    intro i
    by_cases hi : i < 2
    · rw [e5 i hi]; rcases (show i = 0 ∨ i = 1 by omega) with rfl | rfl <;> rfl
    · rw [List.getElem?_eq_none (by rw [List.length_take]; omega), List.getElem?_eq_none (by simp; omega)]
  have f16 : ∀ (l : List Value) (f : Nat → Nat), l.length = 16 → (∀ i, i < 16 → l[i]? = some (.int .u64 (f i : Int))) → l = [.int .u64 (f 0 : Int), .int .u64 (f 1 : Int), .int .u64 (f 2 : Int), .int .u64 (f 3 : Int), .int .u64 (f 4 : Int), .int .u64 (f 5 : Int), .int .u64 (f 6 : Int), .int .u64 (f 7 : Int), .int .u64 (f 8 : Int), .int .u64 (f 9 : Int), .int .u64 (f 10 : Int), .int .u64 (f 11 : Int), .int .u64 (f 12 : Int), .int .u64 (f 13 : Int), .int .u64 (f 14 : Int), .int .u64 (f 15 : Int)] := by
    intro l f hl hf
    apply List.ext_getElem?
    intro i
    by_cases hi : i < 16
    · rw [hf i hi]; rcases (show i = 0 ∨ i = 1 ∨ i = 2 ∨ i = 3 ∨ i = 4 ∨ i = 5 ∨ i = 6 ∨ i = 7 ∨ i = 8 ∨ i = 9 ∨ i = 10 ∨ i = 11 ∨ i = 12 ∨ i = 13 ∨ i = 14 ∨ i = 15 by omega) with rfl | rfl | rfl | rfl | rfl | rfl | rfl | rfl | rfl | rfl | rfl | rfl | rfl | rfl | rfl | rfl <;> rfl
    · rw [List.getElem?_eq_none (by omega), List.getElem?_eq_none (by simp; omega)]
  rw [hcs, f5, f16 _ ks (by rw [List.length_take, List.length_drop]; omega) e6, f16 _ vs (by rw [List.length_take, List.length_drop]; omega) e7]
  rfl
end Go.Proofs.Ytoklgjlmjkhmbaa
