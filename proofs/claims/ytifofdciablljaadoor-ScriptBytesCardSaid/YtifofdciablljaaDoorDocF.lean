/-
  The document's answer for layer 3: a number's bytes.
-/
import Derived.Test.YtifofdciablljaaDoorQ7
set_option linter.unusedSimpArgs false
set_option linter.unusedVariables false
set_option maxRecDepth 100000
namespace Go.Proofs.YtifofdciablljaaDoor
open Go.RowKit

def NumAt (w : World) (l : List Nat) (e : Ending) (w' : World) : Prop := ∃ sp c, e = .returned (.slice sp l.length c) ∧ Below w.heap.size w w' ∧ w'.ownsRow w.heap.size 5 1 (.slice sp l.length c) l.length (u8s l)
theorem dnum_any : ∀ (n : Nat), n < 2 ^ 64 → ∀ w : World, Calls Tryd.prog 22 #[.int .u64 (n : Int)] w fun e w' => NumAt w (numB n) e w' := by
  intro n
  induction n using Nat.strongRecOn with
  | _ n ih =>
    intro hn w
    by_cases hs : n < 128
    · rw [numB_small hs]
      have i1 : (n : Int) < 128 := by omega
      have hB := (Below.refl w.heap.size w).alloc (Nat.le_refl _) (.cells #[.int .u8 (n : Int)] 5)
      have hrow : (w.alloc (.cells #[.int .u8 (n : Int)] 5)).ownsRow w.heap.size 5 1 (.slice (some ⟨w.heap.size, 0, none⟩) 1 1) 1 (u8s [n]) := own_lit' w 5 1 #[.int .u8 (n : Int)] rfl (by decide)
      have hfin : NumAt w [n] (.returned (.slice (some ⟨w.heap.size, 0, none⟩) 1 1)) (w.alloc (.cells #[.int .u8 (n : Int)] 5)) := ⟨_, _, rfl, hB, hrow⟩
      clear ih hB hrow
      have hfin'h := Lib.hid hfin
      clear hfin
      go_enter Tryd.func22, Tryd.ntmps22
      go_wp2
      go_ret
      exact hfin'h.out
    · rw [numB_great hs]
      have i1 : ¬ (n : Int) < 128 := by omega
      have I := fun w => ih (n / 128) (by omega) (by omega) w
      obtain ⟨i0, hi, hz, hs0, hby⟩ := info_parts info_clone8
      clear ih
      obtain ⟨q, hq⟩ : ∃ q, q = n / 128 := ⟨_, rfl⟩
      have hq1 : (n : Int) / 128 = (q : Int) := by omega
      obtain ⟨r, hr⟩ : ∃ r, r = n % 128 + 128 := ⟨_, rfl⟩
      rw [← hq] at I ⊢
      rw [← hr]
      have hr1 : (128 : Int) + (n : Int) % 128 = (r : Int) := by omega
      have hr2 : r < 256 := by omega
      have hqw : IntKind.u64.wrap (q : Int) = (q : Int) := by rw [IntKind.wrap_u64]; omega
      have hB1 := (Below.refl w.heap.size w).alloc (Nat.le_refl _) (.cells #[.int .u8 (r : Int)] 5)
      have hrow1 : (w.alloc (.cells #[.int .u8 (r : Int)] 5)).ownsRow w.heap.size 5 1 (.slice (some ⟨w.heap.size, 0, none⟩) 1 1) 1 (u8s [r]) := own_lit' w 5 1 #[.int .u8 (r : Int)] rfl (by decide)
      have hl10 : (numB q).length ≤ 10 := numB_ten (by omega)
      have I'h := Lib.hid I
      have hq'h := Lib.hid hq
      have hr'h := Lib.hid hr
      have hn'h := Lib.hid hn
      have hs'h := Lib.hid hs
      have hB1'h := Lib.hid hB1
      have hrow1'h := Lib.hid hrow1
      have hl10'h := Lib.hid hl10
      clear I hq hr hn hs hB1 hrow1 hl10
      go_enter Tryd.func22, Tryd.ntmps22
      go_wp2_with fail
      refine (I'h.out _).mono ?_
      rintro e w2 ⟨sp, c, rfl, hB2, hrow2⟩
      have hsl := SlK.of_row hrow2 (by have := hl10'h.out; unfold maxLen; omega)
      have hrow3 := ownsRow_next hrow1'h.out hB2
      have hB3 := below_next hB1'h.out hB2
      clear hB2 hrow2 hrow1'h hB1'h I'h hr1 hr2 i1
      have hsl'h := Lib.hid hsl
      have hrow3'h := Lib.hid hrow3
      have hB3'h := Lib.hid hB3
      clear hsl hrow3 hB3
      obtain ⟨l, hl⟩ : ∃ l, l = numB q := ⟨_, rfl⟩
      rw [← hl] at hsl'h hl10'h ⊢
      have hl'h := Lib.hid hl
      clear hl
      go_wp2_with (at_builtin; refine wpList_append_slk _ rfl (.tmp 12) (.tmp 15) 38 rfl w.heap.size 5 i0 (.int .u8 0) 1 1 Tryd.underlying38 hi hz hs0 hby rfl (by decide) _ 1 (u8s [r]) rfl hrow3'h.out sp l.length c (u8s l) rfl hsl'h.out (u8s_one _) (by have := hl10'h.out; unfold maxLen; omega) (by have := hl10'h.out; omega) hB3'h.out.size ?_; intro v' w9 hown' hgrow hwh)
      have hB4 := hB3'h.out.grown hgrow hB3'h.out.size (fun q hq => (hrow3'h.out.lt q hq).1)
      obtain ⟨s9, c9, rfl⟩ := row_slice' hown'
      rw [u8s_app] at hown'
      have hlen : 1 + l.length = (r :: l).length := by rw [List.length_cons]; omega
      rw [hlen] at hown' ⊢
      have hfin : NumAt w (r :: l) (.returned (.slice s9 (r :: l).length c9)) w9 := ⟨_, _, rfl, hB4, hown'⟩
      clear hB4 hown' hgrow hwh hlen
      generalize (r :: l).length = m at *
      have hfin'h := Lib.hid hfin
      clear hfin
      go_wp2
      go_ret
      have := hfin'h.out
      rw [hl'h.out] at this
      exact this
end Go.Proofs.YtifofdciablljaaDoor
