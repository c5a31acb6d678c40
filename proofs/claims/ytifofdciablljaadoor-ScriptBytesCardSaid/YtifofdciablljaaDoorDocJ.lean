/-
  The document's answer for layer 3, plain: reading a script in its order is what the program's order reads.
-/
import Derived.Test.YtifofdciablljaaDoorDocI
set_option linter.unusedSimpArgs false
set_option linter.unusedVariables false
set_option maxRecDepth 100000
namespace Go.Proofs.YtifofdciablljaaDoor
open Go.RowKit

def listsD : Nat → List Nat → Option (List (List Cal) × List Nat)
  | 0, l => some ([], l)
  | g + 1, l => match mostR 64 l with
    | none => none
    | some (n, l1) => match listR n l1 with
      | none => none
      | some (cs, l2) => match listsD g l2 with
        | none => none
        | some (ls, l3) => some (cs :: ls, l3)
theorem mostR_mono {a b : Nat} {l : List Nat} {n : Nat} {r : List Nat} (h : mostR a l = some (n, r)) (hb : n ≤ b) : mostR b l = some (n, r) := by
  obtain ⟨h1, h2⟩ := mostR_le h
  unfold mostR
  rw [h2]
  simp only
  rw [if_pos hb]
theorem listR_length : ∀ (k : Nat) (l : List Nat) (cs : List Cal) (r : List Nat), listR k l = some (cs, r) → cs.length = k
  | 0, l, cs, r, h => by simp only [listR, Option.some.injEq, Prod.mk.injEq] at h; rw [← h.1]; rfl
  | k + 1, l, cs, r, h => by
    unfold listR at h
    split at h
    · cases h
    · rename_i c l' hc
      split at h
      · cases h
      · rename_i cs' l'' hcs
        simp only [Option.some.injEq, Prod.mk.injEq] at h
        rw [← h.1, List.length_cons, listR_length k l' cs' l'' hcs]
theorem listsR_D : ∀ (g left : Nat) (l : List Nat) (ls : List (List Cal)) (r : List Nat), left ≤ 64 → listsR g left l = some (ls, r) → listsD g l = some (ls, r) ∧ ls.flatten.length ≤ left
  | 0, left, l, ls, r, _, h => by
    simp only [listsR, Option.some.injEq, Prod.mk.injEq] at h
    obtain ⟨rfl, rfl⟩ := h
    exact ⟨rfl, by simp⟩
  | g + 1, left, l, ls, r, hl, h => by
    unfold listsR at h
    split at h
    · cases h
    · rename_i n l1 hm
      split at h
      · cases h
      · rename_i cs l2 hc
        split at h
        · cases h
        · rename_i ls' l3 hls
          simp only [Option.some.injEq, Prod.mk.injEq] at h
          obtain ⟨rfl, rfl⟩ := h
          have hn := (mostR_le hm).1
          obtain ⟨h1, h2⟩ := listsR_D g (left - n) l2 ls' l3 (by omega) hls
          refine ⟨?_, ?_⟩
          · unfold listsD
            rw [mostR_mono hm (by omega)]
            simp only [hc, h1]
          · have := listR_length n l1 cs l2 hc
            rw [List.flatten_cons, List.length_append]
            omega
theorem listsD_R : ∀ (g left : Nat) (l : List Nat) (ls : List (List Cal)) (r : List Nat), listsD g l = some (ls, r) → ls.flatten.length ≤ left → listsR g left l = some (ls, r)
  | 0, left, l, ls, r, h, _ => by
    simp only [listsD, Option.some.injEq, Prod.mk.injEq] at h
    obtain ⟨rfl, rfl⟩ := h
    rfl
  | g + 1, left, l, ls, r, h, hl => by
    unfold listsD at h
    split at h
    · cases h
    · rename_i n l1 hm
      split at h
      · cases h
      · rename_i cs l2 hc
        split at h
        · cases h
        · rename_i ls' l3 hls
          simp only [Option.some.injEq, Prod.mk.injEq] at h
          obtain ⟨rfl, rfl⟩ := h
          have hlen := listR_length n l1 cs l2 hc
          rw [List.flatten_cons, List.length_append] at hl
          have h1 := listsD_R g (left - n) l2 ls' l3 hls (by omega)
          unfold listsR
          rw [mostR_mono hm (by omega)]
          simp only [hc, h1]
/-- What is left of reading numbers. -/
def numsLeft (ws : List Nat) (k : Nat) (l : List Nat) : Option (List Nat × List Nat) := match readW k l with
  | none => none
  | some (ns, l2) => some (ws ++ ns, l2)
theorem numsLeft_done (ws l : List Nat) : numsLeft ws 0 l = some (ws, l) := by simp [numsLeft, readW]
theorem numsLeft_none {ws l : List Nat} {k : Nat} (h : readN l = none) : numsLeft ws (k + 1) l = none := by simp [numsLeft, readW, h]
theorem numsLeft_next {n : Nat} {ws l l' : List Nat} {k : Nat} (h : readN l = some (n, l')) : numsLeft ws (k + 1) l = numsLeft (ws ++ [n]) k l' := by
  unfold numsLeft
  rw [readW, h]
  simp only
  cases readW k l' with
  | none => rfl
  | some x => simp
/-- What is left of reading calls. -/
def calsLeft (cs : List Cal) (k : Nat) (l : List Nat) : Option (List Cal × List Nat) := match listR k l with
  | none => none
  | some (ds, l2) => some (cs ++ ds, l2)
theorem calsLeft_done (cs : List Cal) (l : List Nat) : calsLeft cs 0 l = some (cs, l) := by simp [calsLeft, listR]
theorem calsLeft_none {cs : List Cal} {l : List Nat} {k : Nat} (h : callR l = none) : calsLeft cs (k + 1) l = none := by simp [calsLeft, listR, h]
theorem calsLeft_next {c : Cal} {cs : List Cal} {l l' : List Nat} {k : Nat} (h : callR l = some (c, l')) : calsLeft cs (k + 1) l = calsLeft (cs ++ [c]) k l' := by
  unfold calsLeft
  rw [listR, h]
  simp only
  cases listR k l' with
  | none => rfl
  | some x => simp
/-- What is left of reading rows of calls. -/
def rowsLeft (ls : List (List Cal)) (k : Nat) (l : List Nat) : Option (List (List Cal) × List Nat) := match listsD k l with
  | none => none
  | some (ms, l2) => some (ls ++ ms, l2)
theorem rowsLeft_done (ls : List (List Cal)) (l : List Nat) : rowsLeft ls 0 l = some (ls, l) := by simp [rowsLeft, listsD]
theorem rowsLeft_most {ls : List (List Cal)} {l : List Nat} {k : Nat} (h : mostR 64 l = none) : rowsLeft ls (k + 1) l = none := by simp [rowsLeft, listsD, h]
theorem rowsLeft_none {ls : List (List Cal)} {l l1 : List Nat} {k n : Nat} (h : mostR 64 l = some (n, l1)) (hc : listR n l1 = none) : rowsLeft ls (k + 1) l = none := by simp [rowsLeft, listsD, h, hc]
theorem rowsLeft_next {ls : List (List Cal)} {l l1 l2 : List Nat} {k n : Nat} {cs : List Cal} (h : mostR 64 l = some (n, l1)) (hc : listR n l1 = some (cs, l2)) : rowsLeft ls (k + 1) l = rowsLeft (ls ++ [cs]) k l2 := by
  unfold rowsLeft
  rw [listsD, h]
  simp only [hc]
  cases listsD k l2 with
  | none => rfl
  | some x => simp
/-- A script, as the document reads it. -/
def decD (l : List Nat) : Option (Scr × List Nat) := match readW 3 l with
  | some ([g, sb, seed], l3) => if 1 ≤ g ∧ g ≤ 8 ∧ 2 ≤ sb ∧ sb ≤ 128 then (match listsD g l3 with
    | none => none
    | some (ls, l4) => endR g sb seed ls l4) else none
  | _ => none
theorem readW3 (l : List Nat) : readW 3 l = match readN l with
    | none => none
    | some (a, l1) => match readN l1 with
      | none => none
      | some (b, l2) => match readN l2 with
        | none => none
        | some (c, l3) => some ([a, b, c], l3) := by
  simp only [readW]
  cases readN l with
  | none => rfl
  | some x =>
    obtain ⟨a, l1⟩ := x
    simp only
    cases readN l1 with
    | none => rfl
    | some x =>
      obtain ⟨b, l2⟩ := x
      simp only
      cases readN l2 with
      | none => rfl
      | some x => rfl
theorem endR_bad {g sb seed : Nat} {ls : List (List Cal)} {l : List Nat} (h : ∀ ps, rightS ⟨(g : Int), (sb : Int), seed, ls, ps⟩ = false) : endR g sb seed ls l = none := by
  unfold endR
  split
  · rfl
  · split
    · rfl
    · rw [if_neg (by rw [h]; simp)]
theorem rightS_bad {g sb seed : Nat} {ls : List (List Cal)} {ps : List Nat} (h : ¬ (1 ≤ g ∧ g ≤ 8 ∧ 2 ≤ sb ∧ sb ≤ 128 ∧ ls.flatten.length ≤ 64)) : rightS ⟨(g : Int), (sb : Int), seed, ls, ps⟩ = false := by
  cases hr : rightS ⟨(g : Int), (sb : Int), seed, ls, ps⟩ with
  | false => rfl
  | true =>
    exfalso
    apply h
    unfold rightS headS sizesS at hr
    simp only [Bool.and_eq_true, decide_eq_true_eq] at hr
    obtain ⟨⟨⟨⟨⟨⟨h1, h2⟩, h3⟩, h4⟩, h5⟩, h6⟩, h7, h8⟩ := hr
    omega
theorem decD_eq (l : List Nat) : decD l = scriptR l := by
  unfold decD scriptR mostR
  rw [readW3]
  cases h1 : readN l with
  | none => rfl
  | some x =>
    obtain ⟨g, l1⟩ := x
    simp only
    cases h2 : readN l1 with
    | none =>
      simp only
      split <;> rename_i hh
      · rfl
      · split at hh
        · cases hh; rw [h2]
        · cases hh
    | some x =>
      obtain ⟨sb, l2⟩ := x
      simp only
      cases h3 : readN l2 with
      | none =>
        simp only
        by_cases hg : g ≤ 8
        · rw [if_pos hg]
          simp only [h2]
          by_cases hs : sb ≤ 128
          · rw [if_pos hs]; simp only [h3]
          · rw [if_neg hs]
        · rw [if_neg hg]
      | some x =>
        obtain ⟨seed, l3⟩ := x
        simp only
        by_cases hg : g ≤ 8
        · rw [if_pos hg]
          simp only [h2]
          by_cases hs : sb ≤ 128
          · rw [if_pos hs]
            simp only [h3]
            unfold restR
            by_cases hgs : 1 ≤ g ∧ 2 ≤ sb
            · rw [if_pos ⟨hgs.1, hg, hgs.2, hs⟩]
              cases hD : listsD g l3 with
              | none =>
                cases hL : listsR g 64 l3 with
                | none => rfl
                | some y =>
                  obtain ⟨ls, r⟩ := y
                  have := (listsR_D g 64 l3 ls r (by omega) hL).1
                  rw [hD] at this
                  cases this
              | some y =>
                obtain ⟨ls, r⟩ := y
                by_cases hl : ls.flatten.length ≤ 64
                · rw [listsD_R g 64 l3 ls r hD hl]
                  rfl
                · simp only
                  rw [endR_bad fun ps => rightS_bad (by omega)]
                  cases hL : listsR g 64 l3 with
                  | none => rfl
                  | some y =>
                    obtain ⟨ls', r'⟩ := y
                    have := listsR_D g 64 l3 ls' r' (by omega) hL
                    rw [hD] at this
                    have e := this.1
                    simp only [Option.some.injEq, Prod.mk.injEq] at e
                    rw [← e.1] at this
                    omega
            · rw [if_neg (by omega)]
              cases hL : listsR g 64 l3 with
              | none => rfl
              | some y =>
                obtain ⟨ls', r'⟩ := y
                simp only
                rw [endR_bad fun ps => rightS_bad (by omega)]
          · rw [if_neg hs, if_neg (by omega)]
        · rw [if_neg hg, if_neg (by omega)]
end Go.Proofs.YtifofdciablljaaDoor
