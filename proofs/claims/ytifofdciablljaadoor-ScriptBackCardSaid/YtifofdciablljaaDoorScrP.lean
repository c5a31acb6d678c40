/-
  bytes.Equal and bytes.HasPrefix at rows of bytes.
-/
import Derived.Test.YtifofdciablljaaDoorScrO
import Derived.Laws.BytesArg
import Derived.Shelf.Bytes.SlSmallAll
import Derived.Lib.Bytes
set_option linter.unusedSimpArgs false
set_option linter.unusedVariables false
set_option maxRecDepth 100000
namespace Go.Proofs.YtifofdciablljaaDoor
open Go.RowKit

def strB (bs : List Nat) : ByteArray := strOfNums (bs.map fun (b : Nat) => (b : Int))
theorem strB_list (bs : List Nat) : (strB bs).toList = bs.map fun (b : Nat) => UInt8.ofNat b := by
  unfold strB
  rw [Lib.strOfNums_toList]
  unfold Lib.bytesOf
  rw [List.map_map]
  rfl
theorem strB_nums (l : List Nat) (hl : ∀ b ∈ l, b < 256) : (l.map fun (b : Nat) => UInt8.ofNat b).map (·.toNat) = l := by
  rw [List.map_map]
  conv => rhs; rw [← List.map_id l]
  refine List.map_congr_left fun b hb => ?_
  have := hl b hb
  simp only [Function.comp, UInt8.toNat_ofNat', id]
  omega
theorem strB_eq {bs cs : List Nat} (hb : ∀ b ∈ bs, b < 256) (hc : ∀ b ∈ cs, b < 256) : ((strB bs).toList == (strB cs).toList) = decide (bs = cs) := by
  rw [strB_list, strB_list]
  by_cases e : bs = cs
  · subst e; simp
  · rw [decide_eq_false e, beq_eq_false_iff_ne]
    intro h
    apply e
    rw [← strB_nums bs hb, ← strB_nums cs hc, h]
theorem conv_bytes {w : World} {sp : Option Addr} {n : Nat} {bs : List Nat} (h : Sl w sp n (u8s bs)) (cap : Nat) : (convert 38 9 (.slice sp n cap)).run Tryd.prog w = .ok (.string (strB bs)) w := by
  have hl : bs.length = n := by have := h.1; rw [u8s_length] at this; exact this.symm
  rcases Nat.eq_zero_or_pos n with h0 | h0
  · subst h0
    obtain rfl : bs = [] := List.eq_nil_of_length_eq_zero hl
    have e : strB [] = ByteArray.empty := rfl
    rw [e]
    exact run_convert_bytes_zero w 38 5 Tryd.underlying38 Tryd.underlying5 sp cap _ Tryd.underlying9
  · obtain ⟨b, o, rfl, hc⟩ := (SlK.of_sl h).some' h0
    refine run_convert_bytes_arg w 38 5 Tryd.underlying38 Tryd.underlying5 b o n cap (bs.map fun (b : Nat) => (b : Int)) (by rw [List.length_map]; exact hl) (fun i hi => ?_) _ Tryd.underlying9
    have hu : (u8s bs)[i]? = some (.int .u8 ((bs.map fun (b : Nat) => (b : Int)).getD i 0)) := by
      unfold u8s
      rw [List.getElem?_map, List.getD_eq_getElem?_getD, List.getElem?_map, List.getElem?_eq_getElem (by omega)]
      rfl
    exact hc i _ hu
theorem eqB_any (sp sp' : Option Addr) (n n' cap cap' : Nat) (bs cs : List Nat) (w : World) (h : Sl w sp n (u8s bs)) (h' : Sl w sp' n' (u8s cs)) (hb : ∀ b ∈ bs, b < 256) (hc : ∀ b ∈ cs, b < 256) :
    Calls Tryd.prog 20 #[.slice sp n cap, .slice sp' n' cap'] w fun e w' => e = .returned (.bool (decide (bs = cs))) ∧ w' = w := by
  have g1 := conv_bytes h cap
  have g2 := conv_bytes h' cap'
  rw [← strB_eq hb hc]
  generalize strB bs = x at *
  generalize strB cs = y at *
  clear h h' hb hc
  go_enter Tryd.func20, Tryd.ntmps20
  go_wp2
  go_ret
  exact ⟨rfl, rfl⟩
/-- The first bytes of a row. -/
def preB (bs cs : List Nat) : Bool := decide (cs.length ≤ bs.length) && decide (bs.take cs.length = cs)
theorem hasB_any (sp sp' : Option Addr) (n n' cap cap' : Nat) (bs cs : List Nat) (w : World) (h : Sl w sp n (u8s bs)) (h' : Sl w sp' n' (u8s cs)) (hb : ∀ b ∈ bs, b < 256) (hc : ∀ b ∈ cs, b < 256) (hcap : n ≤ cap) (hnil : sp = none → cap = 0) :
    Calls Tryd.prog 28 #[.slice sp n cap, .slice sp' n' cap'] w fun e w' => e = .returned (.bool (preB bs cs)) ∧ w' = w := by
  have hl : bs.length = n := by have := h.1; rw [u8s_length] at this; exact this.symm
  have hl' : cs.length = n' := by have := h'.1; rw [u8s_length] at this; exact this.symm
  unfold preB
  rw [hl, hl']
  by_cases hle : n' ≤ n
  · have hi : (n' : Int) ≤ (n : Int) := by omega
    have hi2 : (n' : Int) ≤ (cap : Int) := by omega
    have hi3 : ¬ (n' : Int) < 0 := by omega
    have E := fun w (hw : Sl w sp n (u8s bs)) (hw' : Sl w sp' n' (u8s cs)) => eqB_any sp sp' n' n' cap cap' (bs.take n') cs w (by have := hw.take n' hle; unfold u8s at *; rw [← List.map_take] at this; exact this) hw' (fun b hbm => hb b (List.mem_of_mem_take hbm)) hc
    rw [decide_eq_true hle, Bool.true_and]
    have E'h := Lib.hid E
    have h'h := Lib.hid h
    have h''h := Lib.hid h'
    have hb'h := Lib.hid hb
    have hc'h := Lib.hid hc
    clear E h h' hb hc
    go_enter Tryd.func28, Tryd.ntmps28
    go_wp2_with (go_at_call 20; refine (E'h.out _ h'h.out h''h.out).mono ?_; rintro e w' ⟨rfl, hw⟩; obtain rfl := hw.symm)
    go_ret
    exact ⟨rfl, rfl⟩
  · have hi : ¬ (n' : Int) ≤ (n : Int) := by omega
    rw [decide_eq_false hle, Bool.false_and]
    clear h h' hb hc
    go_enter Tryd.func28, Tryd.ntmps28
    go_wp2
    go_ret
    exact ⟨rfl, rfl⟩
end Go.Proofs.YtifofdciablljaaDoor
