/-
  Layer 3 (script): a number's bytes.
-/
import Derived.Test.YtifofdciablljaaDoorScrE
set_option linter.unusedSimpArgs false
set_option linter.unusedVariables false
set_option maxRecDepth 100000
namespace Go.Proofs.YtifofdciablljaaDoor
open Go.RowKit

def u8s (l : List Nat) : List Value := l.map fun (b : Nat) => .int .u8 (b : Int)
theorem u8s_length (l : List Nat) : (u8s l).length = l.length := by simp [u8s]
theorem u8s_app (a b : List Nat) : u8s a ++ u8s b = u8s (a ++ b) := by unfold u8s; rw [List.map_append]
theorem u8s_one (l : List Nat) : ∀ v ∈ u8s l, v.oneCell' = true := by
  unfold u8s; intro v hv; obtain ⟨k, _, rfl⟩ := List.mem_map.1 hv; rfl
theorem info_u8 : (Tryd.prog.info? 5).map (fun i => (i.zero, i.size, i.bytes)) = some (some (.int .u8 0), 1, 1) := by kernel_rfl

/-- A number's bytes: seven bits each, the lowest first; 128 more in all but the last. -/
def numB (n : Nat) : List Nat := if n < 128 then [n] else (n % 128 + 128) :: numB (n / 128)
termination_by n
decreasing_by omega
theorem numB_small {n : Nat} (h : n < 128) : numB n = [n] := by rw [numB, if_pos h]
theorem numB_great {n : Nat} (h : ¬ n < 128) : numB n = (n % 128 + 128) :: numB (n / 128) := by rw [numB, if_neg h]
theorem numB_pos (n : Nat) : 1 ≤ (numB n).length := by
  by_cases h : n < 128
  · rw [numB_small h]; simp
  · rw [numB_great h]; simp
theorem numB_len_le (k : Nat) : ∀ n : Nat, n < 128 ^ (k + 1) → (numB n).length ≤ k + 1 := by
  induction k with
  | zero => intro n h; rw [numB_small (by omega)]; simp
  | succ k ih =>
    intro n h
    by_cases hs : n < 128
    · rw [numB_small hs]; simp
    · rw [numB_great hs, List.length_cons]
      have := ih (n / 128) (by rw [Nat.div_lt_iff_lt_mul (by omega)]; rw [Nat.pow_succ] at h; omega)
      omega
theorem numB_ten {n : Nat} (h : n < 2 ^ 64) : (numB n).length ≤ 10 := numB_len_le 9 n (Nat.lt_of_lt_of_le h (by decide))
theorem numB_byte : ∀ n : Nat, ∀ b ∈ numB n, b < 256 := by
  intro n
  induction n using Nat.strongRecOn with
  | _ n ih =>
    intro b hb
    by_cases h : n < 128
    · rw [numB_small h] at hb; simp at hb; omega
    · rw [numB_great h] at hb
      rcases List.mem_cons.1 hb with rfl | hb
      · omega
      · exact ih (n / 128) (by omega) b hb

/-- A row of one's own that grew: what it was is as it was but for its block; its block is the old one, or a new one. -/
structure Grew (w : World) (v : Value) (w' : World) (v' : Value) : Prop where
  by' : w.grownBy w' v.ownBlock
  blk : v'.ownBlock = v.ownBlock ∨ ∃ b, v'.ownBlock = some b ∧ w.heap.size ≤ b
theorem Grew.refl (w : World) (v : Value) : Grew w v w v := ⟨World.grownBy.refl w _, .inl rfl⟩
theorem Grew.step {w w1 w2 : World} {v v1 v2 : Value} (h : Grew w v w1 v1) (hg : w1.grownBy w2 v1.ownBlock) (hb : v2.ownBlock = v1.ownBlock ∨ v2.ownBlock = some w1.heap.size) : Grew w v w2 v2 := by
  obtain ⟨h1, h2⟩ := h
  have hs := h1.size
  refine ⟨⟨hg.os.trans h1.os, hg.tape.trans h1.tape, hg.output.trans h1.output, Nat.le_trans hs hg.size, fun k hk hne => ?_⟩, ?_⟩
  · refine (hg.block k (by omega) (fun e => ?_)).trans (h1.block k hk hne)
    rcases h2 with h2 | ⟨b, h2, hb2⟩
    · exact hne (e.trans h2)
    · rw [h2] at e
      injection e with e
      omega
  · rcases hb with hb | hb
    · rcases h2 with h2 | ⟨b, h2, hb2⟩
      · exact .inl (hb.trans h2)
      · exact .inr ⟨b, hb.trans h2, hb2⟩
    · exact .inr ⟨_, hb, hs⟩
theorem Grew.wide {w w1 w1' : World} {v v1 : Value} (h : Grew w v w1 v1) (hb : Below w1.heap.size w1 w1') : Grew w v w1' v1 := by
  obtain ⟨h1, h2⟩ := h
  have hs := h1.size
  exact ⟨⟨hb.os.trans h1.os, hb.tape.trans h1.tape, hb.output.trans h1.output, Nat.le_trans hs hb.size, fun k hk hne => (hb.block k (by omega)).trans (h1.block k hk hne)⟩, h2⟩
theorem Grew.below {base : Nat} {w w' : World} {v v' : Value} (h : Grew w v w' v') (hb : base ≤ w.heap.size) (hv : ∀ b, v.ownBlock = some b → base ≤ b) : Below base w w' :=
  (Below.refl base w).grown h.by' hb hv

theorem or128 (x : Nat) (h : x < 256) : x ||| 128 = x % 128 + 128 := by
  have : ∀ x : Fin 256, x.val ||| 128 = x.val % 128 + 128 := by decide
  exact this ⟨x, h⟩
set_option maxHeartbeats 1000000 in
theorem put_any (base : Nat) (v : Value) (l : List Nat) (n : Nat) (w : World) (h : w.ownsRow base 5 1 v l.length (u8s l)) (hbase : base ≤ w.heap.size) (hn : n < 2 ^ 64) (hl : l.length ≤ 60000) :
    Calls Tryd.prog 44 #[v, .int .u64 n] w fun e w' => ∃ v', e = .returned v' ∧ w'.ownsRow base 5 1 v' (l ++ numB n).length (u8s (l ++ numB n)) ∧ Grew w v w' v' := by
  have h10 := numB_ten hn
  obtain ⟨i0, hi, hz0, hz1, hz2⟩ := info_parts info_u8
  have h'h := Lib.hid h
  have hbase'h := Lib.hid hbase
  have hn'h := Lib.hid hn
  have h10'h := Lib.hid h10
  clear h hbase hn h10
  go_enter Tryd.func44, Tryd.ntmps44
  go_wp2
  go_loopg [0, 1] n (fun q x y wr => ∃ (v1 : Value) (l1 : List Nat) (m : Nat), v1 = x ∧ y = .int .u64 (m : Int) ∧ m ≤ q ∧ m < 2 ^ 64 ∧ l1 ++ numB m = l ++ numB n ∧ wr.ownsRow base 5 1 v1 l1.length (u8s l1) ∧ Grew w v wr v1)
  case atStart => exact ⟨v, l, n, rfl, rfl, Nat.le_refl _, hn'h.out, rfl, h'h.out, Grew.refl _ _⟩
  case round =>
    obtain ⟨v1, l1, m, rfl, rfl, hq, hm, hE, hrow, hG⟩ := hrel
    have hlen : l1.length + (numB m).length = l.length + (numB n).length := by have := congrArg List.length hE; simpa using this
    have hsz := hG.by'.size
    by_cases hs : m < 128
    · have hsz2 : ¬ ((m : Int) ≥ 128) := by omega
      have hE2 : l1 ++ [m] = l ++ numB n := by rw [← numB_small hs]; exact hE
      have hB1 := (Below.refl wr.heap.size wr).alloc (Nat.le_refl _) (.cells #[.int .u8 (m : Int)] 5)
      have hrow1 := ownsRow_next hrow hB1
      have hG1 := hG.wide hB1
      have hsl : SlK (wr.alloc (.cells #[.int .u8 (m : Int)] 5)) 1 (some ⟨wr.heap.size, 0, none⟩) 1 (u8s [m]) := SlK.of_blk (World.alloc_heap_new _ _) rfl (by unfold maxLen; omega)
      have hb1 : base ≤ (wr.alloc (.cells #[.int .u8 (m : Int)] 5)).heap.size := by have := hbase'h.out; have := hB1.size; omega
      have hl61 : l1.length ≤ 60010 := by have := h10'h.out; omega
      clear hE hsz hrow hG hB1
      have hq'h := Lib.hid hq
      have hm'h := Lib.hid hm
      have hE2'h := Lib.hid hE2
      have hrow1'h := Lib.hid hrow1
      have hG1'h := Lib.hid hG1
      have hlen'h := Lib.hid hlen
      have hsl'h := Lib.hid hsl
      have hb1'h := Lib.hid hb1
      clear hq hm hE2 hrow1 hG1 hlen hsl hb1
      go_wp2_with (at_builtin; refine wpList_append_slk _ rfl (.tmp 15) (.tmp 18) 38 rfl base 5 i0 (.int .u8 0) 1 1 Tryd.underlying38 hi hz0 hz1 hz2 rfl (by decide) v1 l1.length _ rfl hrow1'h.out _ 1 1 _ rfl hsl'h.out (u8s_one _) (by unfold maxLen; omega) (by omega) hb1'h.out ?_; intro v' w9 hown' hgrow hwh)
      have hG9 := hG1'h.out.step hgrow hwh
      rw [u8s_app] at hown'
      clear hgrow hwh
      have hG9'h := Lib.hid hG9
      have hown''h := Lib.hid hown'
      clear hG9 hown'
      go_wp2
      go_ret
      refine ⟨v', rfl, ?_, hG9'h.out⟩
      have := hown''h.out
      rw [hE2'h.out] at this
      have e := congrArg List.length hE2'h.out
      simp only [List.length_append, List.length_singleton] at e ⊢
      rwa [e] at this
    · have hsz2 : ((m : Int) ≥ 128) := by omega
      have hE2 : (l1 ++ [m % 128 + 128]) ++ numB (m / 128) = l ++ numB n := by rw [← hE, numB_great hs]; simp
      obtain ⟨c, hc⟩ : ∃ c : Nat, c = m % 128 + 128 := ⟨_, rfl⟩
      rw [← hc] at hE2
      have hor : bits .or .u8 ((m : Int) % 256) 128 = (c : Int) := by
        have h1 := u8_or_nat (m % 256) 128 (by omega) (by omega)
        rw [or128 _ (by omega), show m % 256 % 128 + 128 = c by omega] at h1
        rw [← h1]
        push_cast
        rfl
      have hB1 := (Below.refl wr.heap.size wr).alloc (Nat.le_refl _) (.cells #[.int .u8 (c : Int)] 5)
      have hrow1 := ownsRow_next hrow hB1
      have hG1 := hG.wide hB1
      have hsl : SlK (wr.alloc (.cells #[.int .u8 (c : Int)] 5)) 1 (some ⟨wr.heap.size, 0, none⟩) 1 (u8s [c]) := SlK.of_blk (World.alloc_heap_new _ _) rfl (by unfold maxLen; omega)
      have hb1 : base ≤ (wr.alloc (.cells #[.int .u8 (c : Int)] 5)).heap.size := by have := hbase'h.out; have := hB1.size; omega
      have hl61 : l1.length ≤ 60010 := by have := h10'h.out; omega
      clear hE hsz hrow hG hB1 hc
      have hq'h := Lib.hid hq
      have hm'h := Lib.hid hm
      have hE2'h := Lib.hid hE2
      have hrow1'h := Lib.hid hrow1
      have hG1'h := Lib.hid hG1
      have hlen'h := Lib.hid hlen
      have hsl'h := Lib.hid hsl
      have hb1'h := Lib.hid hb1
      clear hq hm hE2 hrow1 hG1 hlen hsl hb1
      go_wp2_with (at_builtin; refine wpList_append_slk _ rfl (.tmp 7) (.tmp 11) 38 rfl base 5 i0 (.int .u8 0) 1 1 Tryd.underlying38 hi hz0 hz1 hz2 rfl (by decide) v1 l1.length _ rfl hrow1'h.out _ 1 1 _ rfl hsl'h.out (u8s_one _) (by unfold maxLen; omega) (by omega) hb1'h.out ?_; intro v' w9 hown' hgrow hwh)
      have hG9 := hG1'h.out.step hgrow hwh
      rw [u8s_app] at hown'
      clear hgrow hwh hor
      have hG9'h := Lib.hid hG9
      have hown''h := Lib.hid hown'
      clear hG9 hown'
      go_wp2
      go_roundg (m / 128)
      case measure => have := hq'h.out; omega
      case rel => exact ⟨v', l1 ++ [c], m / 128, rfl, by go_num, Nat.le_refl _, by have := hm'h.out; omega, hE2'h.out, by rw [List.length_append, List.length_singleton]; exact hown''h.out, hG9'h.out⟩
theorem number_any (n : Nat) (w : World) (hn : n < 2 ^ 64) :
    Calls Tryd.prog 21 #[.int .u64 n] w fun e w' => ∃ v', e = .returned v' ∧ w'.ownsRow w.heap.size 5 1 v' (numB n).length (u8s (numB n)) ∧ Below w.heap.size w w' := by
  have C := put_any w.heap.size (.slice none 0 0) [] n w ⟨rfl, .inl ⟨rfl, rfl⟩⟩ (Nat.le_refl _) hn (by simp)
  have C'h := Lib.hid C
  clear C
  go_enter Tryd.func21, Tryd.ntmps21
  go_wp2_with fail
  refine C'h.out.mono ?_
  rintro e w' ⟨v', rfl, hrow, hG⟩
  have hB := hG.below (Nat.le_refl _) (fun b hb => by cases hb)
  clear hG C'h
  have hrow'h := Lib.hid hrow
  have hB'h := Lib.hid hB
  clear hrow hB
  go_wp2
  go_ret
  exact ⟨v', rfl, hrow'h.out, hB'h.out⟩
end Go.Proofs.YtifofdciablljaaDoor
