/-
  Layer 3 (script): reading: a number of at most so much; a call.
-/
import Derived.Test.YtifofdciablljaaDoorScrI
set_option linter.unusedSimpArgs false
set_option linter.unusedVariables false
set_option maxRecDepth 100000
namespace Go.Proofs.YtifofdciablljaaDoor
open Go.RowKit

theorem rdN_lt : ∀ (l : List Nat) (i acc n : Nat) (r : List Nat), (∀ b ∈ l, b < 256) → acc < 128 ^ i → i ≤ 9 → rdN i acc l = some (n, r) → n < 2 ^ 64
  | [], _, _, _, _, _, _, _, h => by cases h
  | b :: l, i, acc, n, r, hb, ha, hi, h => by
    rw [rdN_cons] at h
    split at h
    · cases h
    · rename_i hok
      have hm : b % 128 ≤ 127 := by omega
      by_cases h9 : i < 9
      · have h1 : acc + b % 128 * 128 ^ i < 128 ^ (i + 1) := by
          rw [Nat.pow_succ]
          have := Nat.mul_le_mul_right (128 ^ i) hm
          omega
        split at h
        · split at h
          · cases h
            refine Nat.lt_of_lt_of_le h1 (Nat.le_trans (Nat.pow_le_pow_right (by decide) (show i + 1 ≤ 9 by omega)) (by decide))
          · cases h
        · exact rdN_lt l (i + 1) _ n r (fun x hx => hb x (by simp [hx])) h1 (by omega) h
      · obtain rfl : i = 9 := by omega
        have hb1 : b ≤ 1 := by omega
        rw [if_pos (by omega)] at h
        split at h
        · cases h
          have h2 : (128 : Nat) ^ 9 = 9223372036854775808 := by decide
          rw [h2] at ha ⊢
          have : b % 128 ≤ 1 := by omega
          have := Nat.mul_le_mul_right 9223372036854775808 this
          omega
        · cases h
theorem readN_lt {l : List Nat} {n : Nat} {r : List Nat} (hb : ∀ b ∈ l, b < 256) (h : readN l = some (n, r)) : n < 2 ^ 64 := rdN_lt l 0 0 n r hb (by decide) (by omega) h
theorem readN_drop {l : List Nat} {n : Nat} {r : List Nat} (h : readN l = some (n, r)) : ∃ k, r = l.drop k := (rdN_len l 0 0 n r h).2

section
variable {w : World} {rb : Nat} {v0 v1 v2 v3 v4 : Value} {bp : Option Addr} {bn bc : Nat} {bytes : List Nat} {p p' : Nat} {wr wr' : World}
theorem RdI.self (h : RdI w rb v0 v1 v2 v3 v4 bp bn bc bytes p wr) : RdI wr rb v0 v1 v2 v3 v4 bp bn bc bytes p wr := ⟨h.blk, World.grownBy.refl wr _, h.sl, h.ne⟩
theorem RdI.then {u0 u1 u2 u3 u4 : Value} (h : RdI w rb v0 v1 v2 v3 v4 bp bn bc bytes p wr) (h' : RdI wr rb u0 u1 u2 u3 u4 bp bn bc bytes p' wr') : RdI w rb u0 u1 u2 u3 u4 bp bn bc bytes p' wr' :=
  ⟨h'.blk, ⟨h'.by'.os.trans h.by'.os, h'.by'.tape.trans h.by'.tape, h'.by'.output.trans h.by'.output, Nat.le_trans h.by'.size h'.by'.size, fun k hk hne => (h'.by'.block k (Nat.lt_of_lt_of_le hk h.by'.size) hne).trans (h.by'.block k hk hne)⟩, h'.sl, h'.ne⟩
theorem RdI.wide (h : RdI w rb v0 v1 v2 v3 v4 bp bn bc bytes p wr) (hb : Below wr.heap.size wr wr') : RdI w rb v0 v1 v2 v3 v4 bp bn bc bytes p wr' :=
  ⟨heap_below hb h.blk (lt_of_heap h.blk), ⟨hb.os.trans h.by'.os, hb.tape.trans h.by'.tape, hb.output.trans h.by'.output, Nat.le_trans h.by'.size hb.size, fun k hk hne => (hb.block k (Nat.lt_of_lt_of_le hk h.by'.size)).trans (h.by'.block k hk hne)⟩, h.sl.below hb, h.ne⟩
theorem RdI.other (h : RdI w rb v0 v1 v2 v3 v4 bp bn bc bytes p wr) {b : Nat} {o : Obj} (hb : w.heap[b]? = some o) (hne : b ≠ rb) : wr.heap[b]? = some o :=
  (h.by'.block b (lt_of_heap hb) (fun e => hne (by injection e))).trans hb
theorem RdI.below {B : Nat} (h : RdI w rb v0 v1 v2 v3 v4 bp bn bc bytes p wr) (hB : B ≤ rb) (hw : B ≤ w.heap.size) : Below B w wr := (Below.refl B w).grown h.by' hw (fun k hk => by injection hk with hk; omega)
theorem RdI.set {i : Nat} (h : RdI w rb v0 v1 v2 v3 v4 bp bn bc bytes p wr) (u : Value) {u0 u1 u2 u3 u4 : Value} (hi : (rdC v0 v1 v2 v3 v4 bp bn bc p).setIfInBounds i u = rdC u0 u1 u2 u3 u4 bp bn bc p) :
    RdI w rb u0 u1 u2 u3 u4 bp bn bc bytes p (wr.setCell ⟨rb, i, none⟩ u) := by
  obtain ⟨h1, h2, h3, h4⟩ := h
  have hk : ∀ b, b ≠ rb → (wr.setCell ⟨rb, i, none⟩ u).heap[b]? = wr.heap[b]? := fun b hb => Below.heap_setCell _ _ _ _ hb
  refine ⟨by rw [← hi]; exact blk_set (i := i) _ h1, ⟨h2.os, h2.tape, h2.output, by rw [World.size_setCell]; exact h2.size, fun k hkw hne => (hk k (fun e => hne (by rw [e]))).trans (h2.block k hkw hne)⟩, ?_, h4⟩
  exact ((SlK.of_sl h3).keepP fun h0 b _ hm => hk b (fun e => h4 h0 (by rw [hm, e]))).sl
theorem RdI.low {u0 u1 u2 u3 u4 : Value} {q : Nat} (h : RdI w rb v0 v1 v2 v3 v4 bp bn bc bytes p wr) (hw : RdI w rb u0 u1 u2 u3 u4 bp bn bc bytes q w) (hB : Below w.heap.size wr wr') :
    RdI w rb v0 v1 v2 v3 v4 bp bn bc bytes p wr' :=
  ⟨heap_below hB h.blk (lt_of_heap hw.blk), ⟨hB.os.trans h.by'.os, hB.tape.trans h.by'.tape, hB.output.trans h.by'.output, Nat.le_trans h.by'.size hB.size, fun k hk hne => (hB.block k hk).trans (h.by'.block k hk hne)⟩,
    ((SlK.of_sl hw.sl).keepP fun h0 c hc hm => (hB.block c hc).trans (h.by'.block c hc (fun e => hw.ne h0 (by rw [hm, e])))).sl, h.ne⟩
theorem RdI.aside {u0 u1 u2 u3 u4 : Value} {q : Nat} (h : RdI w rb v0 v1 v2 v3 v4 bp bn bc bytes p wr) (hw : RdI w rb u0 u1 u2 u3 u4 bp bn bc bytes q w) {b : Nat} (hb : w.heap.size ≤ b) (o : Nat) (u : Value) :
    RdI w rb v0 v1 v2 v3 v4 bp bn bc bytes p (wr.setCell ⟨b, o, none⟩ u) := by
  have hrb := lt_of_heap hw.blk
  have hk : ∀ c, c ≠ b → (wr.setCell ⟨b, o, none⟩ u).heap[c]? = wr.heap[c]? := fun c hc => Below.heap_setCell _ _ _ _ hc
  refine ⟨(hk rb (by omega)).trans h.blk, ⟨h.by'.os, h.by'.tape, h.by'.output, by rw [World.size_setCell]; exact h.by'.size, fun k hkw hne => (hk k (by omega)).trans (h.by'.block k hkw hne)⟩, ?_, h.ne⟩
  exact ((SlK.of_sl hw.sl).keepP fun h0 c hc hm => (hk c (by omega)).trans (h.by'.block c hc (fun e => hw.ne h0 (by rw [hm, e])))).sl
end

/-! ### A number of at most so much -/
def mostR (limit : Nat) (l : List Nat) : Option (Nat × List Nat) := match readN l with
  | some (n, r) => if n ≤ limit then some (n, r) else none
  | none => none
def MostP (R : Option (Nat × List Nat)) (bn : Nat) (e : Ending) (p' : Nat) : Prop := match R with
  | some (n, rest) => e = .returned (.int .i64 (n : Int)) ∧ p' + rest.length = bn ∧ p' ≤ bn
  | none => e = Bad
theorem most_reads (rb : Nat) (v0 v1 v2 v3 v4 : Value) (bp : Option Addr) (bn bc p limit : Nat) (bytes : List Nat) (w : World) (h : RdI w rb v0 v1 v2 v3 v4 bp bn bc bytes p w) (hby : ∀ b ∈ bytes, b < 256) (hp : p ≤ bn) (hl : limit ≤ 5000) :
    Calls Tryd.prog 62 #[.pointer (some ⟨rb, 0, none⟩), .int .i64 (limit : Int)] w fun e w' => (∃ p', RdI w rb v0 v1 v2 v3 v4 bp bn bc bytes p' w' ∧ MostP (mostR limit (bytes.drop p)) bn e p') := by
  have C := number_reads rb v0 v1 v2 v3 v4 bp bn bc p bytes w h hby hp
  have hlt := fun n r => readN_lt (l := bytes.drop p) (n := n) (r := r) fun b hb => hby b (List.mem_of_mem_drop hb)
  unfold mostR
  cases hR : readN (bytes.drop p) with
  | none =>
    rw [hR] at C
    simp only [NumP] at C
    have C'h := Lib.hid C
    clear C
    clear hlt
    go_enter Tryd.func62, Tryd.ntmps62
    go_wp2_with fail
    refine C'h.out.mono ?_
    rintro e w2 ⟨p', hI, rfl⟩
    exact ⟨rfl, p', hI, rfl⟩
  | some x =>
    obtain ⟨n, r⟩ := x
    rw [hR] at C
    have hn64 := hlt n r hR
    simp only [NumP] at C
    simp only
    by_cases hnl : n ≤ limit
    · rw [if_pos hnl]
      have C'h := Lib.hid C
      clear C
      clear hlt
      go_enter Tryd.func62, Tryd.ntmps62
      go_wp2_with fail
      refine C'h.out.mono ?_
      rintro e w2 ⟨p', hI, rfl, hp1, hp2⟩
      have hI'h := Lib.hid hI
      have hp1'h := Lib.hid hp1
      have hp2'h := Lib.hid hp2
      clear hI hp1 hp2
      have hnz : (n : Int) ≤ (limit : Int) := by omega
      go_wp2_with (go_at_call 65; refine (need_yes _).mono ?_; rintro e w' ⟨rfl, hw⟩; obtain rfl := hw.symm)
      go_ret
      exact ⟨p', hI'h.out, rfl, hp1'h.out, hp2'h.out⟩
    · rw [if_neg hnl]
      have C'h := Lib.hid C
      clear C
      clear hlt
      go_enter Tryd.func62, Tryd.ntmps62
      go_wp2_with fail
      refine C'h.out.mono ?_
      rintro e w2 ⟨p', hI, rfl, hp1, hp2⟩
      have hI'h := Lib.hid hI
      have hp1'h := Lib.hid hp1
      have hp2'h := Lib.hid hp2
      clear hI hp1 hp2
      have hnz : ¬ (n : Int) ≤ (limit : Int) := by omega
      go_wp2_with (go_at_call 65; refine (need_no _).mono ?_; rintro e w' ⟨rfl, hw⟩; obtain rfl := hw.symm)
      exact ⟨rfl, p', hI'h.out, rfl⟩

/-! ### A call -/
def readW : Nat → List Nat → Option (List Nat × List Nat)
  | 0, l => some ([], l)
  | k + 1, l => match readN l with
    | none => none
    | some (n, l') => match readW k l' with
      | none => none
      | some (ns, l'') => some (n :: ns, l'')
def calOf (o : Nat) (ws : List Nat) : Cal := ⟨(o : Int), ws.getD 0 0, ws.getD 1 0, ws.getD 2 0⟩
def callR (l : List Nat) : Option (Cal × List Nat) := match mostR 7 l with
  | none => none
  | some (o, l1) => if o = 0 then none else match readW (takesI (o : Int)).toNat l1 with
    | none => none
    | some (ws, l2) => some (calOf o ws, l2)
def CallP (R : Option (Cal × List Nat)) (bn : Nat) (e : Ending) (p' : Nat) : Prop := match R with
  | some (c, rest) => e = .returned (.agg (calA c)) ∧ p' + rest.length = bn ∧ p' ≤ bn
  | none => e = Bad
/-- What is left of reading a call's words. -/
def wordsLeft (o : Nat) (ws : List Nat) (k : Nat) (l : List Nat) : Option (Cal × List Nat) := match readW k l with
  | none => none
  | some (ns, l2) => some (calOf o (ws ++ ns), l2)
theorem wordsLeft_done (o : Nat) (ws l : List Nat) : wordsLeft o ws 0 l = some (calOf o ws, l) := by simp [wordsLeft, readW]
theorem wordsLeft_none {o : Nat} {ws l : List Nat} {k : Nat} (h : readN l = none) : wordsLeft o ws (k + 1) l = none := by simp [wordsLeft, readW, h]
theorem wordsLeft_next {o n : Nat} {ws l l' : List Nat} {k : Nat} (h : readN l = some (n, l')) : wordsLeft o ws (k + 1) l = wordsLeft o (ws ++ [n]) k l' := by
  unfold wordsLeft
  rw [readW, h]
  simp only
  cases readW k l' with
  | none => rfl
  | some x => simp
theorem mostR_le {limit : Nat} {l : List Nat} {n : Nat} {r : List Nat} (h : mostR limit l = some (n, r)) : n ≤ limit ∧ readN l = some (n, r) := by
  unfold mostR at h
  split at h
  · split at h
    · cases h; exact ⟨by assumption, by assumption⟩
    · cases h
  · cases h
theorem drop_of {l r : List Nat} {p p' bn : Nat} (hl : bn = l.length) (hr : ∃ k, r = (l.drop p).drop k) (h : p' + r.length = bn) (hp : p' ≤ bn) : l.drop p' = r := by
  obtain ⟨k, hk⟩ := hr
  rw [List.drop_drop] at hk
  have h1 := congrArg List.length hk
  rw [List.length_drop] at h1
  by_cases h2 : p + k ≤ l.length
  · rw [hk]; congr 1; omega
  · have h3 : r = [] := by rw [hk]; exact List.drop_eq_nil_of_le (by omega)
    rw [h3] at h ⊢
    simp at h
    exact List.drop_eq_nil_of_le (by omega)
theorem calOf_put {o n : Nat} {ws : List Nat} (h : ws.length < 3) : (calA (calOf o ws)).setIfInBounds (ws.length + 1) (.int .u64 (n : Int)) = calA (calOf o (ws ++ [n])) := by
  match ws, h with
  | [], _ => rfl
  | [a], _ => rfl
  | [a, b], _ => rfl
theorem ptrs_at {B i : Nat} (h : i < 3) : (#[.pointer (some ⟨B, 1, none⟩), .pointer (some ⟨B, 2, none⟩), .pointer (some ⟨B, 3, none⟩)] : Array Value)[i]? = some (.pointer (some ⟨B, i + 1, none⟩)) := by
  rcases (show i = 0 ∨ i = 1 ∨ i = 2 by omega) with rfl | rfl | rfl <;> rfl
theorem calA_at {c : Cal} {i : Nat} (h : i < 3) : ∃ u, (calA c)[i + 1]? = some u := by
  rcases (show i = 0 ∨ i = 1 ∨ i = 2 by omega) with rfl | rfl | rfl <;> exact ⟨_, rfl⟩
set_option maxHeartbeats 2000000 in
theorem call_reads (rb : Nat) (v0 v1 v2 v3 v4 : Value) (bp : Option Addr) (bn bc p : Nat) (bytes : List Nat) (w : World) (hT : Tks w) (h0 : rb ≠ 0) (h : RdI w rb v0 v1 v2 v3 v4 bp bn bc bytes p w) (hby : ∀ b ∈ bytes, b < 256) (hp : p ≤ bn) :
    Calls Tryd.prog 64 #[.pointer (some ⟨rb, 0, none⟩)] w fun e w' => (∃ p', RdI w rb v0 v1 v2 v3 v4 bp bn bc bytes p' w' ∧ CallP (callR (bytes.drop p)) bn e p') := by
  have hbl : bn = bytes.length := by have := h.sl.1; rw [u8s_length] at this; exact this
  have hrb := lt_of_heap h.blk
  have hB1 : Below w.heap.size w (w.alloc (.cells #[.int .i64 0, .int .u64 0, .int .u64 0, .int .u64 0] 57)) := (Below.refl _ _).alloc (Nat.le_refl _) _
  have hI1 := h.wide hB1
  have hb2 : (w.alloc (.cells #[.int .i64 0, .int .u64 0, .int .u64 0, .int .u64 0] 57)).heap[w.heap.size]? = some (.cells #[.int .i64 0, .int .u64 0, .int .u64 0, .int .u64 0] 57) := World.alloc_heap_new _ _
  have C := most_reads rb v0 v1 v2 v3 v4 bp bn bc p 7 bytes _ hI1.self hby hp (by omega)
  obtain ⟨R, hR⟩ : ∃ R, R = callR (bytes.drop p) := ⟨_, rfl⟩
  rw [← hR]
  unfold callR at hR
  have hml := fun o l1 => mostR_le (limit := 7) (l := bytes.drop p) (n := o) (r := l1)
  cases hm : mostR 7 (bytes.drop p) with
  | none =>
    rw [hm] at C hR
    simp only [MostP] at C hR
    subst hR
    have C'h := Lib.hid C
    have hI1'h := Lib.hid hI1
    clear C hI1
    clear hml hb2 hB1
    go_enter Tryd.func64, Tryd.ntmps64
    go_wp2_with fail
    refine C'h.out.mono ?_
    rintro e w2 ⟨p', hI, rfl⟩
    exact ⟨rfl, p', hI1'h.out.then hI, rfl⟩
  | some x =>
    obtain ⟨o, l1⟩ := x
    rw [hm] at C hR
    obtain ⟨ho7, hrd⟩ := hml o l1 hm
    simp only [MostP] at C hR
    clear hml
    have hl1 := readN_drop hrd
    have C'h := Lib.hid C
    have hI1'h := Lib.hid hI1
    have hb2'h := Lib.hid hb2
    have hR'h := Lib.hid hR
    have hl1'h := Lib.hid hl1
    have hby'h := Lib.hid hby
    have hbl'h := Lib.hid hbl
    have hrd'h := Lib.hid hrd
    have hm'h := Lib.hid hm
    have h'h := Lib.hid h
    have hT'h := Lib.hid hT
    clear C hI1 hb2 hR hl1 hby hbl hrd hm h hT
    go_enter Tryd.func64, Tryd.ntmps64
    go_wp2_with fail
    refine C'h.out.mono ?_
    rintro e w2 ⟨p2, hI2, rfl, hp1, hp2⟩
    have hd2 := drop_of hbl'h.out hl1'h.out hp1 hp2
    have hb22 := hI2.other hb2'h.out (by omega)
    have hIw := hI1'h.out.then hI2
    have hT2 : Tks w2 := fun i hi => cell_of_heap ((hIw.by'.block 0 (by have := hT'h.out.lt; omega) (fun e => h0 (by injection e with e; exact e.symm)))) (hT'h.out i hi)
    clear hI2
    have hp1'h := Lib.hid hp1
    have hp2'h := Lib.hid hp2
    have hd2'h := Lib.hid hd2
    have hb22'h := Lib.hid hb22
    have hIw'h := Lib.hid hIw
    have hT2'h := Lib.hid hT2
    clear hp1 hp2 hd2 hb22 hIw hT2
    clear C'h
    rcases Nat.eq_zero_or_pos o with ho0 | ho0
    · have hRn : R = none := by rw [hR'h.out, if_pos ho0]
      have hoz1 : decide ((1 : Int) ≤ (o : Int)) = false := decide_eq_false (by omega)
      have hoz2 : decide (1 ≤ o) = false := decide_eq_false (by omega)
      have hoz3 : decide (0 < o) = false := decide_eq_false (by omega)
      have hb3 := (Below.refl w2.heap.size w2).alloc (Nat.le_refl _) (.cells #[.int .i64 (o : Int), .int .u64 0, .int .u64 0, .int .u64 0] 57)
      have hI3 := hIw'h.out.wide hb3
      have hRn'h := Lib.hid hRn
      have hI3'h := Lib.hid hI3
      have ho0'h := Lib.hid ho0
      clear hRn hI3 ho0
      clear hb3
      go_wp2_with (go_at_call 65; refine (need_no _).mono ?_; rintro e w' ⟨rfl, hw⟩; obtain rfl := hw.symm)
      refine ⟨rfl, p2, hI3'h.out, ?_⟩
      rw [hRn'h.out]
      rfl
    · have hRy : R = wordsLeft o [] (takesI (o : Int)).toNat l1 := by
        rw [hR'h.out, if_neg (by omega)]
        unfold wordsLeft
        cases readW (takesI (o : Int)).toNat l1 <;> rfl
      have hto := takesI_range (o : Int)
      have hT5 : takesI (o : Int) = tkL.getD o 0 := by unfold takesI; rw [if_neg (by omega), Int.toNat_natCast]
      have htn : 0 ≤ takesI (o : Int) := by
        rw [hT5]
        rcases (show o = 1 ∨ o = 2 ∨ o = 3 ∨ o = 4 ∨ o = 5 ∨ o = 6 ∨ o = 7 by omega) with rfl | rfl | rfl | rfl | rfl | rfl | rfl <;> decide
      obtain ⟨t, ht⟩ : ∃ t : Nat, takesI (o : Int) = (t : Int) := ⟨(takesI (o : Int)).toNat, by omega⟩
      rw [ht, Int.toNat_natCast] at hRy
      have htc : tkL.getD o 0 = (t : Int) := by rw [← hT5, ht]
      have ht3 : t ≤ 3 := by omega
      have hoz : (o : Int) ≥ 1 := by omega
      have hb3 := (Below.refl w2.heap.size w2).alloc (Nat.le_refl _) (.cells #[.int .i64 (o : Int), .int .u64 0, .int .u64 0, .int .u64 0] 57)
      have hI3 := hIw'h.out.wide hb3
      have hb23 := heap_below hb3 hb22'h.out (lt_of_heap hb22'h.out)
      have hb33 : (w2.alloc (.cells #[.int .i64 (o : Int), .int .u64 0, .int .u64 0, .int .u64 0] 57)).heap[w2.heap.size]? = _ := World.alloc_heap_new _ _
      have hT3 := hT2'h.out.next hb3
      have hz2 := lt_of_heap hb22'h.out
      clear hb3 hT5 htn hto ht
      have hRy'h := Lib.hid hRy
      have hI3'h := Lib.hid hI3
      have hb23'h := Lib.hid hb23
      have hb33'h := Lib.hid hb33
      have hT3'h := Lib.hid hT3
      have htc'h := Lib.hid htc
      clear hRy hI3 hb23 hb33 hT3 htc
      clear hIw'h hT2'h hb22'h hR'h
      go_wp2_with (go_at_call 65; refine (need_yes _).mono ?_; rintro e w' ⟨rfl, hw⟩; obtain rfl := hw.symm)
      refine (words_any w2.heap.size 0 _).mono ?_
      rintro e w4 ⟨rfl, hB4⟩
      have hI4 := hI3'h.out.wide hB4
      have hb24 := heap_below hB4 hb23'h.out (lt_of_heap hb23'h.out)
      have hb34 := heap_below hB4 hb33'h.out (lt_of_heap hb33'h.out)
      have hT4 := hT3'h.out.next hB4
      have hz4 := lt_of_heap hb34
      have hb5 := (Below.refl w4.heap.size w4).alloc (Nat.le_refl _) (.cells #[.pointer (some ⟨w2.heap.size, 1, none⟩), .pointer (some ⟨w2.heap.size, 2, none⟩), .pointer (some ⟨w2.heap.size, 3, none⟩)] 93)
      have hI5 := hI4.wide hb5
      have hb25 := heap_below hb5 hb24 (lt_of_heap hb24)
      have hb35 := heap_below hb5 hb34 (lt_of_heap hb34)
      have hb45 : (w4.alloc (.cells #[.pointer (some ⟨w2.heap.size, 1, none⟩), .pointer (some ⟨w2.heap.size, 2, none⟩), .pointer (some ⟨w2.heap.size, 3, none⟩)] 93)).heap[w4.heap.size]? = _ := World.alloc_heap_new _ _
      have tc := (hT4.next hb5) o (by omega)
      rw [htc'h.out] at tc
      have e0 := blk_cell (i := 0) hb35 rfl
      have i3 : (0 : Int) ≤ (o : Int) := by omega
      have i4 : (o : Int) < 8 := by omega
      have i5 : (t : Int) ≤ 3 := by omega
      have i6 : ¬ ((t : Int) < 0) := by omega
      have i7 : ¬ ((3 : Int) < (t : Int)) := by omega
      clear hI4 hb24 hb34 hT4 hb5 hB4
      have hI5'h := Lib.hid hI5
      have hb25'h := Lib.hid hb25
      have hb35'h := Lib.hid hb35
      have hb45'h := Lib.hid hb45
      clear hI5 hb25 hb35 hb45
      clear hI3'h hb23'h hb33'h hT3'h
      go_wp2
      obtain ⟨B3, hB3⟩ : ∃ B3, B3 = w2.heap.size := ⟨_, rfl⟩
      obtain ⟨B4, hB4⟩ : ∃ B4, B4 = w4.heap.size := ⟨_, rfl⟩
      have hI5 := hI5'h.out
      have hb25 := hb25'h.out
      have hb35 := hb35'h.out
      have hb45 := hb45'h.out
      rw [← hB4] at hb45
      rw [← hB3] at hb35 hb45 hb25 hI5
      rw [← hB3, ← hB4]
      generalize w4.alloc _ = W5 at hI5 hb25 hb35 hb45 ⊢
      have hB3w : w.heap.size < B3 := by omega
      have hB4w : B3 < B4 := by omega
      have hb35' : W5.heap[B3]? = some (.cells (calA (calOf o [])) 57) := hb35
      clear hI5'h hb25'h hb35'h hb45'h hb35 tc e0 hz2 hz4 hB3 hB4 hoz i3 i4 i6 i7
      have hI5'h := Lib.hid hI5
      have hb25'h := Lib.hid hb25
      have hb35''h := Lib.hid hb35'
      have hb45'h := Lib.hid hb45
      clear hI5 hb25 hb35' hb45
      go_loopg [21] t (fun q ix wr => ∃ (i : Nat) (ws : List Nat) (x : Nat), i + q = t ∧ ix = .int .i64 (i : Int) ∧ ws.length = i ∧ x ≤ bn ∧ RdI w rb v0 v1 v2 v3 v4 bp bn bc bytes x wr ∧ Hid (R = wordsLeft o ws (t - i) (bytes.drop x)) ∧
        wr.heap[w.heap.size]? = some (.cells #[.int .i64 0, .int .u64 0, .int .u64 0, .int .u64 0] 57) ∧ wr.heap[B3]? = some (.cells (calA (calOf o ws)) 57) ∧
        wr.heap[B4]? = some (.cells #[.pointer (some ⟨B3, 1, none⟩), .pointer (some ⟨B3, 2, none⟩), .pointer (some ⟨B3, 3, none⟩)] 93))
      case atStart => exact ⟨0, [], p2, by omega, rfl, rfl, hp2'h.out, hI5'h.out, by show R = _; rw [hd2'h.out, hRy'h.out]; rfl, hb25'h.out, hb35''h.out, hb45'h.out⟩
      case round =>
        obtain ⟨i, ws, x, hq, rfl, hws, hx, hI, hE, y2, y3, y4⟩ := hrel
        obtain ⟨go, rfl⟩ : ∃ go : Nat, go = gk := ⟨_, rfl⟩
        by_cases hlt : i < t
        · have u1 := blk_cell y4 (ptrs_at (show i < 3 by omega))
          have i1 : (i : Int) < (t : Int) := by omega
          have i2 : (0 : Int) ≤ (i : Int) := by omega
          have N := number_reads rb v0 v1 v2 v3 v4 bp bn bc x bytes wr hI.self hby'h.out hx
          have hne2 : w.heap.size ≠ rb := by omega
          have hne3 : B3 ≠ rb := by omega
          have hne4 : B4 ≠ rb := by omega
          cases hn : readN (bytes.drop x) with
          | none =>
            rw [hn] at N
            simp only [NumP] at N
            have hRn : R = none := by rw [hE.out, show t - i = t - i - 1 + 1 by omega, wordsLeft_none hn]
            have N'h := Lib.hid N
            have hI'h := Lib.hid hI
            have hRn'h := Lib.hid hRn
            clear N hI hRn
            clear hE y2 y3 y4
            go_wp2_with fail
            refine N'h.out.mono ?_
            rintro e w6 ⟨p6, hI6, rfl⟩
            refine ⟨rfl, p6, hI'h.out.then hI6, ?_⟩
            rw [hRn'h.out]
            rfl
          | some z =>
            obtain ⟨n, l6⟩ := z
            rw [hn] at N
            simp only [NumP] at N
            obtain ⟨cv, hcv⟩ := calA_at (c := calOf o ws) (show i < 3 by omega)
            have N'h := Lib.hid N
            have hI'h := Lib.hid hI
            have hn'h := Lib.hid hn
            have hE'h := Lib.hid hE
            have hq'h := Lib.hid hq
            have hws'h := Lib.hid hws
            clear N hI hn hE hq hws
            go_wp2_with fail
            refine N'h.out.mono ?_
            rintro e w6 ⟨p6, hI6, rfl, hp61, hp62⟩
            have hd6 := drop_of hbl'h.out (readN_drop hn'h.out) hp61 hp62
            have z2 := hI6.other y2 hne2
            have z3 := hI6.other y3 hne3
            have z4 := hI6.other y4 hne4
            have hI7 := (hI'h.out.then hI6).aside h'h.out (b := B3) (by omega) (i + 1) (.int .u64 (n : Int))
            have s2 := (Below.heap_setCell w6 ⟨B3, i + 1, none⟩ (.int .u64 (n : Int)) w.heap.size (by show w.heap.size ≠ B3; omega)).trans z2
            have s3 := blk_set (i := i + 1) (.int .u64 (n : Int)) z3
            have s4 := (Below.heap_setCell w6 ⟨B3, i + 1, none⟩ (.int .u64 (n : Int)) B4 (by show B4 ≠ B3; omega)).trans z4
            have a1 := blk_cell z3 hcv
            have a2 := blk_free (i + 1) z3
            rw [← hws'h.out, calOf_put (by have := hws'h.out; omega)] at s3
            rw [hws'h.out] at s3
            have hE7 : R = wordsLeft o (ws ++ [n]) (t - (i + 1)) (bytes.drop p6) := by
              rw [hE'h.out.out, show t - i = t - (i + 1) + 1 by omega, wordsLeft_next hn'h.out, hd6]
            clear hI6 z2 z3 z4 u1 y2 y3 y4 hd6 hp61 hcv
            have hI7'h := Lib.hid hI7
            have s2'h := Lib.hid s2
            have s3'h := Lib.hid s3
            have s4'h := Lib.hid s4
            have hE7'h := Lib.hid hE7
            clear hI7 s2 s3 s4 hE7
            go_wp2
            go_roundg (go - 1)
            case measure => have := hq'h.out; omega
            case rel => exact ⟨i + 1, ws ++ [n], p6, by have := hq'h.out; omega, by go_num, by rw [List.length_append, hws'h.out]; rfl, hp62, hI7'h.out, hE7'h.out, s2'h.out, s3'h.out, s4'h.out⟩
        · have i1 : ¬ (i : Int) < (t : Int) := by omega
          have hRe : R = some (calOf o ws, bytes.drop x) := by rw [hE.out, show t - i = 0 by omega, wordsLeft_done]
          have hlen : x + (bytes.drop x).length = bn := by rw [List.length_drop]; have := hbl'h.out; omega
          obtain ⟨c, hc⟩ : ∃ c, c = calOf o ws := ⟨_, rfl⟩
          rw [← hc] at hRe y3
          clear hE hc
          have hI'h := Lib.hid hI
          have hRe'h := Lib.hid hRe
          have hlen'h := Lib.hid hlen
          have y2'h := Lib.hid y2
          have y3'h := Lib.hid y3
          clear hI hRe hlen y2 y3
          clear y4
          go_wp2_with (first
            | (guard_target = wpList _ _ _ (Oper.mk _ (.load _ (.tmp 3)) _ _ _ _ :: _) _ _; refine wpList_load_row rfl 57 (.tmp 3) rfl (B3) rfl 57 (calA c) (0, 0) _ y3'h.out Tryd.underlying57 rfl info_cal ?_)
            | (guard_target = wpList _ _ _ (Oper.mk _ (.store _ (.tmp 2) _) _ _ _ _ :: _) _ _; refine wpList_store_row rfl 57 (.tmp 2) _ rfl (w.heap.size) (calA c) rfl rfl 57 _ y2'h.out info_cal rfl (calA_one c) ?_))
          refine bodyPost_ret (results_cell_row rfl _ _ w.heap.size 57 (calA c) (0, 0) _ rfl (setRow_heap _ _ _ _ _ _ y2'h.out) Tryd.underlying57 rfl info_cal) rfl ?_
          refine ⟨x, hI'h.out.low h'h.out (below_setRow' (Below.refl _ _) (Nat.le_refl _) _), ?_⟩
          rw [hRe'h.out]
          exact ⟨rfl, hlen'h.out, hx⟩
end Go.Proofs.YtifofdciablljaaDoor
