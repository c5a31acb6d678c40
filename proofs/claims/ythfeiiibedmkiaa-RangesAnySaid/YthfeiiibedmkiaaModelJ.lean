/-
  Package model: put.
-/
import Derived.Test.YthfeiiibedmkiaaModelI
set_option linter.unusedSimpArgs false
set_option linter.unusedVariables false
set_option maxRecDepth 100000
namespace Go.Proofs.Ythfeiiibedmkiaa
open Go.RowKit

/-- A row's block is the one, or a new one. -/
def NewOr (sp sp' : Option Addr) (H : Nat) : Prop := sp' = sp ∨ ∀ a, sp' = some a → H ≤ a.block
theorem insert_any (B : Nat) (sp : Option Addr) (n cap i : Nat) (ps : Ps) (k v vb : Nat) (w : World) (h : RowP w B sp n cap ps) (hv : w.heap[vb]? = some (.cells #[.int .u64 (k : Int), .int .u64 (v : Int)] 38 (0, 0))) (hne : ∀ a, sp = some a → a.block ≠ vb) (hB : B ≤ w.heap.size) (hn : n ≤ 4096) (hi : i ≤ n) :
    Calls Try.prog 84 #[.slice sp n cap, .int .i64 i, .slice (some ⟨vb, 0, none⟩) 1 1] w fun e w' => ∃ sp' cap', e = .returned (.slice sp' (n + 1) cap') ∧ RowP w' B sp' (n + 1) cap' (ps.take i ++ (k, v) :: ps.drop i) ∧ KeptR sp w w' ∧ NewOr sp sp' w.heap.size := by
  have hvs : SlK w 2 (some ⟨vb, 0, none⟩) 1 (prs [(k, v)]) := SlK.of_blk hv rfl (by decide)
  by_cases h1 : i = n
  · subst h1
    refine (insert_end B sp i cap ps k v vb w h hvs hB hn).mono ?_
    rintro e w' ⟨sp', cap', he, hR, hK, hs⟩
    refine ⟨sp', cap', he, ?_, hK, hs.imp id fun e a ha => by rw [e] at ha; cases ha; exact Nat.le_refl _⟩
    rw [List.take_of_length_le (by rw [← h.len]; omega), List.drop_of_length_le (by rw [← h.len]; omega)]
    exact hR
  · by_cases h2 : cap < n + 1
    · refine (insert_mid B sp n cap i ps k v vb w h hvs hB hn (by omega) h2).mono ?_
      rintro e w' ⟨sp', cap', he, hR, hK, hs⟩
      exact ⟨sp', cap', he, hR, hK, hs.imp id fun e a ha => by rw [e] at ha; cases ha; exact Nat.le_refl _⟩
    · refine (insert_room B sp n cap i ps k v vb w h hv hne hn (by omega) (by omega)).mono ?_
      rintro e w' ⟨he, hR, hK⟩
      exact ⟨sp, cap, he, hR, hK, .inl rfl⟩
theorem prs_set (ps : Ps) (k v : Nat) (hk : k < ps.length) : (prs ps).set (k * 2 + 1) (.int .u64 (v : Int)) = prs (ps.set k ((nthP ps k).1, v)) := by
  induction ps generalizing k with
  | nil => simp at hk
  | cons p l ih =>
    cases k with
    | zero => rfl
    | succ k =>
      have := ih k (by simpa using hk)
      rw [List.set_cons_succ, nthP_cons_succ]
      unfold prs at this ⊢
      rw [List.flatMap_cons, List.flatMap_cons, ← this, show (k + 1) * 2 + 1 = (k * 2 + 1) + 2 by omega]
      rfl
theorem RowP.put {W : World} {B g n cap : Nat} {ps : Ps} (h : RowP W B (some ⟨g, 0, none⟩) n cap ps) {k : Nat} (hk : k < n) (v : Nat) : RowP (W.setCell ⟨g, k * 2 + 1, none⟩ (.int .u64 (v : Int))) B (some ⟨g, 0, none⟩) n cap (ps.set k ((nthP ps k).1, v)) := by
  refine ⟨by rw [List.length_set]; exact h.len, h.le, h.lim, ?_⟩
  rcases h.row with ⟨e, _⟩ | ⟨g', cur, e, hb, hg, hc, ht⟩
  · cases e
  · cases e
    refine .inr ⟨g, _, rfl, hb, blk_set _ hg, by simpa using hc, ?_⟩
    rw [Array.toList_setIfInBounds, List.take_set, ht]
    exact prs_set ps k v (by rw [← h.len]; exact hk)
set_option maxHeartbeats 1000000 in
theorem mput_any (B tb : Nat) (sp : Option Addr) (n cap : Nat) (ps : Ps) (key val : Nat) (w : World) (h : Tab w B tb sp n cap ps) (hup : upB ps = true) (hn : n ≤ 4096) :
    Calls Try.prog 83 #[.pointer (some ⟨tb, 0, none⟩), .int .u64 (key : Int), .int .u64 (val : Int)] w fun e w' => ∃ sp' n' cap', e = .returned (.tuple #[]) ∧ Tab w' B tb sp' n' cap' (insP ps key val) ∧ KeptT tb sp w w' ∧ NewOr sp sp' w.heap.size := by
  have A := mat_any tb sp n cap ps key w h.r hup hn
  have hp := hasP_pos ps key
  have hip := insP_pos ps key val
  have hle := posP_le ps key
  have hlen := h.row.len
  have hap := h.apart
  cases hh : hasP ps key with
  | true =>
    rw [hh] at A hp hip
    rw [if_pos rfl] at hip
    have hk : posP ps key < ps.length ∧ (nthP ps (posP ps key)).1 = key := by simpa using hp.symm
    obtain ⟨g, rfl⟩ : ∃ g, sp = some ⟨g, 0, none⟩ := by
      rcases h.row.row with ⟨_, h0⟩ | ⟨g, cur, e, _⟩
      · have := h.row.le; omega
      · exact ⟨g, e⟩
    have hset : ps.set (posP ps key) ((nthP ps (posP ps key)).1, val) = insP ps key val := by rw [hk.2, hip]
    have hkn := hk.1
    rw [← hlen] at hkn
    clear hp hip hk hle
    generalize posP ps key = k at *
    have i1 : (k : Int) < (n : Int) := by omega
    have i2 : (0 : Int) ≤ (k : Int) := by omega
    have h'h := Lib.hid h
    have hup'h := Lib.hid hup
    have A'h := Lib.hid A
    have hset'h := Lib.hid hset
    have hlen'h := Lib.hid hlen
    have hap'h := Lib.hid hap
    have hh'h := Lib.hid hh
    clear h hup A hset hlen hap hh
    go_enter Try.func83, Try.ntmps83
    go_upto_region 2 with (go_at_call 70; refine A'h.out.mono ?_; rintro e w2 ⟨rfl, hb2⟩)
    have hT := h'h.out.below hb2
    have c := hT.cell
    obtain ⟨c1, c2⟩ := prs_cells hT.row.sl (k := k) (by have := hlen'h.out; omega)
    rw [Nat.zero_add] at c2
    have hf : w2.frozen? ⟨g, k * 2 + 1, none⟩ = false := by
      rcases hT.row.row with ⟨e, _⟩ | ⟨g', cur, e, _, hg, _⟩
      · cases e
      · cases e; exact blk_free _ hg
    clear c1
    have hT'h := Lib.hid hT
    have hb2'h := Lib.hid hb2
    clear hT hb2
    go_wp2
    refine bodyPost_ret (results_none rfl _ _ _) rfl ?_
    refine ⟨_, n, cap, rfl, ⟨?_, h'h.out.low, ?_⟩, ?_, .inl rfl⟩
    · exact (Below.heap_setCell w2 ⟨g, k * 2 + 1, none⟩ _ tb (hap'h.out ⟨g, 0, none⟩ rfl).symm).trans hT'h.out.tbl
    · have := hT'h.out.row.put hkn val
      rwa [hset'h.out] at this
    · exact (KeptT.of_below hb2'h.out).trans (Kept.setCell _ _ _ _ (fun hs => hs.2 rfl))
  | false =>
    rw [hh] at A hip
    rw [if_neg (by decide)] at hip
    clear hp
    rw [← hlen] at hle
    obtain ⟨k, hk⟩ : ∃ k, k = posP ps key := ⟨_, rfl⟩
    rw [← hk] at A hip hle
    have i1 : (k : Int) ≤ (n : Int) := by omega
    have i2 : (0 : Int) ≤ (k : Int) := by omega
    have h'h := Lib.hid h
    have hup'h := Lib.hid hup
    have A'h := Lib.hid A
    have hip'h := Lib.hid hip
    have hlen'h := Lib.hid hlen
    have hap'h := Lib.hid hap
    have hh'h := Lib.hid hh
    have hk'h := Lib.hid hk
    clear h hup A hip hlen hap hh hk
    go_enter Try.func83, Try.ntmps83
    go_upto_region 3 with (go_at_call 70; refine A'h.out.mono ?_; rintro e w2 ⟨rfl, hb2⟩)
    have hT := h'h.out.below hb2
    have c := hT.cell
    have hb3 : Below w2.heap.size w2 (w2.alloc (.cells #[.int .u64 (key : Int), .int .u64 (val : Int)] 38)) := (Below.refl _ _).alloc (Nat.le_refl _) _
    have hT3 := hT.below hb3
    have hv3 := World.alloc_heap_new w2 (.cells #[.int .u64 (key : Int), .int .u64 (val : Int)] 38)
    have hrl : ∀ a, sp = some a → a.block < w2.heap.size := by
      intro a e
      rcases hT.row.row with ⟨e', _⟩ | ⟨g', cur, e', _, hg, _⟩
      · rw [e'] at e; cases e
      · rw [e'] at e; cases e; exact lt_of_heap hg
    have IN := insert_any B sp n cap k ps key val w2.heap.size _ hT3.row hv3 (fun a e => by have := hrl a e; omega) (by have := hT.low; have := lt_of_heap hT.tbl; simp; omega) hn hle
    have htl := lt_of_heap hT.tbl
    have hT'h := Lib.hid hT
    have hb2'h := Lib.hid hb2
    have hb3'h := Lib.hid hb3
    have hT3'h := Lib.hid hT3
    have hv3'h := Lib.hid hv3
    have hrl'h := Lib.hid hrl
    have IN'h := Lib.hid IN
    have htl'h := Lib.hid htl
    clear hT hb2 hb3 hT3 hv3 hrl IN htl
    go_wp2_with (go_at_call 84; refine IN'h.out.mono ?_; rintro e w4 ⟨sp', cap', rfl, hR, hK, hs⟩; have c4 : w4.cell? ⟨tb, 0, none⟩ = some (.slice sp n cap) := hK.cell (fun e => hap'h.out ⟨tb, 0, none⟩ (by cases sp with | none => cases e | some a => cases a; simp at e; subst e; exact absurd rfl (hap'h.out _ rfl)) rfl) hT3'h.out.cell; have f4 : w4.frozen? ⟨tb, 0, none⟩ = false := (hK.frozen (fun e => hap'h.out ⟨tb, 0, none⟩ (by cases sp with | none => cases e | some a => cases a; simp at e; subst e; exact absurd rfl (hap'h.out _ rfl)) rfl) hT3'h.out.cell).trans (blk_free 0 hT3'h.out.tbl); have hR'h := Lib.hid hR; have hK'h := Lib.hid hK; have hs'h := Lib.hid hs; clear hR hK hs)
    go_end0
    have hne : sp.map (·.block) ≠ some tb := fun e => by
      cases sp with
      | none => cases e
      | some a => exact hap'h.out a rfl (by simpa using e)
    have hszs := hb3'h.out.size
    have hsz2 := hb2'h.out.size
    have hg4 := (hK'h.out.block tb (lt_of_heap hT3'h.out.tbl) hne).trans hT3'h.out.tbl
    refine ⟨sp', n + 1, cap', rfl, ⟨blk_set (i := 0) _ hg4, h'h.out.low, ?_⟩, ?_, ?_⟩
    · rw [hip'h.out]
      refine hR'h.out.keep fun g' e _ => Below.heap_setCell _ _ _ _ ?_
      intro e2
      simp only at e2
      rcases hs'h.out with e1 | e1
      · exact hne (by rw [← e1, e, e2]; rfl)
      · have := e1 _ e
        have := htl'h.out
        simp only at *
        omega
    · refine (KeptT.of_below (below_next hb2'h.out hb3'h.out)).trans (Kept.trans (hK'h.out.mono fun b hb => hb.2) (Kept.setCell _ _ _ _ fun hs => hs.1 rfl))
    · exact hs'h.out.imp id fun e1 a ha => by have := e1 a ha; omega
end Go.Proofs.Ythfeiiibedmkiaa
