/-
  slices.Insert at pairs: in place.
-/
import Derived.Test.YthfeiiibedmkiaaModelH
import Derived.Lib.Overlaps
import Derived.Laws.Externs
set_option linter.unusedSimpArgs false
set_option linter.unusedVariables false
set_option maxRecDepth 100000
namespace Go.Proofs.Ythfeiiibedmkiaa
open Go.RowKit

set_option maxHeartbeats 2000000 in
theorem insert_room (B : Nat) (sp : Option Addr) (n cap i : Nat) (ps : Ps) (k v vb : Nat) (w : World) (h : RowP w B sp n cap ps) (hv : w.heap[vb]? = some (.cells #[.int .u64 (k : Int), .int .u64 (v : Int)] 38 (0, 0))) (hne : ∀ a, sp = some a → a.block ≠ vb) (hn : n ≤ 4096) (hi : i < n) (hc : n + 1 ≤ cap) :
    Calls Try.prog 84 #[.slice sp n cap, .int .i64 i, .slice (some ⟨vb, 0, none⟩) 1 1] w fun e w' => e = .returned (.slice sp (n + 1) cap) ∧ RowP w' B sp (n + 1) cap (ps.take i ++ (k, v) :: ps.drop i) ∧ KeptR sp w w' := by
  have hlen := h.len
  have hlim := h.lim
  unfold maxLen at hlim
  obtain ⟨g, cur, rfl, hg, hh, hsz, ht⟩ : ∃ g cur, sp = some ⟨g, 0, none⟩ ∧ B ≤ g ∧ w.heap[g]? = some (.cells cur 38 (0, 0)) ∧ cap * 2 ≤ cur.size ∧ cur.toList.take (n * 2) = prs ps := by
    rcases h.row with ⟨_, h0⟩ | h
    · omega
    · exact h
  have hgv : vb ≠ g := fun e => hne _ rfl e.symm
  have hvs : SlK w 2 (some ⟨vb, 0, none⟩) 1 (prs [(k, v)]) := SlK.of_blk hv rfl (by decide)
  have hdl : (prs (ps.drop i)).length = (n - i) * 2 := by rw [prs_length, List.length_drop, ← hlen]
  have hcut : cur.toList.take (i * 2) = prs (ps.take i) := by
    rw [← prs_take, ← ht, List.take_take, Nat.min_eq_left (by omega)]
  have hsrc : ∀ q u, (prs (ps.drop i))[q]? = some u → w.drew.cell? ((⟨g, i * 2, none⟩ : Addr).add q) = some u := fun q u hu => by
    rw [add_lit']
    have e : (prs ps)[i * 2 + q]? = some u := by
      have : prs ps = prs (ps.take i) ++ prs (ps.drop i) := by rw [← prs_append, List.take_append_drop]
      rw [this, List.getElem?_append_right (by rw [prs_length, List.length_take]; omega), prs_length, List.length_take, show i * 2 + q - min i ps.length * 2 = q by omega]
      exact hu
    have := h.sl.cell e
    rw [Nat.zero_add] at this
    exact this
  have r1 := fun ty dc sc => run_copy_rowk w.drew 24 24 ty 38 2 g ((i + 1) * 2) (n + 1 - (i + 1)) dc ⟨g, i * 2, none⟩ (n + 1 - i) sc cur _ (prs (ps.drop i)) Try.underlying24 info_pair2 (show w.drew.heap[g]? = _ from hh) (by rw [hdl]; show (n - i) * 2 = min (n + 1 - i) (n + 1 - (i + 1)) * 2; rw [Nat.min_eq_right (by omega)]; omega) hsrc (by rw [hdl]; omega) (prs_one _)
  obtain ⟨C1, hC1⟩ : ∃ C1, C1 = (cur.toList.take ((i + 1) * 2) ++ prs (ps.drop i) ++ cur.toList.drop ((i + 1) * 2 + (prs (ps.drop i)).length)).toArray := ⟨_, rfl⟩
  rw [← hC1] at r1
  have hC1s : C1.size = cur.size := by
    rw [hC1]
    simp only [List.size_toArray, List.length_append, List.length_drop, Array.length_toList, List.length_take, hdl]
    omega
  have hC1t : C1.toList.take (i * 2) = prs (ps.take i) := by
    rw [hC1]
    show List.take (i * 2) (cur.toList.take ((i + 1) * 2) ++ prs (ps.drop i) ++ cur.toList.drop ((i + 1) * 2 + (prs (ps.drop i)).length)) = _
    rw [List.append_assoc, List.take_append_of_le_length (by rw [List.length_take, Array.length_toList]; omega), List.take_take, Nat.min_eq_left (by omega), hcut]
  have hC1d : C1.toList.drop (i * 2 + 2) = prs (ps.drop i) ++ cur.toList.drop ((i + 1) * 2 + (prs (ps.drop i)).length) := by
    rw [hC1]
    show List.drop (i * 2 + 2) (cur.toList.take ((i + 1) * 2) ++ prs (ps.drop i) ++ cur.toList.drop ((i + 1) * 2 + (prs (ps.drop i)).length)) = _
    rw [List.append_assoc]
    exact List.drop_left' (by rw [List.length_take, Array.length_toList]; omega)
  obtain ⟨W1, hW1⟩ : ∃ W1, W1 = w.drew.setRow g C1 := ⟨_, rfl⟩
  rw [← hW1] at r1
  have hg1 : W1.heap[g]? = some (.cells C1 38 (0, 0)) := by rw [hW1]; exact setRow_heap _ _ _ _ _ _ (show w.drew.heap[g]? = _ from hh)
  have hv1 : W1.heap[vb]? = some (.cells #[.int .u64 (k : Int), .int .u64 (v : Int)] 38 (0, 0)) := by rw [hW1]; exact (setRow_other _ _ _ _ hgv).trans (show w.drew.heap[vb]? = _ from hv)
  have hvs1 : SlK W1 2 (some ⟨vb, 0, none⟩) 1 (prs [(k, v)]) := SlK.of_blk hv1 rfl (by decide)
  have r2 := fun ty dc sc => run_copy_rowk W1 24 24 ty 38 2 g (i * 2) (n + 1 - i) dc ⟨vb, 0, none⟩ 1 sc C1 _ (prs [(k, v)]) Try.underlying24 info_pair2 hg1 (by rw [prs_length]; show 1 * 2 = min 1 (n + 1 - i) * 2; rw [Nat.min_eq_left (by omega)]) (fun q u hu => by rw [add_lit']; exact hvs1.cell hu) (by rw [prs_length, hC1s]; simp; omega) (prs_one _)
  obtain ⟨C2, hC2⟩ : ∃ C2, C2 = (C1.toList.take (i * 2) ++ prs [(k, v)] ++ C1.toList.drop (i * 2 + (prs [(k, v)]).length)).toArray := ⟨_, rfl⟩
  rw [← hC2] at r2
  rw [hC1t, show (prs [(k, v)]).length = 2 from rfl, hC1d] at hC2
  obtain ⟨W2, hW2⟩ : ∃ W2, W2 = W1.setRow g C2 := ⟨_, rfl⟩
  rw [← hW2] at r2
  have hg2 : W2.heap[g]? = some (.cells C2 38 (0, 0)) := by rw [hW2]; exact setRow_heap _ _ _ _ _ _ hg1
  have hR : RowP W2 B (some ⟨g, 0, none⟩) (n + 1) cap (ps.take i ++ (k, v) :: ps.drop i) := by
    refine ⟨by rw [hrow_ins]; omega, hc, h.lim, .inr ⟨_, C2, rfl, hg, hg2, ?_, ?_⟩⟩
    · rw [hC2]
      simp only [List.size_toArray, List.length_append, List.length_drop, Array.length_toList, prs_length, List.length_take, List.length_cons, List.length_nil]
      omega
    · rw [hC2]
      have e : ps.take i ++ [(k, v)] ++ ps.drop i = ps.take i ++ (k, v) :: ps.drop i := by simp
      show List.take ((n + 1) * 2) (prs (ps.take i) ++ prs [(k, v)] ++ (prs (ps.drop i) ++ cur.toList.drop ((i + 1) * 2 + (prs (ps.drop i)).length))) = _
      rw [← List.append_assoc, ← prs_append, ← prs_append, e]
      exact List.take_left' (by rw [prs_length, hrow_ins]; omega)
  have hK : KeptR (some ⟨g, 0, none⟩) w W2 := by
    rw [hW2, hW1]
    exact ⟨rfl, rfl, rfl, by simp, fun b _ hb => (setRow_other _ _ _ _ (fun e => hb (by rw [e]; rfl))).trans (setRow_other _ _ _ _ (fun e => hb (by rw [e]; rfl)))⟩
  have hov : ∀ lb cb, (callFunc 85 #[.slice (some ⟨vb, 0, none⟩) 1 1, .slice (some ⟨g, (i + 1) * 2, none⟩) lb cb]).run Try.prog w = .ok (.value (.bool false)) w := fun lb cb => by
    rw [run_callFunc_extern Try.func85 (by kernel_rfl) (by kernel_rfl) (by kernel_rfl) (e := Extern.SlicesOverlaps.overlaps #[24, 24] #[4]) (by kernel_rfl),
      Lib.run_overlaps_apart w 24 4 38 Try.underlying24 2 Try.sizeOf38 ⟨vb, 0, none⟩ ⟨g, (i + 1) * 2, none⟩ 1 1 lb cb hgv 38 38 2 cur.size (by simp [World.shape?, hv]) (by simp [World.shape?, hh]) (by omega) (blk_free 0 hv) (blk_free 2 hv)]
    rfl
  have q0 : (i : Int) < (n : Int) := by omega
  have q3 : ((i : Int) == (n : Int)) = false := by simp; omega
  have q4 : (n : Int) + 1 ≤ (cap : Int) := by omega
  have q5 : ¬ cap = i + 1 := by omega
  have q6 : ¬ cap = i := by omega
  have q7 : ¬ (cap : Int) < (n : Int) + 1 := by omega
  have hcl : (n : Int) ≤ 4096 := by omega
  have s1 : IntKind.i64.wrap ((i : Int) + 1) = (i : Int) + 1 := IntWalk.i64_in _ (by omega)
  have s2 : (0 : Int) ≤ (i : Int) + 1 := by omega
  have s3 : ((i : Int) + 1).toNat = i + 1 := by omega
  have s4 : (i : Int) + 1 ≤ (n : Int) + 1 := by omega
  have s5 : (0 : Int) ≤ (i : Int) := by omega
  have s6 : (i : Int) ≤ (n : Int) + 1 := by omega
  clear hC1 hC2 hW1 hW2 hsrc hdl hcut hC1s hC1t hC1d hsz ht
  have h'h := Lib.hid h
  have hv'h := Lib.hid hv
  have hh'h := Lib.hid hh
  have r1'h := Lib.hid r1
  have r2'h := Lib.hid r2
  have hR'h := Lib.hid hR
  have hK'h := Lib.hid hK
  have hg'h := Lib.hid hg
  have hg1'h := Lib.hid hg1
  have hg2'h := Lib.hid hg2
  have hv1'h := Lib.hid hv1
  have hvs'h := Lib.hid hvs
  have hvs1'h := Lib.hid hvs1
  have hlen'h := Lib.hid hlen
  have hne'h := Lib.hid hne
  have hgv'h := Lib.hid hgv
  clear h hv hh r1 r2 hR hK hg hg1 hg2 hv1 hvs hvs1 hlen hne hgv
  go_enter Try.func84, Try.ntmps84
  go_upto_region 15 with (simp only [hov])
  clear hov
  go_region_held3 (fun _ => True) (trivial) (refine step_copy_run' rfl _ _ 24 24 rfl _ _ (by simp [Act.eval, Act.put]; rfl) (by simp [Act.eval, Act.put]; rfl) (r1'h.out _ _ _) ?_)
  go_wp2_with (refine wpList_copy_run' _ rfl _ _ 24 24 rfl _ _ rfl rfl (r2'h.out _ _ _) ?_)
  go_ret
  exact ⟨rfl, hR'h.out, hK'h.out⟩
end Go.Proofs.Ythfeiiibedmkiaa
