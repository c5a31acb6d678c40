/-
  Package hash: the functions that count, each by its contract.
-/
import Derived.Test.YtpfpgjfcomkdgaaHash
import Derived.Test.YtpfpgjfcomkdgaaOnce
import Derived.Test.YtpfpgjfcomkdgaaCommon
import Derived.Test.YtpfpgjfcomkdgaaRound
import Derived.Sort.LoopGhostIn
import Derived.Deep.OwnRows
import Derived.Laws.CopyOwn
set_option linter.unusedSimpArgs false
set_option linter.unusedVariables false
namespace Go.Proofs.Ytpfpgjfcomkdgaa
open Go.RowKit Go.Maps

def hashesOf (seed : Nat) (keys : List Nat) : List Nat := (onceL keys).map (hOf seed)
theorem hashes_any (v : Value) (seed : Nat) (w : World) : Calls Try.prog 53 #[.agg #[v, .int .u64 seed]] w fun e w' =>
    e = .returned (.func (.func 64) #[] #[.pointer (some ⟨w.heap.size, 0, none⟩)]) ∧ w' = w.alloc (.cells #[v, .int .u64 seed] 66) := by
  go_enter Try.func53, Try.ntmps53
  go_wp2
  go_ret
  exact ⟨rfl, rfl⟩

theorem hashesOf_at {seed i k : Nat} {keys : List Nat} (h : (onceL keys)[i]? = some k) (hi : i < (hashesOf seed keys).length) : (hashesOf seed keys)[i] = hOf seed k := by
  have : (hashesOf seed keys)[i]? = some (hOf seed k) := by unfold hashesOf; rw [List.getElem?_map, h]; rfl
  exact (List.getElem?_eq_some_iff.1 this).2
set_option maxHeartbeats 1000000 in
theorem hashes_it (seed b n cap : Nat) (sp : Option Addr) (keys : List Nat) (w : World) (hs : seed < 2 ^ 64) (hk : W64 keys)
    (hb : w.heap[b]? = some (.cells #[.slice sp n cap, .int .u64 seed] 66 (0, 0))) (hsl : Sl w sp n (u64s keys)) :
    SeqIt Fence.wide 0 Try.prog 64 #[.pointer (some ⟨b, 0, none⟩)] (fun x : Nat => #[.int .u64 x]) (hashesOf seed keys) (fun _ => False)
      (fun c => c = b ∨ sp.map (·.block) = some c) w := by
  intro l J Jx W hJ hJx hW hY h0
  have hbW := heap_below hW hb (lt_of_heap hb)
  have hsW := hsl.below hW
  have hlen : n = keys.length := by have := hsl.1; simpa [u64s] using this
  have hmax := hsl.2.1
  clear hb hsl hW
  have hbl := lt_of_heap hbW
  have hspl : ∀ c, sp.map (·.block) = some c → 0 < n → c < W.heap.size := by
    intro c hc h0
    obtain ⟨kb, off, rfl, hcs⟩ := hsW.some' h0
    have := lt_of_cell (hcs 0 _ (u64s_at (by omega)))
    simp at hc; subst hc; exact this
  have hmm := @run_makeMap Try.prog
  have c0 : (W.alloc (.map #[] 0)).cell? ⟨b, 0, none⟩ = some (.slice sp n cap) := keep_alloc _ _ _ _ (blk_cell hbW rfl)
  refine callsIn_of_wp Try.func64 rfl trivial ?_ rfl
  simp only [Try.ntmps64, List.size_toArray, List.length_cons, List.length_nil, Nat.reduceAdd, Nat.reduceSub, Array.replicate_succ, Array.replicate_zero, List.push_toArray, List.append_toArray, List.nil_append, List.cons_append]
  gi_wp2
  obtain ⟨W0, hW0⟩ : ∃ W0, W0 = W.alloc (.map #[] 0) := ⟨_, rfl⟩
  have hM0 := MapI.made W
  have hJ0 := hJ 0 _ _ _ _ h0 (Foreign.alloc (S := fun _ => False) W (.map #[] 0))
  have hb0 : (W.alloc (.map #[] 0)).heap[b]? = some (.cells #[.slice sp n cap, .int .u64 seed] 66 (0, 0)) := (Below.heap_alloc _ _ _ hbl).trans hbW
  have hs0 : Sl (W.alloc (.map #[] 0)) sp n (u64s keys) := hsW.below ((Below.refl _ _).alloc (Nat.le_refl _) _)
  rw [← hW0] at *
  clear hW0 h0 c0 hmm hsW
  gi_loopg [10] n (fun q i wr => ∃ (j : Nat) (S : Nat → Prop), j + q = n ∧ i = .int .i64 j ∧ S W.heap.size ∧ ¬ S b ∧ (0 < n → ∀ c, sp.map (·.block) = some c → ¬ S c) ∧ J (onceL (keys.take j)).length S wr ∧
    MapI wr W.heap.size (logOf (keys.take j)) ∧ wr.heap[b]? = some (.cells #[.slice sp n cap, .int .u64 seed] 66 (0, 0)) ∧ Sl wr sp n (u64s keys))
  case atStart => exact ⟨0, _, by omega, rfl, .inr rfl, by intro h; rcases h with h | h; exact h; omega, by
      intro h0 c hc h
      have := hspl c hc h0
      rcases h with h | h
      · exact h
      · omega, hJ0, hM0, hb0, hs0⟩
  case round =>
    clear hM0 hJ0 hb0 hs0
    obtain ⟨j, S, hj, rfl, hS, hSb, hSs, hJr, hM, hbr, hsr⟩ := hrel
    have HJ := Lib.hid hj
    have hjn : j ≤ n := by omega
    clear hj
    have HSs := Lib.hid hSs
    clear hSs
    have HJr := Lib.hid hJr
    have HM := Lib.hid hM
    have HB := Lib.hid hbr
    have HL := Lib.hid hsr
    clear hM hbr hsr hJr
    by_cases hlt : j < n
    · have hjk : j < keys.length := by omega
      obtain ⟨kb, off, rfl, hcs⟩ := HL.out.some' (by omega)
      have hv : wr.cell? ⟨kb, off + j, none⟩ = some (.int .u64 (nthN keys j)) := hcs j _ (u64s_at hjk)
      have hk64 : nthN keys j < 2 ^ 64 := hk _ (nthN_mem hjk)
      have hl1 := HM.out.look (nthN keys j) hk64
      have hcount := mget_log (nthN keys j) (keys.take j)
      have hcl := count_le_take keys (nthN keys j) j
      generalize hcc : (keys.take j).count (nthN keys j) = c at hcount hcl
      rw [hcount] at hl1
      unfold maxLen at hmax
      obtain ⟨w2, hput, hM2, hg2⟩ := HM.out.put (nthN keys j) ((c : Int) + 1) hk64 (wf_i64 (by omega) (by omega)) (by rw [length_log, List.length_take]; unfold maxLen; omega)
      have hf2 : Foreign S S wr w2 := Foreign.of_grown hg2 hS
      have hJ2 := hJ _ _ _ _ _ HJr.out hf2
      have hl2 := hM2.look (nthN keys j) hk64
      have hmg : mget ((nthN keys j, (c : Int) + 1) :: logOf (keys.take j)) (nthN keys j) = (c : Int) + 1 := by unfold mget; rw [if_pos rfl]
      rw [hmg] at hl2
      have hb2 : w2.heap[b]? = _ := hf2.heap' hSb HB.out
      have hs2 := HL.out.foreign hf2 (HSs.out (by omega))
      have c2 : w2.cell? ⟨b, 1, none⟩ = some (.int .u64 seed) := blk_cell hb2 rfl
      have hlog : logOf (keys.take (j + 1)) = (nthN keys j, (c : Int) + 1) :: logOf (keys.take j) := by rw [log_next hjk, hcount]
      have hci : (c : Int) < 9223372036854775807 := by omega
      have HF2 := Lib.hid hf2
      have HM2 := Lib.hid hM2
      have HB2 := Lib.hid hb2
      have HL2 := Lib.hid hs2
      have HJ2 := Lib.hid hJ2
      have HLOG := Lib.hid hlog
      have HCC := Lib.hid hcc
      clear hf2 hM2 hb2 hs2 hJ2 hlog hcc hcount hcl hmg hg2 hcs
      by_cases hc0 : c = 0
      · subst hc0
        have hnew : nthN keys j ∉ keys.take j := by
          have := HCC.out; rw [List.count_eq_zero] at this; exact this
        have hat := once_at hjk hnew
        have hkx : (onceL (keys.take j)).length < (hashesOf seed keys).length := by
          unfold hashesOf; rw [List.length_map]; exact (List.getElem?_eq_some_iff.1 hat).1
        have hx := hashesOf_at hat hkx
        have e01 : ((0 : Nat) : Int) + 1 = 1 := rfl
        rw [e01] at hput hl2
        obtain ⟨fn, tmps, assign, body, hy, hR⟩ := hY _ _ w2 HJ2.out hkx
        rw [hx] at hy
        have HN := Lib.hid (once_next_new hjk hnew)
        have HOf := Lib.hid (of_any seed (nthN keys j) w2 hs hk64)
        clear hx hkx hat hnew hY
        gi_wp2_with fail
        refine (callsIn_wide.2 HOf.out).mono ?_
        rintro e w' ⟨rfl, rfl⟩
        gi_wp2_with fail
        refine hR.mono ?_
        clear hR hy HOf
        rintro e W' (⟨rfl, hJ3, hk3⟩ | ⟨rfl, hJx3, hk3⟩)
        · have hM3 : MapI W' W.heap.size _ := HM2.out.heap (hk3.block _ HM2.out.lt (.inr hS))
          have hb3 : W'.heap[b]? = _ := (hk3.block _ (lt_of_heap HB2.out) (.inl (.inl rfl))).trans HB2.out
          have hs3 := HL2.out.kept hk3 (fun c hc => .inl (.inr hc))
          have HM3 := Lib.hid hM3
          have HB3 := Lib.hid hb3
          have HS3 := Lib.hid hs3
          have HJ3 := Lib.hid hJ3
          clear hM3 hb3 hs3 hk3 hJ3 hput hl1 hl2 c2
          gi_wp2
          gi_roundg (gk - 1)
          case measure => have := HJ.out; omega
          case rel => exact ⟨j + 1, S, by have := HJ.out; omega, by go_num, hS, hSb, HSs.out, by rw [HN.out, List.length_append]; exact HJ3.out, by rw [HLOG.out]; exact HM3.out, HB3.out, HS3.out⟩
        · clear hk3
          gi_wp2
          refine bodyPost_ret (results_none rfl _ _ _) rfl ?_
          exact ⟨⟨_, rfl⟩, .inr ⟨_, hJx3⟩⟩
      · have hne : (((c : Int) + 1) == 1) = false := by simp; omega
        have hold : nthN keys j ∈ keys.take j := by
          have := HCC.out
          refine Decidable.byContradiction fun h => hc0 ?_
          rw [← this, List.count_eq_zero]; exact h
        have HN := Lib.hid (once_next_mem hjk hold)
        clear hold hY
        gi_wp2
        gi_roundg (gk - 1)
        case measure => have := HJ.out; omega
        case rel => exact ⟨j + 1, S, by have := HJ.out; omega, by go_num, hS, hSb, HSs.out, by rw [HN.out]; exact HJ2.out, by rw [HLOG.out]; exact HM2.out, HB2.out, HL2.out⟩
    · have hjk : j = n := by omega
      have hend : J (hashesOf seed keys).length S wr := by
        have := HJr.out
        rw [show keys.take j = keys by rw [List.take_of_length_le]; omega] at this
        unfold hashesOf; rw [List.length_map]; exact this
      clear hjk
      gi_wp2
      refine bodyPost_end (results_none rfl _ _ _) rfl ?_
      exact ⟨⟨_, rfl⟩, .inl ⟨_, hend⟩⟩

theorem enters_hashes (args : Array Value) (w : World) : (callFunc 64 args).run Try.prog w = .ok (.enter 64 args) w := by
  exact enters_of Try.func64 (by kernel_rfl) rfl args w

/-- Keys in memory of their own. -/
def OwnKeys (W : World) (base g n : Nat) (seed : Nat) (keys : List Nat) (mp : Option Nat) : Prop :=
  ∃ kb, base ≤ kb ∧ kb < g ∧ W.heap[kb]? = some (.cells (u64s keys).toArray 22 (0, 0)) ∧ n = keys.length ∧ n ≤ 4096 ∧
    W.heap[g]? = some (.cells #[.slice (some ⟨kb, 0, none⟩) n n, .int .u64 seed, .map mp] 68 (0, 0))

theorem info_u64 : (Try.prog.info? 22).map (fun i => (i.zero, i.size, i.bytes)) = some (some (.int .u64 0), 1, 8) := by kernel_rfl
theorem keys_of_any (seed n cap : Nat) (sp : Option Addr) (keys : List Nat) (w : World) (hsl : Sl w sp n (u64s keys)) (hbig : n ≤ 4096) :
    Calls Try.prog 43 #[.int .u64 seed, .slice sp n cap] w fun e w' =>
      ∃ g, e = .returned (.pointer (some ⟨g, 0, none⟩)) ∧ OwnKeys w' w.heap.size g n seed keys none ∧ Below w.heap.size w w' := by
  have hlen : n = keys.length := by have := hsl.1; simpa [u64s] using this
  have hmax := hsl.2.1
  subst hlen
  have HS := Lib.hid hsl
  clear hsl
  obtain ⟨i0, hi, hz0, hz1, hz2⟩ := info_parts info_u64
  have hul : (u64s keys).length = keys.length := by simp [u64s]
  obtain ⟨mc, hmc⟩ : ∃ mc, mc = madeCells #[(.int .u64 0 : Value)] keys.length := ⟨_, rfl⟩
  have hcl : mc.toList.length = keys.length := by rw [hmc]; simp [size_madeCells]
  have hsp : splice mc.toList 0 (u64s keys) = u64s keys := by
    unfold splice; rw [hul, List.take_zero, List.nil_append, List.drop_of_length_le (by omega), List.append_nil]
  have hB : Below w.heap.size w (w.alloc (.cells mc 22)) := (Below.refl _ _).alloc (Nat.le_refl _) _
  have hG : (w.alloc (.cells mc 22)).heap[w.heap.size]? = some (.cells mc.toList.toArray 22 (0, 0)) := by
    rw [Array.toArray_toList]; exact World.alloc_heap_new w _
  have hinf : (Try.prog.info? 22).map (·.size) = some 1 := by rw [hi, Option.map_some, hz1]
  have hpos : 0 < (u64s keys).length → (some ⟨w.heap.size, 0, none⟩ : Option Addr) = some ⟨w.heap.size, 0, none⟩ ∧ ∃ ad, sp = some ad ∧ ∀ j v, (u64s keys)[j]? = some v → (w.alloc (.cells mc 22)).cell? (ad.add j) = some v := by
    intro h0
    obtain ⟨kb, off, rfl, hcs⟩ := HS.out.some' (by omega)
    refine ⟨rfl, _, rfl, fun j v hj => ?_⟩
    have := hcs j v hj
    have hadd : (⟨kb, off, none⟩ : Addr).add j = ⟨kb, off + j, none⟩ := by unfold Addr.add; split <;> simp_all
    rw [hadd]
    exact (hB.cell (p := ⟨kb, off + j, none⟩) (lt_of_cell this)).trans this
  have hone : ∀ v ∈ u64s keys, v.oneCell' = true := by intro v hv; simp [u64s] at hv; obtain ⟨x, _, rfl⟩ := hv; rfl
  have hnm : (u64s keys).length = Nat.min keys.length keys.length := by rw [hul]; simp
  have hfit : 0 + (u64s keys).length ≤ mc.toList.length := by omega
  have HPOS := Lib.hid hpos
  have HONE := Lib.hid hone
  have HG := Lib.hid hG
  have HHB := Lib.hid hB
  have HMC := Lib.hid hmc
  clear hpos hone hG hB hmc
  go_enter Try.func43, Try.ntmps43
  go_wp2_with (first | (at_make; refine wpList_make_row _ rfl _ _ _ rfl 22 _ _ Try.underlying23 hi hz0 hz1 rfl .i64 .i64 keys.length rfl rfl (by rw [hz2]; omega) (by omega) ?_; rw [← HMC.out]) | (refine wpList_copy_splice rfl (.tmp 9) (.tmp 10) 23 23 rfl 22 Try.underlying23 hinf (some ⟨w.heap.size, 0, none⟩) sp keys.length keys.length keys.length cap rfl rfl w.heap.size 0 mc.toList 22 HG.out (u64s keys) hnm HPOS.out hfit HONE.out w.heap.size w HHB.out (Nat.le_refl _) ?_; intro W2 hH2 hB2))
  go_ret
  rw [hsp] at hH2
  have hlt := lt_of_heap hH2.out
  exact ⟨W2.heap.size, rfl, ⟨w.heap.size, Nat.le_refl _, hlt, (Below.heap_alloc _ _ _ hlt).trans hH2.out, rfl, hbig, World.alloc_heap_new _ _⟩, hB2.trans ((Below.refl _ _).alloc (Nat.le_refl _) _ |>.mono hB2.size)⟩
end Go.Proofs.Ytpfpgjfcomkdgaa
