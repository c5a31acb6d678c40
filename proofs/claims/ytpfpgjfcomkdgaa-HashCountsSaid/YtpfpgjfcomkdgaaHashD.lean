/-
  Package hash: keys counted by prefixes.
-/
import Derived.Test.YtpfpgjfcomkdgaaHashC
set_option linter.unusedSimpArgs false
set_option linter.unusedVariables false
namespace Go.Proofs.Ytpfpgjfcomkdgaa
open Go.RowKit Go.Maps

def prefixes (seed : Nat) (keys : List Nat) (nb : Nat) : List Nat := (hashesOf seed keys).map fun h => hPrefix h nb
def crowdLog (seed : Nat) (keys : List Nat) (nb k : Nat) : List (Nat × Int) := logOf ((prefixes seed keys nb).take k)
def crowdBlk (kb n seed mb : Nat) : Obj := .cells #[.slice (some ⟨kb, 0, none⟩) n n, .int .u64 seed, .map (some mb)] 68 (0, 0)
/-- While hashes are counted. -/
structure CountI (g kb len seed nb mb : Nat) (keys : List Nat) (w : World) (k : Nat) (S : Nat → Prop) (W : World) : Prop where
  p : Own1 ⟨w.heap.size, 0, none⟩ (.pointer (some ⟨g, 0, none⟩)) S W
  n : Own1 ⟨w.heap.size + 1, 0, none⟩ (.int .i64 nb) S W
  mine : ¬ S mb
  map : MapI W mb (crowdLog seed keys nb k)
  mineg : ¬ S g
  blk : W.heap[g]? = some (crowdBlk kb len seed mb)
  old : Kept (fun b => b < w.heap.size ∧ b ≠ g) w W
  low : ∀ b, S b → w.heap.size ≤ b
theorem CountI.stable (g kb n seed nb mb : Nat) (keys : List Nat) (w : World) (k : Nat) : Stable (CountI g kb n seed nb mb keys w k) := fun S S' W W' h f =>
  ⟨Own1.stable _ _ _ _ _ _ h.p f, Own1.stable _ _ _ _ _ _ h.n f, f.not h.map.lt h.mine, h.map.heap (f.block _ h.map.lt h.mine), f.not (lt_of_heap h.blk) h.mineg, f.heap' h.mineg h.blk,
    ⟨f.os.trans h.old.os, f.tape.trans h.old.tape, f.output.trans h.old.output, Nat.le_trans h.old.size f.size, fun b hb hs => (f.block b (Nat.lt_of_lt_of_le hb h.old.size) (fun hh => absurd (h.low b hh) (by omega))).trans (h.old.block b hb hs)⟩,
    fun b hb => by
      rcases f.fresh b hb with hb | hb
      · exact h.low b hb
      · exact Nat.le_trans h.old.size hb.1⟩
theorem hashes_lt {seed : Nat} {keys : List Nat} : ∀ h ∈ hashesOf seed keys, h < 2 ^ 64 := by
  intro h hh
  unfold hashesOf at hh
  obtain ⟨k, _, rfl⟩ := List.mem_map.1 hh
  exact hOf_lt _ _
theorem length_prefixes (seed : Nat) (keys : List Nat) (nb : Nat) : (prefixes seed keys nb).length = (hashesOf seed keys).length := by unfold prefixes; rw [List.length_map]
theorem once_length_le (ks : List Nat) : (onceL ks).length ≤ ks.length := by
  have : ∀ (ks acc : List Nat), (ks.foldl onceStep acc).length ≤ acc.length + ks.length := by
    intro ks
    induction ks with
    | nil => intro acc; simp
    | cons k r ih =>
      intro acc
      rw [List.foldl_cons]
      have := ih (onceStep acc k)
      have h2 : (onceStep acc k).length ≤ acc.length + 1 := by unfold onceStep; split <;> simp
      simp only [List.length_cons]; omega
  have h := this ks []
  unfold onceL
  simpa using h
theorem length_hashes_le (seed : Nat) (keys : List Nat) : (hashesOf seed keys).length ≤ keys.length := by unfold hashesOf; rw [List.length_map]; exact once_length_le keys
theorem crowd_next {seed : Nat} {keys : List Nat} {nb k : Nat} (h : k < (hashesOf seed keys).length) :
    crowdLog seed keys nb (k + 1) = (hPrefix (nthN (hashesOf seed keys) k) nb, mget (crowdLog seed keys nb k) (hPrefix (nthN (hashesOf seed keys) k) nb) + 1) :: crowdLog seed keys nb k := by
  unfold crowdLog
  have hl : k < (prefixes seed keys nb).length := by rw [length_prefixes]; exact h
  rw [log_next hl]
  have e : nthN (prefixes seed keys nb) k = hPrefix (nthN (hashesOf seed keys) k) nb := by
    have h1 : (prefixes seed keys nb)[k]? = some (hPrefix (nthN (hashesOf seed keys) k) nb) := by
      unfold prefixes; rw [List.getElem?_map, List.getElem?_eq_getElem h, nthN_eq h]; rfl
    rw [← nthN_eq hl]; exact (List.getElem?_eq_some_iff.1 h1).2
  rw [e]

def noXc (_c : Code) (_k : Nat) (_S : Nat → Prop) (_W : World) : Prop := False
theorem noXc_stable (c : Code) (k : Nat) : Stable (noXc c k) := fun _ _ _ _ h _ => h
set_option maxHeartbeats 1000000 in
theorem counted_any (g n seed nb base : Nat) (keys : List Nat) (mp : Option Nat) (w : World) (hs : seed < 2 ^ 64) (hk : W64 keys) (hnb : nb ≤ 64) (ho : OwnKeys w base g n seed keys mp) :
    Calls Try.prog 44 #[.pointer (some ⟨g, 0, none⟩), .int .i64 nb] w fun e w' =>
      ∃ mb, e = .returned (.map (some mb)) ∧ w.heap.size ≤ mb ∧ MapI w' mb (logOf (prefixes seed keys nb)) ∧ OwnKeys w' base g n seed keys (some mb) ∧ Kept (fun b => b < w.heap.size ∧ b ≠ g) w w' := by
  obtain ⟨kb, hbk, hkg, hkb, hn, hn4, hg⟩ := ho
  subst hn
  have hgl := lt_of_heap hg
  have hmm := @run_makeMap Try.prog
  refine (callsIn_wide (n := 0)).1 ?_
  refine callsIn_of_wp_marks Try.func44 rfl trivial ?_
  simp only [Try.ntmps44, List.size_toArray, List.length_cons, List.length_nil, Nat.reduceAdd, Nat.reduceSub, Array.replicate_succ, Array.replicate_zero, List.push_toArray, List.append_toArray, List.nil_append, List.cons_append]
  obtain ⟨W3, hW3⟩ : ∃ W3, W3 = ((w.alloc (.cells #[.pointer (some ⟨g, 0, none⟩)] 58)).alloc (.cells #[.int .i64 nb] 3)).alloc (.map #[] 0) := ⟨_, rfl⟩
  have hz3 : W3.heap.size = w.heap.size + 3 := by rw [hW3]; simp
  have hb3 : Below w.heap.size w W3 := by rw [hW3]; exact (((Below.refl _ _).alloc (Nat.le_refl _) _).alloc (by simp) _).alloc (by simp; omega) _
  have hg3 := heap_below hb3 hg hgl
  have hk3 := heap_below hb3 hkb (by omega)
  have c30 : W3.cell? ⟨g, 2, none⟩ = some (.map mp) := blk_cell hg3 rfl
  have f30 : W3.frozen? ⟨g, 2, none⟩ = false := blk_free 2 hg3
  have hg4 : (W3.setCell ⟨g, 2, none⟩ (.map (some (w.heap.size + 1 + 1)))).heap[g]? = some (crowdBlk kb keys.length seed (w.heap.size + 1 + 1)) := blk_set (i := 2) _ hg3
  have p0 : Own1 ⟨w.heap.size, 0, none⟩ (.pointer (some ⟨g, 0, none⟩)) (fun _ => False) W3 := by
    rw [hW3]; exact ((Own1.new _ w _ _ (fun h => h)).alloc _).alloc _
  have p1 : Own1 ⟨w.heap.size + 1, 0, none⟩ (.int .i64 nb) (fun _ => False) W3 := by
    rw [hW3]
    have := (Own1.new (fun _ => False) (w.alloc (.cells #[.pointer (some ⟨g, 0, none⟩)] 58)) (.int .i64 nb) 3 (by simp)).alloc (.map #[] 0)
    simpa using this
  have hM3 : MapI W3 (w.heap.size + 1 + 1) [] := by
    rw [hW3]
    have := MapI.made ((w.alloc (.cells #[.pointer (some ⟨g, 0, none⟩)] 58)).alloc (.cells #[.int .i64 nb] 3))
    simpa using this
  have hold : Kept (fun b => b < w.heap.size ∧ b ≠ g) w W3 := ⟨hb3.os, hb3.tape, hb3.output, hb3.size, fun b hb _ => hb3.block b hb⟩
  obtain ⟨W4, hW4⟩ : ∃ W4, W4 = W3.setCell ⟨g, 2, none⟩ (.map (some (w.heap.size + 1 + 1))) := ⟨_, rfl⟩
  have q0 : Own1 ⟨w.heap.size, 0, none⟩ (.pointer (some ⟨g, 0, none⟩)) (fun _ => False) W4 := by rw [hW4]; exact p0.other _ (by show w.heap.size ≠ g; omega)
  have q1 : Own1 ⟨w.heap.size + 1, 0, none⟩ (.int .i64 nb) (fun _ => False) W4 := by rw [hW4]; exact p1.other _ (by show w.heap.size + 1 ≠ g; omega)
  have hoth : ∀ b, b ≠ g → W4.heap[b]? = W3.heap[b]? := fun b hb => by rw [hW4]; exact Below.heap_setCell _ _ _ _ hb
  have hz4 : W4.heap.size = w.heap.size + 3 := by rw [hW4, World.size_setCell, hz3]
  have hM4 : MapI W4 (w.heap.size + 1 + 1) [] := hM3.heap (hoth _ (by omega))
  have hk4 : W4.heap[kb]? = some (.cells (u64s keys).toArray 22 (0, 0)) := (hoth _ (by omega)).trans hk3
  have hold4 : Kept (fun b => b < w.heap.size ∧ b ≠ g) w W4 := hold.trans (by rw [hW4]; exact Kept.setCell _ _ _ _ (fun h => h.2 rfl))
  rw [← hW4] at hg4
  have d0 : W4.cell? ⟨g, 0, none⟩ = some (.slice (some ⟨kb, 0, none⟩) keys.length keys.length) := blk_cell hg4 rfl
  have d1 : W4.cell? ⟨g, 1, none⟩ = some (.int .u64 seed) := blk_cell hg4 rfl
  have d2 : W4.cell? ⟨w.heap.size, 0, none⟩ = some (.pointer (some ⟨g, 0, none⟩)) := q0.cell
  rw [hW4, hW3] at d0 d1 d2
  rw [hW3] at c30 f30
  clear p0 p1 hM3 hold hoth
  gi_wp2
  refine (callsIn_wide.2 (hashes_any _ _ _)).mono ?_
  rintro e w' ⟨rfl, rfl⟩
  gi_wp2
  rw [← hW3, ← hW4]
  clear d0 d1 d2 c30 f30 hmm hg3 hk3 hW3 hW4 hb3 hz3
  obtain ⟨W5, hW5⟩ : ∃ W5, W5 = W4.alloc (.cells #[.slice (some ⟨kb, 0, none⟩) keys.length keys.length, .int .u64 seed] 66) := ⟨_, rfl⟩
  have hz5 : W5.heap.size = w.heap.size + 4 := by rw [hW5, World.size_alloc, hz4]
  have r0 : Own1 ⟨w.heap.size, 0, none⟩ (.pointer (some ⟨g, 0, none⟩)) (fun _ => False) W5 := by rw [hW5]; exact q0.alloc _
  have r1 : Own1 ⟨w.heap.size + 1, 0, none⟩ (.int .i64 nb) (fun _ => False) W5 := by rw [hW5]; exact q1.alloc _
  have hM5 : MapI W5 (w.heap.size + 1 + 1) (crowdLog seed keys nb 0) := by rw [hW5]; exact hM4.heap (Below.heap_alloc _ _ _ (by omega))
  have hk5 : W5.heap[kb]? = some (.cells (u64s keys).toArray 22 (0, 0)) := by rw [hW5]; exact (Below.heap_alloc _ _ _ (by omega)).trans hk4
  have hg5 : W5.heap[g]? = some (crowdBlk kb keys.length seed (w.heap.size + 1 + 1)) := by rw [hW5]; exact (Below.heap_alloc _ _ _ (by omega)).trans hg4
  have hold5 : Kept (fun b => b < w.heap.size ∧ b ≠ g) w W5 := hold4.trans (by rw [hW5]; exact Kept.alloc _ _ _)
  have hb5 : W5.heap[w.heap.size + 1 + 1 + 1]? = some (.cells #[.slice (some ⟨kb, 0, none⟩) keys.length keys.length, .int .u64 seed] 66 (0, 0)) := by
    rw [hW5, show w.heap.size + 1 + 1 + 1 = W4.heap.size by omega]; exact World.alloc_heap_new _ _
  have hsl5 : Sl W5 (some ⟨kb, 0, none⟩) keys.length (u64s keys) := by
    have h := Sl.of_blk hk5 (by simp [u64s]; unfold maxLen; omega)
    simpa [u64s] using h
  rw [← hW5]
  clear hW5 q0 q1 hM4 hk4 hg4 hold4
  refine wpIn_range rfl (fun h => by cases h) rfl trivial enters_hashes (hashes_it seed (w.heap.size + 1 + 1 + 1) keys.length keys.length (some ⟨kb, 0, none⟩) keys W5 hs hk hb5 hsl5) (by intro b hb; exact hb.elim) (fun _ => rfl)
    (by
      rintro b (rfl | hb)
      · exact ⟨by omega, fun h => h⟩
      · simp at hb; exact ⟨by omega, fun h => h⟩)
    (CountI g kb keys.length seed nb (w.heap.size + 1 + 1) keys w) noXc (CountI.stable _ _ _ _ _ _ _ _) noXc_stable
    ⟨r0, r1, fun h => h, hM5, fun h => h, hg5, hold5, fun b h => h.elim⟩
    (AxOf (fun k => { tmps := #[.pointer (some ⟨g, 0, none⟩), .int .i64 nb, .pointer (some ⟨w.heap.size, 0, none⟩), .pointer (some ⟨w.heap.size + 1, 0, none⟩), .map none, .int .u64 (nthN (hashesOf seed keys) k),
      .pointer (some ⟨g, 0, none⟩), .map (some (w.heap.size + 1 + 1)), .pointer (some ⟨g, 0, none⟩), .pointer (some ⟨g, 2, none⟩), .pointer (some ⟨g, 0, none⟩), .pointer (some ⟨g, 0, none⟩), .pointer (some ⟨g, 0, none⟩),
      .agg #[.slice (some ⟨kb, 0, none⟩) keys.length keys.length, .int .u64 seed], .func (.func 64) #[] #[.pointer (some ⟨w.heap.size + 1 + 1 + 1, 0, none⟩)], .int .u64 (nthN (hashesOf seed keys) k),
      undef, undef, undef, undef, undef, undef, undef, undef, undef, undef, undef, undef, undef], defers := [] }) (CountI g kb keys.length seed nb (w.heap.size + 1 + 1) keys w))
    (AxOf.stable (CountI.stable _ _ _ _ _ _ _ _)) ?assign ?body ?done (fun _ _ _ _ _ _ _ _ _ h _ => h.elim)
  case assign =>
    intro l k S W hk hl hr hSb hI
    rw [nthN_eq hk]
    clear hr r0 r1 hM5 hk5 hg5 hold5 hb5 hsl5 hg hkb
    gi_wp2
    exact ⟨⟨rfl, hI⟩, Kept.refl _ _⟩
  case body =>
    rintro l k S a W r hk hl hlr hr hSb ⟨rfl, hI⟩
    have hx64 := hashes_lt (seed := seed) (keys := keys) _ (nthN_mem hk)
    have HP := Lib.hid (prefix_any (nthN (hashesOf seed keys) k) nb W.drew hx64 hnb)
    have hp64 := hPrefix_lt nb hx64
    have hlook := hI.map.look (hPrefix (nthN (hashesOf seed keys) k) nb) hp64
    have hnext := crowd_next (nb := nb) hk
    have hcount := mget_log (hPrefix (nthN (hashesOf seed keys) k) nb) ((prefixes seed keys nb).take k)
    have hcl := count_le_take (prefixes seed keys nb) (hPrefix (nthN (hashesOf seed keys) k) nb) k
    have hkl : k < 4096 := by have := length_hashes_le seed keys; omega
    have hll : (crowdLog seed keys nb k).length < maxLen := by
      unfold crowdLog maxLen; rw [length_log, List.length_take, length_prefixes]; omega
    generalize hcc : ((prefixes seed keys nb).take k).count (hPrefix (nthN (hashesOf seed keys) k) nb) = c at hcount hcl
    rw [show mget (crowdLog seed keys nb k) (hPrefix (nthN (hashesOf seed keys) k) nb) = (c : Int) from hcount] at hlook hnext
    have hMd : MapI W.drew (w.heap.size + 1 + 1) (crowdLog seed keys nb k) := hI.map
    obtain ⟨w2, hput, hM2, hg2⟩ := hMd.put (hPrefix (nthN (hashesOf seed keys) k) nb) ((c : Int) + 1) hp64 (wf_i64 (by omega) (by omega)) hll
    have hld : (Instr.lookup 42 (.map (some (w.heap.size + 1 + 1))) (.int .u64 (hPrefix (nthN (hashesOf seed keys) k) nb : Nat)) false).run Try.prog W.drew = .ok (.int .i64 c) W.drew := by
      have := hMd.look (hPrefix (nthN (hashesOf seed keys) k) nb) hp64
      rwa [show mget (crowdLog seed keys nb k) (hPrefix (nthN (hashesOf seed keys) k) nb) = (c : Int) from hcount] at this
    have e0 : W.drew.cell? ⟨w.heap.size, 0, none⟩ = some (.pointer (some ⟨g, 0, none⟩)) := hI.p.cell
    have e1 : W.drew.cell? ⟨w.heap.size + 1, 0, none⟩ = some (.int .i64 nb) := hI.n.cell
    have e2 : W.drew.cell? ⟨g, 2, none⟩ = some (.map (some (w.heap.size + 1 + 1))) := blk_cell (W := W.drew) hI.blk rfl
    have hci : (c : Int) < 4096 := by omega
    have HI := Lib.hid hI
    have HM2 := Lib.hid hM2
    have HG2 := Lib.hid hg2
    have HN := Lib.hid hnext
    clear r0 r1 hM5 hk5 hg5 hold5 hb5 hsl5 hg hkb hlook hnext hcount hcl hll hcc hMd hM2 hg2 hlr hI hx64 hp64
    gi_wp2
    refine wpIn_round_still_tail 9 (by kernel_rfl) (by kernel_rfl) (by kernel_rfl) (by rintro ⟨_, _, h⟩; exact h) ?_
    simp only [List.take_succ_cons, List.take_zero, List.drop_succ_cons, List.drop_zero]
    change wpStill _ _ W.drew (fun a' => wpList _ _ _ _ a' W.drew) _ _
    generalize hgen : nthN (hashesOf seed keys) k = x at *
    repeat still_step
    still_call HP.out
    repeat still_step
    refine wpStill_nil ?_
    have hwr : IntKind.i64.wrap ((c : Int) + 1) = (c : Int) + 1 := by rw [IntKind.wrap_i64]; omega
    rw [hwr]
    have hW : Kept (fun b => (b = w.heap.size + 1 + 1 + 1 ∨ (some (⟨kb, 0, none⟩ : Addr)).map (·.block) = some b) ∨ S b) W w2 := by
      refine (Kept.drew _ W).trans (Kept.grown HG2.out ?_)
      intro q hq hh
      injection hq with hq
      rcases hh with (hh | hh) | hh
      · omega
      · simp at hh; omega
      · exact HI.out.mine (hq ▸ hh)
    have hd0 : Foreign S S W W.drew := Foreign.drew W
    generalize hwd : W.drew = wd at *
    go_wp2
    refine ⟨hW, ?_⟩
    have hgb := HG2.out
    have hbk : ∀ b, b < wd.heap.size → b ≠ w.heap.size + 1 + 1 → w2.heap[b]? = wd.heap[b]? := fun b hb hne => hgb.block b hb (by intro e; injection e with e; exact hne e)
    have hId := CountI.stable _ _ _ _ _ _ _ _ _ _ _ _ _ HI.out hd0
    refine ⟨hId.p.grown hgb (by intro e; injection e with e; have e' : w.heap.size = w.heap.size + 1 + 1 := e; omega), hId.n.grown hgb (by intro e; injection e with e; have e' : w.heap.size + 1 = w.heap.size + 1 + 1 := e; omega), hId.mine, by rw [HN.out]; exact HM2.out, hId.mineg, (hbk g (lt_of_heap hId.blk) (by omega)).trans hId.blk, hId.old.trans ?_, hId.low⟩
    exact Kept.grown hgb (fun q hq => by injection hq with hq; intro h; omega)
  case done =>
    rintro D S W hD hSD hr hI hK
    have e0 := hI.p.cell
    have e2 : W.cell? ⟨g, 2, none⟩ = some (.map (some (w.heap.size + 1 + 1))) := blk_cell hI.blk rfl
    have HI := Lib.hid hI
    have HK := Lib.hid hkb
    have hlen := length_prefixes seed keys nb
    clear hr r0 r1 hM5 hk5 hg5 hold5 hb5 hsl5 hg hI hkb
    gi_wp2
    have hI := HI.out
    have hkW := (hI.old.block kb (by omega) ⟨by omega, by omega⟩).trans HK.out
    have hother : ∀ (o : Obj) (b : Nat), b < W5.heap.size → (W.putObj D o).heap[b]? = W.heap[b]? := fun o b hb => World.putObj_heap_other (by omega)
    refine post_mark (.inl rfl) hK (results_tmp rfl _ _ _) ⟨w.heap.size + 1 + 1, rfl, by omega, ?_, ⟨kb, hbk, hkg, (hother _ _ (by omega)).trans hkW, rfl, hn4, (hother _ _ (by omega)).trans hI.blk⟩, hI.old.trans (Kept.putObj _ _ _ _ (fun h => by omega))⟩
    have hm := hI.map
    unfold crowdLog at hm
    rw [List.take_of_length_le (by omega)] at hm
    exact hm.heap (hother _ _ (by omega))
end Go.Proofs.Ytpfpgjfcomkdgaa
