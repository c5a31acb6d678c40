/-
  HashCrowds, walked.
-/
import Derived.Test.YtpfpgjfcomkdgaaLawOf
import Derived.Test.YtpfpgjfcomkdgaaRef07C
import Derived.Deep.RegionHeld3
set_option linter.unusedSimpArgs false
set_option linter.unusedVariables false
namespace Go.Proofs.Ytpfpgjfcomkdgaa
open Go.RowKit Go.Maps

/-- Keys' prefixes, each laid in a map. -/
def metLog (seed nb : Nat) (keys : List Nat) : List (Nat × Int) := keys.foldl (fun m k => (preOf seed nb k, 1) :: m) []
theorem met_next {seed nb : Nat} {keys : List Nat} {k : Nat} (h : k < keys.length) : metLog seed nb (keys.take (k + 1)) = (preOf seed nb (nthN keys k), 1) :: metLog seed nb (keys.take k) := by
  unfold metLog; rw [take_next h, List.foldl_append]; rfl
theorem mhas_fst {a b : List (Nat × Int)} (h : a.map Prod.fst = b.map Prod.fst) (x : Nat) : mhas a x = mhas b x := by
  rw [Bool.eq_iff_iff, mhas_iff, mhas_iff]
  constructor
  · rintro ⟨p, hp, rfl⟩
    have := List.mem_map_of_mem (f := Prod.fst) hp
    rw [h] at this
    obtain ⟨q, hq, e⟩ := List.mem_map.1 this
    exact ⟨q, hq, e⟩
  · rintro ⟨p, hp, rfl⟩
    have := List.mem_map_of_mem (f := Prod.fst) hp
    rw [← h] at this
    obtain ⟨q, hq, e⟩ := List.mem_map.1 this
    exact ⟨q, hq, e⟩
theorem msize_fst : ∀ {a b : List (Nat × Int)}, a.map Prod.fst = b.map Prod.fst → msize a = msize b
  | [], [], _ => rfl
  | [], _ :: _, h => by simp at h
  | _ :: _, [], h => by simp at h
  | (k, v) :: a, (k', v') :: b, h => by
    simp only [List.map_cons, List.cons.injEq] at h
    obtain ⟨h1, h2⟩ := h
    subst h1
    unfold msize
    rw [mhas_fst h2, msize_fst h2]
theorem met_fst (seed nb : Nat) (keys : List Nat) : (metLog seed nb keys).map Prod.fst = (logOf (keys.map (preOf seed nb))).map Prod.fst := by
  have : ∀ (keys : List Nat) (a b : List (Nat × Int)), a.map Prod.fst = b.map Prod.fst → (keys.foldl (fun m k => (preOf seed nb k, (1 : Int)) :: m) a).map Prod.fst = ((keys.map (preOf seed nb)).foldl (fun m k => (k, mget m k + 1) :: m) b).map Prod.fst := by
    intro keys
    induction keys with
    | nil => intro a b h; exact h
    | cons x r ih => intro a b h; simp only [List.foldl_cons, List.map_cons]; exact ih _ _ (by simp [h])
  exact this keys [] [] rfl
theorem met_size (seed nb : Nat) (keys : List Nat) : msize (metLog seed nb keys) = msize (logOf (prefixes seed keys nb)) := by
  rw [msize_fst (met_fst seed nb keys), msize_log, msize_log, prefixes_eq]
  refine ((List.perm_ext_iff_of_nodup (once_nodup _) (once_nodup _)).2 fun x => ?_).length_eq
  rw [mem_onceL, mem_onceL, List.mem_map, List.mem_map]
  simp only [mem_onceL]
theorem met_length (seed nb : Nat) (keys : List Nat) : (metLog seed nb keys).length = keys.length := by
  have := congrArg List.length (met_fst seed nb keys)
  rw [List.length_map, List.length_map, length_log, List.length_map] at this
  exact this
theorem u64s_inj {a b : List Nat} (h : a.map Int.ofNat = b.map Int.ofNat) : a = b := List.map_inj_right (fun x y h => Int.ofNat.inj h) |>.1 h
theorem equal_same (l : List Nat) : (l.map Int.ofNat == l.map Int.ofNat) = true := by simp
theorem preOf_lt (seed nb k : Nat) : preOf seed nb k < 2 ^ 64 := hPrefix_lt _ (hOf_lt _ _)
set_option maxRecDepth 100000 in
set_option maxHeartbeats 2000000 in
theorem walk_HashCrowds (a0 : Int) (sp : Option Addr) (n cap : Nat) (zs : List Int) (a2a a2b : Int) (w : World) (w0 : (Lit.int .u64 a0).wf = true) (hc : sp = none → cap = 0) (hcap : n ≤ cap) (h : Sl w sp n (zs.map (Value.int .u64))) (hz : ∀ z ∈ zs, (Lit.int .u64 z).wf = true) (hw2 : (Lit.int .i64 a2a).wf = true) (hw3 : (Lit.int .i64 a2b).wf = true) :
    Calls Try.prog 7 #[.int .u64 a0, .slice sp n cap, .agg #[.int .i64 a2a, .int .i64 a2b]] w fun e w' => e = .returned (.bool true) ∧ Below w.heap.size w w' := by
  obtain ⟨seed, rfl, hs⟩ := nat_of_u64 w0
  rw [u64s_nats hz] at h
  have hk := nats_w64 hz
  have hlen := len_nats h
  have hmax := h.2.1
  unfold maxLen at hmax
  clear w0 hz hw2 hw3
  generalize nats zs = keys at *
  have hmm := @run_makeMap Try.prog
  have hb0 : Below w.heap.size w (w.alloc (.cells #[.int .i64 a2a, .int .i64 a2b] 40)) := (Below.refl _ _).alloc (Nat.le_refl _) _
  have hblk : (w.alloc (.cells #[.int .i64 a2a, .int .i64 a2b] 40)).heap[w.heap.size]? = some (.cells #[.int .i64 a2a, .int .i64 a2b] 40) := World.alloc_heap_new _ _
  rcases Nat.lt_or_ge 8 n with hn8 | hn8
  · have hi8 : (8 : Int) < (n : Int) := by omega
    have hi8' : ¬ (n : Int) ≤ 8 := by omega
    have hS0 : Sl w sp 8 (u64s (keys.take 8)) := by have := h.take 8 (by omega); rwa [u64s_take] at this
    have hk64 : W64 (keys.take 8) := fun k hk' => hk k (List.mem_of_mem_take hk')
    have hml : (keys.take 8).length = 8 := by rw [List.length_take]; omega
    clear hn8 h hk hlen
    generalize keys.take 8 = ks at *
    have hs'h := Lib.hid hs
    have hc'h := Lib.hid hc
    have hb0'h := Lib.hid hb0
    have hml'h := Lib.hid hml
    have hS0'h := Lib.hid hS0
    have hk64'h := Lib.hid hk64
    have hblk'h := Lib.hid hblk
    clear hs hc hb0 hml hS0 hk64 hblk
    go_enter Try.func7, Try.ntmps7
    go_wp2_with fail
    refine (wakes_any _).mono ?_
    rintro e w1 ⟨rfl, hb1⟩
    have hblk1 := heap_below hb1 hblk'h.out (lt_of_heap hblk'h.out)
    have hB1 := hb0'h.out.trans (hb1.mono hb0'h.out.size)
    clear hb1
    have hblk1'h := Lib.hid hblk1
    have hB1'h := Lib.hid hB1
    clear hblk1 hB1
    go_wp2_with fail
    refine (clone64_any sp 8 cap (u64s ks) w1 (by omega) (oneCell_u64s _) hc'h.out (hS0'h.out.below hB1'h.out)).mono ?_
    rintro e w2 ⟨kp, kc, rfl, hB2, hrow2⟩
    have hSk := Sl.of_row hrow2 (by unfold maxLen; omega)
    have hblk2 := heap_below hB2 hblk1'h.out (lt_of_heap hblk1'h.out)
    have hBw2 := hB1'h.out.trans (hB2.mono hB1'h.out.size)
    have cA : w2.cell? ⟨w.heap.size, 0, none⟩ = some (.int .i64 a2a) := blk_cell hblk2 rfl
    have cB : w2.cell? ⟨w.heap.size, 1, none⟩ = some (.int .i64 a2b) := blk_cell (i := 1) hblk2 rfl
    have hS2 := hS0'h.out.below hBw2
    clear hB2
    cases hmay : mayN a2a with
    | false =>
      have C := crowd_no seed a2a (.slice kp 8 kc) w2 hmay
      have M := ref_may a2a w2
      rw [hmay] at M
      have C'h := Lib.hid C
      have M'h := Lib.hid M
      have hSk'h := Lib.hid hSk
      have hrow2'h := Lib.hid hrow2
      have hS2'h := Lib.hid hS2
      have hBw2'h := Lib.hid hBw2
      have hmay'h := Lib.hid hmay
      have hblk2'h := Lib.hid hblk2
      clear C M hSk hrow2 hS2 hBw2 hmay hblk2
      go_wp2_with fail
      refine (C'h.out).mono ?_
      rintro e w' ⟨rfl, rfl⟩
      go_wp2_with fail
      refine (M'h.out).mono ?_
      rintro e w' ⟨rfl, rfl⟩
      clear cA
      by_cases hb1 : a2b < 1
      · have hd1 : decide (a2b < 1) = true := by rw [decide_eq_true_eq]; exact hb1
        have hb1'h := Lib.hid hb1
        clear hb1
        go_wp2_with fail
        refine (deepest_no seed a2b _ _ hb1'h.out).mono ?_
        rintro e w5 ⟨rfl, hB5⟩
        have c5 : w5.cell? ⟨w.heap.size, 1, none⟩ = some (.int .i64 a2b) := (hB5.cell (p := ⟨w.heap.size, 1, none⟩) (lt_of_cell cB)).trans cB
        clear cB
        have hB5'h := Lib.hid hB5
        clear hB5
        go_wp2
        go_ret
        exact ⟨rfl, hBw2'h.out.trans (hB5'h.out.mono hBw2'h.out.size)⟩
      · have hd1 : decide (a2b < 1) = false := by rw [decide_eq_false_iff_not]; exact hb1
        have hb2 : 1 ≤ a2b := by omega
        have hb1'h := Lib.hid hb1
        have hb2'h := Lib.hid hb2
        clear hb1 hb2
        go_wp2_with fail
        refine (deepest_yes seed 8 kc a2b kp ks _ hs'h.out hk64'h.out hb2'h.out hSk'h.out (by omega)).mono ?_
        rintro e w5 ⟨d, rfl, hd64, hn1, hn2, hB5⟩
        have c5 : w5.cell? ⟨w.heap.size, 1, none⟩ = some (.int .i64 a2b) := (hB5.cell (p := ⟨w.heap.size, 1, none⟩) (lt_of_cell cB)).trans cB
        have R := ref_deepest seed 8 kc d a2b kp ks w5 hs'h.out hk64'h.out hb2'h.out (hSk'h.out.below hB5) (by omega) ⟨hn1, hn2⟩ hd64
        have Q := fun W hB => equal64_any kp sp 8 8 kc cap _ _ W (by rw [← u64s_ints]; exact (hSk'h.out.below hB)) (by rw [← u64s_ints]; exact (hS2'h.out.below hB))
        clear cB
        have R'h := Lib.hid R
        have hn1'h := Lib.hid hn1
        have hn2'h := Lib.hid hn2
        have hB5'h := Lib.hid hB5
        have Q'h := Lib.hid Q
        clear R hn1 hn2 hB5 Q
        go_wp2_with fail
        refine (R'h.out).mono ?_
        rintro e w6 ⟨rfl, hB6⟩
        have hB56 := hB5'h.out.trans (hB6.mono hB5'h.out.size)
        have Q6 := Q'h.out w6 hB56
        rw [equal_same] at Q6
        have e1 : ((d : Int) == (d : Int)) = true := by simp
        have Q6'h := Lib.hid Q6
        have hB56'h := Lib.hid hB56
        have hB6'h := Lib.hid hB6
        clear Q6 hB56 hB6
        go_wp2_with fail
        refine Q6'h.out.mono ?_
        rintro e w7 ⟨rfl, dq, rfl⟩
        go_wp2
        go_ret
        exact ⟨rfl, (hBw2'h.out.trans (hB56'h.out.mono hBw2'h.out.size)).trans (below_drewN' _ _)⟩
    | true =>
      have hx : 0 ≤ a2a ∧ a2a ≤ 64 := by unfold mayN at hmay; simpa using hmay
      obtain ⟨nb, rfl⟩ : ∃ nb : Nat, a2a = (nb : Int) := ⟨a2a.toNat, by omega⟩
      have hnb : nb ≤ 64 := by omega
      have C := crowd_yes seed nb 8 kc kp ks w2 hs'h.out hk64'h.out hnb hSk (by omega)
      have C'h := Lib.hid C
      have hSk'h := Lib.hid hSk
      have hrow2'h := Lib.hid hrow2
      have hS2'h := Lib.hid hS2
      have hBw2'h := Lib.hid hBw2
      have hmay'h := Lib.hid hmay
      have hblk2'h := Lib.hid hblk2
      have hx'h := Lib.hid hx
      clear C hSk hrow2 hS2 hBw2 hmay hblk2 hx
      go_wp2_with fail
      refine (C'h.out).mono ?_
      rintro e w3 ⟨mb, rfl, hmb, hM, hB3⟩
      have M := ref_may nb w3
      rw [hmay'h.out] at M
      have hblk3 := heap_below hB3 hblk2'h.out (lt_of_heap hblk2'h.out)
      have hS3 := hS2'h.out.below hB3
      have hSk3 := hSk'h.out.below hB3
      have hBw3 := hBw2'h.out.trans (hB3.mono hBw2'h.out.size)
      have cA : w3.cell? ⟨w.heap.size, 0, none⟩ = some (.int .i64 nb) := blk_cell hblk3 rfl
      have hsz3 := lt_of_heap hblk3
      clear hB3 hmb C'h hSk'h hrow2'h hS2'h hBw2'h hblk2'h
      have M'h := Lib.hid M
      have hM'h := Lib.hid hM
      have hblk3'h := Lib.hid hblk3
      have hS3'h := Lib.hid hS3
      have hSk3'h := Lib.hid hSk3
      have hBw3'h := Lib.hid hBw3
      clear M hM hblk3 hS3 hSk3 hBw3
      go_wp2_with fail
      refine (M'h.out).mono ?_
      rintro e w' ⟨rfl, rfl⟩
      go_wp2_with fail
      have hmet := MapI.made w'
      have hB4 : Below w'.heap.size w' (w'.alloc (.map #[] 0)) := (Below.refl _ _).alloc (Nat.le_refl _) _
      have hnx := fun k (h : k < ks.length) => met_next (seed := seed) (nb := nb) h
      have hmlen := fun k => met_length seed nb (ks.take k)
      have hmet'h := Lib.hid hmet
      have hB4'h := Lib.hid hB4
      have hnx'h := Lib.hid hnx
      have hmlen'h := Lib.hid hmlen
      clear hmet hB4 hnx hmlen
      obtain ⟨W4, hW4⟩ : ∃ W4, W4 = w'.alloc (.map #[] 0) := ⟨_, rfl⟩
      rw [← hW4] at hmet'h hB4'h ⊢
      have hW4'h := Lib.hid hW4
      clear hW4
      clear cA
      go_loopg [46] 8 (fun q i wr => ∃ k : Nat, k + q = 8 ∧ i = .int .i64 k ∧ Below w'.heap.size w' wr ∧ MapI wr w'.heap.size (metLog seed nb (ks.take k)))
      case atStart => exact ⟨0, by omega, rfl, hB4'h.out, hmet'h.out⟩
      case round =>
        obtain ⟨k, hj, rfl, hB, hMr⟩ := hrel
        have hblkr := heap_below hB hblk3'h.out hsz3
        have hSkr := hSk3'h.out.below hB
        have hMm := hM'h.out.heap (hB.block _ hM'h.out.lt)
        have cA : wr.cell? ⟨w.heap.size, 0, none⟩ = some (.int .i64 nb) := blk_cell hblkr rfl
        have cB : wr.cell? ⟨w.heap.size, 1, none⟩ = some (.int .i64 a2b) := blk_cell (i := 1) hblkr rfl
        by_cases hlt : k < 8
        · have hkl : k < ks.length := by have := hml'h.out; omega
          obtain ⟨ab, aoff, rfl, hcs⟩ := hSkr.some' (by omega)
          have c2 : wr.cell? ⟨ab, aoff + k, none⟩ = some (.int .u64 (nthN ks k)) := hcs k _ (u64s_at hkl)
          have hx64 : nthN ks k < 2 ^ 64 := hk64'h.out _ (nthN_mem hkl)
          have hnxk := hnx'h.out k hkl
          have hmk := hmlen'h.out k
          rw [List.length_take] at hmk
          generalize nthN ks k = x at *
          have O := fun w => ref_of seed x w hs'h.out hx64
          have P := fun w => ref_prefix (hOf seed x) nb w (hOf_lt _ _) hnb
          have hd : hPrefix (hOf seed x) nb = preOf seed nb x := rfl
          rw [hd] at P
          have hlk := fun w (h : MapI w mb (logOf (prefixes seed ks nb))) => h.look (preOf seed nb x) (preOf_lt _ _ _)
          rw [mget_log, show (prefixes seed ks nb).count (preOf seed nb x) = manyN seed nb ks x from rfl] at hlk
          have hmany := fun w (h : Below w'.heap.size w' w) => ref_many seed nb x 8 kc (some ⟨ab, aoff, none⟩) ks w hs'h.out hx64 hnb hk64'h.out (hSk3'h.out.below h) (by omega)
          have hne := ne_self (manyN seed nb ks x)
          clear hcs hd
          generalize hOf seed x = y at *
          generalize manyN seed nb ks x = c at *
          have hpl := preOf_lt seed nb x
          clear hblkr hSkr hMm
          have hj'h := Lib.hid hj
          have hB'h := Lib.hid hB
          have hMr'h := Lib.hid hMr
          have hnxk'h := Lib.hid hnxk
          have O'h := Lib.hid O
          have P'h := Lib.hid P
          have hmk'h := Lib.hid hmk
          have hpl'h := Lib.hid hpl
          have hlk'h := Lib.hid hlk
          have hmany'h := Lib.hid hmany
          clear hj hB hMr hnxk O P hmk hpl hlk hmany
          go_wp2_with fail
          go_quiet ((first | (go_at_call 11; exact Calls.quiet_of_same (O'h.out _)) | (go_at_call 20; exact Calls.quiet_of_same (P'h.out _))))
          obtain ⟨w5, hput, hM5, hg5⟩ := (hMr'h.out.drewN nq).put (preOf seed nb x) 1 hpl'h.out (by decide) (by rw [hmk'h.out]; unfold maxLen; omega)
          have hB5 : Below w'.heap.size w' w5 := (hB'h.out.trans (below_drewN' wr nq)).grown hg5 hB'h.out.size (fun j hj => by injection hj with hj; omega)
          have hblk5 := heap_below hB5 hblk3'h.out hsz3
          have cA5 : w5.cell? ⟨w.heap.size, 0, none⟩ = some (.int .i64 nb) := blk_cell hblk5 rfl
          have hkeep : ∀ W : World, Below w5.heap.size w5 W → (W.cell? ⟨w.heap.size, 0, none⟩ = some (.int .i64 nb) ∧ (Instr.lookup 42 (.map (some mb)) (.int .u64 (preOf seed nb x : Nat)) false).run Try.prog W = .ok (.int .i64 c) W ∧ Below w5.heap.size w5 W) := fun W h =>
            ⟨(h.cell (p := ⟨w.heap.size, 0, none⟩) (lt_of_cell cA5)).trans cA5, hlk'h.out W (hM'h.out.heap ((h.block _ (Nat.lt_of_lt_of_le hM'h.out.lt hB5.size)).trans (hB5.block _ hM'h.out.lt))), h⟩
          have hmany5 := fun W (h : Below w5.heap.size w5 W) => hmany'h.out W (hB5.trans (h.mono hB5.size))
          obtain ⟨k1, k2, k3⟩ := hkeep w5 (Below.refl _ _)
          have hB5'h := Lib.hid hB5
          have hg5'h := Lib.hid hg5
          have hM5'h := Lib.hid hM5
          have hblk5'h := Lib.hid hblk5
          have hmany5'h := Lib.hid hmany5
          have hkeep'h := Lib.hid hkeep
          clear hB5 hg5 hM5 hblk5 hmany5 hkeep
          clear cA cB c2
          go_wp2_with fail
          go_region_held3 (fun W => W.cell? ⟨w.heap.size, 0, none⟩ = some (.int .i64 nb) ∧ (Instr.lookup 42 (.map (some mb)) (.int .u64 (preOf seed nb x : Nat)) false).run Try.prog W = .ok (.int .i64 c) W ∧ Below w5.heap.size w5 W)
            (first | exact hkeep'h.out _ (by assumption) | exact hkeep'h.out _ (Below.drew (by assumption)) | (go_split_ands; first | exact hkeep'h.out _ (by assumption) | exact hkeep'h.out _ (Below.drew (by assumption)) | exact hkeep'h.out _ (below_next (by assumption) (by assumption))))
            (first | (go_at_call 25; refine (hmany5'h.out _ (by first | assumption | exact Below.drew (by assumption))).mono ?_; rintro e w7 ⟨rfl, hB7⟩))
          all_goals
            have hM7 : MapI w7 _ _ := MapI.heap (w := w5.drew) hM5'h.out (hB7.block _ hM5'h.out.lt)
            have hBf : Below w'.heap.size w' w7 := hB5'h.out.drew.trans (hB7.mono hB5'h.out.drew.size)
            clear hB7 k1 k2 k3
            go_wp2
            go_roundg (gk - 1)
            case measure => have := hj'h.out; omega
            case rel => exact ⟨k + 1, by have := hj'h.out; omega, by go_num, hBf, by rw [hnxk'h.out]; exact hM7⟩
        · have hkk : k = 8 := by omega
          have he : ks.take k = ks := List.take_of_length_le (by have := hml'h.out; omega)
          rw [he] at hMr
          have hl1 := hMm.len 3
          have hl2 := hMr.len 3
          rw [met_size] at hl2
          have hne := ne_self (msize (logOf (prefixes seed ks nb)))
          generalize msize (logOf (prefixes seed ks nb)) = sz at *
          have hBw2 := hBw3'h.out.trans (hB.mono hBw3'h.out.size)
          have hSk := hSkr
          have hS2 := hS3'h.out.below hB
          clear cA
          have hj'h := Lib.hid hj
          have hB'h := Lib.hid hB
          have hMr'h := Lib.hid hMr
          have hblkr'h := Lib.hid hblkr
          have hSkr'h := Lib.hid hSkr
          have hMm'h := Lib.hid hMm
          have he'h := Lib.hid he
          have hkk'h := Lib.hid hkk
          have hBw2'h := Lib.hid hBw2
          have hSk'h := Lib.hid hSk
          have hS2'h := Lib.hid hS2
          clear hj hB hMr hblkr hSkr hMm he hkk hBw2 hSk hS2
          go_wp2_with fail
          by_cases hb1 : a2b < 1
          · have hd1 : decide (a2b < 1) = true := by rw [decide_eq_true_eq]; exact hb1
            have hb1'h := Lib.hid hb1
            clear hb1
            go_wp2_with fail
            refine (deepest_no seed a2b _ _ hb1'h.out).mono ?_
            rintro e w5 ⟨rfl, hB5⟩
            have c5 : w5.cell? ⟨w.heap.size, 1, none⟩ = some (.int .i64 a2b) := (hB5.cell (p := ⟨w.heap.size, 1, none⟩) (lt_of_cell cB)).trans cB
            clear cB
            have hB5'h := Lib.hid hB5
            clear hB5
            go_wp2
            go_ret
            exact ⟨rfl, hBw2'h.out.trans (hB5'h.out.mono hBw2'h.out.size)⟩
          · have hd1 : decide (a2b < 1) = false := by rw [decide_eq_false_iff_not]; exact hb1
            have hb2 : 1 ≤ a2b := by omega
            have hb1'h := Lib.hid hb1
            have hb2'h := Lib.hid hb2
            clear hb1 hb2
            go_wp2_with fail
            refine (deepest_yes seed 8 kc a2b kp ks _ hs'h.out hk64'h.out hb2'h.out hSk'h.out (by omega)).mono ?_
            rintro e w5 ⟨d, rfl, hd64, hn1, hn2, hB5⟩
            have c5 : w5.cell? ⟨w.heap.size, 1, none⟩ = some (.int .i64 a2b) := (hB5.cell (p := ⟨w.heap.size, 1, none⟩) (lt_of_cell cB)).trans cB
            have R := ref_deepest seed 8 kc d a2b kp ks w5 hs'h.out hk64'h.out hb2'h.out (hSk'h.out.below hB5) (by omega) ⟨hn1, hn2⟩ hd64
            have Q := fun W hB => equal64_any kp sp 8 8 kc cap _ _ W (by rw [← u64s_ints]; exact (hSk'h.out.below hB)) (by rw [← u64s_ints]; exact (hS2'h.out.below hB))
            clear cB
            have R'h := Lib.hid R
            have hn1'h := Lib.hid hn1
            have hn2'h := Lib.hid hn2
            have hB5'h := Lib.hid hB5
            have Q'h := Lib.hid Q
            clear R hn1 hn2 hB5 Q
            go_wp2_with fail
            refine (R'h.out).mono ?_
            rintro e w6 ⟨rfl, hB6⟩
            have hB56 := hB5'h.out.trans (hB6.mono hB5'h.out.size)
            have Q6 := Q'h.out w6 hB56
            rw [equal_same] at Q6
            have e1 : ((d : Int) == (d : Int)) = true := by simp
            have Q6'h := Lib.hid Q6
            have hB56'h := Lib.hid hB56
            have hB6'h := Lib.hid hB6
            clear Q6 hB56 hB6
            go_wp2_with fail
            refine Q6'h.out.mono ?_
            rintro e w7 ⟨rfl, dq, rfl⟩
            go_wp2
            go_ret
            exact ⟨rfl, (hBw2'h.out.trans (hB56'h.out.mono hBw2'h.out.size)).trans (below_drewN' _ _)⟩
  · have hi8 : (n : Int) ≤ 8 := by omega
    have hS0 : Sl w sp n (u64s (keys.take n)) := by have := h.take n (by omega); rwa [u64s_take] at this
    have hk64 : W64 (keys.take n) := fun k hk' => hk k (List.mem_of_mem_take hk')
    have hml : (keys.take n).length = n := by rw [List.length_take]; omega
    clear hn8 h hk hlen
    generalize keys.take n = ks at *
    have hs'h := Lib.hid hs
    have hc'h := Lib.hid hc
    have hb0'h := Lib.hid hb0
    have hml'h := Lib.hid hml
    have hS0'h := Lib.hid hS0
    have hk64'h := Lib.hid hk64
    have hblk'h := Lib.hid hblk
    clear hs hc hb0 hml hS0 hk64 hblk
    go_enter Try.func7, Try.ntmps7
    go_wp2_with fail
    refine (wakes_any _).mono ?_
    rintro e w1 ⟨rfl, hb1⟩
    have hblk1 := heap_below hb1 hblk'h.out (lt_of_heap hblk'h.out)
    have hB1 := hb0'h.out.trans (hb1.mono hb0'h.out.size)
    clear hb1
    have hblk1'h := Lib.hid hblk1
    have hB1'h := Lib.hid hB1
    clear hblk1 hB1
    go_wp2_with fail
    refine (clone64_any sp n cap (u64s ks) w1 (by omega) (oneCell_u64s _) hc'h.out (hS0'h.out.below hB1'h.out)).mono ?_
    rintro e w2 ⟨kp, kc, rfl, hB2, hrow2⟩
    have hSk := Sl.of_row hrow2 (by unfold maxLen; omega)
    have hblk2 := heap_below hB2 hblk1'h.out (lt_of_heap hblk1'h.out)
    have hBw2 := hB1'h.out.trans (hB2.mono hB1'h.out.size)
    have cA : w2.cell? ⟨w.heap.size, 0, none⟩ = some (.int .i64 a2a) := blk_cell hblk2 rfl
    have cB : w2.cell? ⟨w.heap.size, 1, none⟩ = some (.int .i64 a2b) := blk_cell (i := 1) hblk2 rfl
    have hS2 := hS0'h.out.below hBw2
    clear hB2
    cases hmay : mayN a2a with
    | false =>
      have C := crowd_no seed a2a (.slice kp n kc) w2 hmay
      have M := ref_may a2a w2
      rw [hmay] at M
      have C'h := Lib.hid C
      have M'h := Lib.hid M
      have hSk'h := Lib.hid hSk
      have hrow2'h := Lib.hid hrow2
      have hS2'h := Lib.hid hS2
      have hBw2'h := Lib.hid hBw2
      have hmay'h := Lib.hid hmay
      have hblk2'h := Lib.hid hblk2
      clear C M hSk hrow2 hS2 hBw2 hmay hblk2
      go_wp2_with fail
      refine (C'h.out).mono ?_
      rintro e w' ⟨rfl, rfl⟩
      go_wp2_with fail
      refine (M'h.out).mono ?_
      rintro e w' ⟨rfl, rfl⟩
      clear cA
      by_cases hb1 : a2b < 1
      · have hd1 : decide (a2b < 1) = true := by rw [decide_eq_true_eq]; exact hb1
        have hb1'h := Lib.hid hb1
        clear hb1
        go_wp2_with fail
        refine (deepest_no seed a2b _ _ hb1'h.out).mono ?_
        rintro e w5 ⟨rfl, hB5⟩
        have c5 : w5.cell? ⟨w.heap.size, 1, none⟩ = some (.int .i64 a2b) := (hB5.cell (p := ⟨w.heap.size, 1, none⟩) (lt_of_cell cB)).trans cB
        clear cB
        have hB5'h := Lib.hid hB5
        clear hB5
        go_wp2
        go_ret
        exact ⟨rfl, hBw2'h.out.trans (hB5'h.out.mono hBw2'h.out.size)⟩
      · have hd1 : decide (a2b < 1) = false := by rw [decide_eq_false_iff_not]; exact hb1
        have hb2 : 1 ≤ a2b := by omega
        have hb1'h := Lib.hid hb1
        have hb2'h := Lib.hid hb2
        clear hb1 hb2
        go_wp2_with fail
        refine (deepest_yes seed n kc a2b kp ks _ hs'h.out hk64'h.out hb2'h.out hSk'h.out (by omega)).mono ?_
        rintro e w5 ⟨d, rfl, hd64, hn1, hn2, hB5⟩
        have c5 : w5.cell? ⟨w.heap.size, 1, none⟩ = some (.int .i64 a2b) := (hB5.cell (p := ⟨w.heap.size, 1, none⟩) (lt_of_cell cB)).trans cB
        have R := ref_deepest seed n kc d a2b kp ks w5 hs'h.out hk64'h.out hb2'h.out (hSk'h.out.below hB5) (by omega) ⟨hn1, hn2⟩ hd64
        have Q := fun W hB => equal64_any kp sp n n kc cap _ _ W (by rw [← u64s_ints]; exact (hSk'h.out.below hB)) (by rw [← u64s_ints]; exact (hS2'h.out.below hB))
        clear cB
        have R'h := Lib.hid R
        have hn1'h := Lib.hid hn1
        have hn2'h := Lib.hid hn2
        have hB5'h := Lib.hid hB5
        have Q'h := Lib.hid Q
        clear R hn1 hn2 hB5 Q
        go_wp2_with fail
        refine (R'h.out).mono ?_
        rintro e w6 ⟨rfl, hB6⟩
        have hB56 := hB5'h.out.trans (hB6.mono hB5'h.out.size)
        have Q6 := Q'h.out w6 hB56
        rw [equal_same] at Q6
        have e1 : ((d : Int) == (d : Int)) = true := by simp
        have Q6'h := Lib.hid Q6
        have hB56'h := Lib.hid hB56
        have hB6'h := Lib.hid hB6
        clear Q6 hB56 hB6
        go_wp2_with fail
        refine Q6'h.out.mono ?_
        rintro e w7 ⟨rfl, dq, rfl⟩
        go_wp2
        go_ret
        exact ⟨rfl, (hBw2'h.out.trans (hB56'h.out.mono hBw2'h.out.size)).trans (below_drewN' _ _)⟩
    | true =>
      have hx : 0 ≤ a2a ∧ a2a ≤ 64 := by unfold mayN at hmay; simpa using hmay
      obtain ⟨nb, rfl⟩ : ∃ nb : Nat, a2a = (nb : Int) := ⟨a2a.toNat, by omega⟩
      have hnb : nb ≤ 64 := by omega
      have C := crowd_yes seed nb n kc kp ks w2 hs'h.out hk64'h.out hnb hSk (by omega)
      have C'h := Lib.hid C
      have hSk'h := Lib.hid hSk
      have hrow2'h := Lib.hid hrow2
      have hS2'h := Lib.hid hS2
      have hBw2'h := Lib.hid hBw2
      have hmay'h := Lib.hid hmay
      have hblk2'h := Lib.hid hblk2
      have hx'h := Lib.hid hx
      clear C hSk hrow2 hS2 hBw2 hmay hblk2 hx
      go_wp2_with fail
      refine (C'h.out).mono ?_
      rintro e w3 ⟨mb, rfl, hmb, hM, hB3⟩
      have M := ref_may nb w3
      rw [hmay'h.out] at M
      have hblk3 := heap_below hB3 hblk2'h.out (lt_of_heap hblk2'h.out)
      have hS3 := hS2'h.out.below hB3
      have hSk3 := hSk'h.out.below hB3
      have hBw3 := hBw2'h.out.trans (hB3.mono hBw2'h.out.size)
      have cA : w3.cell? ⟨w.heap.size, 0, none⟩ = some (.int .i64 nb) := blk_cell hblk3 rfl
      have hsz3 := lt_of_heap hblk3
      clear hB3 hmb C'h hSk'h hrow2'h hS2'h hBw2'h hblk2'h
      have M'h := Lib.hid M
      have hM'h := Lib.hid hM
      have hblk3'h := Lib.hid hblk3
      have hS3'h := Lib.hid hS3
      have hSk3'h := Lib.hid hSk3
      have hBw3'h := Lib.hid hBw3
      clear M hM hblk3 hS3 hSk3 hBw3
      go_wp2_with fail
      refine (M'h.out).mono ?_
      rintro e w' ⟨rfl, rfl⟩
      go_wp2_with fail
      have hmet := MapI.made w'
      have hB4 : Below w'.heap.size w' (w'.alloc (.map #[] 0)) := (Below.refl _ _).alloc (Nat.le_refl _) _
      have hnx := fun k (h : k < ks.length) => met_next (seed := seed) (nb := nb) h
      have hmlen := fun k => met_length seed nb (ks.take k)
      have hmet'h := Lib.hid hmet
      have hB4'h := Lib.hid hB4
      have hnx'h := Lib.hid hnx
      have hmlen'h := Lib.hid hmlen
      clear hmet hB4 hnx hmlen
      obtain ⟨W4, hW4⟩ : ∃ W4, W4 = w'.alloc (.map #[] 0) := ⟨_, rfl⟩
      rw [← hW4] at hmet'h hB4'h ⊢
      have hW4'h := Lib.hid hW4
      clear hW4
      clear cA
      go_loopg [46] n (fun q i wr => ∃ k : Nat, k + q = n ∧ i = .int .i64 k ∧ Below w'.heap.size w' wr ∧ MapI wr w'.heap.size (metLog seed nb (ks.take k)))
      case atStart => exact ⟨0, by omega, rfl, hB4'h.out, hmet'h.out⟩
      case round =>
        obtain ⟨k, hj, rfl, hB, hMr⟩ := hrel
        have hblkr := heap_below hB hblk3'h.out hsz3
        have hSkr := hSk3'h.out.below hB
        have hMm := hM'h.out.heap (hB.block _ hM'h.out.lt)
        have cA : wr.cell? ⟨w.heap.size, 0, none⟩ = some (.int .i64 nb) := blk_cell hblkr rfl
        have cB : wr.cell? ⟨w.heap.size, 1, none⟩ = some (.int .i64 a2b) := blk_cell (i := 1) hblkr rfl
        by_cases hlt : k < n
        · have hkl : k < ks.length := by have := hml'h.out; omega
          obtain ⟨ab, aoff, rfl, hcs⟩ := hSkr.some' (by omega)
          have c2 : wr.cell? ⟨ab, aoff + k, none⟩ = some (.int .u64 (nthN ks k)) := hcs k _ (u64s_at hkl)
          have hx64 : nthN ks k < 2 ^ 64 := hk64'h.out _ (nthN_mem hkl)
          have hnxk := hnx'h.out k hkl
          have hmk := hmlen'h.out k
          rw [List.length_take] at hmk
          generalize nthN ks k = x at *
          have O := fun w => ref_of seed x w hs'h.out hx64
          have P := fun w => ref_prefix (hOf seed x) nb w (hOf_lt _ _) hnb
          have hd : hPrefix (hOf seed x) nb = preOf seed nb x := rfl
          rw [hd] at P
          have hlk := fun w (h : MapI w mb (logOf (prefixes seed ks nb))) => h.look (preOf seed nb x) (preOf_lt _ _ _)
          rw [mget_log, show (prefixes seed ks nb).count (preOf seed nb x) = manyN seed nb ks x from rfl] at hlk
          have hmany := fun w (h : Below w'.heap.size w' w) => ref_many seed nb x n kc (some ⟨ab, aoff, none⟩) ks w hs'h.out hx64 hnb hk64'h.out (hSk3'h.out.below h) (by omega)
          have hne := ne_self (manyN seed nb ks x)
          clear hcs hd
          generalize hOf seed x = y at *
          generalize manyN seed nb ks x = c at *
          have hpl := preOf_lt seed nb x
          clear hblkr hSkr hMm
          have hj'h := Lib.hid hj
          have hB'h := Lib.hid hB
          have hMr'h := Lib.hid hMr
          have hnxk'h := Lib.hid hnxk
          have O'h := Lib.hid O
          have P'h := Lib.hid P
          have hmk'h := Lib.hid hmk
          have hpl'h := Lib.hid hpl
          have hlk'h := Lib.hid hlk
          have hmany'h := Lib.hid hmany
          clear hj hB hMr hnxk O P hmk hpl hlk hmany
          go_wp2_with fail
          go_quiet ((first | (go_at_call 11; exact Calls.quiet_of_same (O'h.out _)) | (go_at_call 20; exact Calls.quiet_of_same (P'h.out _))))
          obtain ⟨w5, hput, hM5, hg5⟩ := (hMr'h.out.drewN nq).put (preOf seed nb x) 1 hpl'h.out (by decide) (by rw [hmk'h.out]; unfold maxLen; omega)
          have hB5 : Below w'.heap.size w' w5 := (hB'h.out.trans (below_drewN' wr nq)).grown hg5 hB'h.out.size (fun j hj => by injection hj with hj; omega)
          have hblk5 := heap_below hB5 hblk3'h.out hsz3
          have cA5 : w5.cell? ⟨w.heap.size, 0, none⟩ = some (.int .i64 nb) := blk_cell hblk5 rfl
          have hkeep : ∀ W : World, Below w5.heap.size w5 W → (W.cell? ⟨w.heap.size, 0, none⟩ = some (.int .i64 nb) ∧ (Instr.lookup 42 (.map (some mb)) (.int .u64 (preOf seed nb x : Nat)) false).run Try.prog W = .ok (.int .i64 c) W ∧ Below w5.heap.size w5 W) := fun W h =>
            ⟨(h.cell (p := ⟨w.heap.size, 0, none⟩) (lt_of_cell cA5)).trans cA5, hlk'h.out W (hM'h.out.heap ((h.block _ (Nat.lt_of_lt_of_le hM'h.out.lt hB5.size)).trans (hB5.block _ hM'h.out.lt))), h⟩
          have hmany5 := fun W (h : Below w5.heap.size w5 W) => hmany'h.out W (hB5.trans (h.mono hB5.size))
          obtain ⟨k1, k2, k3⟩ := hkeep w5 (Below.refl _ _)
          have hB5'h := Lib.hid hB5
          have hg5'h := Lib.hid hg5
          have hM5'h := Lib.hid hM5
          have hblk5'h := Lib.hid hblk5
          have hmany5'h := Lib.hid hmany5
          have hkeep'h := Lib.hid hkeep
          clear hB5 hg5 hM5 hblk5 hmany5 hkeep
          clear cA cB c2
          go_wp2_with fail
          go_region_held3 (fun W => W.cell? ⟨w.heap.size, 0, none⟩ = some (.int .i64 nb) ∧ (Instr.lookup 42 (.map (some mb)) (.int .u64 (preOf seed nb x : Nat)) false).run Try.prog W = .ok (.int .i64 c) W ∧ Below w5.heap.size w5 W)
            (first | exact hkeep'h.out _ (by assumption) | exact hkeep'h.out _ (Below.drew (by assumption)) | (go_split_ands; first | exact hkeep'h.out _ (by assumption) | exact hkeep'h.out _ (Below.drew (by assumption)) | exact hkeep'h.out _ (below_next (by assumption) (by assumption))))
            (first | (go_at_call 25; refine (hmany5'h.out _ (by first | assumption | exact Below.drew (by assumption))).mono ?_; rintro e w7 ⟨rfl, hB7⟩))
          all_goals
            have hM7 : MapI w7 _ _ := MapI.heap (w := w5.drew) hM5'h.out (hB7.block _ hM5'h.out.lt)
            have hBf : Below w'.heap.size w' w7 := hB5'h.out.drew.trans (hB7.mono hB5'h.out.drew.size)
            clear hB7 k1 k2 k3
            go_wp2
            go_roundg (gk - 1)
            case measure => have := hj'h.out; omega
            case rel => exact ⟨k + 1, by have := hj'h.out; omega, by go_num, hBf, by rw [hnxk'h.out]; exact hM7⟩
        · have hkk : k = n := by omega
          have he : ks.take k = ks := List.take_of_length_le (by have := hml'h.out; omega)
          rw [he] at hMr
          have hl1 := hMm.len 3
          have hl2 := hMr.len 3
          rw [met_size] at hl2
          have hne := ne_self (msize (logOf (prefixes seed ks nb)))
          generalize msize (logOf (prefixes seed ks nb)) = sz at *
          have hBw2 := hBw3'h.out.trans (hB.mono hBw3'h.out.size)
          have hSk := hSkr
          have hS2 := hS3'h.out.below hB
          clear cA
          have hj'h := Lib.hid hj
          have hB'h := Lib.hid hB
          have hMr'h := Lib.hid hMr
          have hblkr'h := Lib.hid hblkr
          have hSkr'h := Lib.hid hSkr
          have hMm'h := Lib.hid hMm
          have he'h := Lib.hid he
          have hkk'h := Lib.hid hkk
          have hBw2'h := Lib.hid hBw2
          have hSk'h := Lib.hid hSk
          have hS2'h := Lib.hid hS2
          clear hj hB hMr hblkr hSkr hMm he hkk hBw2 hSk hS2
          go_wp2_with fail
          by_cases hb1 : a2b < 1
          · have hd1 : decide (a2b < 1) = true := by rw [decide_eq_true_eq]; exact hb1
            have hb1'h := Lib.hid hb1
            clear hb1
            go_wp2_with fail
            refine (deepest_no seed a2b _ _ hb1'h.out).mono ?_
            rintro e w5 ⟨rfl, hB5⟩
            have c5 : w5.cell? ⟨w.heap.size, 1, none⟩ = some (.int .i64 a2b) := (hB5.cell (p := ⟨w.heap.size, 1, none⟩) (lt_of_cell cB)).trans cB
            clear cB
            have hB5'h := Lib.hid hB5
            clear hB5
            go_wp2
            go_ret
            exact ⟨rfl, hBw2'h.out.trans (hB5'h.out.mono hBw2'h.out.size)⟩
          · have hd1 : decide (a2b < 1) = false := by rw [decide_eq_false_iff_not]; exact hb1
            have hb2 : 1 ≤ a2b := by omega
            have hb1'h := Lib.hid hb1
            have hb2'h := Lib.hid hb2
            clear hb1 hb2
            go_wp2_with fail
            refine (deepest_yes seed n kc a2b kp ks _ hs'h.out hk64'h.out hb2'h.out hSk'h.out (by omega)).mono ?_
            rintro e w5 ⟨d, rfl, hd64, hn1, hn2, hB5⟩
            have c5 : w5.cell? ⟨w.heap.size, 1, none⟩ = some (.int .i64 a2b) := (hB5.cell (p := ⟨w.heap.size, 1, none⟩) (lt_of_cell cB)).trans cB
            have R := ref_deepest seed n kc d a2b kp ks w5 hs'h.out hk64'h.out hb2'h.out (hSk'h.out.below hB5) (by omega) ⟨hn1, hn2⟩ hd64
            have Q := fun W hB => equal64_any kp sp n n kc cap _ _ W (by rw [← u64s_ints]; exact (hSk'h.out.below hB)) (by rw [← u64s_ints]; exact (hS2'h.out.below hB))
            clear cB
            have R'h := Lib.hid R
            have hn1'h := Lib.hid hn1
            have hn2'h := Lib.hid hn2
            have hB5'h := Lib.hid hB5
            have Q'h := Lib.hid Q
            clear R hn1 hn2 hB5 Q
            go_wp2_with fail
            refine (R'h.out).mono ?_
            rintro e w6 ⟨rfl, hB6⟩
            have hB56 := hB5'h.out.trans (hB6.mono hB5'h.out.size)
            have Q6 := Q'h.out w6 hB56
            rw [equal_same] at Q6
            have e1 : ((d : Int) == (d : Int)) = true := by simp
            have Q6'h := Lib.hid Q6
            have hB56'h := Lib.hid hB56
            have hB6'h := Lib.hid hB6
            clear Q6 hB56 hB6
            go_wp2_with fail
            refine Q6'h.out.mono ?_
            rintro e w7 ⟨rfl, dq, rfl⟩
            go_wp2
            go_ret
            exact ⟨rfl, (hBw2'h.out.trans (hB56'h.out.mono hBw2'h.out.size)).trans (below_drewN' _ _)⟩
end Go.Proofs.Ytpfpgjfcomkdgaa
