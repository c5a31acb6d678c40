/-
  The document's crowds of layer 7, each function by its contract; the library's Clone and Equal.
-/
import Derived.Test.YtpfpgjfcomkdgaaRef07B
import Derived.Test.YtpfpgjfcomkdgaaHashE
set_option linter.unusedSimpArgs false
set_option linter.unusedVariables false
namespace Go.Proofs.Ytpfpgjfcomkdgaa
open Go.RowKit Go.Maps

/-! ### slices.Clone at []uint64 -/
theorem info_clone64 : (Try.prog.info? 22).map (fun i => (i.zero, i.size, i.bytes)) = some (some (.int .u64 0), 1, 8) := by kernel_rfl
theorem clone64_nil (w : World) : Calls Try.prog 23 #[.slice none 0 0] w fun e w' => e = .returned (.slice none 0 0) ∧ w' = w := by
  have hnil := Lib.run_eql_slice_nil (P := Try.prog)
  go_enter Try.func23, Try.ntmps23
  go_wp2
  go_ret
  exact ⟨rfl, rfl⟩
theorem clone64_some (ad : Addr) (n cap : Nat) (vs : List Value) (w : World) (hn : n ≤ 4096) (hone : ∀ v ∈ vs, v.oneCell' = true) (h : Sl w (some ad) n vs) :
    Calls Try.prog 23 #[.slice (some ad) n cap] w fun e w' => ∃ sp' cap', e = .returned (.slice sp' n cap') ∧ Below w.heap.size w w' ∧ w'.ownsRow w.heap.size 22 1 (.slice sp' n cap') n vs := by
  have hnil := Lib.run_eql_slice_nil (P := Try.prog)
  obtain ⟨i0, hi, hz0, hz1, hz2⟩ := info_parts info_clone64
  have hown0 : (w.alloc (.cells #[] 22)).ownsRow w.heap.size 22 1 (.slice (some ⟨w.heap.size, 0, none⟩) 0 0) 0 [] :=
    ⟨rfl, .inr ⟨w.heap.size, 0, #[], rfl, Nat.le_refl _, World.alloc_heap_new _ _, Nat.le_refl _, Nat.zero_le _, rfl, rfl⟩⟩
  have hl := h.1
  have hcs : ∀ j u, vs[j]? = some u → (w.alloc (.cells #[] 22)).cell? (ad.add j) = some u := by
    intro j u hu
    have hj : j < vs.length := (List.getElem?_eq_some_iff.1 hu).1
    obtain ⟨b, off, he, hc⟩ := h.some' (by omega)
    cases he
    have hadd : (⟨b, off, none⟩ : Addr).add j = ⟨b, off + j, none⟩ := by unfold Addr.add; split <;> simp_all
    rw [hadd]
    exact keep_alloc _ _ _ _ (hc j u hu)
  have hcs'h := Lib.hid hcs
  have hl'h := Lib.hid hl
  have hone'h := Lib.hid hone
  clear hcs hl hone
  clear h
  go_enter Try.func23, Try.ntmps23
  go_wp2_with (at_builtin; refine wpList_append_own _ rfl (.tmp 5) (.tmp 6) 23 rfl w.heap.size 22 i0 (.int .u64 0) 1 8 Try.underlying23 hi hz0 hz1 hz2 rfl (by decide) _ 0 [] rfl hown0 ad n cap vs rfl (by rw [← hl'h.out]; omega) hcs'h.out hone'h.out (by unfold maxLen; omega) (by omega) (by simp) ?_; intro v' w1 hown' hgrow hwh)
  rw [Nat.zero_add, List.nil_append] at hown'
  obtain ⟨sp', cap', rfl⟩ := row_slice' hown'
  have hown''h := Lib.hid hown'
  have hwh'h := Lib.hid hwh
  clear hown' hwh
  go_wp2
  go_ret
  exact ⟨sp', cap', rfl, ((Below.refl _ w).alloc (Nat.le_refl _) _).grown hgrow (by simp) (fun j hj => by cases hj; exact Nat.le_refl _), hown''h.out⟩
theorem clone64_any (sp : Option Addr) (n cap : Nat) (vs : List Value) (w : World) (hn : n ≤ 4096) (hone : ∀ v ∈ vs, v.oneCell' = true) (hc : sp = none → cap = 0) (h : Sl w sp n vs) :
    Calls Try.prog 23 #[.slice sp n cap] w fun e w' => ∃ sp' cap', e = .returned (.slice sp' n cap') ∧ Below w.heap.size w w' ∧ w'.ownsRow w.heap.size 22 1 (.slice sp' n cap') n vs := by
  cases sp with
  | some ad => exact clone64_some ad n cap vs w hn hone h
  | none =>
    obtain rfl : cap = 0 := hc rfl
    have h0 : n = 0 := by
      rcases h.2.2 with h0 | ⟨b, off, he, _⟩
      · exact h0
      · cases he
    subst h0
    have hl : vs = [] := List.eq_nil_of_length_eq_zero h.1.symm
    refine (clone64_nil w).mono ?_
    rintro e w' ⟨rfl, rfl⟩
    exact ⟨none, 0, rfl, Below.refl _ _, by rw [hl]; exact World.ownsRow_nil _ _ _ _⟩
/-! ### slices.Equal at []uint64, of one kind of numbers -/
theorem equal64_any (sp sp' : Option Addr) (n n' cap cap' : Nat) (l l' : List Int) (w : World) (h : Sl w sp n (l.map (Value.int .u64))) (h' : Sl w sp' n' (l'.map (Value.int .u64))) :
    Calls Try.prog 28 #[.slice sp n cap, .slice sp' n' cap'] w fun e w' => e = .returned (.bool (l == l')) ∧ ∃ d, w' = w.drewN d := by
  have hlen : n = l.length := by have := h.1; simpa using this
  have hlen' : n' = l'.length := by have := h'.1; simpa using this
  have hmax := h.2.1
  unfold maxLen at hmax
  by_cases hnn : n = n'
  · subst hnn
    have hne : ((n : Int) != (n : Int)) = false := by simp
    have hlen'h := Lib.hid hlen
    have hlen''h := Lib.hid hlen'
    have h'h := Lib.hid h
    have h''h := Lib.hid h'
    clear hlen hlen' h h'
    go_enter Try.func28, Try.ntmps28
    go_wp2
    go_loopg [13] n (fun q i wr => ∃ k : Nat, k + q = n ∧ i = .int .i64 k ∧ (∀ j, j < k → nthZ l j = nthZ l' j) ∧ ∃ d, wr = w.drewN d)
    case atStart => exact ⟨0, by omega, rfl, fun j hj => by omega, 0, rfl⟩
    case round =>
      obtain ⟨k, hk, rfl, hall, d, rfl⟩ := hrel
      have hkn : k ≤ n := by omega
      have hk'h := Lib.hid hk
      have hall'h := Lib.hid hall
      clear hk hall
      by_cases hlt : k < n
      · obtain ⟨b, off, rfl, hc1⟩ := h'h.out.some' (by omega)
        obtain ⟨b', off', rfl, hc2⟩ := h''h.out.some' (by omega)
        have hkl : k < l.length := by have := hlen'h.out; omega
        have hkl' : k < l'.length := by have := hlen''h.out; omega
        have c1 := hc1 k _ (i64s_at hkl)
        have c2 := hc2 k _ (i64s_at hkl')
        have c1' : ∀ q, (w.drewN q).cell? ⟨b, off + k, none⟩ = some (.int .u64 (nthZ l k)) := fun q => c1
        have c2' : ∀ q, (w.drewN q).cell? ⟨b', off' + k, none⟩ = some (.int .u64 (nthZ l' k)) := fun q => c2
        have i1 : (k : Int) < (n : Int) := by omega
        have i2 : (0 : Int) ≤ (k : Int) := by omega
        clear hc1 hc2
        by_cases he : nthZ l k = nthZ l' k
        · have hx : (nthZ l k != nthZ l' k) = false := by simp [he]
          have he'h := Lib.hid he
          clear he
          go_wp2_with fail
          go_quiet (fail)
          go_wp2
          go_roundg (gk - 1)
          case measure => have := hk'h.out; omega
          case rel =>
            refine ⟨k + 1, by have := hk'h.out; omega, by go_num, fun j hj => ?_, d + nq, rfl⟩
            by_cases e : j = k
            · rw [e]; exact he'h.out
            · exact hall'h.out j (by omega)
        · have hx : (nthZ l k != nthZ l' k) = true := by simp [he]
          have hf : (l == l') = false := by
            rw [beq_eq_false_iff_ne]; intro e; exact he (by rw [e])
          have he'h := Lib.hid he
          have hf'h := Lib.hid hf
          clear he hf
          go_wp2_with fail
          go_quiet (fail)
          go_wp2
          go_ret
          exact ⟨ret_bool hf'h.out.symm, d + nq, by first | rfl | exact World.drewN_drewN ..⟩
      · have hn : ¬ (k : Int) < (n : Int) := by omega
        have ht : (l == l') = true := by
          rw [beq_iff_eq]
          refine List.ext_getElem (by have := hlen'h.out; have := hlen''h.out; omega) fun j h1 h2 => ?_
          rw [nthZ_eq h1, nthZ_eq h2]
          exact hall'h.out j (by have := hlen'h.out; omega)
        have ht'h := Lib.hid ht
        clear ht
        go_wp2
        go_ret
        exact ⟨ret_bool ht'h.out.symm, d, rfl⟩
  · have hne : ((n : Int) != (n' : Int)) = true := by simp; omega
    have hf : (l == l') = false := by
      rw [beq_eq_false_iff_ne]; intro e; subst e; omega
    have hlen'h := Lib.hid hlen
    have hlen''h := Lib.hid hlen'
    have h'h := Lib.hid h
    have h''h := Lib.hid h'
    have hnn'h := Lib.hid hnn
    have hf'h := Lib.hid hf
    clear hlen hlen' h h' hnn hf
    go_enter Try.func28, Try.ntmps28
    go_wp2
    go_ret
    exact ⟨ret_bool hf'h.out.symm, 0, rfl⟩

theorem info_u64' : (Try.prog.info? 22).map (fun i => (i.zero, i.size, i.bytes)) = some (some (.int .u64 0), 1, 8) := by kernel_rfl
theorem once_le_take (keys : List Nat) (j : Nat) : (onceL (keys.take j)).length ≤ j := Nat.le_trans (once_length_le _) (List.length_take_le _ _)
set_option maxHeartbeats 1000000 in
theorem ref_once (sp : Option Addr) (n cap : Nat) (keys : List Nat) (w : World) (hk : W64 keys) (h : Sl w sp n (u64s keys)) (hn : n ≤ 4096) :
    Calls Try.prog 45 #[.slice sp n cap] w fun e w' => ∃ sp' cap', e = .returned (.slice sp' (onceL keys).length cap') ∧ Below w.heap.size w w' ∧ w'.ownsRow w.heap.size 22 1 (.slice sp' (onceL keys).length cap') (onceL keys).length (u64s (onceL keys)) := by
  obtain ⟨i0, hi, hz0, hz1, hz2⟩ := info_parts info_u64'
  have hlen : n = keys.length := by have := h.1; simpa [u64s] using this
  have hk'h := Lib.hid hk
  have h'h := Lib.hid h
  have hlen'h := Lib.hid hlen
  clear hk h hlen
  go_enter Try.func45, Try.ntmps45
  go_wp2
  go_loopg [3, 11] n (fun q v i wr => ∃ j : Nat, j + q = n ∧ i = .int .i64 j ∧ Below w.heap.size w wr ∧ wr.ownsRow w.heap.size 22 1 v (onceL (keys.take j)).length (u64s (onceL (keys.take j))))
  case atStart => exact ⟨0, by omega, rfl, Below.refl _ _, World.ownsRow_nil _ _ _ _⟩
  case round =>
    obtain ⟨j, hj, rfl, hB, hrow⟩ := hrel
    obtain ⟨gq, hgq⟩ : ∃ g : Nat, g = gk := ⟨gk, rfl⟩
    have hgq'h := Lib.hid hgq
    clear hgq
    have hjn : j ≤ n := by omega
    have hsz := hB.size
    have hll := once_le_take keys j
    obtain ⟨sp1, cap1, rfl⟩ := row_slice' hrow
    by_cases hlt : j < n
    · have hjk : j < keys.length := by have := hlen'h.out; omega
      obtain ⟨kb, off, rfl, hcs⟩ := (h'h.out.below hB).some' (by omega)
      have c1 : wr.cell? ⟨kb, off + j, none⟩ = some (.int .u64 (nthN keys j)) := hcs j _ (u64s_at hjk)
      have hnew := fun h => once_next_new hjk h
      have hmem := fun h => once_next_mem hjk h
      have hx64 : nthN keys j < 2 ^ 64 := hk'h.out _ (nthN_mem hjk)
      have hin : ∀ x, x ∈ onceL (keys.take j) ↔ x ∈ keys.take j := fun x => mem_onceL
      have hacc64 : W64 (onceL (keys.take j)) := fun k hk => hk'h.out k (List.mem_of_mem_take (mem_onceL.1 hk))
      clear hcs
      generalize nthN keys j = x at *
      generalize onceL (keys.take j) = acc at *
      have hsl := Sl.of_row hrow (by unfold maxLen; omega)
      have hlm : acc.length ≤ 4096 := by omega
      have hj'h := Lib.hid hj
      have hB'h := Lib.hid hB
      have hrow'h := Lib.hid hrow
      have hnew'h := Lib.hid hnew
      have hmem'h := Lib.hid hmem
      have hin'h := Lib.hid hin
      have hsl'h := Lib.hid hsl
      have hll'h := Lib.hid hll
      have hjk'h := Lib.hid hjk
      have hacc64'h := Lib.hid hacc64
      clear hj hB hrow hnew hmem hin hsl hll hjk hacc64
      go_wp2
      go_loopg [6, 17] acc.length (fun q t i wi => ∃ k : Nat, k + q = acc.length ∧ i = .int .i64 k ∧ t = .bool ((acc.take k).contains x) ∧ wi = wr)
      case atStart => exact ⟨0, by omega, rfl, rfl, rfl⟩
      case round =>
        obtain ⟨k, hk, rfl, rfl, rfl⟩ := hrel
        by_cases hlk : k < acc.length
        · obtain ⟨ab, aoff, rfl, hcs⟩ := hsl'h.out.some' (by omega)
          have c2 : wr.cell? ⟨ab, aoff + k, none⟩ = some (.int .u64 (nthN acc k)) := hcs k _ (u64s_at hlk)
          have hs : (acc.take (k + 1)).contains x = ((acc.take k).contains x || (nthN acc k == x)) := by
            rw [take_next hlk, Bool.eq_iff_iff, Bool.or_eq_true, List.contains_iff_mem, List.contains_iff_mem, List.mem_append, List.mem_singleton, beq_iff_eq]; exact or_congr Iff.rfl eq_comm
          have hbe : ((nthN acc k : Int) == (x : Int)) = (nthN acc k == x) := by rw [Bool.eq_iff_iff, beq_iff_eq, beq_iff_eq]; omega
          clear hcs
          cases hv : (acc.take k).contains x
          all_goals
            rw [hv] at hs
            simp only [Bool.false_or, Bool.true_or] at hs
            have hk'h := Lib.hid hk
            have hs'h := Lib.hid hs
            have hbe'h := Lib.hid hbe
            have hv'h := Lib.hid hv
            clear hk hs hbe hv
            go_wp2
            go_roundg (gk - 1)
            case measure => have := hk'h.out; omega
            case rel => exact ⟨k + 1, by have := hk'h.out; omega, by go_num, by rw [hs'h.out] <;> exact congrArg Value.bool hbe'h.out, rfl⟩
        · have hkk : acc.take k = acc := List.take_of_length_le (by omega)
          rw [hkk]
          cases hv : acc.contains x with
          | true =>
            have hno : onceL (keys.take (j + 1)) = acc := by
              rw [hmem'h.out ((hin'h.out x).1 (by simpa using hv))]
            have hk'h := Lib.hid hk
            have hno'h := Lib.hid hno
            have hv'h := Lib.hid hv
            have hkk'h := Lib.hid hkk
            clear hk hno hv hkk
            go_wp2
            go_roundg (gq - 1)
            case measure => have := hj'h.out; have := hgq'h.out; omega
            case rel => exact ⟨j + 1, by have := hj'h.out; have := hgq'h.out; omega, by go_num, hB'h.out, by rw [hno'h.out]; exact hrow'h.out⟩
          | false =>
            have hyes : onceL (keys.take (j + 1)) = acc ++ [x] := by
              rw [hnew'h.out (fun h => by have := (hin'h.out x).2 h; simp [this] at hv)]
            have hk'h := Lib.hid hk
            have hv'h := Lib.hid hv
            have hkk'h := Lib.hid hkk
            clear hk hv hkk
            go_wp2_with (first | (at_builtin; refine wpList_append _ rfl (.tmp 30) (.tmp 32) 23 rfl w.heap.size 22 i0 (.int .u64 0) 1 8 Try.underlying23 hi hz0 hz1 hz2 rfl (by decide) _ acc.length _ rfl (hrow'h.out.alloc _) ⟨_, 0, none⟩ 1 1 [.int .u64 x] rfl rfl (cell_one_new _ _ _) (by simp [Value.oneCell']) (by unfold maxLen; omega) (by omega) (by simp; omega) (by decide) ?_; intro v' w1 hown' hgrow hwh))
            go_roundg (gq - 1)
            case measure => have := hj'h.out; have := hgq'h.out; omega
            case rel =>
              refine ⟨j + 1, by have := hj'h.out; have := hgq'h.out; omega, by go_num, (hB'h.out.alloc hsz _).grown hgrow (by simp; omega) (fun j hj => (hrow'h.out.lt j hj).1), ?_⟩
              rw [hyes, u64s_snoc, List.length_append]
              exact hown'
    · obtain rfl : n = j := by omega
      have he : keys.take n = keys := List.take_of_length_le (by have := hlen'h.out; omega)
      rw [he] at hrow
      have hj'h := Lib.hid hj
      have he'h := Lib.hid he
      have hrow'h := Lib.hid hrow
      have hB'h := Lib.hid hB
      have hll'h := Lib.hid hll
      clear hj he hrow hB hll
      go_wp2
      go_ret
      rw [he'h.out]
      exact ⟨sp1, cap1, rfl, hB'h.out, hrow'h.out⟩

def preOf (seed nb key : Nat) : Nat := hPrefix (hOf seed key) nb
def manyN (seed nb : Nat) (keys : List Nat) (key : Nat) : Nat := (prefixes seed keys nb).count (preOf seed nb key)
theorem prefixes_eq (seed : Nat) (keys : List Nat) (nb : Nat) : prefixes seed keys nb = (onceL keys).map (preOf seed nb) := by
  unfold prefixes hashesOf preOf; rw [List.map_map]; rfl
def manyK (seed nb : Nat) (l : List Nat) (key k : Nat) : Nat := ((l.take k).map (preOf seed nb)).count (preOf seed nb key)
theorem manyK_next {seed nb : Nat} {l : List Nat} {key k : Nat} (h : k < l.length) : manyK seed nb l key (k + 1) = manyK seed nb l key k + (if preOf seed nb (nthN l k) == preOf seed nb key then 1 else 0) := by
  unfold manyK; rw [take_next h, List.map_append, List.count_append, List.map_cons, List.map_nil, List.count_singleton]
theorem manyK_le {seed nb : Nat} {l : List Nat} {key k : Nat} : manyK seed nb l key k ≤ k := Nat.le_trans List.count_le_length (by rw [List.length_map]; exact List.length_take_le _ _)
set_option maxHeartbeats 1000000 in
theorem ref_many (seed nb key n cap : Nat) (sp : Option Addr) (keys : List Nat) (w : World) (hs : seed < 2 ^ 64) (hkey : key < 2 ^ 64) (hnb : nb ≤ 64) (hk : W64 keys) (h : Sl w sp n (u64s keys)) (hn : n ≤ 4096) :
    Calls Try.prog 25 #[.int .u64 seed, .int .i64 nb, .slice sp n cap, .int .u64 key] w fun e w' => e = .returned (.int .i64 (manyN seed nb keys key)) ∧ Below w.heap.size w w' := by
  have R1 := ref_once sp n cap keys w hk h hn
  have hO := fun k w (h : k < 2 ^ 64) => ref_of seed k w hs h
  have hP := fun k w => ref_prefix (hOf seed k) nb w (hOf_lt _ _) hnb
  have hend : manyK seed nb (onceL keys) key (onceL keys).length = manyN seed nb keys key := by unfold manyK manyN; rw [List.take_length, prefixes_eq]
  have hl64 : W64 (onceL keys) := fun k hh => hk k (mem_onceL.1 hh)
  have hlen : n = keys.length := by have := h.1; simpa [u64s] using this
  have hll : (onceL keys).length ≤ 4096 := Nat.le_trans (once_length_le _) (by omega)
  clear hs hk h hn hnb
  generalize onceL keys = l at *
  generalize manyN seed nb keys key = r at *
  have R1'h := Lib.hid R1
  have hO'h := Lib.hid hO
  have hP'h := Lib.hid hP
  have hend'h := Lib.hid hend
  have hl64'h := Lib.hid hl64
  have hlen'h := Lib.hid hlen
  have hkey'h := Lib.hid hkey
  clear R1 hO hP hend hl64 hlen hkey
  go_enter Try.func25, Try.ntmps25
  go_wp2_with fail
  refine (R1'h.out).mono ?_
  rintro e w1 ⟨sp', cap', rfl, hB, hrow⟩
  have hsl := Sl.of_row hrow (by unfold maxLen; omega)
  have hrow'h := Lib.hid hrow
  have hB'h := Lib.hid hB
  have hsl'h := Lib.hid hsl
  clear hrow hB hsl
  go_wp2
  go_loopg [9, 15] l.length (fun q m i wr => ∃ k : Nat, k + q = l.length ∧ i = .int .i64 k ∧ m = .int .i64 (manyK seed nb l key k) ∧ wr = w1)
  case atStart => exact ⟨0, by omega, rfl, rfl, rfl⟩
  case round =>
    obtain ⟨k, hk, rfl, rfl, rfl⟩ := hrel
    by_cases hlt : k < l.length
    · obtain ⟨ab, aoff, rfl, hcs⟩ := hsl'h.out.some' (by omega)
      have c2 : wr.cell? ⟨ab, aoff + k, none⟩ = some (.int .u64 (nthN l k)) := hcs k _ (u64s_at hlt)
      have hx64 : nthN l k < 2 ^ 64 := hl64'h.out _ (nthN_mem hlt)
      have hnx := manyK_next (seed := seed) (nb := nb) (key := key) hlt
      have hle := manyK_le (seed := seed) (nb := nb) (key := key) (l := l) (k := k)
      have O1 := hO'h.out (nthN l k) wr hx64
      have P1 := hP'h.out (nthN l k) wr
      have O2 := hO'h.out key wr hkey'h.out
      have P2 := hP'h.out key wr
      have hbe : ((preOf seed nb (nthN l k) : Int) == (preOf seed nb key : Int)) = (preOf seed nb (nthN l k) == preOf seed nb key) := by rw [Bool.eq_iff_iff, beq_iff_eq, beq_iff_eq]; omega
      have hd : ∀ k, hPrefix (hOf seed k) nb = preOf seed nb k := fun _ => rfl
      rw [hd] at P1 P2
      clear hcs hd
      generalize manyK seed nb l key k = m at *
      generalize nthN l k = x at *
      generalize hOf seed x = y1 at *
      generalize hOf seed key = y2 at *
      generalize preOf seed nb x = z1 at *
      generalize preOf seed nb key = z2 at *
      cases hv : z1 == z2
      all_goals
        rw [hv] at hnx hbe
        simp only [if_true, Bool.false_eq_true, if_false, Nat.add_zero] at hnx
        have hk'h := Lib.hid hk
        have hnx'h := Lib.hid hnx
        have O1'h := Lib.hid O1
        have O2'h := Lib.hid O2
        have P1'h := Lib.hid P1
        have P2'h := Lib.hid P2
        have hv'h := Lib.hid hv
        have hx64'h := Lib.hid hx64
        clear hk hnx O1 O2 P1 P2 hv hx64
        go_wp2_with fail
        refine (O1'h.out).mono ?_
        rintro e w' ⟨rfl, rfl⟩
        go_wp2_with fail
        refine (P1'h.out).mono ?_
        rintro e w' ⟨rfl, rfl⟩
        go_wp2_with fail
        refine (O2'h.out).mono ?_
        rintro e w' ⟨rfl, rfl⟩
        go_wp2_with fail
        refine (P2'h.out).mono ?_
        rintro e w' ⟨rfl, rfl⟩
        go_wp2
        go_roundg (gk - 1)
        case measure => have := hk'h.out; omega
        case rel => exact ⟨k + 1, by have := hk'h.out; omega, by go_num, by rw [hnx'h.out] <;> go_num, rfl⟩
    · obtain rfl : k = l.length := by omega
      rw [hend'h.out]
      have hk'h := Lib.hid hk
      clear hk
      go_wp2
      go_ret
      exact ⟨rfl, hB'h.out⟩

def mostN (seed nb : Nat) (keys l : List Nat) : Nat := l.foldl (fun m k => max m (manyN seed nb keys k)) 0
theorem most_next {seed nb : Nat} {keys l : List Nat} {k : Nat} (h : k < l.length) : mostN seed nb keys (l.take (k + 1)) = max (mostN seed nb keys (l.take k)) (manyN seed nb keys (nthN l k)) := by
  unfold mostN; rw [take_next h, List.foldl_append]; rfl
theorem many_le (seed nb : Nat) (keys : List Nat) (key : Nat) : manyN seed nb keys key ≤ keys.length := by
  unfold manyN; exact Nat.le_trans List.count_le_length (by rw [length_prefixes]; exact length_hashes_le _ _)
theorem most_le (seed nb : Nat) (keys : List Nat) : ∀ l, mostN seed nb keys l ≤ keys.length := by
  have : ∀ (l : List Nat) (a : Nat), a ≤ keys.length → l.foldl (fun m k => max m (manyN seed nb keys k)) a ≤ keys.length := by
    intro l
    induction l with
    | nil => intro a h; exact h
    | cons x r ih => intro a h; exact ih _ (Nat.max_le.2 ⟨h, many_le _ _ _ _⟩)
  exact fun l => this l 0 (Nat.zero_le _)
theorem most_over (seed nb : Nat) (keys l : List Nat) (m : Nat) : m < mostN seed nb keys l ↔ ∃ k ∈ l, m < manyN seed nb keys k := by
  have : ∀ (l : List Nat) (a : Nat), m < l.foldl (fun m k => max m (manyN seed nb keys k)) a ↔ m < a ∨ ∃ k ∈ l, m < manyN seed nb keys k := by
    intro l
    induction l with
    | nil => intro a; simp
    | cons x r ih =>
      intro a
      rw [List.foldl_cons, ih]
      simp only [List.mem_cons, exists_eq_or_imp]
      rw [show m < max a (manyN seed nb keys x) ↔ m < a ∨ m < manyN seed nb keys x by omega, or_assoc]
  unfold mostN; rw [this]; simp
theorem over_most {seed nb : Nat} {keys : List Nat} {many : Int} (hm : 0 ≤ many) : overN seed keys many nb = decide (many < (mostN seed nb keys keys : Int)) := by
  obtain ⟨m, rfl⟩ : ∃ m : Nat, many = (m : Int) := ⟨many.toNat, by omega⟩
  rw [Bool.eq_iff_iff, decide_eq_true_eq, Int.ofNat_lt, most_over]
  unfold overN
  rw [someOver_iff]
  constructor
  · rintro ⟨x, hx, hlt⟩
    rw [mget_log, Int.ofNat_lt] at hlt
    rw [mhas_log, decide_eq_true_eq, prefixes_eq] at hx
    obtain ⟨k, hk, rfl⟩ := List.mem_map.1 hx
    exact ⟨k, mem_onceL.1 hk, hlt⟩
  · rintro ⟨k, hk, hlt⟩
    refine ⟨preOf seed nb k, ?_, by rw [mget_log, Int.ofNat_lt]; exact hlt⟩
    rw [mhas_log, decide_eq_true_eq, prefixes_eq]
    exact List.mem_map.2 ⟨k, mem_onceL.2 hk, rfl⟩
set_option maxHeartbeats 1000000 in
theorem ref_most (seed nb n cap : Nat) (sp : Option Addr) (keys : List Nat) (w : World) (hs : seed < 2 ^ 64) (hnb : nb ≤ 64) (hk : W64 keys) (h : Sl w sp n (u64s keys)) (hn : n ≤ 4096) :
    Calls Try.prog 48 #[.int .u64 seed, .int .i64 nb, .slice sp n cap] w fun e w' => e = .returned (.int .i64 (mostN seed nb keys keys)) ∧ Below w.heap.size w w' := by
  have hM := fun key w' (hkey : key < 2 ^ 64) (hB : Below w.heap.size w w') => ref_many seed nb key n cap sp keys w' hs hkey hnb hk (h.below hB) hn
  have hlen : n = keys.length := by have := h.1; simpa [u64s] using this
  have hnx := fun k (h : k < keys.length) => most_next (seed := seed) (nb := nb) (keys := keys) h
  have hle := fun k => most_le seed nb keys (keys.take k)
  have hle2 := many_le seed nb keys
  have hend : keys.take n = keys := List.take_of_length_le (by omega)
  have hs'h := Lib.hid hs
  have hk'h := Lib.hid hk
  have h'h := Lib.hid h
  have hM'h := Lib.hid hM
  have hlen'h := Lib.hid hlen
  have hnx'h := Lib.hid hnx
  have hle'h := Lib.hid hle
  have hle2'h := Lib.hid hle2
  have hend'h := Lib.hid hend
  clear hs hk h hM hlen hnx hle hle2 hend
  go_enter Try.func48, Try.ntmps48
  go_wp2
  go_loopg [7, 13] n (fun q m i wr => ∃ k : Nat, k + q = n ∧ i = .int .i64 k ∧ m = .int .i64 (mostN seed nb keys (keys.take k)) ∧ Below w.heap.size w wr)
  case atStart => exact ⟨0, by omega, rfl, rfl, Below.refl _ _⟩
  case round =>
    obtain ⟨k, hj, rfl, rfl, hB⟩ := hrel
    by_cases hlt : k < n
    · have hkl : k < keys.length := by have := hlen'h.out; omega
      obtain ⟨ab, aoff, rfl, hcs⟩ := (h'h.out.below hB).some' (by omega)
      have c2 : wr.cell? ⟨ab, aoff + k, none⟩ = some (.int .u64 (nthN keys k)) := hcs k _ (u64s_at hkl)
      have M := hM'h.out (nthN keys k) wr (hk'h.out _ (nthN_mem hkl)) hB
      have hnx := hnx'h.out k hkl
      clear hcs
      generalize mostN seed nb keys (keys.take k) = a at *
      generalize manyN seed nb keys (nthN keys k) = b at *
      generalize nthN keys k = x at *
      by_cases hab : a < b
      · have hd : decide ((a : Int) < (b : Int)) = true := by rw [decide_eq_true_eq]; omega
        rw [Nat.max_eq_right (by omega)] at hnx
        have hj'h := Lib.hid hj
        have hB'h := Lib.hid hB
        have M'h := Lib.hid M
        have hnx'h := Lib.hid hnx
        have hab'h := Lib.hid hab
        clear hj hB M hnx hab
        go_wp2_with fail
        refine (M'h.out).mono ?_
        rintro e w1 ⟨rfl, hB1⟩
        go_wp2
        go_roundg (gk - 1)
        case measure => have := hj'h.out; omega
        case rel => exact ⟨k + 1, by have := hj'h.out; omega, by go_num, by rw [hnx'h.out], hB'h.out.trans (hB1.mono hB'h.out.size)⟩
      · have hd : decide ((a : Int) < (b : Int)) = false := by rw [decide_eq_false_iff_not]; omega
        rw [Nat.max_eq_left (by omega)] at hnx
        have hj'h := Lib.hid hj
        have hB'h := Lib.hid hB
        have M'h := Lib.hid M
        have hnx'h := Lib.hid hnx
        have hab'h := Lib.hid hab
        clear hj hB M hnx hab
        go_wp2_with fail
        refine (M'h.out).mono ?_
        rintro e w1 ⟨rfl, hB1⟩
        go_wp2
        go_roundg (gk - 1)
        case measure => have := hj'h.out; omega
        case rel => exact ⟨k + 1, by have := hj'h.out; omega, by go_num, by rw [hnx'h.out], hB'h.out.trans (hB1.mono hB'h.out.size)⟩
    · obtain rfl : n = k := by omega
      rw [hend'h.out]
      have hj'h := Lib.hid hj
      have hB'h := Lib.hid hB
      clear hj hB
      go_wp2
      go_ret
      exact ⟨rfl, hB'h.out⟩

/-- The first number of bits with which no beginning is had by more than so many keys. -/
def IsDeepest (seed : Nat) (keys : List Nat) (many : Int) (d : Nat) : Prop := overN seed keys many d = false ∧ ∀ j, j < d → overN seed keys many j = true
theorem deepest_one {seed : Nat} {keys : List Nat} {many : Int} {d d' : Nat} (h : IsDeepest seed keys many d) (h' : IsDeepest seed keys many d') : d = d' := by
  rcases Nat.lt_trichotomy d d' with hl | hl | hl
  · have := h'.2 d hl; rw [h.1] at this; cases this
  · exact hl
  · have := h.2 d' hl; rw [h'.1] at this; cases this
set_option maxHeartbeats 1000000 in
theorem ref_deepest (seed n cap d : Nat) (many : Int) (sp : Option Addr) (keys : List Nat) (w : World) (hs : seed < 2 ^ 64) (hk : W64 keys) (hm : 1 ≤ many) (h : Sl w sp n (u64s keys)) (hn : n ≤ 4096) (hd : IsDeepest seed keys many d) (hd64 : d ≤ 64) :
    Calls Try.prog 27 #[.int .u64 seed, .int .i64 many, .slice sp n cap] w fun e w' => e = .returned (.int .i64 d) ∧ Below w.heap.size w w' := by
  have hM := fun nb w' (hnb : nb ≤ 64) (hB : Below w.heap.size w w') => ref_most seed nb n cap sp keys w' hs hnb hk (h.below hB) hn
  have hno : decide (many < (mostN seed d keys keys : Int)) = false := by rw [← over_most (by omega)]; exact hd.1
  have hyes : ∀ j, j < d → decide (many < (mostN seed j keys keys : Int)) = true := fun j hj => by rw [← over_most (by omega)]; exact hd.2 j hj
  have hs'h := Lib.hid hs
  have hk'h := Lib.hid hk
  have h'h := Lib.hid h
  have hM'h := Lib.hid hM
  have hd'h := Lib.hid hd
  have hno'h := Lib.hid hno
  have hyes'h := Lib.hid hyes
  have hm'h := Lib.hid hm
  clear hs hk h hM hd hno hyes hm
  go_enter Try.func27, Try.ntmps27
  go_wp2
  go_loopg [7] d (fun q i wr => ∃ k : Nat, k + q = d ∧ i = .int .i64 k ∧ Below w.heap.size w wr)
  case atStart => exact ⟨0, by omega, rfl, Below.refl _ _⟩
  case round =>
    obtain ⟨k, hj, rfl, hB⟩ := hrel
    have M := hM'h.out k wr (by omega) hB
    by_cases hlt : k < d
    · have hy := hyes'h.out k hlt
      generalize mostN seed k keys keys = a at *
      have hj'h := Lib.hid hj
      have hB'h := Lib.hid hB
      have M'h := Lib.hid M
      clear hj hB M
      go_wp2_with fail
      refine (M'h.out).mono ?_
      rintro e w1 ⟨rfl, hB1⟩
      go_wp2
      go_roundg (gk - 1)
      case measure => have := hj'h.out; omega
      case rel => exact ⟨k + 1, by have := hj'h.out; omega, by go_num, hB'h.out.trans (hB1.mono hB'h.out.size)⟩
    · obtain rfl : d = k := by omega
      have hy := hno'h.out
      generalize mostN seed d keys keys = a at *
      have hj'h := Lib.hid hj
      have hB'h := Lib.hid hB
      have M'h := Lib.hid M
      clear hj hB M
      go_wp2_with fail
      refine (M'h.out).mono ?_
      rintro e w1 ⟨rfl, hB1⟩
      go_wp2
      go_ret
      exact ⟨rfl, hB'h.out.trans (hB1.mono hB'h.out.size)⟩
end Go.Proofs.Ytpfpgjfcomkdgaa
