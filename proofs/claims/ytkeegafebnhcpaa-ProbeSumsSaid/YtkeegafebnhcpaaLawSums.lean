/-
  ProbeSums, walked.
-/
import Derived.Test.YtkeegafebnhcpaaLawFirst
import Derived.Laws.CopyOwn
set_option linter.unusedSimpArgs false
set_option linter.unusedVariables false
namespace Go.Proofs.Ytkeegafebnhcpaa
open Go.RowKit

/-! ### Sums -/
theorem place_perm {G : Nat} (hG : goodB G = true) (h : Nat) : ((List.range G).map (placeB G h)).Perm (List.range G) := by
  refine (List.perm_ext_iff_of_nodup ?_ List.nodup_range).2 fun x => ?_
  · rw [List.nodup_iff_pairwise_ne, List.pairwise_map]
    refine List.Pairwise.imp_of_mem ?_ (List.nodup_iff_pairwise_ne.1 List.nodup_range)
    intro a b ha hb hne e
    refine hne ?_
    rw [← prB_place hG h (List.mem_range.1 ha), e, prB_place hG h (List.mem_range.1 hb)]
  · rw [List.mem_map, List.mem_range]
    constructor
    · rintro ⟨g, hg, rfl⟩; exact placeB_lt hG h (List.mem_range.1 hg)
    · intro hx; exact ⟨prB G h x, List.mem_range.2 (prB_lt _ _ (good_pos hG)), placeB_pr hG h hx⟩
theorem range_sum {G : Nat} (hG : goodB G = true) : (List.range G).sum = G * (G - 1) / 2 := by
  rcases good_cases hG with h | h | h | h | h | h | h <;> subst h <;> decide
theorem sum_map_add (l : List Nat) (f g : Nat → Nat) : (l.map fun x => f x + g x).sum = (l.map f).sum + (l.map g).sum := by
  induction l with
  | nil => rfl
  | cons a r ih => simp only [List.map_cons, List.sum_cons, ih]; omega
theorem sum_zeros (l : List Nat) : (l.map fun _ => 0).sum = 0 := by
  induction l with
  | nil => rfl
  | cons a r ih => rw [List.map_cons, List.sum_cons, ih]
theorem farL_sum {G : Nat} (hG : goodB G = true) (hs : List Nat) : (farL G hs).sum = hs.length * (G * (G - 1) / 2) := by
  induction hs with
  | nil => unfold farL farK; simp only [List.map_nil, List.sum_nil, sum_zeros, List.length_nil, Nat.zero_mul]
  | cons h r ih =>
    have e : farL G (h :: r) = (List.range G).map fun g => placeB G h g + farK G r g := by unfold farL farK; simp
    rw [e, sum_map_add, (place_perm hG h).sum_nat, range_sum hG]
    have : ((List.range G).map fun g => farK G r g).sum = r.length * (G * (G - 1) / 2) := ih
    rw [this, List.length_cons, Nat.add_mul]; omega
theorem farK_le' {G : Nat} (hG : goodB G = true) (hs : List Nat) {g : Nat} (hg : g < G) : farK G hs g ≤ hs.length * (G - 1) := by
  unfold farK
  induction hs with
  | nil => simp
  | cons h r ih => have := placeB_lt hG h hg; simp only [List.map_cons, List.sum_cons, List.length_cons, Nat.add_mul]; omega
theorem farL_at {G : Nat} {hs : List Nat} {k : Nat} (hk : k < G) : nthN (farL G hs) k = farK G hs k := by
  have h1 : k < (farL G hs).length := by rw [farL_length]; exact hk
  rw [← nthN_eq h1]; simp [farL]
theorem take_sum (l : List Nat) (k : Nat) (h : k < l.length) : (l.take (k + 1)).sum = (l.take k).sum + nthN l k := by
  rw [List.take_succ_eq_append_getElem h, List.sum_append_nat, nthN_eq h]; simp
theorem take_sum_le (l : List Nat) (k : Nat) : (l.take k).sum ≤ l.sum := by
  conv => rhs; rw [← List.take_append_drop k l, List.sum_append_nat]
  omega

/-! ### Flags -/
def flagsB (G n : Nat) (fs : List Bool) : List Bool := fs.take (min n G) ++ List.replicate (G - min n G) false
theorem made_bools (G : Nat) : madeCells #[Value.bool false] G = ((List.replicate G false).map Value.bool).toArray := by
  unfold madeCells
  apply Array.ext (by simp)
  intro i h1 h2
  simp
  rw [Nat.mod_one]; rfl
def blankB (G : Nat) : Array Value := ((List.replicate G false).map Value.bool).toArray
theorem splice_flags {G n : Nat} {fs : List Bool} (hn : n = fs.length) : splice ((List.replicate G false).map Value.bool) 0 ((fs.take (min n G)).map Value.bool) = (flagsB G n fs).map Value.bool := by
  unfold splice flagsB
  have hl : (fs.take (min n G)).length = min n G := by rw [List.length_take]; omega
  rw [List.take_zero, List.nil_append, List.map_append, List.length_map, hl, Nat.zero_add, ← List.map_drop, List.drop_replicate]
theorem flagsB_length {G n : Nat} {fs : List Bool} (hn : n = fs.length) : (flagsB G n fs).length = G := by
  unfold flagsB; rw [List.length_append, List.length_take, List.length_replicate]; omega
theorem sums1_any (b : Nat) (sp : Option Addr) (n cap : Nat) (l : List Bool) (x : Int) (w : World) (hc : w.cell? ⟨b, 0, none⟩ = some (.slice sp n cap)) (h : Sl w sp n (l.map Value.bool)) (hx : 0 ≤ x ∧ x < n) :
    Calls Try.prog 22 #[.int .i64 x, .pointer (some ⟨b, 0, none⟩)] w fun e w' => e = .returned (.bool (atB l x)) ∧ w' = w := by
  obtain ⟨k, rfl⟩ : ∃ k : Nat, x = (k : Int) := ⟨x.toNat, by omega⟩
  have hlen : n = l.length := by have := h.1; simpa using this
  have hmax := h.2.1
  unfold maxLen at hmax
  obtain ⟨a, off, rfl, hcs⟩ := h.some' (by omega)
  have hkl : k < l.length := by omega
  have c1 : w.cell? ⟨a, off + k, none⟩ = some (.bool (atB l k)) := hcs k _ (by
    rw [List.getElem?_map, List.getElem?_eq_getElem hkl]; unfold atB
    rw [Int.toNat_natCast, List.getD_eq_getElem?_getD, List.getElem?_eq_getElem hkl]; rfl)
  have hk1 : (k : Int) < (n : Int) := by omega
  generalize atB l k = v at *
  clear hcs h hlen hx
  go_enter Try.func22, Try.ntmps22
  go_wp2
  go_ret
  exact ⟨rfl, rfl⟩
theorem idxSums_any (sp : Option Addr) (n cap : Nat) (l : List Int) (p : Int → Bool) (lb : Value) (w : World) (h : Sl w sp n (l.map (Value.int .i64)))
    (hp : ∀ x ∈ l, Calls Try.prog 22 #[.int .i64 x, lb] w fun e w' => e = .returned (.bool (p x)) ∧ w' = w) :
    Calls Try.prog 35 #[.slice sp n cap, .func (.func 22) #[] #[lb]] w fun e w' => e = .returned (.int .i64 (idxZ p l)) ∧ w' = w := by
  have hlen : n = l.length := by have := h.1; simpa using this
  have hmax := h.2.1
  unfold maxLen at hmax
  have hlen'h := Lib.hid hlen
  have h'h := Lib.hid h
  have hp'h := Lib.hid hp
  clear hlen h hp
  go_enter Try.func35, Try.ntmps35
  go_wp2
  go_loopg [8] n (fun q i wr => ∃ k : Nat, k + q = n ∧ i = .int .i64 k ∧ (∀ j, j < k → p (nthZ l j) = false) ∧ wr = w)
  case atStart => exact ⟨0, by omega, rfl, fun j hj => by omega, rfl⟩
  case round =>
    obtain ⟨k, hk, rfl, hall, rfl⟩ := hrel
    have hkn : k ≤ n := by omega
    by_cases hlt : k < n
    · have hkl : k < l.length := by have := hlen'h.out; omega
      obtain ⟨b, off, rfl, hcs⟩ := h'h.out.some' (by omega)
      have c1 : wr.cell? ⟨b, off + k, none⟩ = some (.int .i64 (nthZ l k)) := hcs k _ (i64s_at hkl)
      have C := hp'h.out (nthZ l k) (nthZ_mem hkl)
      clear hcs
      cases hv : p (nthZ l k) with
      | true =>
        have hr := idxZ_hit hkl hall hv
        rw [hv] at C
        have hk'h := Lib.hid hk
        have hall'h := Lib.hid hall
        have C'h := Lib.hid C
        have hr'h := Lib.hid hr
        have hv'h := Lib.hid hv
        have hkl'h := Lib.hid hkl
        clear hk hall C hr hv hkl
        go_wp2_with fail
        refine (C'h.out).mono ?_
        rintro e w' ⟨rfl, rfl⟩
        go_wp2
        go_ret
        exact ⟨ret_i64 hr'h.out.symm, rfl⟩
      | false =>
        have hall' : ∀ j, j < k + 1 → p (nthZ l j) = false := fun j hj => by
          by_cases e : j = k
          · rw [e]; exact hv
          · exact hall j (by omega)
        rw [hv] at C
        have hk'h := Lib.hid hk
        have hall'h := Lib.hid hall
        have C'h := Lib.hid C
        have hv'h := Lib.hid hv
        have hkl'h := Lib.hid hkl
        have hall''h := Lib.hid hall'
        clear hk hall C hv hkl hall'
        go_wp2_with fail
        refine (C'h.out).mono ?_
        rintro e w' ⟨rfl, rfl⟩
        go_wp2
        go_roundg (gk - 1)
        case measure => have := hk'h.out; omega
        case rel => exact ⟨k + 1, by have := hk'h.out; omega, by go_num, hall''h.out, rfl⟩
    · have hr := idxZ_none (l := l) (p := p) (fun j hj => hall j (by have := hlen'h.out; omega))
      have hd : ¬ ((k : Int) < (n : Int)) := by omega
      have hk'h := Lib.hid hk
      have hall'h := Lib.hid hall
      have hr'h := Lib.hid hr
      clear hk hall hr
      go_wp2
      go_ret
      exact ⟨ret_i64 hr'h.out.symm, rfl⟩
theorem has_sums (sp : Option Addr) (n cap : Nat) (l : List Int) (p : Int → Bool) (lb : Value) (w : World) (h : Sl w sp n (l.map (Value.int .i64)))
    (hp : ∀ x ∈ l, Calls Try.prog 22 #[.int .i64 x, lb] w fun e w' => e = .returned (.bool (p x)) ∧ w' = w) (hno : idxZ p l = -1) :
    Calls Try.prog 21 #[.slice sp n cap, .func (.func 22) #[] #[lb]] w fun e w' => e = .returned (.bool false) ∧ w' = w := by
  have I := idxSums_any sp n cap l p lb w h hp
  rw [hno] at I
  have I'h := Lib.hid I
  clear I
  clear hp h hno
  go_enter Try.func21, Try.ntmps21
  go_wp2_with fail
  refine (I'h.out).mono ?_
  rintro e w' ⟨rfl, rfl⟩
  go_wp2
  go_ret
  exact ⟨rfl, rfl⟩
theorem index_none (sp : Option Addr) (n cap : Nat) (l : List Bool) (w : World) (h : Sl w sp n (l.map Value.bool)) (hno : ∀ j, j < l.length → l.getD j false = false) :
    Calls Try.prog 34 #[.slice sp n cap, .bool true] w fun e w' => e = .returned (.int .i64 (-1)) ∧ ∃ d, w' = w.drewN d := by
  have hlen : n = l.length := by have := h.1; simpa using this
  have hmax := h.2.1
  unfold maxLen at hmax
  have hlen'h := Lib.hid hlen
  have h'h := Lib.hid h
  have hno'h := Lib.hid hno
  clear hlen h hno
  go_enter Try.func34, Try.ntmps34
  go_wp2
  go_loopg [8] n (fun q i wr => ∃ k : Nat, k + q = n ∧ i = .int .i64 k ∧ ∃ d, wr = w.drewN d)
  case atStart => exact ⟨0, by omega, rfl, 0, rfl⟩
  case round =>
    obtain ⟨k, hk, rfl, d, rfl⟩ := hrel
    by_cases hlt : k < n
    · have hkl : k < l.length := by have := hlen'h.out; omega
      obtain ⟨b, off, rfl, hcs⟩ := h'h.out.some' (by omega)
      have hv := hno'h.out k hkl
      have c1 : w.cell? ⟨b, off + k, none⟩ = some (.bool false) := hcs k _ (by
        rw [List.getD_eq_getElem?_getD, List.getElem?_eq_getElem hkl] at hv
        rw [List.getElem?_map, List.getElem?_eq_getElem hkl]
        simp at hv
        simp [hv])
      have c1' : ∀ q, (w.drewN q).cell? ⟨b, off + k, none⟩ = some (.bool false) := fun q => c1
      clear hcs hv
      have hk'h := Lib.hid hk
      clear hk
      have i1 : (k : Int) < (n : Int) := by omega
      have i2 : (0 : Int) ≤ (k : Int) := by omega
      go_wp2
      go_roundg (gk - 1)
      case measure => have := hk'h.out; omega
      case rel => exact ⟨k + 1, by have := hk'h.out; omega, by go_num, d, rfl⟩
    · have hd : ¬ (k : Int) < (n : Int) := by omega
      have hk'h := Lib.hid hk
      clear hk
      go_wp2
      go_ret
      exact ⟨rfl, d, rfl⟩
theorem contains_none (sp : Option Addr) (n cap : Nat) (l : List Bool) (w : World) (h : Sl w sp n (l.map Value.bool)) (hno : ∀ j, j < l.length → l.getD j false = false) :
    Calls Try.prog 20 #[.slice sp n cap, .bool true] w fun e w' => e = .returned (.bool false) ∧ ∃ d, w' = w.drewN d := by
  have I := index_none sp n cap l w h hno
  have I'h := Lib.hid I
  clear I
  clear h hno
  go_enter Try.func20, Try.ntmps20
  go_wp2_with fail
  refine (I'h.out).mono ?_
  rintro e w1 ⟨rfl, d, rfl⟩
  go_wp2
  go_ret
  exact ⟨rfl, d, rfl⟩
theorem wpList_copy_row {P : Program} {w : World} {ops : Array Oper} {rest : List Oper} {o : Oper} {a : Act} {Q : Exit → Act → World → Prop} (hgd : o.guard = none) (d s : Operand) (dT sT : TypeId)
    (ho : o.op = .call { callee := .builtin .copy, args := #[d, s], argTypes := #[dT, sT] }) (elem : TypeId) (hu : P.underlying dT = some (.slice elem)) (hsz : (P.info? elem).map (·.size) = some 1)
    (dp sp : Option Addr) (dLen dCap sLen sCap : Nat) (hd : a.eval d = .slice dp dLen dCap) (hs : a.eval s = .slice sp sLen sCap)
    (g off : Nat) (cur : List Value) (t : TypeId) (hg : w.heap[g]? = some (.cells cur.toArray t (0, 0))) (cs : List Value) (hn : cs.length = Nat.min sLen dLen)
    (hpos : 0 < cs.length → dp = some ⟨g, off, none⟩ ∧ ∃ ad, sp = some ad ∧ ∀ j v, cs[j]? = some v → w.cell? (ad.add j) = some v)
    (hfit : off + cs.length ≤ cur.length) (h1 : ∀ v ∈ cs, v.oneCell' = true) (B : Nat) (w0 : World) (hb : Below B w0 w) (hBg : B ≤ g)
    (h : ∀ w', RowKit.Hid (w'.heap[g]? = some (.cells (splice cur off cs).toArray t (0, 0))) → RowKit.Hid (∀ b, b ≠ g → w'.heap[b]? = w.heap[b]?) → Below B w0 w' → wpList P ops Q rest (a.put o.dst (goInt cs.length)) w') :
    wpList P ops Q (o :: rest) a w := by
  by_cases h0 : cs.length = 0
  · obtain rfl : cs = [] := List.eq_nil_of_length_eq_zero h0
    refine wpList_copy_nothing hgd d s dT sT ho elem hu hsz dp sp dLen dCap sLen sCap hd hs (by simpa using hn.symm) ?_
    exact h w (show _ = _ by simpa [splice] using hg) (fun _ _ => rfl) hb
  · obtain ⟨rfl, ad, rfl, hsrc⟩ := hpos (by omega)
    refine wpList_copy_own hgd d s dT sT ho elem hu hsz g off dLen dCap ad sLen sCap hd hs cur.toArray t hg cs hn hsrc (by simpa using hfit) h1 ?_
    exact h _ (show _ = _ by simpa [splice] using setRow_heap w g _ _ t _ hg) (fun b hb' => setRow_other _ _ _ _ hb') (below_setRow' hb hBg _)
theorem row_cap {w : World} {base : Nat} {e : TypeId} {size : Nat} {sp : Option Addr} {m n cap : Nat} {xs : List Value} (h : w.ownsRow base e size (.slice sp m cap) n xs) : n ≤ cap := by
  rcases h.2 with ⟨h1, h0⟩ | ⟨g, c, cur, h1, hb, hh, hn, _⟩
  · omega
  · injection h1 with h1 h2 h3; omega
theorem info_bool : (Try.prog.info? 4).map (fun i => (i.zero, i.size, i.bytes)) = some (some (.bool false), 1, 1) := by kernel_rfl
theorem info_bool1 : (Try.prog.info? 4).map (·.size) = some 1 := by kernel_rfl
theorem first_none {G x : Nat} (hG : goodB G = true) {fl : List Bool} (hl : fl.length = G) (h : firstB G x fl < 0) : ∀ j, j < fl.length → fl.getD j false = false := by
  intro j hj
  have hjG : j < G := by omega
  have hp := placeB_lt hG x hjG
  cases hv : fl.getD j false with
  | false => rfl
  | true =>
    exfalso
    unfold firstB idxZ at h
    have hex : (rowZ G x).findIdx (atB fl) < (rowZ G x).length := by
      rw [List.findIdx_lt_length]
      refine ⟨(prB G x (placeB G x j) : Int), ?_, ?_⟩
      · rw [← nth_rowZ hp]; exact nthZ_mem (by rw [rowZ_length]; exact hp)
      · rw [prB_place hG x hjG]; unfold atB; rw [Int.toNat_natCast]; exact hv
    rw [if_pos hex] at h
    omega
theorem first_some {G x : Nat} {fl : List Bool} {i : Nat} (hG : goodB G = true) (h : firstB G x fl = (i : Int)) : i < G ∧ atB fl (prB G x i) = true ∧ idxZ (atB fl) ((rowZ G x).take i) = -1 := by
  unfold firstB idxZ at h
  by_cases hex : (rowZ G x).findIdx (atB fl) < (rowZ G x).length
  · rw [if_pos hex] at h
    have hi : (rowZ G x).findIdx (atB fl) = i := by omega
    have hiG : i < G := by rw [← hi]; rwa [rowZ_length] at hex
    have hil : i < (rowZ G x).length := by rw [rowZ_length]; exact hiG
    refine ⟨hiG, ?_, ?_⟩
    · have := List.findIdx_getElem (w := hex)
      rw [nthZ_eq hex, hi, nth_rowZ hiG] at this
      exact this
    · refine idxZ_none fun j hj => ?_
      have hji : j < i := by rw [List.length_take] at hj; omega
      have h2 := List.not_of_lt_findIdx (p := atB fl) (xs := rowZ G x) (i := j) (by omega)
      have e : nthZ ((rowZ G x).take i) j = nthZ (rowZ G x) j := by
        unfold nthZ; rw [List.getD_eq_getElem?_getD, List.getD_eq_getElem?_getD, List.getElem?_take, if_pos hji]
      rw [e, ← nthZ_eq (show j < (rowZ G x).length by omega)]
      simpa using h2
  · rw [if_neg hex] at h; omega
set_option maxRecDepth 100000 in
set_option maxHeartbeats 4000000 in
theorem walk_ProbeSums (a0 : Int) (sp : Option Addr) (n cap : Nat) (fs : List Bool) (sp2 : Option Addr) (n2 cap2 : Nat) (zs : List Int) (w : World) (w0 : (Lit.int .i64 a0).wf = true) (hc : sp = none → cap = 0) (hcap : n ≤ cap) (h : Sl w sp n (fs.map Value.bool))
    (hc2 : sp2 = none → cap2 = 0) (hcap2 : n2 ≤ cap2) (h2 : Sl w sp2 n2 (zs.map (Value.int .u64))) (hz : ∀ z ∈ zs, (Lit.int .u64 z).wf = true) :
    Calls Try.prog 5 #[.int .i64 a0, .slice sp n cap, .slice sp2 n2 cap2] w fun e w' => e = .returned (.bool true) ∧ Below w.heap.size w w' := by
  have hbd := bd_of_i64 w0
  rw [u64s_nats hz] at h2
  have hk64 := nats_w64 hz
  have hmax := h.2.1
  have hmax2 := h2.2.1
  unfold maxLen at hmax hmax2
  have hfl : n = fs.length := by have := h.1; simpa using this
  obtain ⟨m2, hm2⟩ : ∃ m, m = min n2 8 := ⟨_, rfl⟩
  have hmi2 := min_if n2 8 m2 hm2
  have hmi2' : (if (8 : Int) < (n2 : Int) then (8 : Int) else (n2 : Int)) = (m2 : Int) := hmi2
  have hS2 := h2.take m2 (by omega)
  rw [u64s_take] at hS2
  have hw64 : W64 ((nats zs).take m2) := fun k hk => hk64 k (List.mem_of_mem_take hk)
  have hl2 : ((nats zs).take m2).length = m2 := by have := hS2.1; rw [u64s_length] at this; omega
  generalize (nats zs).take m2 = hs at *
  have q2 : m2 ≤ 8 := by omega
  have q4 : m2 ≤ cap2 := by omega
  clear w0 hz h2 hk64 hmi2
  cases hg : goodG a0 with
  | false =>
    have FA := fun v w => far_no a0 v w hg hbd
    have FA'h := Lib.hid FA
    have hg'h := Lib.hid hg
    have hbd'h := Lib.hid hbd
    have h'h := Lib.hid h
    have hS2'h := Lib.hid hS2
    have hw64'h := Lib.hid hw64
    have hl2'h := Lib.hid hl2
    have hc'h := Lib.hid hc
    have hc2'h := Lib.hid hc2
    have hm2'h := Lib.hid hm2
    have hfl'h := Lib.hid hfl
    clear FA hg hbd h hS2 hw64 hl2 hc hc2 hm2 hfl
    go_enter Try.func5, Try.ntmps5
    go_wp2_with fail
    refine (wakes_any _).mono ?_
    rintro e w1 ⟨rfl, hb1⟩
    go_wp2_with fail
    refine (FA'h.out _ _).mono ?_
    rintro e w' ⟨rfl, rfl⟩
    go_wp2
    go_ret
    exact ⟨rfl, hb1⟩
  | true =>
    obtain ⟨G, rfl, hG⟩ := good_split hg
    have h1 := good_le hG
    have h0 := good_pos hG
    have FA := fun w (h : Sl w sp2 m2 (u64s hs)) => far_yes G m2 cap2 sp2 hs w hG hw64 h (by omega)
    have FA'h := Lib.hid FA
    have hg'h := Lib.hid hg
    have hbd'h := Lib.hid hbd
    have h'h := Lib.hid h
    have hS2'h := Lib.hid hS2
    have hw64'h := Lib.hid hw64
    have hl2'h := Lib.hid hl2
    have hc'h := Lib.hid hc
    have hc2'h := Lib.hid hc2
    have hm2'h := Lib.hid hm2
    have hfl'h := Lib.hid hfl
    have hG'h := Lib.hid hG
    clear FA hg hbd h hS2 hw64 hl2 hc hc2 hm2 hfl hG
    go_enter Try.func5, Try.ntmps5
    go_wp2_with fail
    refine (wakes_any _).mono ?_
    rintro e w1 ⟨rfl, hb1⟩
    have hs21 := hS2'h.out.below hb1
    have hs21'h := Lib.hid hs21
    have hb1'h := Lib.hid hb1
    clear hs21 hb1
    go_wp2_with fail
    refine (FA'h.out _ hs21'h.out).mono ?_
    rintro e w2 ⟨g2, c2, rfl, hb2, hs2⟩
    have hB2 := below_next hb1'h.out hb2
    have hsx := hs21'h.out.below hb2
    clear hb2 hmi2'
    have hP : ∃ P : Nat, P = m2 * (G - 1) := ⟨_, rfl⟩
    obtain ⟨P, hP⟩ := hP
    have hPle : P ≤ 512 := by rw [hP]; exact Nat.le_trans (Nat.mul_le_mul q2 (show G - 1 ≤ 64 by omega)) (by omega)
    have hPi : (m2 : Int) * ((G : Int) - 1) = (P : Int) := by rw [hP, Int.natCast_mul]; congr 1; omega
    have hat := fun k (hk : k < G) => farL_at (hs := hs) hk
    have hle := fun k (hk : k < G) => farK_le' hG'h.out hs hk
    rw [hl2'h.out, ← hP] at hle
    have hlen := farL_length G hs
    have hsum := farL_sum hG'h.out hs
    rw [hl2'h.out] at hsum
    have hts := fun k (hk : k < (farL G hs).length) => take_sum (farL G hs) k hk
    have htl := fun k => take_sum_le (farL G hs) k
    obtain ⟨Q, hQ⟩ : ∃ Q : Nat, Q = G * (G - 1) := ⟨_, rfl⟩
    have hQle : Q ≤ 4096 := by rw [hQ]; exact Nat.le_trans (Nat.mul_le_mul h1 (show G - 1 ≤ 64 by omega)) (by omega)
    have hQi : (G : Int) * ((G : Int) - 1) = (Q : Int) := by rw [hQ, Int.natCast_mul]; congr 1; omega
    obtain ⟨T, hT⟩ : ∃ T : Nat, T = Q / 2 := ⟨_, rfl⟩
    have hTi : (Q : Int) / 2 = (T : Int) := by omega
    have hTle : T ≤ 2048 := by omega
    rw [← hQ, ← hT] at hsum
    have hsb : (farL G hs).sum ≤ 20000 := by rw [hsum]; exact Nat.le_trans (Nat.mul_le_mul q2 hTle) (by omega)
    have hq2 : (m2 : Int) * (T : Int) = ((farL G hs).sum : Int) := by rw [hsum, Int.natCast_mul]
    clear hQ hT
    have hB2'h := Lib.hid hB2
    have hsx'h := Lib.hid hsx
    have hs2'h := Lib.hid hs2
    have hP'h := Lib.hid hP
    have hat'h := Lib.hid hat
    have hle'h := Lib.hid hle
    have hlen'h := Lib.hid hlen
    have hsum'h := Lib.hid hsum
    have hts'h := Lib.hid hts
    have htl'h := Lib.hid htl
    have hsb'h := Lib.hid hsb
    have hq2'h := Lib.hid hq2
    clear hB2 hsx hs2 hP hat hle hlen hsum hts htl hsb hq2
    go_wp2
    go_loopg [9, 40] G (fun q t i wr => ∃ k : Nat, k + q = G ∧ i = .int .i64 k ∧ t = .int .i64 ((farL G hs).take k).sum ∧ wr = w2)
    case atStart => exact ⟨0, by omega, rfl, rfl, rfl⟩
    case round =>
      obtain ⟨k, hk, rfl, rfl, rfl⟩ := hrel
      by_cases hkG : k < G
      · obtain ⟨b, off, hap, hcs⟩ := hs2'h.out.some' (by omega)
        injection hap with hap
        injection hap with hap1 hap2
        subst hap1 hap2
        have c1 : wr.cell? ⟨g2, 0 + k, none⟩ = some (.int .i64 (farK G hs k)) := by
          have := hcs k _ (zN_at (by rw [hlen'h.out]; exact hkG))
          rwa [hat'h.out k hkG] at this
        rw [Nat.zero_add] at c1
        have hl := hle'h.out k hkG
        have ht := hts'h.out k (by rw [hlen'h.out]; exact hkG)
        rw [hat'h.out k hkG] at ht
        clear hcs
        generalize farK G hs k = y at *
        generalize hsn : ((farL G hs).take (k + 1)).sum = s1 at *
        have hsk := htl'h.out k
        generalize ((farL G hs).take k).sum = s0 at *
        have hsb : (farL G hs).sum ≤ 20000 := hsb'h.out
        have hk'h := Lib.hid hk
        have hsn'h := Lib.hid hsn
        clear hk hsn
        have z1 : s0 ≤ 20000 := by omega
        clear hsk hsb
        go_wp2
        go_roundg (gk - 1)
        case measure => have := hk'h.out; omega
        case rel => exact ⟨k + 1, by have := hk'h.out; omega, by go_num, by rw [hsn'h.out, ht] <;> go_num, rfl⟩
      · have hkk : k = G := by omega
        have hfull : (farL G hs).take k = farL G hs := List.take_of_length_le (by rw [hlen'h.out]; omega)
        rw [hfull]
        have hd : ¬ ((k : Int) < (G : Int)) := by omega
        have hsb := hsb'h.out
        have hq2 := hq2'h.out
        generalize (farL G hs).sum = s0 at *
        have hne := ne_self s0
        have hmk0 := fun w => run_make_row' (P := Try.prog) 22 4 (.bool false) 1 Try.underlying22 info_bool rfl .i64 .i64 G (by omega) (by omega) w
        rw [made_bools] at hmk0
        have hmk : ∀ w : World, (Instr.makeSlice 22 (.int .i64 (G : Int)) (.int .i64 (G : Int))).run Try.prog w = .ok (.slice (some ⟨w.heap.size, 0, none⟩) G G) (w.alloc (.cells (blankB G) 4)) := hmk0
        clear hmk0
        clear hPi
        have hk'h := Lib.hid hk
        have hkk'h := Lib.hid hkk
        have hfull'h := Lib.hid hfull
        have hPle'h := Lib.hid hPle
        clear hk hkk hfull hPle
        have hBw := hB2'h.out
        obtain ⟨W1, hW1⟩ : ∃ W1, W1 = ((wr.alloc (.cells (blankB G) 4)).alloc (.cells #[.slice (some ⟨wr.heap.size, 0, none⟩) G G] 22)) := ⟨_, rfl⟩
        have hbW : Below wr.heap.size wr W1 := by rw [hW1]; exact ((Below.refl _ _).alloc (Nat.le_refl _) _).alloc (by simp) _
        have hG1 : W1.heap[wr.heap.size]? = some (.cells ((List.replicate G false).map Value.bool).toArray 4 (0, 0)) := by
          rw [hW1]; exact (Below.heap_alloc _ _ _ (by simp)).trans (World.alloc_heap_new _ _)
        have hV1 : W1.heap[wr.heap.size + 1]? = some (.cells #[.slice (some ⟨wr.heap.size, 0, none⟩) G G] 22 (0, 0)) := by
          rw [hW1]; exact heap_alloc2_new wr _ _
        have hsF := h'h.out.below (below_next hBw hbW)
        have hfitl : ((fs.take (min n G)).map Value.bool).length = min n G := by rw [List.length_map, List.length_take]; have := hfl'h.out; omega
        have hpos : 0 < ((fs.take (min n G)).map Value.bool).length → (some ⟨wr.heap.size, 0, none⟩ : Option Addr) = some ⟨wr.heap.size, 0, none⟩ ∧ ∃ ad, sp = some ad ∧ ∀ j v, ((fs.take (min n G)).map Value.bool)[j]? = some v → W1.cell? (ad.add j) = some v := by
          intro hp
          obtain ⟨fb, fo, rfl, hcs⟩ := hsF.some' (by omega)
          refine ⟨rfl, _, rfl, fun j v hj => ?_⟩
          have hadd : (⟨fb, fo, none⟩ : Addr).add j = ⟨fb, fo + j, none⟩ := by unfold Addr.add; split <;> simp_all
          rw [hadd]
          have hjl := (List.getElem?_eq_some_iff.1 hj).1
          refine hcs j v ?_
          rw [List.map_take, List.getElem?_take, if_pos (by omega)] at hj
          exact hj
        have hfit : 0 + ((fs.take (min n G)).map Value.bool).length ≤ ((List.replicate G false).map Value.bool).length := by rw [hfitl, List.length_map, List.length_replicate]; omega
        have hspl := splice_flags (G := G) hfl'h.out
        have hFL := flagsB_length (G := G) hfl'h.out
        have hV1lt := lt_of_heap hV1
        have hv0 : W1.cell? ⟨wr.heap.size + 1, 0, none⟩ = some (.slice (some ⟨wr.heap.size, 0, none⟩) G G) := blk_cell hV1 rfl
        have hsxW := hsx'h.out.below hbW
        rw [hW1] at hv0
        have hW1s := hW1
        have hbW'h := Lib.hid hbW
        have hG1'h := Lib.hid hG1
        have hV1'h := Lib.hid hV1
        have hsF'h := Lib.hid hsF
        have hfitl'h := Lib.hid hfitl
        have hpos'h := Lib.hid hpos
        have hfit'h := Lib.hid hfit
        have hspl'h := Lib.hid hspl
        have hFL'h := Lib.hid hFL
        have hBw'h := Lib.hid hBw
        have hV1lt'h := Lib.hid hV1lt
        have hW1s'h := Lib.hid hW1s
        have hsxW'h := Lib.hid hsxW
        clear hbW hG1 hV1 hsF hfitl hpos hfit hspl hFL hBw hV1lt hW1s hsxW
        clear hW1
        go_wp2_with (first | (change wpList _ _ _ _ _ ((wr.alloc (.cells (blankB G) 4)).alloc (.cells #[.slice (some ⟨wr.heap.size, 0, none⟩) G G] 22)); rw [← hW1s'h.out]; refine wpList_copy_row rfl (.tmp 71) (.tmp 72) 22 22 rfl 4 Try.underlying22 info_bool1 (some ⟨wr.heap.size, 0, none⟩) sp G G n cap rfl rfl wr.heap.size 0 ((List.replicate G false).map Value.bool) 4 hG1'h.out ((fs.take (min n G)).map Value.bool) hfitl'h.out hpos'h.out hfit'h.out (oneCell_bools _) wr.heap.size wr hbW'h.out (Nat.le_refl _) ?_; intro W2 hH2 hO2 hB2))
        rw [hspl'h.out] at hH2
        have hV2 : W2.heap[wr.heap.size + 1]? = some (.cells #[.slice (some ⟨wr.heap.size, 0, none⟩) G G] 22 (0, 0)) := (hO2.out _ (by omega)).trans hV1'h.out
        have hF2 : Sl W2 (some ⟨wr.heap.size, 0, none⟩) G ((flagsB G n fs).map Value.bool) := by
          have := Sl.of_blk hH2.out (by simp [hFL'h.out]; unfold maxLen; omega)
          simpa [hFL'h.out] using this
        have hsx2 := hsx'h.out.below hB2
        have hBw2 := hBw'h.out.trans (hB2.mono hBw'h.out.size)
        have hflen := hFL'h.out
        clear hv0 hB2 hO2 hH2
        generalize flagsB G n fs = fl at *
        generalize hVb : wr.heap.size + 1 = vb at *
        generalize wr.heap.size = fb at *
        have hV2'h := Lib.hid hV2
        have hF2'h := Lib.hid hF2
        have hsx2'h := Lib.hid hsx2
        have hBw2'h := Lib.hid hBw2
        have hVb'h := Lib.hid hVb
        have hflen'h := Lib.hid hflen
        clear hV2 hF2 hsx2 hBw2 hVb hflen
        go_loopg [76] m2 (fun q i wv => ∃ k : Nat, k + q = m2 ∧ i = .int .i64 k ∧ Below W2.heap.size W2 wv)
        case atStart => exact ⟨0, by omega, rfl, Below.refl _ _⟩
        case round =>
          obtain ⟨k, hk, rfl, hB⟩ := hrel
          by_cases hkm : k < m2
          · have hkl : k < hs.length := by have := hl2'h.out; omega
            obtain ⟨ab, aoff, hap, hcs⟩ := (hsx2'h.out.below hB).some' (by omega)
            have c1 : wr.cell? ⟨ab, aoff + k, none⟩ = some (.int .u64 (nthN hs k)) := hcs k _ (u64s_at hkl)
            have hx64 : nthN hs k < 2 ^ 64 := hw64'h.out _ (nthN_mem hkl)
            clear hcs
            generalize nthN hs k = x at *
            subst hap
            have hvr := heap_below hB hV2'h.out (lt_of_heap hV2'h.out)
            have hfr := hF2'h.out.below hB
            have cv : wr.cell? ⟨vb, 0, none⟩ = some (.slice (some ⟨fb, 0, none⟩) G G) := blk_cell hvr rfl
            have hvl := lt_of_heap hvr
            have F := first_yes G x G G (some ⟨fb, 0, none⟩) fl wr hG'h.out hx64 hfr rfl
            have hbf := firstB_bd (G := G) (h := x) (fl := fl)
            have hnone := fun h => first_none (x := x) hG'h.out hflen'h.out h
            have hsome := fun i h => first_some (x := x) (fl := fl) (i := i) hG'h.out h
            have R := fun w => row_yes G x w hG'h.out hx64
            have hpl := fun i => prB_lt x i h0
            generalize firstB G x fl = i at *
            by_cases hi : 0 ≤ i
            · obtain ⟨j, rfl⟩ : ∃ j : Nat, i = (j : Int) := ⟨i.toNat, by omega⟩
              rw [if_pos hi, Int.toNat_natCast] at F
              obtain ⟨hjG, hat1, hidx⟩ := hsome j rfl
              have hp := hpl j
              clear hnone hsome hpl
              have hk'h := Lib.hid hk
              have hB'h := Lib.hid hB
              have F'h := Lib.hid F
              have R'h := Lib.hid R
              have hx64'h := Lib.hid hx64
              have hkl'h := Lib.hid hkl
              have hbf'h := Lib.hid hbf
              have hi'h := Lib.hid hi
              have hat1'h := Lib.hid hat1
              have hidx'h := Lib.hid hidx
              have hvr'h := Lib.hid hvr
              have hfr'h := Lib.hid hfr
              have hvl'h := Lib.hid hvl
              have hjG'h := Lib.hid hjG
              clear hk hB F R hx64 hkl hbf hi hat1 hidx hvr hfr hvl hjG
              go_wp2_with fail
              refine (F'h.out).mono ?_
              rintro e w7 ⟨rfl, hb7⟩
              have hv7 := heap_below hb7 hvr'h.out hvl'h.out
              have hf7 := hfr'h.out.below hb7
              have hB7 := below_next hB'h.out hb7
              clear hb7 c1 cv
              have hv7'h := Lib.hid hv7
              have hf7'h := Lib.hid hf7
              have hB7'h := Lib.hid hB7
              clear hv7 hf7 hB7
              go_wp2_with fail
              refine (R'h.out _).mono ?_
              rintro e w8 ⟨rp, rc, rfl, hb8, hr8⟩
              have hv8 := heap_below hb8 hv7'h.out (lt_of_heap hv7'h.out)
              have hf8 := hf7'h.out.below hb8
              have hB8 := below_next hB7'h.out hb8
              have hs8 := Sl.of_row hr8 (by unfold maxLen; omega)
              obtain ⟨rb, ro, rfl, hrc⟩ := hs8.some' (by omega)
              have d1 : w8.cell? ⟨rb, ro + j, none⟩ = some (.int .i64 (prB G x j)) := by
                have := hrc j _ (zN_at (by rw [rowB_length]; exact hjG'h.out))
                rwa [nth_row hjG'h.out] at this
              have d2 : w8.cell? ⟨vb, 0, none⟩ = some (.slice (some ⟨fb, 0, none⟩) G G) := blk_cell hv8 rfl
              obtain ⟨fb2, fo2, hfe, hfc⟩ := hf8.some' (by omega)
              injection hfe with hfe
              injection hfe with hfe1 hfe2
              subst hfe1 hfe2
              have hpf : prB G x j < fl.length := by rw [hflen'h.out]; exact hp
              have d3 : w8.cell? ⟨fb, 0 + prB G x j, none⟩ = some (.bool true) := hfc _ _ (by
                have h3 := hat1'h.out
                unfold atB at h3
                rw [Int.toNat_natCast, List.getD_eq_getElem?_getD, List.getElem?_eq_getElem hpf] at h3
                rw [List.getElem?_map, List.getElem?_eq_getElem hpf]
                simp at h3
                simp [h3])
              rw [Nat.zero_add] at d3
              have hs8j := hs8.take j (by have := hjG'h.out; omega)
              have hzt : (zN (rowB G x)).take j = ((rowZ G x).take j).map (Value.int .i64) := by unfold zN rowZ; rw [List.map_take]
              rw [hzt] at hs8j
              have X := has_sums (some ⟨rb, ro, none⟩) j rc ((rowZ G x).take j) (atB fl) (.pointer (some ⟨vb, 0, none⟩)) w8 hs8j (fun z hz => sums1_any _ (some ⟨fb, 0, none⟩) G G fl z w8 d2 hf8 (by
                obtain ⟨t, ht, rfl⟩ := List.mem_iff_getElem.1 hz
                have ht' : t < G := by rw [List.length_take, rowZ_length] at ht; omega
                rw [List.getElem_take, nthZ_eq (by rw [rowZ_length]; exact ht'), nth_rowZ ht']
                have := prB_lt x t h0
                omega)) hidx'h.out
              have e1 := ne_self (prB G x j)
              have hcp := row_cap hr8
              have hjc : j ≤ rc := by have := hjG'h.out; omega
              have hjG := hjG'h.out
              clear hrc hfc hs8 hs8j hzt hb8 hr8
              generalize prB G x j = y at *
              have hB8'h := Lib.hid hB8
              have hv8'h := Lib.hid hv8
              have hf8'h := Lib.hid hf8
              have X'h := Lib.hid X
              clear hB8 hv8 hf8 X
              go_wp2_with fail
              refine X'h.out.mono ?_
              rintro e w' ⟨rfl, rfl⟩
              go_wp2
              go_roundg (gk - 1)
              case measure => have := hk'h.out; omega
              case rel => exact ⟨k + 1, by have := hk'h.out; omega, by go_num, hB8'h.out⟩
            · rw [if_neg hi] at F
              have hno := hnone (by omega)
              clear hnone hsome hpl R
              have hk'h := Lib.hid hk
              have hB'h := Lib.hid hB
              have F'h := Lib.hid F
              have hx64'h := Lib.hid hx64
              have hkl'h := Lib.hid hkl
              have hbf'h := Lib.hid hbf
              have hi'h := Lib.hid hi
              have hno'h := Lib.hid hno
              have hvr'h := Lib.hid hvr
              have hfr'h := Lib.hid hfr
              have hvl'h := Lib.hid hvl
              clear hk hB F hx64 hkl hbf hi hno hvr hfr hvl
              go_wp2_with fail
              refine (F'h.out).mono ?_
              rintro e w7 ⟨rfl, hb7⟩
              have hv7 := heap_below hb7 hvr'h.out hvl'h.out
              have hf7 := hfr'h.out.below hb7
              have hB7 := below_next hB'h.out hb7
              have d2 : w7.cell? ⟨vb, 0, none⟩ = some (.slice (some ⟨fb, 0, none⟩) G G) := blk_cell hv7 rfl
              have X := contains_none (some ⟨fb, 0, none⟩) G G fl w7 hf7 hno'h.out
              clear hb7 c1 cv hv7 hf7
              have hB7'h := Lib.hid hB7
              have X'h := Lib.hid X
              clear hB7 X
              go_wp2_with fail
              refine X'h.out.mono ?_
              rintro e w8 ⟨rfl, dq, rfl⟩
              go_wp2
              go_ret
              exact ⟨rfl, (hBw2'h.out.trans (hB7'h.out.mono hBw2'h.out.size)).trans (below_drewN' _ _)⟩
          · have hd3 : ¬ ((k : Int) < (m2 : Int)) := by omega
            have hk'h := Lib.hid hk
            have hB'h := Lib.hid hB
            clear hk hB
            go_wp2
            go_ret
            exact ⟨rfl, hBw2'h.out.trans (hB'h.out.mono hBw2'h.out.size)⟩
end Go.Proofs.Ytkeegafebnhcpaa
