/-
  HashCounts, the plain part: what was counted so far, while a map's entries are gone through in whatever order.
-/
import Derived.Test.YtpfpgjfcomkdgaaLawCrowds
set_option linter.unusedSimpArgs false
set_option linter.unusedVariables false
namespace Go.Proofs.Ytpfpgjfcomkdgaa
open Go.RowKit Go.Maps

def sumV (ks : List Nat) (left : Lit → Bool) : List Nat → Nat
  | [] => 0
  | k :: r => (if left (.int .u64 (k : Int)) = true then 0 else ks.count k) + sumV ks left r
theorem sumV_le (ks : List Nat) (left : Lit → Bool) : ∀ K, sumV ks left K ≤ sumV ks (fun _ => false) K
  | [] => Nat.le_refl _
  | k :: r => by
    have := sumV_le ks left r
    unfold sumV
    split <;> simp <;> omega
theorem sumV_none (ks : List Nat) {left : Lit → Bool} : ∀ K : List Nat, (∀ k ∈ K, left (.int .u64 (k : Int)) = true) → sumV ks left K = 0
  | [], _ => rfl
  | k :: r, h => by
    unfold sumV
    rw [if_pos (h k (by simp)), sumV_none ks r fun x hx => h x (by simp [hx])]
theorem sumV_congr (ks : List Nat) {left left' : Lit → Bool} : ∀ K : List Nat, (∀ k ∈ K, left (.int .u64 (k : Int)) = left' (.int .u64 (k : Int))) → sumV ks left K = sumV ks left' K
  | [], _ => rfl
  | k :: r, h => by
    unfold sumV
    rw [h k (by simp), sumV_congr ks r fun x hx => h x (by simp [hx])]
theorem sumV_step (ks : List Nat) {left left' : Lit → Bool} {x : Nat} (hl : left (.int .u64 (x : Int)) = true) (hx' : left' (.int .u64 (x : Int)) = false)
    (ho : ∀ k : Nat, k ≠ x → left' (.int .u64 (k : Int)) = left (.int .u64 (k : Int))) : ∀ K : List Nat, K.Nodup → x ∈ K → sumV ks left' K = sumV ks left K + ks.count x
  | [], _, h => by simp at h
  | k :: r, hn, h => by
    have hn' := List.nodup_cons.1 hn
    unfold sumV
    by_cases e : k = x
    · subst e
      rw [if_pos hl, if_neg (by simp [hx']), sumV_congr ks (left := left') (left' := left) r fun y hy => ho y (by rintro rfl; exact hn'.1 hy)]
      omega
    · rw [ho k e, sumV_step ks hl hx' ho r hn'.2 (by simpa [Ne.symm e] using h)]
      omega
theorem sumV_one (a : Nat) : ∀ K : List Nat, K.Nodup → a ∈ K → ∀ r : List Nat, sumV (a :: r) (fun _ => false) K = sumV r (fun _ => false) K + 1
  | [], _, h => by simp at h
  | k :: K, hn, h => by
    intro r
    have hn' := List.nodup_cons.1 hn
    unfold sumV
    simp only [Bool.false_eq_true, if_false, List.count_cons]
    by_cases e : a = k
    · subst e
      have : ∀ K : List Nat, a ∉ K → sumV (a :: r) (fun _ => false) K = sumV r (fun _ => false) K := by
        intro K
        induction K with
        | nil => intro _; rfl
        | cons x K ih =>
          intro hx
          unfold sumV
          rw [ih (by simp at hx; exact hx.2)]
          have : ¬ (a == x) = true := by simp at hx ⊢; exact hx.1
          simp [List.count_cons, this]
      rw [this K hn'.1]
      simp
      omega
    · rw [sumV_one a K hn'.2 (by simpa [e] using h) r]
      have : ¬ (a == k) = true := by simpa using e
      simp [this]
      omega
theorem sumV_total : ∀ (ks K : List Nat), K.Nodup → (∀ x ∈ ks, x ∈ K) → sumV ks (fun _ => false) K = ks.length
  | [], K, _, _ => by
    induction K with
    | nil => rfl
    | cons x K ih => unfold sumV; simp at ih ⊢; rw [ih (by rename_i h _; exact (List.nodup_cons.1 h).2)]
  | a :: r, K, hn, h => by
    rw [sumV_one a K hn (h a (by simp)) r, sumV_total r K hn fun x hx => h x (by simp [hx])]
    rfl

/-- What was counted of a map's entries so far. -/
structure Seen (ks : List Nat) (left : Lit → Bool) (al mo : Nat) : Prop where
  sum : al = sumV ks left (onceL ks)
  some : ∀ k : Nat, left (.int .u64 (k : Int)) = true → k ∈ ks
  most : ∀ k ∈ ks, left (.int .u64 (k : Int)) = false → ks.count k ≤ mo
  got : mo = 0 ∨ ∃ k ∈ ks, mo = ks.count k
theorem Seen.start {ks : List Nat} (h64 : ∀ p ∈ logOf ks, p.1 < 2 ^ 64) : Seen ks (Maps.has (mapD (logOf ks))) 0 0 where
  sum := by
    rw [sumV_none]
    intro k hk
    rw [has_mapD _ k h64, mhas_log]
    simpa using mem_onceL.1 hk
  some := fun k hk => by
    rw [has_mapD _ k h64, mhas_log] at hk
    simpa using hk
  most := fun k hk hl => by
    rw [has_mapD _ k h64, mhas_log] at hl
    simp [hk] at hl
  got := .inl rfl
theorem Seen.step {ks : List Nat} {left left' : Lit → Bool} {al mo x : Nat} (h : Seen ks left al mo) (hl : left (.int .u64 (x : Int)) = true) (hx' : left' (.int .u64 (x : Int)) = false)
    (ho : ∀ k : Nat, k ≠ x → left' (.int .u64 (k : Int)) = left (.int .u64 (k : Int))) : Seen ks left' (al + ks.count x) (max mo (ks.count x)) where
  sum := by rw [h.sum, sumV_step ks hl hx' ho _ (once_nodup ks) (mem_onceL.2 (h.some x hl))]
  some := fun k hk => by
    by_cases e : k = x
    · subst e; rw [hx'] at hk; cases hk
    · rw [ho k e] at hk; exact h.some k hk
  most := fun k hk hl' => by
    by_cases e : k = x
    · subst e; omega
    · rw [ho k e] at hl'
      have := h.most k hk hl'
      omega
  got := by
    by_cases c : mo ≤ ks.count x
    · right; exact ⟨x, h.some x hl, by omega⟩
    · rw [show max mo (ks.count x) = mo by omega]; exact h.got
theorem Seen.bound {ks : List Nat} {left : Lit → Bool} {al mo : Nat} (h : Seen ks left al mo) : al ≤ ks.length ∧ mo ≤ ks.length := by
  constructor
  · rw [h.sum]
    refine Nat.le_trans (sumV_le ks left _) ?_
    rw [sumV_total ks _ (once_nodup ks) fun x hx => mem_onceL.2 hx]
    exact Nat.le_refl _
  · rcases h.got with h | ⟨k, -, h⟩
    · omega
    · rw [h]; exact List.count_le_length
theorem Seen.all {ks : List Nat} {left : Lit → Bool} {al mo : Nat} (h : Seen ks left al mo) (hl : ∀ l, left l = false) : al = ks.length := by
  rw [h.sum, sumV_congr ks (left' := fun _ => false) _ fun k _ => hl _, sumV_total ks _ (once_nodup ks) fun x hx => mem_onceL.2 hx]
theorem Seen.over {ks : List Nat} {left : Lit → Bool} {al mo : Nat} {many : Int} (h : Seen ks left al mo) (hl : ∀ l, left l = false) (hm : 1 ≤ many) : someOver (logOf ks) many = decide (many < (mo : Int)) := by
  rw [Bool.eq_iff_iff, someOver_iff, decide_eq_true_eq]
  constructor
  · rintro ⟨x, hx, hlt⟩
    rw [mhas_log] at hx
    rw [mget_log] at hlt
    have := h.most x (by simpa using hx) (hl _)
    omega
  · intro hlt
    rcases h.got with h0 | ⟨k, hk, h0⟩
    · omega
    · exact ⟨k, by rw [mhas_log]; simpa using hk, by rw [mget_log]; omega⟩
theorem prefixes_length (seed nb : Nat) (keys : List Nat) : (prefixes seed keys nb).length = (onceL keys).length := by rw [prefixes_eq, List.length_map]
/-- With no bits all keys are one crowd. -/
theorem over_none {seed : Nat} {keys : List Nat} {many : Int} (hs : seed < 2 ^ 64) (hm : 1 ≤ many) (h : overN seed keys many 0 = false) : ((onceL keys).length : Int) ≤ many := by
  rcases hk : onceL keys with _ | ⟨a, r⟩
  · simp; omega
  · rw [← hk, ← prefixes_length seed 0 keys]
    have h0 : ∀ x ∈ prefixes seed keys 0, x = 0 := by
      intro x hx
      rw [prefixes_eq, List.mem_map] at hx
      obtain ⟨k, -, rfl⟩ := hx
      unfold preOf
      have := hOf_lt seed k
      simp [hPrefix, Nat.shiftRight_eq_div_pow]
      omega
    have hc : (prefixes seed keys 0).count 0 = (prefixes seed keys 0).length := List.count_eq_length.2 fun b hb => (h0 b hb).symm
    have hm0 : 0 ∈ prefixes seed keys 0 := by
      have : preOf seed 0 a ∈ prefixes seed keys 0 := by rw [prefixes_eq]; exact List.mem_map_of_mem (by rw [hk]; simp)
      rwa [h0 _ this] at this
    unfold overN at h
    rw [Bool.eq_false_iff] at h
    by_cases c : (((prefixes seed keys 0).length : Nat) : Int) ≤ many
    · exact c
    · exact absurd (someOver_iff.2 ⟨0, by rw [mhas_log]; simpa using hm0, by rw [mget_log, hc]; omega⟩) h
end Go.Proofs.Ytpfpgjfcomkdgaa
