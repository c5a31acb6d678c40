/-
  HashOf and HashPrefix, walked.
-/
import Derived.Test.YtpfpgjfcomkdgaaHashW
import Derived.Test.YtpfpgjfcomkdgaaRef07B
set_option linter.unusedSimpArgs false
set_option linter.unusedVariables false
namespace Go.Proofs.Ytpfpgjfcomkdgaa
open Go.RowKit

set_option maxHeartbeats 1000000 in
theorem walk_HashOf (a0 : Int) (sp : Option Addr) (n cap : Nat) (zs : List Int) (w : World) (w0 : (Lit.int .u64 a0).wf = true) (hc : sp = none → cap = 0) (hcap : n ≤ cap) (h : Sl w sp n (zs.map (Value.int .u64))) (hz : ∀ z ∈ zs, (Lit.int .u64 z).wf = true) :
    Calls Try.prog 3 #[.int .u64 a0, .slice sp n cap] w fun e w' => e = .returned (.bool true) ∧ Below w.heap.size w w' := by
  obtain ⟨seed, rfl, hs⟩ := nat_of_u64 w0
  rw [u64s_nats hz] at h
  have hk64 := nats_w64 hz
  have hlen := len_nats h
  have hmax := h.2.1
  unfold maxLen at hmax
  clear w0 hz
  generalize nats zs = keys at *
  have hs'h := Lib.hid hs
  have hk64'h := Lib.hid hk64
  have h'h := Lib.hid h
  have hlen'h := Lib.hid hlen
  have hc'h := Lib.hid hc
  clear hs hk64 h hlen hc
  go_enter Try.func3, Try.ntmps3
  go_wp2_with fail
  refine (wakes_any _).mono ?_
  rintro e w1 ⟨rfl, hb1⟩
  go_wp2
  go_loopg [11] (n + 1) (fun q i wr => ∃ k : Nat, k + q = n + 1 ∧ k ≤ n ∧ i = .int .i64 k ∧ wr = w1)
  case atStart => exact ⟨0, by omega, by omega, rfl, rfl⟩
  case round =>
    obtain ⟨k, hk, hkn, rfl, rfl⟩ := hrel
    by_cases hlt : k < n
    · have hkl : k < keys.length := by have := hlen'h.out; omega
      obtain ⟨b, off, rfl, hcs⟩ := (h'h.out.below hb1).some' (by omega)
      have c1 : wr.cell? ⟨b, off + k, none⟩ = some (.int .u64 (nthN keys k)) := hcs k _ (u64s_at hkl)
      have hb : nthN keys k < 2 ^ 64 := hk64'h.out _ (nthN_mem hkl)
      clear hcs
      generalize nthN keys k = x at *
      have O1 := of_any seed x wr hs'h.out hb
      have O2 := ref_of seed x wr hs'h.out hb
      have K1 := key_any seed x wr hs'h.out hb
      have K2 := ref_key seed x wr hs'h.out hb
      have A1 := h1_any x wr
      have A2 := ref_h1 x wr hb
      have B1 := h2_any x wr hb
      have B2 := ref_h2 x wr hb
      have e1 := ne_self (hOf seed x)
      have e2 := ne_self (hKey seed x)
      have e3 := ne_self (x / 128)
      have e4 := ne_self (x % 128)
      generalize hOf seed x = y1 at *
      generalize hKey seed x = y2 at *
      generalize x / 128 = y3 at *
      generalize x % 128 = y4 at *
      have hk'h := Lib.hid hk
      have O1'h := Lib.hid O1
      have O2'h := Lib.hid O2
      have K1'h := Lib.hid K1
      have K2'h := Lib.hid K2
      have A1'h := Lib.hid A1
      have A2'h := Lib.hid A2
      have B1'h := Lib.hid B1
      have B2'h := Lib.hid B2
      have hkl'h := Lib.hid hkl
      have hb'h := Lib.hid hb
      have hb1'h := Lib.hid hb1
      clear hk O1 O2 K1 K2 A1 A2 B1 B2 hkl hb hb1
      by_cases h8 : k = 8
      · subst h8
        go_wp2
        go_ret
        exact ⟨rfl, hb1'h.out⟩
      · have hne : (((k : Int)) == 8) = false := by simp; omega
        go_wp2_with fail
        refine (O1'h.out).mono ?_
        rintro e w' ⟨rfl, rfl⟩
        go_wp2_with fail
        refine (O2'h.out).mono ?_
        rintro e w' ⟨rfl, rfl⟩
        go_wp2_with fail
        refine (K1'h.out).mono ?_
        rintro e w' ⟨rfl, rfl⟩
        go_wp2_with fail
        refine (K2'h.out).mono ?_
        rintro e w' ⟨rfl, rfl⟩
        go_wp2_with fail
        refine (A1'h.out).mono ?_
        rintro e w' ⟨rfl, rfl⟩
        go_wp2_with fail
        refine (A2'h.out).mono ?_
        rintro e w' ⟨rfl, rfl⟩
        go_wp2_with fail
        refine (B1'h.out).mono ?_
        rintro e w' ⟨rfl, rfl⟩
        go_wp2_with fail
        refine (B2'h.out).mono ?_
        rintro e w' ⟨rfl, rfl⟩
        go_wp2
        go_roundg (gk - 1)
        case measure => have := hk'h.out; omega
        case rel => exact ⟨k + 1, by have := hk'h.out; omega, by omega, by go_num, rfl⟩
    · have hd : ¬ ((k : Int) < (n : Int)) := by omega
      have hk'h := Lib.hid hk
      clear hk
      go_wp2
      go_ret
      exact ⟨rfl, hb1⟩

set_option maxHeartbeats 1000000 in
theorem walk_HashPrefix (a0 a1 : Int) (sp : Option Addr) (n cap : Nat) (zs : List Int) (w : World) (w0 : (Lit.int .u64 a0).wf = true) (w1 : (Lit.int .u64 a1).wf = true) (hc : sp = none → cap = 0) (hcap : n ≤ cap) (h : Sl w sp n (zs.map (Value.int .i64))) (hz : ∀ z ∈ zs, (Lit.int .i64 z).wf = true) :
    Calls Try.prog 4 #[.int .u64 a0, .int .u64 a1, .slice sp n cap] w fun e w' => e = .returned (.bool true) ∧ Below w.heap.size w w' := by
  obtain ⟨a, rfl, ha⟩ := nat_of_u64 w0
  obtain ⟨b, rfl, hb⟩ := nat_of_u64 w1
  have hlen : n = zs.length := by have := h.1; simpa using this
  have hmax := h.2.1
  unfold maxLen at hmax
  clear w0 w1
  have ha'h := Lib.hid ha
  have hb'h := Lib.hid hb
  have h'h := Lib.hid h
  have hlen'h := Lib.hid hlen
  have hc'h := Lib.hid hc
  have hz'h := Lib.hid hz
  clear ha hb h hlen hc hz
  go_enter Try.func4, Try.ntmps4
  go_wp2_with fail
  refine (wakes_any _).mono ?_
  rintro e w1 ⟨rfl, hb1⟩
  go_wp2
  go_loopg [17] (n + 1) (fun q i wr => ∃ k : Nat, k + q = n + 1 ∧ k ≤ n ∧ i = .int .i64 k ∧ wr = w1)
  case atStart => exact ⟨0, by omega, by omega, rfl, rfl⟩
  case round =>
    obtain ⟨k, hk, hkn, rfl, rfl⟩ := hrel
    by_cases hlt : k < n ∧ k ≠ 10
    · obtain ⟨hlt, h10⟩ := hlt
      have hkl : k < zs.length := by have := hlen'h.out; omega
      obtain ⟨blk, off, rfl, hcs⟩ := (h'h.out.below hb1).some' (by omega)
      have c1 : wr.cell? ⟨blk, off + k, none⟩ = some (.int .i64 (nthZ zs k)) := hcs k _ (i64s_at hkl)
      have hbd := bd_of_i64 (hz'h.out _ (nthZ_mem hkl))
      have hne : (((k : Int)) == 10) = false := by simp; omega
      clear hcs h10
      generalize nthZ zs k = x at *
      have M := ref_may x wr
      cases hm : mayN x with
      | true =>
        have hx : 0 ≤ x ∧ x ≤ 64 := by unfold mayN at hm; simpa using hm
        obtain ⟨m, rfl⟩ : ∃ m : Nat, x = (m : Int) := ⟨x.toNat, by omega⟩
        have P1 := prefix_yes a m wr ha'h.out (by omega)
        have P2 := ref_prefix a m wr ha'h.out (by omega)
        have e1 := ne_self (hPrefix a m)
        generalize hPrefix a m = y at *
        rw [hm] at M
        have hk'h := Lib.hid hk
        have P1'h := Lib.hid P1
        have P2'h := Lib.hid P2
        have M'h := Lib.hid M
        have hm'h := Lib.hid hm
        have hkl'h := Lib.hid hkl
        have hx'h := Lib.hid hx
        have hb1'h := Lib.hid hb1
        have hbd'h := Lib.hid hbd
        clear hk P1 P2 M hm hkl hx hb1 hbd
        go_wp2_with fail
        refine (P1'h.out).mono ?_
        rintro e w' ⟨rfl, rfl⟩
        go_wp2_with fail
        refine (M'h.out).mono ?_
        rintro e w' ⟨rfl, rfl⟩
        go_wp2_with fail
        refine (P2'h.out).mono ?_
        rintro e w' ⟨rfl, rfl⟩
        go_wp2
        go_roundg (gk - 1)
        case measure => have := hk'h.out; omega
        case rel => exact ⟨k + 1, by have := hk'h.out; omega, by omega, by go_num, rfl⟩
      | false =>
        have P1 := prefix_no a x wr hm
        rw [hm] at M
        have hk'h := Lib.hid hk
        have P1'h := Lib.hid P1
        have M'h := Lib.hid M
        have hm'h := Lib.hid hm
        have hkl'h := Lib.hid hkl
        have hb1'h := Lib.hid hb1
        have hbd'h := Lib.hid hbd
        clear hk P1 M hm hkl hb1 hbd
        go_wp2_with fail
        refine (P1'h.out).mono ?_
        rintro e w' ⟨rfl, rfl⟩
        go_wp2_with fail
        refine (M'h.out).mono ?_
        rintro e w' ⟨rfl, rfl⟩
        go_wp2
        go_roundg (gk - 1)
        case measure => have := hk'h.out; omega
        case rel => exact ⟨k + 1, by have := hk'h.out; omega, by omega, by go_num, rfl⟩
    · have P1 := parts_any a b wr ha'h.out hb'h.out
      have P2 := ref_parts a b wr ha'h.out hb'h.out
      have e1 : ((hParts a b : Int) == (hParts a b : Int)) = true := by simp
      generalize hParts a b = y at *
      by_cases hlt2 : k < n
      · have h10 : k = 10 := by omega
        subst h10
        have hkl : 10 < zs.length := by have := hlen'h.out; omega
        obtain ⟨blk, off, rfl, hcs⟩ := (h'h.out.below hb1).some' (by omega)
        have c1 : wr.cell? ⟨blk, off + 10, none⟩ = some (.int .i64 (nthZ zs 10)) := hcs 10 _ (i64s_at hkl)
        clear hcs hlt
        have hk'h := Lib.hid hk
        have P1'h := Lib.hid P1
        have P2'h := Lib.hid P2
        have hb1'h := Lib.hid hb1
        have hkl'h := Lib.hid hkl
        clear hk P1 P2 hb1 hkl
        go_wp2_with fail
        refine (P1'h.out).mono ?_
        rintro e w' ⟨rfl, rfl⟩
        go_wp2_with fail
        refine (P2'h.out).mono ?_
        rintro e w' ⟨rfl, rfl⟩
        go_wp2
        go_ret
        exact ⟨rfl, hb1'h.out⟩
      · have hd : ¬ ((k : Int) < (n : Int)) := by omega
        clear hlt
        have hk'h := Lib.hid hk
        have P1'h := Lib.hid P1
        have P2'h := Lib.hid P2
        have hb1'h := Lib.hid hb1
        clear hk P1 P2 hb1
        go_wp2_with fail
        refine (P1'h.out).mono ?_
        rintro e w' ⟨rfl, rfl⟩
        go_wp2_with fail
        refine (P2'h.out).mono ?_
        rintro e w' ⟨rfl, rfl⟩
        go_wp2
        go_ret
        exact ⟨rfl, hb1'h.out⟩
end Go.Proofs.Ytpfpgjfcomkdgaa
