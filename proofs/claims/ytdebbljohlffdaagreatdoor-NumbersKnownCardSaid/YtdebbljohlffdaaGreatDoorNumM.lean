import Derived.Test.YtdebbljohlffdaaGreatDoorNumL
namespace Go.Proofs.YtdebbljohlffdaaGreatDoor
open Go.Shelf Go.RowKit

namespace Fl
theorem ONE_eq : ONE = 2 ^ K := rfl
theorem half {r : Nat} (h : r < I) (hl : LIM ≤ U r) : ∃ s, s < I ∧ 2 * U s = U r ∧ s < r := by
  obtain ⟨e, k, hr, hk, hek, hU, _⟩ := rung_form r
  have he : 0 < e := by
    rcases Nat.eq_zero_or_pos e with h0 | h0
    · exfalso
      rw [hU, h0] at hl
      have : 2 * B * 1 ≤ 2 * B * ONE := Nat.mul_le_mul_left _ ONE_pos
      unfold LIM at hl
      omega
    · exact h0
  have hkB : B ≤ k := by rcases hek with h1 | h1 <;> omega
  obtain ⟨e', rfl⟩ : ∃ e', e = e' + 1 := ⟨e - 1, by omega⟩
  have hs : U (e' * B + k) = k * 2 ^ e' := U_mk hk (Or.inr hkB)
  refine ⟨e' * B + k, ?_, ?_, ?_⟩
  · rw [Nat.succ_mul] at hr; omega
  · rw [hs, hU, Nat.pow_succ]; rw [Nat.mul_comm 2, Nat.mul_assoc]
  · rw [Nat.succ_mul] at hr; have := B_pos; omega
theorem dbl {r : Nat} (_h : r < I) (hm : U r % ONE ≠ 0) : ∃ s, s < I ∧ U s = 2 * U r ∧ U s < LIM := by
  obtain ⟨e, k, hr, hk, hek, hU, _⟩ := rung_form r
  have hlt : U r < B * ONE := by
    rcases @ratio r with h1 | h1
    · exact (Nat.div_lt_iff_lt_mul ONE_pos).1 h1
    · exact absurd (Nat.mod_eq_zero_of_dvd h1) hm
  have heK : e < K := by
    rcases Nat.lt_or_ge e K with h1 | h1
    · exact h1
    · exfalso; apply hm
      rw [hU]
      exact Nat.mod_eq_zero_of_dvd (Nat.dvd_trans (pow_dvd_pow2 h1) (Nat.dvd_mul_left _ _))
  obtain ⟨s, hs, hsU⟩ := rung_of (e + 1) k hk (by have := K_eq; omega)
  have e2 : U s = 2 * U r := by rw [hsU, hU, Nat.pow_succ, ← Nat.mul_assoc, Nat.mul_comm]
  refine ⟨s, hs, e2, ?_⟩
  rw [e2]
  unfold LIM
  rw [Nat.mul_assoc]; omega
theorem word_false (r : Nat) : D.word false r = r := by unfold Ieee.Format.word; simp
theorem rung_self {r : Nat} (h : r ≤ I) : rung r = r := Nat.mod_eq_of_lt (Nat.lt_of_le_of_lt h I_lt)
theorem neg_self {r : Nat} (h : r ≤ I) : neg r = false := by unfold neg; rw [Nat.div_eq_of_lt (Nat.lt_of_le_of_lt h I_lt)]; rfl
/-- the number under way stands to the first one -/
def Rel (r s a b : Nat) : Prop := U s * 2 ^ a = U r * 2 ^ b
theorem Rel.bound {r s a b : Nat} (h : Rel r s a b) (hr : r < I) (hs : 0 < s) : a < TOP + b := by
  unfold Rel at h
  have h1 := U_bound hr
  have h2 := U_pos hs
  have h3 : 2 ^ a ≤ U s * 2 ^ a := Nat.le_mul_of_pos_left _ h2
  have h4 : U r * 2 ^ b < 2 ^ TOP * 2 ^ b := Nat.mul_lt_mul_of_pos_right h1 (Nat.two_pow_pos _)
  rw [← Nat.pow_add] at h4
  have h5 : 2 ^ a < 2 ^ (TOP + b) := by omega
  exact (Nat.pow_lt_pow_iff_right (by decide)).1 h5
theorem Rel.bound2 {r s a b : Nat} (h : Rel r s a b) (hs : s < I) (hr : 0 < r) : b < TOP + a := Rel.bound (show Rel s r b a from h.symm) hs hr
theorem Rel.half {r s t a : Nat} (h : Rel r s a 0) (ht : 2 * U t = U s) : Rel r t (a + 1) 0 := by
  unfold Rel at *
  rw [← ht] at h
  rw [← h, Nat.pow_succ, Nat.mul_comm (2 ^ a) 2, ← Nat.mul_assoc, Nat.mul_comm (U t) 2]
theorem Rel.dbl {r s t a b : Nat} (h : Rel r s a b) (ht : U t = 2 * U s) : Rel r t a (b + 1) := by
  unfold Rel at *
  rw [ht, Nat.pow_succ, ← Nat.mul_assoc, ← h, Nat.mul_assoc, Nat.mul_comm]
/-- a whole number under way -/
def RelN (r n a b : Nat) : Prop := n * 2 ^ (K + a) = U r * 2 ^ b
theorem Rel.whole {r s a b : Nat} (h : Rel r s a b) (hm : U s % ONE = 0) : RelN r (wv s) a b := by
  unfold Rel at h
  unfold RelN
  rw [← h, ← wv_exact.2 hm, ONE_eq, Nat.pow_add, Nat.mul_assoc]
theorem RelN.half {r n a b : Nat} (h : RelN r (2 * n) a b) : RelN r n (a + 1) b := by
  unfold RelN at *
  rw [← h, ← Nat.add_assoc, Nat.pow_succ, ← Nat.mul_assoc, Nat.mul_comm (n * 2 ^ (K + a)) 2, Nat.mul_assoc]
theorem RelN.done {r n a b : Nat} (h : RelN r n a b) (hr : r < I) (h0 : 0 < r) (hn : n % 2 = 1) : mant r = n ∧ expo r = (a : Int) - b := by
  obtain ⟨e1, e2⟩ := odd_parts h0 hr
  unfold RelN at h
  rw [e1, Nat.mul_assoc, ← Nat.pow_add] at h
  obtain ⟨e3, e4⟩ := odd_unique hn e2 h
  refine ⟨e4.symm, ?_⟩
  unfold expo
  have := K_eq
  omega
theorem RelN.bound {r n a b : Nat} (h : RelN r n a b) (hr : r < I) (hn : 0 < n) : a < TOP + b := by
  unfold RelN at h
  have h1 := U_bound hr
  have h3 : 2 ^ a ≤ n * 2 ^ (K + a) := by
    rw [Nat.pow_add, ← Nat.mul_assoc]
    exact Nat.le_mul_of_pos_left _ (Nat.mul_pos hn (Nat.two_pow_pos _))
  have h4 : U r * 2 ^ b < 2 ^ TOP * 2 ^ b := Nat.mul_lt_mul_of_pos_right h1 (Nat.two_pow_pos _)
  rw [← Nat.pow_add] at h4
  have h5 : 2 ^ a < 2 ^ (TOP + b) := by omega
  exact (Nat.pow_lt_pow_iff_right (by decide)).1 h5
end Fl
end Go.Proofs.YtdebbljohlffdaaGreatDoor
