import Derived.Test.YtdebbljohlffdaaGreatDoorNumW
namespace Go.Proofs.YtdebbljohlffdaaGreatDoor
open Go.Shelf Go.RowKit

namespace Fl
open Ieee
def TE : Nat := 2046
theorem TE_eq : TE = 2046 := rfl
def tiny : Nat := 4368491638549381120
theorem read_tiny : D.read tiny = .number false B (-1074 + (969 : Nat)) := by decide
theorem mul_any {c x : Nat} {p0 : Nat} (hc : D.read c = .number false B (-1074 + (p0 : Int))) (h : num x) : ∃ y, D.mul c x = some y ∧ num y := by
  unfold Format.mul
  rw [hc]
  rcases Nat.lt_or_eq_of_le h.1 with h1 | h1
  · obtain ⟨m, p, hr, _⟩ := read_fin h1
    rw [hr]
    exact ⟨_, rfl, num_nearest _ _ _⟩
  · rw [read_inf h1]
    exact ⟨D.word (neg x ^^ false) D.infRung, rfl, num_word _ (by rw [infD]; exact Nat.le_refl _)⟩
theorem mul_scaled {c x r p0 d : Nat} (hc : D.read c = .number false B (-1074 + (p0 : Int))) (hd : p0 + 52 + d = 1074) (hx : x < I) (hr : r < I) (hU : U x = U r * 2 ^ d) : D.mul c x = some r := by
  have e := rung_self (Nat.le_of_lt hx)
  obtain ⟨m, p, hrd, hu, _⟩ := read_fin' (b := x) (by rw [e]; exact hx)
  rw [e] at hu
  rw [neg_self (Nat.le_of_lt hx)] at hrd
  unfold Format.mul
  rw [hc, hrd]
  show some (D.nearest (false ^^ false) (B * m) (-1074 + (p0 : Int) + (-1074 + (p : Int)))) = some r
  rw [nearest_exact (false ^^ false) (B * m) _ r p (1074 - p0) hr (by omega) ?_]
  · rw [show (false ^^ false) = false from rfl, word_false]
  · rw [Nat.mul_assoc, ← hu, hU, B_eq, show 1074 - p0 = 52 + d by omega, Nat.pow_add]
    simp only [Nat.mul_assoc, Nat.mul_comm, Nat.mul_left_comm]
theorem and_mask (x : Nat) (hx : x < 9223372036854775808) : x &&& (18446744073709551615 - 9218868437227405312) = x % 4503599627370496 := by
  have e : (18446744073709551615 - 9218868437227405312 : Nat) = 2 ^ 63 ||| (2 ^ 52 - 1) := by decide
  have e2 : (4503599627370496 : Nat) = 2 ^ 52 := by decide
  rw [e, Nat.and_or_distrib_left, Nat.and_two_pow_sub_one_eq_mod, nat_bit, Nat.div_eq_of_lt (show x < 2 ^ 63 from hx), e2]
  simp
theorem join_bits {x j : Nat} (hx : x < 9223372036854775808) (hj : j < 2048) : bits .or .u64 (bits .andNot .u64 (x : Int) 9218868437227405312) ((j * 4503599627370496 : Nat) : Int) = ((j * 4503599627370496 + x % 4503599627370496 : Nat) : Int) := by
  have h1 := u64_andNot_nat x 9218868437227405312 (by omega) (by decide)
  rw [and_mask x hx] at h1
  have h2 : bits .andNot .u64 (x : Int) 9218868437227405312 = ((x % 4503599627370496 : Nat) : Int) := h1
  have hm : x % 4503599627370496 < 4503599627370496 := Nat.mod_lt _ (by decide)
  have h52 : (2 : Nat) ^ 52 = 4503599627370496 := by decide
  rw [h2, u64_or_nat _ _ (by omega) (by omega), Nat.or_comm, nat_join 52 _ _ (by rw [h52]; exact Nat.mul_mod_left _ _) (by rw [h52]; exact hm)]
theorem and2047 : ∀ q : Fin 2048, bits .and .i64 (q.val : Int) 2047 = (q.val : Int) := by decide +kernel
/-- WHAT ldexp OF A WHOLE NUMBER n IS -/
def LdOk (n : Nat) (k : Int) (x : Nat) : Prop := num x ∧ ∀ r a b : Nat, r < I → k = (a : Int) - (b : Int) → U r * 2 ^ b = n * ONE * 2 ^ a → x = r
end Fl
theorem floatNat {n : Nat} (h : n < 9007199254740992) : floatOfInt .f64 (n : Int) = Fl.rn n ∧ Fl.rn n < Fl.I ∧ Fl.U (Fl.rn n) = n * Fl.ONE := by
  have hN := Fl.rn_spec (k := n) (by rw [Fl.two_B]; exact h)
  have hf : floatOfInt .f64 (n : Int) = Fl.rn n := by
    rw [Fl.ofInt_word (by omega) (by omega)]
    have : decide ((n : Int) < 0) = false := by simp
    rw [this, Fl.word_false]; rfl
  exact ⟨hf, hN.1, hN.2⟩
theorem ldexp_in (n : Nat) (k : Int) (w : World) (h : n < 9007199254740992) (hk1 : -2000 ≤ k) (hk2 : k ≤ 2000) :
    Calls Tryz.prog 72 #[.float .f64 (floatOfInt .f64 (n : Int)), .int .i64 k] w fun e w' => (∃ x, Fl.LdOk n k x ∧ e = .returned (.float .f64 x)) ∧ w = w' := by
  obtain ⟨hf, hI, hU⟩ := floatNat h
  rw [hf]
  generalize Fl.rn n = x0 at *
  have hle := Nat.le_of_lt hI
  have hrs := Fl.rung_self hle
  have hns := Fl.neg_self hle
  have hv := Fl.val_pos hns
  rw [hrs] at hv
  have hz : Fl.rung 0 ≤ Fl.I := by decide
  have vz := Fl.val_zero
  have hII : Fl.I = 9218868437227405312 := rfl
  have hB : Fl.B = 4503599627370496 := rfl
  rcases Nat.eq_zero_or_pos n with hn | hn
  · subst hn
    have hx0 : x0 = 0 := by
      rcases Nat.eq_zero_or_pos x0 with h0 | h0
      · exact h0
      · have := Fl.U_pos h0; omega
    subst hx0
    refine (ldexp_zero 0 k w (Fl.order_eq hz hz rfl)).mono fun e w' ⟨a, b⟩ => ⟨⟨0, ⟨⟨hz, by decide⟩, fun r a b hr _ hUr => ?_⟩, a⟩, b⟩
    simp only [Nat.zero_mul] at hUr
    rcases Nat.eq_zero_or_pos r with h0 | h0
    · exact h0.symm
    · have := Nat.mul_pos (Fl.U_pos h0) (Nat.two_pow_pos b); omega
  · have hUpos : Fl.ONE ≤ Fl.U x0 := by rw [hU]; exact Nat.le_mul_of_pos_left _ hn
    have hK := Fl.K_eq
    have hBx : Fl.B ≤ x0 := by
      rcases Nat.lt_or_ge x0 Fl.B with h1 | h1
      · exfalso
        rw [Fl.U_low h1, Fl.ONE_eq] at hUpos
        have h2 : (2 : Nat) ^ 52 ≤ 2 ^ Fl.K := Nat.pow_le_pow_right (by decide) (by omega)
        have h3 := Fl.B_eq
        omega
      · exact h1
    obtain ⟨q, hq⟩ : ∃ q, x0 / Fl.B = q := ⟨_, rfl⟩
    obtain ⟨t, ht⟩ : ∃ t, x0 % Fl.B = t := ⟨_, rfl⟩
    have htB : t < Fl.B := by rw [← ht]; exact Nat.mod_lt _ Fl.B_pos
    have hq0 : 1 ≤ q := by rw [← hq]; exact (Nat.le_div_iff_mul_le Fl.B_pos).2 (by omega)
    have hUx : Fl.U x0 = (Fl.B + t) * 2 ^ (q - 1) := by unfold Fl.U; rw [if_neg (by omega), hq, ht]
    have h53 : (2 : Nat) ^ 53 = 2 * Fl.B := by decide
    have h52 : (2 : Nat) ^ 52 = Fl.B := by decide
    have hq1 : 1023 ≤ q := by
      have h1 : 2 ^ Fl.K < 2 ^ 53 * 2 ^ (q - 1) := by
        rw [← Fl.ONE_eq]
        refine Nat.lt_of_le_of_lt hUpos ?_
        rw [hUx]
        exact Nat.mul_lt_mul_of_pos_right (by omega) (Nat.two_pow_pos _)
      rw [← Nat.pow_add] at h1
      have := (Nat.pow_lt_pow_iff_right (by decide : 1 < 2)).1 h1
      omega
    have hq2 : q ≤ 1076 := by
      have h1 : 2 ^ 52 * 2 ^ (q - 1) < 2 ^ 53 * 2 ^ Fl.K := by
        rw [← Fl.ONE_eq]
        refine Nat.lt_of_le_of_lt (Nat.mul_le_mul_right _ (show 2 ^ 52 ≤ Fl.B + t by omega)) ?_
        rw [← hUx, hU]
        exact Nat.mul_lt_mul_of_pos_right (by omega) Fl.ONE_pos
      rw [← Nat.pow_add, ← Nat.pow_add] at h1
      have := (Nat.pow_lt_pow_iff_right (by decide : 1 < 2)).1 h1
      omega
    have F : LdFacts x0 q k := by
      refine ⟨Fl.order_gt (by omega) hz (by rw [vz, hv]; have := Fl.ONE_pos; omega), hk1, hk2, hq1, hq2, by rw [← hq, hB]; omega, Fl.and2047 ⟨q, by omega⟩, ?_, ?_, ?_⟩
      · intro w
        have := isinf_c x0 w (by omega) (by omega)
        rw [hrs, decide_eq_false (by omega)] at this; exact this
      · exact fun w => isnan_no x0 w (self_num (by omega))
      · intro w
        have hrB : Fl.rung 4503599627370496 = 4503599627370496 := by decide
        have hvB : Fl.val 4503599627370496 = (Fl.U 4503599627370496 : Int) := by
          have := Fl.val_pos (x := 4503599627370496) (by decide)
          rw [hrB] at this; exact this
        rcases Nat.lt_or_eq_of_le hBx with h1 | h1
        · exact normalize_c x0 w (by omega) .gt (Or.inr rfl) (by rw [hrs]; exact Fl.order_gt (by omega) (by rw [hrB]; omega) (by rw [hvB, hv]; have := Fl.U_lt (r := 4503599627370496) (s := x0) (by omega); omega))
        · exact normalize_c x0 w (by omega) .eq (Or.inl rfl) (by rw [hrs]; exact Fl.order_eq (by omega) (by rw [hrB]; omega) (by rw [hvB, hv, ← h1]; rfl))
    have hx63 : x0 < 9223372036854775808 := by omega
    have htx : x0 % 4503599627370496 = t := ht
    -- the scaled equation
    have scale : ∀ (r a b : Nat), k = (a : Int) - (b : Int) → Fl.U r * 2 ^ b = n * Fl.ONE * 2 ^ a → Fl.U r * 2 ^ b = (Fl.B + t) * 2 ^ (q - 1 + a) := by
      intro r a b _ hr
      rw [hr, ← hU, hUx, Nat.mul_assoc, ← Nat.pow_add]
    by_cases e1 : k + ((q : Int) - 1023) < -1075
    · refine (ldexp_low x0 q k w F hx63 e1).mono fun e w' ⟨a, b⟩ => ⟨⟨0, ⟨⟨hz, by decide⟩, fun r a b hr hk hUr => ?_⟩, a⟩, b⟩
      have h1 := scale r a b hk hUr
      rcases Nat.eq_zero_or_pos r with h0 | h0
      · exact h0.symm
      · exfalso
        have h2 : 2 ^ b ≤ Fl.U r * 2 ^ b := Nat.le_mul_of_pos_left _ (Fl.U_pos h0)
        have h3 : (Fl.B + t) * 2 ^ (q - 1 + a) < 2 ^ 53 * 2 ^ (q - 1 + a) := Nat.mul_lt_mul_of_pos_right (by omega) (Nat.two_pow_pos _)
        rw [← Nat.pow_add] at h3
        have h4 : 2 ^ b < 2 ^ (53 + (q - 1 + a)) := by omega
        have := (Nat.pow_lt_pow_iff_right (by decide : 1 < 2)).1 h4
        omega
    · by_cases e2 : 1023 < k + ((q : Int) - 1023)
      · refine (ldexp_high x0 q k w F e2).mono fun e w' ⟨a, b⟩ => ⟨⟨Fl.I, ⟨⟨by decide, by decide⟩, fun r a b hr hk hUr => ?_⟩, a⟩, b⟩
        exfalso
        have h1 := scale r a b hk hUr
        have h2 : Fl.U r < Fl.U Fl.I := Fl.U_lt hr
        have hTE := Fl.TE_eq
        have h3 : Fl.U Fl.I = Fl.B * 2 ^ Fl.TE := by
          have := @Fl.U_mk Fl.TE Fl.B (by have := Fl.B_pos; omega) (Or.inr (Nat.le_refl _))
          rw [← this, show Fl.I = Fl.TE * Fl.B + Fl.B from by decide]
        have h4 : Fl.B * 2 ^ (q - 1 + a) ≤ (Fl.B + t) * 2 ^ (q - 1 + a) := Nat.mul_le_mul_right _ (by omega)
        have h5 : Fl.U r * 2 ^ b < Fl.B * 2 ^ Fl.TE * 2 ^ b := by rw [← h3]; exact Nat.mul_lt_mul_of_pos_right h2 (Nat.two_pow_pos _)
        rw [h1, Nat.mul_assoc, ← Nat.pow_add] at h5
        have h6 : Fl.B * 2 ^ (q - 1 + a) < Fl.B * 2 ^ (Fl.TE + b) := by omega
        have h7 := Nat.lt_of_mul_lt_mul_left h6
        have := (Nat.pow_lt_pow_iff_right (by decide : 1 < 2)).1 h7
        omega
      · by_cases e3 : -1022 ≤ k + ((q : Int) - 1023)
        · obtain ⟨j, hj⟩ : ∃ j : Nat, k + ((q : Int) - 1023) + 1023 = (j : Int) := ⟨(k + (q : Int)).toNat, by omega⟩
          have hjc : (j : Int) * 4503599627370496 = ((j * 4503599627370496 : Nat) : Int) := by omega
          have hbits := Fl.join_bits (x := x0) (j := j) hx63 (by omega)
          rw [htx] at hbits
          have hrn : j * 4503599627370496 + t < Fl.I := by omega
          have hUr' : Fl.U (j * 4503599627370496 + t) = (Fl.B + t) * 2 ^ (j - 1) := by
            have hj2 : j * 4503599627370496 + t = (j - 1) * Fl.B + (Fl.B + t) := by
              obtain ⟨i, rfl⟩ : ∃ i, j = i + 1 := ⟨j - 1, by omega⟩
              rw [Nat.add_sub_cancel, hB]; omega
            rw [hj2]
            exact @Fl.U_mk (j - 1) (Fl.B + t) (by omega) (Or.inr (by omega))
          have hmul := Fl.mul_scaled (c := Fl.one) (x := j * 4503599627370496 + t) (r := j * 4503599627370496 + t) (d := 0) Fl.read_one (by decide) hrn hrn (Nat.mul_one _).symm
          refine (ldexp_mid x0 q _ _ k w F e3 (by omega) (by rw [hj, hjc]; exact hbits) hmul).mono fun e w' ⟨a, b⟩ => ⟨⟨_, ⟨⟨by rw [Fl.rung_self (Nat.le_of_lt hrn)]; omega, by omega⟩, fun r a b hr hk hUr => ?_⟩, a⟩, b⟩
          have h1 := scale r a b hk hUr
          apply Fl.U_inj
          apply Nat.eq_of_mul_eq_mul_right (Nat.two_pow_pos b)
          rw [h1, hUr', Nat.mul_assoc, ← Nat.pow_add]
          congr 2; omega
        · obtain ⟨j, hj⟩ : ∃ j : Nat, k + ((q : Int) - 1023) + 53 + 1023 = (j : Int) := ⟨(k + (q : Int) + 53).toNat, by omega⟩
          have hjc : (j : Int) * 4503599627370496 = ((j * 4503599627370496 : Nat) : Int) := by omega
          have hbits := Fl.join_bits (x := x0) (j := j) hx63 (by omega)
          rw [htx] at hbits
          have hrn : j * 4503599627370496 + t < Fl.I := by omega
          have hUr' : Fl.U (j * 4503599627370496 + t) = (Fl.B + t) * 2 ^ (j - 1) := by
            have hj2 : j * 4503599627370496 + t = (j - 1) * Fl.B + (Fl.B + t) := by
              obtain ⟨i, rfl⟩ : ∃ i, j = i + 1 := ⟨j - 1, by omega⟩
              rw [Nat.add_sub_cancel, hB]; omega
            rw [hj2]
            exact @Fl.U_mk (j - 1) (Fl.B + t) (by omega) (Or.inr (by omega))
          obtain ⟨y, hy, hyn⟩ := Fl.mul_any (c := Fl.tiny) (x := j * 4503599627370496 + t) Fl.read_tiny ⟨by rw [Fl.rung_self (Nat.le_of_lt hrn)]; omega, by omega⟩
          refine (ldexp_den x0 q _ y k w F (by omega) (by omega) (by rw [hj, hjc]; exact hbits) hy).mono fun e w' ⟨a, b⟩ => ⟨⟨_, ⟨hyn, fun r a b hr hk hUr => ?_⟩, a⟩, b⟩
          have h1 := scale r a b hk hUr
          have h2 : Fl.U (j * 4503599627370496 + t) = Fl.U r * 2 ^ 53 := by
            apply Nat.eq_of_mul_eq_mul_right (Nat.two_pow_pos b)
            rw [hUr', Nat.mul_assoc, ← Nat.pow_add, Nat.mul_assoc, Nat.mul_comm (2 ^ 53), ← Nat.mul_assoc, h1, Nat.mul_assoc, ← Nat.pow_add]
            congr 2; omega
          have h3 := Fl.mul_scaled (c := Fl.tiny) (x := j * 4503599627370496 + t) (r := r) (d := 53) Fl.read_tiny (by decide) hrn hr h2
          have h4 : some y = some r := hy.symm.trans h3
          exact Option.some.inj h4
end Go.Proofs.YtdebbljohlffdaaGreatDoor
