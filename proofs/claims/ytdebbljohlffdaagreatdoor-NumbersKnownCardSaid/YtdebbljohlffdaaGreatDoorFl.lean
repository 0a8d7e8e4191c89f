import Ieee.Arith
namespace Go.Proofs.YtdebbljohlffdaaGreatDoor.Fl
open Ieee

abbrev D : Format := double

theorem signW : D.signWeight = 9223372036854775808 := by decide
theorem binadeD : D.binade = 4503599627370496 := by decide
theorem infD : D.infRung = 9218868437227405312 := by decide
theorem leastD : D.leastPlace = -1074 := by decide
theorem fracD : D.fractionBits = 52 := rfl

/-- the sign of a word -/
def neg (b : Nat) : Bool := b / 9223372036854775808 % 2 == 1
/-- the rung of a word -/
def rung (b : Nat) : Nat := b % 9223372036854775808
def B : Nat := 4503599627370496
def I : Nat := 9218868437227405312
theorem B_eq : B = 2 ^ 52 := by decide
theorem I_eq : I = 2047 * B := by decide
theorem B_pos : 0 < B := by decide

/-- a rung's size, in units of 2^-1074 -/
def U (r : Nat) : Nat := if r < B then r else (B + r % B) * 2 ^ (r / B - 1)

theorem U_low {r : Nat} (h : r < B) : U r = r := if_pos h
theorem U_mk {e k : Nat} (hk : k < 2 * B) (h : e = 0 ∨ B ≤ k) : U (e * B + k) = k * 2 ^ e := by
  have hB := B_pos
  by_cases hl : e * B + k < B
  · have he : e = 0 := by
      rcases Nat.eq_zero_or_pos e with h0 | h0
      · exact h0
      · have : B ≤ e * B := Nat.le_mul_of_pos_left _ h0
        omega
    subst he
    rw [U_low hl]
    simp
  · have hk' : B ≤ k := by
      rcases h with rfl | h
      · omega
      · exact h
    unfold U
    rw [if_neg hl]
    have e1 : e * B + k = (k - B) + B * (e + 1) := by
      rw [Nat.mul_succ, Nat.mul_comm e B]; omega
    have e2 : (e * B + k) % B = k - B := by
      rw [e1, Nat.add_mul_mod_self_left]
      exact Nat.mod_eq_of_lt (by omega)
    have e3 : (e * B + k) / B = e + 1 := by
      rw [e1, Nat.add_mul_div_left _ _ hB, Nat.div_eq_of_lt (by omega)]; omega
    rw [e2, e3]
    have : B + (k - B) = k := by omega
    rw [this]; rfl

/-- each rung is such a one -/
theorem rung_form (r : Nat) : ∃ e k, r = e * B + k ∧ k < 2 * B ∧ (e = 0 ∨ B ≤ k) ∧ U r = k * 2 ^ e ∧ (e = r / B - 1) := by
  have hB := B_pos
  by_cases hl : r < B
  · exact ⟨0, r, by omega, by omega, Or.inl rfl, by rw [U_low hl]; simp, by rw [Nat.div_eq_of_lt hl]⟩
  · have h1 : 1 ≤ r / B := (Nat.le_div_iff_mul_le hB).2 (by omega)
    have hm := Nat.mod_lt r hB
    have hd := Nat.div_add_mod r B
    have hx : r = (r / B - 1) * B + (B + r % B) := by
      have : (r / B - 1) * B + B = r / B * B := by
        conv => rhs; rw [show r / B = (r / B - 1) + 1 by omega, Nat.succ_mul]
      rw [Nat.mul_comm] at hd
      omega
    refine ⟨r / B - 1, B + r % B, hx, by omega, Or.inr (by omega), ?_, rfl⟩
    unfold U
    rw [if_neg hl]

theorem U_succ (r : Nat) : U r < U (r + 1) := by
  have hB := B_pos
  obtain ⟨e, k, hr, hk, h, hU, _⟩ := rung_form r
  rw [hU]
  by_cases h2 : k + 1 < 2 * B
  · have : r + 1 = e * B + (k + 1) := by omega
    rw [this, U_mk h2 (by omega)]
    exact Nat.mul_lt_mul_of_pos_right (by omega) (Nat.two_pow_pos _)
  · have : r + 1 = (e + 1) * B + B := by rw [Nat.succ_mul]; omega
    rw [this, U_mk (by omega) (Or.inr (Nat.le_refl _)), Nat.pow_succ]
    have : B * (2 ^ e * 2) = (2 * B) * 2 ^ e := by
      rw [Nat.mul_comm (2 ^ e) 2, ← Nat.mul_assoc, Nat.mul_comm B 2]
    rw [this]
    exact Nat.mul_lt_mul_of_pos_right (by omega) (Nat.two_pow_pos _)

theorem U_lt_add (r d : Nat) : U r < U (r + d + 1) := by
  induction d with
  | zero => exact U_succ r
  | succ d ih => exact Nat.lt_trans ih (U_succ _)
theorem U_lt {r s : Nat} (h : r < s) : U r < U s := by
  obtain ⟨d, rfl⟩ : ∃ d, s = r + d + 1 := ⟨s - r - 1, by omega⟩
  exact U_lt_add r d
theorem U_lt_iff {r s : Nat} : U r < U s ↔ r < s := by
  refine ⟨fun h => ?_, U_lt⟩
  rcases Nat.lt_trichotomy r s with h1 | h1 | h1
  · exact h1
  · subst h1; omega
  · have := U_lt h1; omega
theorem U_inj {r s : Nat} (h : U r = U s) : r = s := by
  rcases Nat.lt_trichotomy r s with h1 | h1 | h1
  · have := U_lt h1; omega
  · exact h1
  · have := U_lt h1; omega
theorem U_le_iff {r s : Nat} : U r ≤ U s ↔ r ≤ s := by
  have := @U_lt_iff s r; omega
theorem U_zero : U 0 = 0 := by decide
theorem U_pos {r : Nat} (h : 0 < r) : 0 < U r := by have := U_lt h; rw [U_zero] at this; exact this

/-- every number of at most 53 digits, not too great, is a rung's -/
theorem rung_of (e : Nat) : ∀ k, k < 2 * B → e ≤ 2045 → ∃ r, r < I ∧ U r = k * 2 ^ e := by
  induction e with
  | zero =>
    intro k hk _
    refine ⟨0 * B + k, ?_, U_mk hk (Or.inl rfl)⟩
    have := I_eq; omega
  | succ e ih =>
    intro k hk he
    by_cases hl : B ≤ k
    · refine ⟨(e + 1) * B + k, ?_, U_mk hk (Or.inr hl)⟩
      have := I_eq
      have : (e + 1) * B ≤ 2045 * B := Nat.mul_le_mul_right _ he
      omega
    · obtain ⟨r, hr, hU⟩ := ih (2 * k) (by omega) (by omega)
      exact ⟨r, hr, by rw [hU, Nat.pow_succ, Nat.mul_comm 2 k, Nat.mul_assoc, Nat.mul_comm 2]⟩

/-- a word's parts -/
theorem word_mk (n : Bool) (r : Nat) (h : r < 9223372036854775808) : neg (D.word n r) = n ∧ rung (D.word n r) = r := by
  unfold Format.word
  rw [signW]
  cases n
  · have h1 : r / 9223372036854775808 = 0 := Nat.div_eq_of_lt h
    have h2 : r % 9223372036854775808 = r := Nat.mod_eq_of_lt h
    simp [neg, rung, h1, h2]
  · have h1 : (9223372036854775808 + r) / 9223372036854775808 = 1 := by omega
    have h2 : (9223372036854775808 + r) % 9223372036854775808 = r := by omega
    simp [neg, rung, h1, h2]
theorem word_of (b : Nat) (h : b < 18446744073709551616) : D.word (neg b) (rung b) = b := by
  unfold Format.word neg rung
  rw [signW]
  by_cases h1 : b < 9223372036854775808
  · have : b / 9223372036854775808 = 0 := Nat.div_eq_of_lt h1
    simp [this]; omega
  · have : b / 9223372036854775808 = 1 := by omega
    simp [this]; omega
theorem rung_lt (b : Nat) : rung b < 9223372036854775808 := Nat.mod_lt _ (by decide)
theorem word_lt (n : Bool) (r : Nat) (h : r < 9223372036854775808) : D.word n r < 18446744073709551616 := by
  unfold Format.word; rw [signW]; split <;> omega

theorem read_eq (b : Nat) : D.read b = if rung b < B then .number (neg b) (rung b) (-1074) else if rung b < I then .number (neg b) (B + rung b % B) (-1074 + (rung b / B - 1 : Nat)) else if rung b = I then .infinity (neg b) else .nan (neg b) (rung b - I) := by
  unfold Format.read
  rw [signW, binadeD, infD, leastD]
  rfl
theorem read_fin {b : Nat} (h : rung b < I) : ∃ (m p : Nat), D.read b = .number (neg b) m (-1074 + (p : Int)) ∧ U (rung b) = m * 2 ^ p := by
  rw [read_eq]
  by_cases hl : rung b < B
  · exact ⟨rung b, 0, by rw [if_pos hl]; rfl, by rw [U_low hl]; simp⟩
  · exact ⟨B + rung b % B, rung b / B - 1, by rw [if_neg hl, if_pos h], by unfold U; rw [if_neg hl]⟩
theorem B_le_I : B ≤ I := by decide
theorem read_inf {b : Nat} (h : rung b = I) : D.read b = .infinity (neg b) := by
  have := B_le_I
  rw [read_eq, if_neg (by omega), if_neg (by omega), if_pos h]
theorem read_nan {b : Nat} (h : I < rung b) : D.read b = .nan (neg b) (rung b - I) := by
  have := B_le_I
  rw [read_eq, if_neg (by omega), if_neg (by omega), if_neg (by omega)]

theorem cut_even_exact (n : Bool) (k d : Nat) (hk : 0 < k) : Toward.cut .even n (k * 2 ^ d) d = k := by
  have hlog : d ≤ (k * 2 ^ d).log2 := by
    rw [Nat.le_log2 (by have := Nat.two_pow_pos d; exact Nat.ne_of_gt (Nat.mul_pos hk this))]
    exact Nat.le_mul_of_pos_left _ hk
  unfold Toward.cut
  have hm : min d ((k * 2 ^ d).log2 + 2) = d := by omega
  have hp := Nat.two_pow_pos d
  simp only [hm, Nat.one_shiftLeft, Nat.mul_mod_left, Nat.mul_div_cancel _ hp]
  have h1 : ¬ (2 ^ d < 2 * 0) := by omega
  have h2 : ((2 ^ d == 2 * 0) : Bool) = false := by
    rw [beq_eq_false_iff_ne]; omega
  simp [h1]

theorem pow_dvd_pow2 {a b : Nat} (h : a ≤ b) : 2 ^ a ∣ 2 ^ b := Nat.pow_dvd_pow 2 h

/-- WHAT A FORMAT HAS IS WRITTEN AS IT IS -/
theorem nearest_exact (n : Bool) (mag : Nat) (place : Int) (r a b : Nat) (hr : r < I) (hp : place + 1074 = (a : Int) - (b : Int)) (hv : mag * 2 ^ a = U r * 2 ^ b) :
    D.nearest n mag place = D.word n r := by
  have pa := Nat.two_pow_pos a
  have pb := Nat.two_pow_pos b
  have hB := B_pos
  unfold Format.nearest
  by_cases h0 : mag = 0
  · rw [if_pos h0]
    subst h0
    have : U r = 0 := by
      rcases Nat.eq_zero_or_pos (U r) with h | h
      · exact h
      · have := Nat.mul_pos h pb; omega
    have hr0 : r = 0 := by
      rcases Nat.eq_zero_or_pos r with h | h
      · exact h
      · have := U_pos h; omega
    rw [hr0]
  rw [if_neg h0]
  rw [leastD, fracD, binadeD, infD]
  have hlo := Nat.log2_self_le h0
  have hhi := @Nat.lt_log2_self mag
  generalize hL : mag.log2 = L at *
  -- the last place
  obtain ⟨e, he⟩ : ∃ e : Nat, max (place + (L : Int) - (52 : Nat)) (-1074) = (e : Int) - 1074 := ⟨(max (place + (L : Int) - (52 : Nat)) (-1074) + 1074).toNat, by omega⟩
  rw [he]
  obtain ⟨e0, k0, hr0, hk0, hek, hU, _⟩ := rung_form r
  -- 2 ^ e divides U r
  have hdiv : e ≤ e0 := by
    rcases Nat.eq_zero_or_pos e with h | h
    · omega
    · have hLe : L + a = e + 52 + b := by omega
      have h1 : 2 ^ (L + a) ≤ U r * 2 ^ b := by rw [← hv, Nat.pow_add]; exact Nat.mul_le_mul_right _ hlo
      rw [hLe, Nat.pow_add] at h1
      have h2 : 2 ^ (e + 52) ≤ U r := Nat.le_of_mul_le_mul_right h1 pb
      rw [hU] at h2
      have h3 : k0 * 2 ^ e0 < 2 ^ (53 + e0) := by
        rw [Nat.pow_add]
        refine Nat.mul_lt_mul_of_pos_right ?_ (Nat.two_pow_pos _)
        have : (2 : Nat) ^ 53 = 2 * B := by decide
        omega
      have h4 : 2 ^ (e + 52) < 2 ^ (53 + e0) := Nat.lt_of_le_of_lt h2 h3
      have := (Nat.pow_lt_pow_iff_right (by decide : 1 < 2)).1 h4
      omega
  obtain ⟨k, hk⟩ : ∃ k, U r = k * 2 ^ e := by
    refine ⟨k0 * 2 ^ (e0 - e), ?_⟩
    rw [hU, Nat.mul_assoc, ← Nat.pow_add]
    congr 2; omega
  have hkpos : 0 < k := by
    rcases Nat.eq_zero_or_pos k with h | h
    · subst h
      rw [hk] at hv
      have := Nat.mul_pos (Nat.pos_of_ne_zero h0) pa
      simp at hv
      omega
    · exact h
  -- the kept digits are k
  have hkept : Toward.cut .even n (mag <<< (place - ((e : Int) - 1074)).toNat) ((e : Int) - 1074 - place).toNat = k := by
    by_cases hc : a ≤ e + b
    · have e1 : (place - ((e : Int) - 1074)).toNat = 0 := by omega
      have e2 : ((e : Int) - 1074 - place).toNat = e + b - a := by omega
      rw [e1, e2, Nat.shiftLeft_zero]
      have : mag = k * 2 ^ (e + b - a) := by
        apply Nat.eq_of_mul_eq_mul_right pa
        rw [hv, hk, Nat.mul_assoc, Nat.mul_assoc, ← Nat.pow_add, ← Nat.pow_add]
        congr 2; omega
      rw [this]
      exact cut_even_exact n k _ hkpos
    · have e1 : (place - ((e : Int) - 1074)).toNat = a - (e + b) := by omega
      have e2 : ((e : Int) - 1074 - place).toNat = 0 := by omega
      rw [e1, e2, Nat.shiftLeft_eq]
      have : mag * 2 ^ (a - (e + b)) = k := by
        apply Nat.eq_of_mul_eq_mul_right (Nat.two_pow_pos (e + b))
        rw [Nat.mul_assoc, ← Nat.pow_add, show a - (e + b) + (e + b) = a by omega, hv, hk, Nat.mul_assoc, ← Nat.pow_add]
      rw [this]
      have := cut_even_exact n k 0 hkpos
      simpa using this
  dsimp only
  rw [hkept]
  have e3 : ((e : Int) - 1074 - -1074).toNat = e := by omega
  rw [e3]
  -- the rung
  have hklt : k < 2 * B := by
    have h1 : U r * 2 ^ b < 2 ^ (L + 1) * 2 ^ a := by rw [← hv]; exact Nat.mul_lt_mul_of_pos_right hhi pa
    rw [hk, Nat.mul_assoc, ← Nat.pow_add, ← Nat.pow_add] at h1
    have h2 : k * 2 ^ (e + b) < 2 * B * 2 ^ (e + b) := by
      refine Nat.lt_of_lt_of_le h1 ?_
      rw [show 2 * B = 2 ^ 53 by decide, ← Nat.pow_add]
      exact Nat.pow_le_pow_right (by decide) (by omega)
    exact Nat.lt_of_mul_lt_mul_right h2
  have hke : e = 0 ∨ B ≤ k := by
    rcases Nat.eq_zero_or_pos e with h | h
    · exact Or.inl h
    · refine Or.inr ?_
      have hLe : L + a = 52 + (e + b) := by omega
      have h1 : 2 ^ (L + a) ≤ U r * 2 ^ b := by rw [← hv, Nat.pow_add]; exact Nat.mul_le_mul_right _ hlo
      rw [hk, hLe, Nat.mul_assoc, ← Nat.pow_add, Nat.pow_add 2 52] at h1
      have := Nat.le_of_mul_le_mul_right h1 (Nat.two_pow_pos (e + b))
      rw [B_eq]; exact this
  have hUr : U (e * B + k) = U r := by rw [U_mk hklt hke, hk]
  have hrr := U_inj hUr
  have hmin : min (e * 4503599627370496 + k) 9218868437227405312 = r := by
    rw [← hrr]
    have : e * B + k < I := by rw [hrr]; exact hr
    exact Nat.min_eq_left (Nat.le_of_lt this)
  rw [hmin]

/-- a word's size, in units of 2^-1074, with its sign (an infinite one's: that of the first rung that is none) -/
def val (b : Nat) : Int := if neg b then -(U (rung b) : Int) else (U (rung b) : Int)
def isNaN (b : Nat) : Bool := decide (I < rung b)

theorem signed_scale (s : Bool) (m i : Nat) (k : Nat) : signed s m i * (2 ^ k : Nat) = signed s m (i + k) := by
  unfold signed
  have : m <<< i * 2 ^ k = m <<< (i + k) := by rw [Nat.shiftLeft_eq, Nat.shiftLeft_eq, Nat.pow_add, Nat.mul_assoc]
  cases s
  · simp [← this]
  · simp [← this, Int.neg_mul]

theorem compare_scale (x y : Int) (k : Nat) : compare (x * (2 ^ k : Nat)) (y * (2 ^ k : Nat)) = compare x y := by
  have hp : (0 : Int) < (2 ^ k : Nat) := by have := Nat.two_pow_pos k; omega
  rcases Int.lt_trichotomy x y with h | h | h
  · have h' := Int.mul_lt_mul_of_pos_right h hp
    rw [Int.compare_eq_lt.2 h, Int.compare_eq_lt.2 h']
  · subst h
    rw [Int.compare_eq_eq.2 rfl, Int.compare_eq_eq.2 rfl]
  · have h' := Int.mul_lt_mul_of_pos_right h hp
    rw [Int.compare_eq_gt.2 h, Int.compare_eq_gt.2 h']

theorem val_signed {b m p : Nat} (h : U (rung b) = m * 2 ^ p) : signed (neg b) m p = val b := by
  unfold signed val
  rw [Nat.shiftLeft_eq, h]

theorem U_I_gt {r : Nat} (h : r < I) : U r < U I := U_lt h

theorem order_num {a b : Nat} (ha : rung a ≤ I) (hb : rung b ≤ I) : D.order a b = some (compare (val a) (val b)) := by
  unfold Format.order
  have hUI : 0 < U I := U_pos (by decide)
  rcases Nat.lt_or_eq_of_le ha with ha | ha
  · obtain ⟨m, p, hra, hua⟩ := read_fin ha
    have hga := U_I_gt ha
    rcases Nat.lt_or_eq_of_le hb with hb | hb
    · obtain ⟨m', q, hrb, hub⟩ := read_fin hb
      rw [hra, hrb]
      unfold Datum.order
      dsimp only
      have e1 : (-1074 + (p : Int) - min (-1074 + (p : Int)) (-1074 + (q : Int))).toNat = p - min p q := by omega
      have e2 : (-1074 + (q : Int) - min (-1074 + (p : Int)) (-1074 + (q : Int))).toNat = q - min p q := by omega
      rw [e1, e2, ← compare_scale _ _ (min p q), signed_scale, signed_scale]
      rw [show p - min p q + min p q = p by omega, show q - min p q + min p q = q by omega, val_signed hua, val_signed hub]
    · have hgb : U (rung b) = U I := by rw [hb]
      rw [hra, read_inf hb]
      unfold Datum.order val
      rw [hgb]
      congr 1
      cases neg a <;> cases neg b <;> simp
      · exact (Int.compare_eq_lt.2 (by omega)).symm
      · exact (Int.compare_eq_gt.2 (by omega)).symm
      · exact (Int.compare_eq_lt.2 (by omega)).symm
      · exact (Int.compare_eq_gt.2 (by omega)).symm
  · have hga : U (rung a) = U I := by rw [ha]
    rcases Nat.lt_or_eq_of_le hb with hb | hb
    · obtain ⟨m', q, hrb, hub⟩ := read_fin hb
      have hgb := U_I_gt hb
      rw [read_inf ha, hrb]
      unfold Datum.order val
      rw [hga]
      congr 1
      cases neg a <;> cases neg b <;> simp
      · exact (Int.compare_eq_gt.2 (by omega)).symm
      · exact (Int.compare_eq_gt.2 (by omega)).symm
      · exact (Int.compare_eq_lt.2 (by omega)).symm
      · exact (Int.compare_eq_lt.2 (by omega)).symm
    · have hgb : U (rung b) = U I := by rw [hb]
      rw [read_inf ha, read_inf hb]
      unfold Datum.order val
      rw [hga, hgb]
      generalize U I = u at *
      have c1 : compare (-(u : Int)) (u : Int) = .lt := Int.compare_eq_lt.2 (by omega)
      have c2 : compare (u : Int) (-(u : Int)) = .gt := Int.compare_eq_gt.2 (by omega)
      have c3 : compare (u : Int) (u : Int) = .eq := Int.compare_eq_eq.2 rfl
      have c4 : compare (-(u : Int)) (-(u : Int)) = .eq := Int.compare_eq_eq.2 rfl
      cases neg a <;> cases neg b
      · show some (compare false.toNat false.toNat) = some (compare (u : Int) (u : Int)); rw [c3]; rfl
      · show some (compare true.toNat false.toNat) = some (compare (u : Int) (-(u : Int))); rw [c2]; rfl
      · show some (compare false.toNat true.toNat) = some (compare (-(u : Int)) (u : Int)); rw [c1]; rfl
      · show some (compare true.toNat true.toNat) = some (compare (-(u : Int)) (-(u : Int))); rw [c4]; rfl

theorem order_nan_left {a b : Nat} (h : I < rung a) : D.order a b = none := by
  unfold Format.order; rw [read_nan h]; rfl
theorem order_nan_right {a b : Nat} (h : I < rung b) : D.order a b = none := by
  unfold Format.order; rw [read_nan h]
  generalize D.read a = x
  cases x <;> rfl

def K : Nat := 1074
theorem K_eq : K = 1074 := rfl
def ONE : Nat := 2 ^ K
theorem ONE_pos : 0 < ONE := Nat.two_pow_pos _

theorem cut_zero (n : Bool) (m d : Nat) : Toward.cut .zero n m d = m / 2 ^ d := by
  unfold Toward.cut
  simp only [Nat.one_shiftLeft, Bool.toNat_false, Nat.add_zero]
  by_cases h : d ≤ m.log2 + 2
  · rw [Nat.min_eq_left h]
  · rw [Nat.min_eq_right (by omega)]
    have h1 : m < 2 ^ (m.log2 + 2) := Nat.lt_of_lt_of_le Nat.lt_log2_self (Nat.pow_le_pow_right (by decide) (by omega))
    rw [Nat.div_eq_of_lt h1, Nat.div_eq_of_lt (Nat.lt_of_lt_of_le h1 (Nat.pow_le_pow_right (by decide) (by omega)))]

theorem cut_down (n : Bool) (m d : Nat) : Toward.cut .down n m d = m / 2 ^ d + (n && m % 2 ^ d != 0).toNat := by
  unfold Toward.cut
  simp only [Nat.one_shiftLeft]
  by_cases h : d ≤ m.log2 + 2
  · rw [Nat.min_eq_left h]
  · rw [Nat.min_eq_right (by omega)]
    have h1 : m < 2 ^ (m.log2 + 2) := Nat.lt_of_lt_of_le Nat.lt_log2_self (Nat.pow_le_pow_right (by decide) (by omega))
    have h2 : m < 2 ^ d := Nat.lt_of_lt_of_le h1 (Nat.pow_le_pow_right (by decide) (by omega))
    rw [Nat.div_eq_of_lt h1, Nat.div_eq_of_lt h2, Nat.mod_eq_of_lt h1, Nat.mod_eq_of_lt h2]

/-- the whole part of 'm * 2 ^ p' units, and whether anything is over -/
theorem units_div (m p : Nat) : (m <<< (-1074 + (p : Int)).toNat) / 2 ^ (-(-1074 + (p : Int))).toNat = m * 2 ^ p / ONE := by
  unfold ONE
  have hK := K_eq
  rw [Nat.shiftLeft_eq]
  by_cases h : p ≤ K
  · rw [show (-1074 + (p : Int)).toNat = 0 by omega, show (-(-1074 + (p : Int))).toNat = K - p by omega]
    have e : (2 : Nat) ^ K = 2 ^ (K - p) * 2 ^ p := by rw [← Nat.pow_add]; congr 1; omega
    rw [e, Nat.mul_div_mul_right _ _ (Nat.two_pow_pos p)]
    simp
  · rw [show (-1074 + (p : Int)).toNat = p - K by omega, show (-(-1074 + (p : Int))).toNat = 0 by omega]
    have : m * 2 ^ p = m * 2 ^ (p - K) * 2 ^ K := by
      rw [Nat.mul_assoc, ← Nat.pow_add]; congr 2; omega
    rw [this, Nat.mul_div_cancel _ (Nat.two_pow_pos K), Nat.pow_zero, Nat.div_one]
theorem units_mod (m p : Nat) : ((m <<< (-1074 + (p : Int)).toNat) % 2 ^ (-(-1074 + (p : Int))).toNat != 0) = (m * 2 ^ p % ONE != 0) := by
  unfold ONE
  have hK := K_eq
  rw [Nat.shiftLeft_eq]
  by_cases h : p ≤ K
  · rw [show (-1074 + (p : Int)).toNat = 0 by omega, show (-(-1074 + (p : Int))).toNat = K - p by omega]
    have e : (2 : Nat) ^ K = 2 ^ (K - p) * 2 ^ p := by rw [← Nat.pow_add]; congr 1; omega
    rw [e, Nat.mul_mod_mul_right]
    have hp := Nat.two_pow_pos p
    rw [Bool.eq_iff_iff]
    simp only [Nat.pow_zero, Nat.mul_one, bne_iff_ne, ne_eq]
    constructor
    · intro h1 h2
      rcases Nat.mul_eq_zero.1 h2 with h3 | h3
      · exact h1 h3
      · omega
    · intro h1 h2; rw [h2] at h1; simp at h1
  · rw [show (-1074 + (p : Int)).toNat = p - K by omega, show (-(-1074 + (p : Int))).toNat = 0 by omega]
    have : m * 2 ^ p = m * 2 ^ (p - K) * 2 ^ K := by
      rw [Nat.mul_assoc, ← Nat.pow_add]; congr 2; omega
    rw [this, Nat.mul_mod_left, Nat.pow_zero, Nat.mod_one]

def trunc (x : Nat) : Nat := D.write ((D.read x).integral .zero)
def floor (x : Nat) : Nat := D.write ((D.read x).integral .down)

theorem U_big_dvd {r : Nat} (h : 2 * B * ONE ≤ 2 * U r) : ONE ∣ U r := by
  obtain ⟨e, k, hr, hk, hek, hU, _⟩ := rung_form r
  rw [hU] at h ⊢
  have hK := K_eq
  have : K ≤ e := by
    rcases Nat.lt_or_ge e K with h1 | h1
    · exfalso
      have h2 : k * 2 ^ e < 2 * B * 2 ^ e := Nat.mul_lt_mul_of_pos_right hk (Nat.two_pow_pos _)
      have h3 : 2 * 2 ^ e ≤ 2 ^ K := by
        have : (2 : Nat) * 2 ^ e = 2 ^ (e + 1) := by rw [Nat.pow_succ, Nat.mul_comm]
        rw [this]; exact Nat.pow_le_pow_right (by decide) (by omega)
      have h4 : 2 * (2 * B * 2 ^ e) ≤ 2 * B * ONE := by
        have : 2 * (2 * B * 2 ^ e) = 2 * B * (2 * 2 ^ e) := by rw [← Nat.mul_assoc, Nat.mul_comm 2 (2 * B), Nat.mul_assoc]
        rw [this]; exact Nat.mul_le_mul_left _ h3
      omega
    · exact h1
  exact Nat.dvd_trans (pow_dvd_pow2 this) (Nat.dvd_mul_left _ _)

theorem ratio {r : Nat} : U r / ONE < B ∨ ONE ∣ U r := by
  rcases Nat.lt_or_ge (U r) (B * ONE) with h | h
  · exact Or.inl ((Nat.div_lt_iff_lt_mul ONE_pos).2 h)
  · exact Or.inr (U_big_dvd (by rw [Nat.mul_assoc]; omega))

theorem write_whole (n : Bool) (q r : Nat) (hr : r < I) (h : U r = q * ONE) : D.write (.number n q 0) = D.word n r := by
  show D.nearest n q 0 = _
  exact nearest_exact n q 0 r K 0 hr (by have := K_eq; omega) (by rw [h]; unfold ONE; simp)

theorem trunc_spec {x : Nat} (h : rung x < I) : ∃ r, r < I ∧ trunc x = D.word (neg x) r ∧ U r = U (rung x) / ONE * ONE := by
  obtain ⟨m, p, hr, hu⟩ := read_fin h
  have hex : ∃ r, r < I ∧ U r = U (rung x) / ONE * ONE := by
    rcases @ratio (rung x) with h1 | h1
    · exact rung_of K _ (by omega) (by decide)
    · exact ⟨rung x, h, (Nat.div_mul_cancel h1).symm⟩
  obtain ⟨r, hrI, hU⟩ := hex
  refine ⟨r, hrI, ?_, hU⟩
  unfold trunc
  rw [hr]
  unfold Datum.integral
  dsimp only
  rw [cut_zero, units_div, ← hu]
  exact write_whole _ _ _ hrI hU

theorem floor_spec {x : Nat} (h : rung x < I) : ∃ r, r < I ∧ floor x = D.word (neg x) r ∧ U r = (U (rung x) / ONE + (neg x && U (rung x) % ONE != 0).toNat) * ONE := by
  obtain ⟨m, p, hr, hu⟩ := read_fin h
  have hB := B_pos
  have hex : ∃ r, r < I ∧ U r = (U (rung x) / ONE + (neg x && U (rung x) % ONE != 0).toNat) * ONE := by
    rcases @ratio (rung x) with h1 | h1
    · refine rung_of K _ ?_ (by decide)
      have : (neg x && U (rung x) % ONE != 0).toNat ≤ 1 := by cases (neg x && U (rung x) % ONE != 0) <;> decide
      omega
    · refine ⟨rung x, h, ?_⟩
      have : U (rung x) % ONE = 0 := Nat.mod_eq_zero_of_dvd h1
      rw [this]
      simp [Nat.div_mul_cancel h1]
  obtain ⟨r, hrI, hU⟩ := hex
  refine ⟨r, hrI, ?_, hU⟩
  unfold floor
  rw [hr]
  unfold Datum.integral
  dsimp only
  rw [cut_down, units_div, units_mod, ← hu]
  exact write_whole _ _ _ hrI hU

theorem trunc_inf {x : Nat} (h : rung x = I) (hx : x < 18446744073709551616) : trunc x = x := by
  unfold trunc; rw [read_inf h]
  show D.word (neg x) D.infRung = x
  have := word_of x hx
  rw [h] at this; exact this
theorem floor_inf {x : Nat} (h : rung x = I) (hx : x < 18446744073709551616) : floor x = x := by
  unfold floor; rw [read_inf h]
  show D.word (neg x) D.infRung = x
  have := word_of x hx
  rw [h] at this; exact this

theorem toInt_spec {x : Nat} (h : rung x < I) : (D.read x).toInt .zero = some (if neg x then -((U (rung x) / ONE : Nat) : Int) else ((U (rung x) / ONE : Nat) : Int)) := by
  obtain ⟨m, p, hr, hu⟩ := read_fin h
  unfold Datum.toInt
  rw [hr]
  unfold Datum.integral
  dsimp only
  rw [cut_zero, units_div, ← hu]
  unfold signed
  simp

/-- the rung of a whole number -/
def rn (k : Nat) : Nat := rung (D.nearest false k 0)
theorem rn_spec {k : Nat} (h : k < 2 * B) : rn k < I ∧ U (rn k) = k * ONE := by
  obtain ⟨r, hr, hU⟩ := rung_of K k h (by decide)
  have : rn k = r := by
    unfold rn
    have := write_whole false k r hr hU
    rw [show D.nearest false k 0 = D.write (.number false k 0) from rfl, this]
    exact (word_mk false r (Nat.lt_trans hr (by decide))).2
  rw [this]; exact ⟨hr, hU⟩
theorem ofInt_spec (n : Int) (h : n.natAbs < 2 * B) : D.write (.number (n < 0) n.natAbs 0) = D.word (n < 0) (rn n.natAbs) :=
  write_whole _ _ _ (rn_spec h).1 (rn_spec h).2

theorem read_fin' {b : Nat} (h : rung b < I) : ∃ (m p : Nat), D.read b = .number (neg b) m (-1074 + (p : Int)) ∧ U (rung b) = m * 2 ^ p ∧ m < 2 * B := by
  have hB := B_pos
  rw [read_eq]
  by_cases hl : rung b < B
  · exact ⟨rung b, 0, by rw [if_pos hl]; rfl, by rw [U_low hl]; simp, by omega⟩
  · exact ⟨B + rung b % B, rung b / B - 1, by rw [if_neg hl, if_pos h], by unfold U; rw [if_neg hl], by have := Nat.mod_lt (rung b) hB; omega⟩

def one : Nat := 4607182418800017408
def two : Nat := 4611686018427387904
def big : Nat := 4845873199050653696
theorem read_one : D.read one = .number false B (-1074 + (1022 : Nat)) := by decide
theorem read_two : D.read two = .number false B (-1074 + (1023 : Nat)) := by decide
theorem val_one : val one = ONE := by
  have h : val one = ((B * 2 ^ (K - 52) : Nat) : Int) := by decide +kernel
  have hK := K_eq
  rw [h, B_eq, ← Nat.pow_add, show 52 + (K - 52) = K by omega]; rfl
theorem val_big : val big = ((2 * B * ONE : Nat) : Int) := by
  have h : val big = ((B * 2 ^ (1 + K) : Nat) : Int) := by decide +kernel
  rw [h, B_eq]
  unfold ONE
  rw [Nat.pow_add, ← Nat.mul_assoc, Nat.mul_comm (2 ^ 52) (2 ^ 1)]

theorem bool_xor_false (b : Bool) : (b ^^ false) = b := by cases b <;> rfl

theorem mul_two {x r : Nat} (h : rung x < I) (hr : r < I) (hU : U r = 2 * U (rung x)) : D.mul x two = some (D.word (neg x) r) := by
  obtain ⟨m, p, hrd, hu, _⟩ := read_fin' h
  unfold Format.mul
  rw [hrd, read_two]
  unfold Datum.product
  simp only [Option.map_some, bool_xor_false]
  congr 1
  refine nearest_exact _ _ _ r p 51 hr (by omega) ?_
  rw [hU, hu, B_eq, show (2 : Nat) ^ 52 = 2 * 2 ^ 51 by decide]
  generalize 2 ^ p = a; generalize (2 : Nat) ^ 51 = b
  simp only [Nat.mul_assoc, Nat.mul_comm, Nat.mul_left_comm]

theorem div_two {x r : Nat} (h : rung x < I) (hr : r < I) (hU : 2 * U r = U (rung x)) : D.div x two = some (D.word (neg x) r) := by
  obtain ⟨m, p, hrd, hu, hm⟩ := read_fin' h
  have hB := B_pos
  unfold Format.div
  rw [hrd, read_two]
  unfold Datum.quotient
  dsimp only
  rw [if_neg (by omega)]
  simp only [Option.map_some, bool_xor_false]
  congr 1
  have hlog : m.log2 ≤ 52 := by
    by_cases h0 : m = 0
    · subst h0; decide
    · have h53 : (2 : Nat) ^ 53 = 2 * B := by decide
      have := (Nat.log2_lt h0).2 (show m < 2 ^ 53 from by rw [h53]; exact hm)
      omega
  have hBl : B.log2 = 52 := by decide
  rw [fracD, hBl]
  obtain ⟨t, ht⟩ : ∃ t, 52 + 2 + 52 - m.log2 = t + 52 := ⟨52 + 2 - m.log2, by omega⟩
  rw [ht]
  have hsh : m <<< (t + 52) = m * 2 ^ t * B := by rw [Nat.shiftLeft_eq, Nat.pow_add, ← Nat.mul_assoc, B_eq]
  rw [hsh, Nat.mul_div_cancel _ hB, Nat.mul_mod_left]
  refine nearest_exact _ _ _ r p (t + 2) hr (by omega) ?_
  have e1 : U r * 2 ^ (t + 2) = U (rung x) * 2 ^ (t + 1) := by
    rw [← hU, show t + 2 = (t + 1) + 1 from rfl, Nat.pow_succ 2 (t + 1)]
    generalize (2 : Nat) ^ (t + 1) = c
    rw [Nat.mul_comm c 2, ← Nat.mul_assoc, Nat.mul_comm (U r) 2]
  rw [e1, hu, Nat.pow_succ]
  simp only [bne_self_eq_false, Bool.toNat_false, Nat.add_zero]
  generalize (2 : Nat) ^ p = a; generalize (2 : Nat) ^ t = c
  simp only [Nat.mul_assoc, Nat.mul_comm, Nat.mul_left_comm]

/-- the sign of an exact sum -/
def sumSign (s t : Bool) (v : Int) : Bool := if v = 0 then s && t else decide (v < 0)
theorem sum_exact {s t : Bool} {m n p q : Nat} {v : Int} {r : Nat} (hr : r < I) (hv : signed s m p + signed t n q = v) (hU : U r = v.natAbs) :
    (Datum.sum (.number s m (-1074 + (p : Int))) (.number t n (-1074 + (q : Int)))).map D.write = some (D.word (sumSign s t v) r) := by
  unfold Datum.sum
  dsimp only
  have e1 : (-1074 + (p : Int) - min (-1074 + (p : Int)) (-1074 + (q : Int))).toNat = p - min p q := by omega
  have e2 : (-1074 + (q : Int) - min (-1074 + (p : Int)) (-1074 + (q : Int))).toNat = q - min p q := by omega
  have e3 : min (-1074 + (p : Int)) (-1074 + (q : Int)) = -1074 + ((min p q : Nat) : Int) := by omega
  rw [e1, e2, e3]
  have hs : (signed s m (p - min p q) + signed t n (q - min p q)) * (2 ^ min p q : Nat) = v := by
    rw [Int.add_mul, signed_scale, signed_scale, show p - min p q + min p q = p by omega, show q - min p q + min p q = q by omega, hv]
  generalize signed s m (p - min p q) + signed t n (q - min p q) = T at hs
  have hp : (0 : Int) < (2 ^ min p q : Nat) := by have := Nat.two_pow_pos (min p q); omega
  simp only [Option.map_some]
  have hsg : (if T = 0 then s && t else decide (T < 0)) = sumSign s t v := by
    unfold sumSign
    by_cases h0 : T = 0
    · have : v = 0 := by rw [← hs, h0, Int.zero_mul]
      rw [if_pos h0, if_pos this]
    · have h1 : v ≠ 0 := by rw [← hs]; exact Int.mul_ne_zero h0 (Int.ne_of_gt hp)
      rw [if_neg h0, if_neg h1]
      have : T < 0 ↔ v < 0 := by
        rw [← hs]
        constructor
        · intro h; exact Int.mul_neg_of_neg_of_pos h hp
        · intro h; rcases Int.lt_trichotomy T 0 with h2 | h2 | h2
          · exact h2
          · exact absurd h2 h0
          · have := Int.mul_pos h2 hp; omega
      simp [this]
  congr 1
  show D.nearest _ _ _ = _
  rw [hsg]
  refine nearest_exact _ _ _ r (min p q) 0 hr (by omega) ?_
  rw [hU, ← hs, Int.natAbs_mul]; simp

theorem add_exact {x y r : Nat} (hx : rung x < I) (hy : rung y < I) (hr : r < I) (hU : U r = (val x + val y).natAbs) : D.add x y = some (D.word (sumSign (neg x) (neg y) (val x + val y)) r) := by
  obtain ⟨m, p, h1, h2⟩ := read_fin hx
  obtain ⟨n, q, h3, h4⟩ := read_fin hy
  unfold Format.add
  rw [h1, h3]
  exact sum_exact hr (by rw [val_signed h2, val_signed h4]) hU
theorem signed_opp (t : Bool) (n q : Nat) : signed (!t) n q = -signed t n q := by
  unfold signed; cases t <;> simp
theorem sub_exact {x y r : Nat} (hx : rung x < I) (hy : rung y < I) (hr : r < I) (hU : U r = (val x - val y).natAbs) : D.sub x y = some (D.word (sumSign (neg x) (!neg y) (val x - val y)) r) := by
  obtain ⟨m, p, h1, h2⟩ := read_fin hx
  obtain ⟨n, q, h3, h4⟩ := read_fin hy
  unfold Format.sub
  rw [h1, h3]
  exact sum_exact hr (by rw [val_signed h2, signed_opp, val_signed h4]; omega) hU
theorem sub_self {x : Nat} (hx : rung x < I) : D.sub x x = some 0 := by
  rw [sub_exact hx hx (r := 0) (by decide) (by rw [Int.sub_self]; exact U_zero)]
  rw [Int.sub_self]
  unfold sumSign
  cases neg x <;> rfl
theorem sub_self_inf {x : Nat} (hx : I ≤ rung x) : D.sub x x = none := by
  unfold Format.sub
  rcases Nat.lt_or_eq_of_le hx with h | h
  · rw [read_nan h]; rfl
  · rw [read_inf h.symm]
    show Option.map _ (Datum.sum (.infinity (neg x)) (.infinity (!neg x))) = none
    cases neg x <;> rfl
/-- 1 by a nought -/
theorem one_div_zero {x : Nat} (h : rung x = 0) : D.div one x = some (D.word (neg x) I) := by
  have : D.read x = .number (neg x) 0 (-1074) := by rw [read_eq, h]; rfl
  unfold Format.div
  rw [this, read_one]
  show some (D.write (.infinity (false ^^ neg x))) = _
  cases neg x <;> rfl

/-- the opposite word -/
theorem flip_parts (b : Nat) : neg (b ^^^ 9223372036854775808) = !neg b ∧ rung (b ^^^ 9223372036854775808) = rung b := by
  have e : (9223372036854775808 : Nat) = 2 ^ 63 := by decide
  constructor
  · unfold neg
    rw [e, Nat.xor_div_two_pow]
    rw [Nat.div_self (Nat.two_pow_pos 63)]
    generalize b / 2 ^ 63 = c
    have h1 : (c ^^^ 1) % 2 = (c % 2) ^^^ 1 := by
      have := @Nat.xor_mod_two_pow c 1 1
      simpa using this
    rw [h1]
    rcases Nat.mod_two_eq_zero_or_one c with h | h <;> rw [h] <;> rfl
  · unfold rung
    rw [e, Nat.xor_mod_two_pow, Nat.mod_self, Nat.xor_zero]

theorem order_self (x : Nat) : (D.order x x != some .eq) = isNaN x := by
  unfold isNaN
  by_cases h : I < rung x
  · rw [order_nan_left h]; simp [h]
  · rw [order_num (by omega) (by omega), Int.compare_eq_eq.2 rfl]; simp [h]
theorem wrap_neg {x : Nat} (h : x < 18446744073709551616) : neg x = decide (9223372036854775808 ≤ x) := by
  unfold neg
  by_cases h1 : x < 9223372036854775808
  · rw [Nat.div_eq_of_lt h1]; simp; omega
  · have : x / 9223372036854775808 = 1 := by omega
    rw [this]; simp; omega

/-- how two numbers stand to each other, out of their sizes -/
theorem order_lt {a b : Nat} (ha : rung a ≤ I) (hb : rung b ≤ I) (h : val a < val b) : D.order a b = some .lt := by
  rw [order_num ha hb, Int.compare_eq_lt.2 h]
theorem order_eq {a b : Nat} (ha : rung a ≤ I) (hb : rung b ≤ I) (h : val a = val b) : D.order a b = some .eq := by
  rw [order_num ha hb, Int.compare_eq_eq.2 h]
theorem order_gt {a b : Nat} (ha : rung a ≤ I) (hb : rung b ≤ I) (h : val b < val a) : D.order a b = some .gt := by
  rw [order_num ha hb, Int.compare_eq_gt.2 h]
theorem rung_zero : rung 0 = 0 := by decide
theorem rung_one_le : rung one ≤ I := by decide
theorem rung_two_le : rung two ≤ I := by decide
theorem rung_big_le : rung big ≤ I := by decide
theorem val_zero : val 0 = 0 := by decide +kernel
theorem val_word {n : Bool} {r : Nat} (h : r < 9223372036854775808) : val (D.word n r) = if n then -(U r : Int) else (U r : Int) := by
  unfold val; rw [(word_mk n r h).1, (word_mk n r h).2]
theorem I_lt : I < 9223372036854775808 := by decide
theorem val_neg {x : Nat} (h : neg x = true) : val x = -(U (rung x) : Int) := by unfold val; rw [h]; rfl
theorem val_pos {x : Nat} (h : neg x = false) : val x = (U (rung x) : Int) := by unfold val; rw [h]; rfl
theorem val_zero_iff {x : Nat} : val x = 0 ↔ rung x = 0 := by
  unfold val
  constructor
  · intro h
    rcases Nat.eq_zero_or_pos (rung x) with h1 | h1
    · exact h1
    · have := U_pos h1; split at h <;> omega
  · intro h; rw [h, U_zero]; simp
/-- words are told by sign and rung -/
theorem word_ext {a b : Nat} (ha : a < 18446744073709551616) (hb : b < 18446744073709551616) (h1 : neg a = neg b) (h2 : rung a = rung b) : a = b := by
  rw [← word_of a ha, ← word_of b hb, h1, h2]

/-- the order of numbers: -1, 0, 1 -/
def cmpS (a b : Nat) : Int :=
  if isNaN a then (if isNaN b then 0 else 1) else if isNaN b then -1 else if val a < val b then -1 else if val b < val a then 1 else if neg a = neg b then 0 else if neg a then -1 else 1
def rankS (x : Nat) : Int := if isNaN x then 1 else if rung x = 0 ∧ neg x = true then -1 else 0
theorem isNaN_true {x : Nat} : isNaN x = true ↔ I < rung x := by simp [isNaN]
theorem isNaN_false {x : Nat} : isNaN x = false ↔ rung x ≤ I := by simp [isNaN]
theorem val_eq_neg {a b : Nat} (h : val a = val b) (h0 : rung a ≠ 0) : neg a = neg b := by
  have h1 := U_pos (Nat.pos_of_ne_zero h0)
  unfold val at h
  cases hx : neg a <;> cases hy : neg b <;> rw [hx, hy] at h <;> simp at h <;> first | rfl | omega
def sgn (x y : Int) : Int := if x < y then -1 else if y < x then 1 else 0
theorem cmp_ranks {a b : Nat} (h : isNaN a = true ∨ isNaN b = true ∨ val a = val b) : sgn (rankS a) (rankS b) = cmpS a b := by
  unfold sgn rankS cmpS
  by_cases ha : isNaN a = true
  · by_cases hb : isNaN b = true
    · simp [ha, hb]
    · by_cases hc : rung b = 0 ∧ neg b = true <;> simp [ha, hb, hc]
  · by_cases hb : isNaN b = true
    · by_cases hc : rung a = 0 ∧ neg a = true <;> simp [ha, hb, hc]
    · have hv : val a = val b := by
        rcases h with h | h | h
        · exact absurd h ha
        · exact absurd h hb
        · exact h
      simp only [ha, hb, hv]
      by_cases h0 : rung a = 0
      · have h1 : rung b = 0 := val_zero_iff.1 (by rw [← hv]; exact val_zero_iff.2 h0)
        simp only [h0, h1]
        cases neg a <;> cases neg b <;> simp
      · have hn := val_eq_neg hv h0
        have h1 : rung b ≠ 0 := fun e => h0 (val_zero_iff.1 (by rw [hv]; exact val_zero_iff.2 e))
        simp [h0, h1, hn]
end Go.Proofs.YtdebbljohlffdaaGreatDoor.Fl
