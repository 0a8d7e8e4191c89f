import Derived.Test.YtdebbljohlffdaaGreatDoorNumI
namespace Go.Proofs.YtdebbljohlffdaaGreatDoor
open Go.Shelf Go.RowKit

namespace Fl
/-- how often two divides a rung's size -/
def TOP : Nat := 2200
theorem TOP_eq : TOP = 2200 := rfl
def twos (n : Nat) : Nat := Lib.ctzFrom TOP n
def mant (r : Nat) : Nat := U r / 2 ^ twos (U r)
def expo (r : Nat) : Int := (twos (U r) : Int) - 1074
theorem odd_unique {m n a b : Nat} (hm : m % 2 = 1) (hn : n % 2 = 1) (h : m * 2 ^ a = n * 2 ^ b) : a = b ∧ m = n := by
  have key : ∀ (m n a d : Nat), m % 2 = 1 → n % 2 = 1 → m * 2 ^ a = n * 2 ^ (a + d) → d = 0 := by
    intro m n a d hm _ h
    rcases Nat.eq_zero_or_pos d with h0 | h0
    · exact h0
    · exfalso
      rw [Nat.pow_add, Nat.mul_comm (2 ^ a), ← Nat.mul_assoc] at h
      have := Nat.eq_of_mul_eq_mul_right (Nat.two_pow_pos a) h
      obtain ⟨e, rfl⟩ : ∃ e, d = e + 1 := ⟨d - 1, by omega⟩
      rw [Nat.pow_succ, ← Nat.mul_assoc] at this
      omega
  rcases Nat.le_total a b with h1 | h1
  · obtain ⟨d, rfl⟩ := Nat.exists_eq_add_of_le h1
    have := key m n a d hm hn h
    subst this
    exact ⟨rfl, Nat.eq_of_mul_eq_mul_right (Nat.two_pow_pos a) h⟩
  · obtain ⟨d, rfl⟩ := Nat.exists_eq_add_of_le h1
    have := key n m b d hn hm h.symm
    subst this
    exact ⟨rfl, Nat.eq_of_mul_eq_mul_right (Nat.two_pow_pos b) h⟩
theorem U_bound {r : Nat} (h : r < I) : U r < 2 ^ TOP := by
  obtain ⟨e, k, hr, hk, hek, hU, _⟩ := rung_form r
  rw [hU]
  have hI := I_eq
  have he : e ≤ 2046 := by
    rcases Nat.lt_or_ge 2046 e with h1 | h1
    · have : 2047 * B ≤ e * B := Nat.mul_le_mul_right _ h1
      omega
    · exact h1
  have h53 : 2 * B = 2 ^ 53 := by decide
  rw [h53] at hk
  calc k * 2 ^ e < 2 ^ 53 * 2 ^ e := Nat.mul_lt_mul_of_pos_right hk (Nat.two_pow_pos _)
    _ = 2 ^ (53 + e) := by rw [← Nat.pow_add]
    _ ≤ 2 ^ TOP := Nat.pow_le_pow_right (by decide) (by rw [TOP_eq]; omega)
theorem odd_parts {r : Nat} (h0 : 0 < r) (h : r < I) : U r = mant r * 2 ^ twos (U r) ∧ mant r % 2 = 1 := by
  obtain ⟨m, hm, _⟩ := Lib.ctzFrom_spec TOP (U r) (U_pos h0) (U_bound h)
  have e : U r = (2 * m + 1) * 2 ^ twos (U r) := by rw [Nat.mul_comm]; exact hm
  have e2 : mant r = 2 * m + 1 := by
    unfold mant
    conv => lhs; rw [e]
    rw [show twos ((2 * m + 1) * 2 ^ twos (U r)) = twos (U r) from by rw [← e]]
    exact Nat.mul_div_cancel _ (Nat.two_pow_pos _)
  rw [e2]
  exact ⟨e, by omega⟩
theorem mant_of {r m a : Nat} (h : r < I) (hm : m % 2 = 1) (hU : U r = m * 2 ^ a) : mant r = m ∧ expo r = (a : Int) - 1074 := by
  have h0 : 0 < r := by
    rcases Nat.eq_zero_or_pos r with h1 | h1
    · rw [h1, U_zero] at hU
      have := Nat.mul_pos (show 0 < m by omega) (Nat.two_pow_pos a)
      omega
    · exact h1
  obtain ⟨e1, e2⟩ := odd_parts h0 h
  rw [hU] at e1
  obtain ⟨e3, e4⟩ := odd_unique hm e2 e1
  unfold expo
  rw [hU]
  exact ⟨e4.symm, by rw [← e3]⟩
/-- A number's text. -/
def txt (r : Nat) : List UInt8 := if r = I then [105, 110, 102] else if isWh r then Lib.decDigits (wv r) else Lib.decDigits (mant r) ++ 112 :: Lib.itoa (expo r)
def text (b : Nat) : List UInt8 := if isNaN b then [110, 97, 110] else if neg b then 45 :: txt (rung b) else txt (rung b)
end Fl

set_option maxRecDepth 100000 in
set_option maxHeartbeats 1000000 in
theorem parts_low (x m n : Nat) (w : World) (hn : n < 64) (hm : bits .and .u64 (x : Int) 4503599627370495 = (m : Int)) (hq : (x : Int) / 4503599627370496 = 0)
    (htz : ∀ w', w = w' → Calls Tryz.prog 63 #[.int .u64 m] w' fun e w'' => e = .returned (.int .i64 n) ∧ w'' = w') :
    Calls Tryz.prog 35 #[.float .f64 x] w fun e w' => e = .returned (.tuple #[.int .u64 ((m : Int) / 2 ^ n), .int .i64 (-1074 + (n : Int))]) ∧ w = w' := by
  have hb := run_f64bits
  have htz := Lib.hid htz
  go_enter Tryz.func35, Tryz.ntmps35
  go_wp2_with (go_at_call 63; refine (htz.out _ rfl).mono ?_; rintro e w' ⟨rfl, rfl⟩)
  go_ret2
  exact ⟨rfl, rfl⟩
set_option maxRecDepth 100000 in
set_option maxHeartbeats 1000000 in
theorem parts_high (x m0 m q n : Nat) (w : World) (hn : n < 64) (hm : bits .and .u64 (x : Int) 4503599627370495 = (m0 : Int)) (hm2 : bits .or .u64 (m0 : Int) 4503599627370496 = (m : Int)) (hq : (x : Int) / 4503599627370496 = (q : Int)) (hq1 : 1 ≤ q) (hq2 : q < 3000)
    (htz : ∀ w', w = w' → Calls Tryz.prog 63 #[.int .u64 m] w' fun e w'' => e = .returned (.int .i64 n) ∧ w'' = w') :
    Calls Tryz.prog 35 #[.float .f64 x] w fun e w' => e = .returned (.tuple #[.int .u64 ((m : Int) / 2 ^ n), .int .i64 ((q : Int) - 1075 + (n : Int))]) ∧ w = w' := by
  have hb := run_f64bits
  have htz := Lib.hid htz
  go_enter Tryz.func35, Tryz.ntmps35
  go_wp2_with (go_at_call 63; refine (htz.out _ rfl).mono ?_; rintro e w' ⟨rfl, rfl⟩)
  go_ret2
  exact ⟨rfl, rfl⟩
theorem parts_c (x : Nat) (w : World) (h0 : 0 < x) (hx : x < Fl.I) (hT : TabAt 1 Lib.deBruijn64tab w) :
    Calls Tryz.prog 35 #[.float .f64 x] w fun e w' => e = .returned (.tuple #[.int .u64 (Fl.mant x), .int .i64 (Fl.expo x)]) ∧ w = w' := by
  have hI : Fl.I = 9218868437227405312 := rfl
  have hand := u64_and_nat x 4503599627370495 (by omega) (by decide)
  have e52 : (4503599627370495 : Nat) = 2 ^ 52 - 1 := by decide
  have hmod : x &&& 4503599627370495 = x % 4503599627370496 := by
    rw [e52, Nat.and_two_pow_sub_one_eq_mod]
  rw [hmod] at hand
  have hB : Fl.B = 4503599627370496 := rfl
  have tz : ∀ m : Nat, 0 < m → m < 9007199254740992 → ∃ n k : Nat, n < 64 ∧ m = 2 ^ n * (2 * k + 1) ∧ ∀ w', w = w' → Calls Tryz.prog 63 #[.int .u64 m] w' fun e w'' => e = .returned (.int .i64 (n : Int)) ∧ w'' = w' := by
    intro m hm0 hm1
    have e : Lib.ctz 64 m = Lib.ctzFrom 64 m := by unfold Lib.ctz; rw [if_neg (by omega)]
    obtain ⟨k, hk, hlt⟩ := Lib.ctzFrom_spec 64 m hm0 (by omega)
    refine ⟨Lib.ctzFrom 64 m, k, hlt, hk, fun w' hw => ?_⟩
    have := Tryz.bits_TrailingZeros64 m (by omega) w' (fun _ => by rw [← hw]; exact hT)
    rw [e] at this; exact this
  by_cases hl : x < 4503599627370496
  · obtain ⟨n, k, hn, hk, hc⟩ := tz x h0 (by omega)
    have hxm : x % 4503599627370496 = x := Nat.mod_eq_of_lt hl
    rw [hxm] at hand
    have := parts_low x x n w hn hand (by omega) hc
    have hU : Fl.U x = (2 * k + 1) * 2 ^ n := by rw [Fl.U_low (by omega), Nat.mul_comm]; exact hk
    obtain ⟨e1, e2⟩ := Fl.mant_of hx (by omega) hU
    rw [e1, e2]
    have e3 : ((x : Int) / 2 ^ n) = ((2 * k + 1 : Nat) : Int) := by
      have : x / 2 ^ n = 2 * k + 1 := by rw [hk]; exact Nat.mul_div_cancel_left _ (Nat.two_pow_pos _)
      rw [← this]; simp
    rw [e3, Int.add_comm] at this
    exact this
  · have hm1 : x % 4503599627370496 < 4503599627370496 := Nat.mod_lt _ (by decide)
    have hor := u64_or_nat (x % 4503599627370496) 4503599627370496 (by omega) (by decide)
    have hj : x % 4503599627370496 ||| 4503599627370496 = 4503599627370496 + x % 4503599627370496 := by
      rw [Nat.or_comm]
      have h52 : (2 : Nat) ^ 52 = 4503599627370496 := by decide
      exact nat_join 52 4503599627370496 _ (by decide) (by rw [h52]; exact hm1)
    rw [hj] at hor
    obtain ⟨n, k, hn, hk, hc⟩ := tz (4503599627370496 + x % 4503599627370496) (by omega) (by omega)
    have hq1 : 1 ≤ x / 4503599627370496 := by omega
    have := parts_high x _ _ (x / 4503599627370496) n w hn hand hor (by omega) hq1 (by omega) hc
    have hU : Fl.U x = (2 * k + 1) * 2 ^ (n + (x / 4503599627370496 - 1)) := by
      unfold Fl.U
      rw [hB, if_neg (by omega), hk, Nat.pow_add, Nat.mul_comm (2 ^ n), Nat.mul_assoc]
    obtain ⟨e1, e2⟩ := Fl.mant_of hx (by omega) hU
    rw [e1, e2]
    have e3 : (((4503599627370496 + x % 4503599627370496 : Nat) : Int) / 2 ^ n) = ((2 * k + 1 : Nat) : Int) := by
      have : (4503599627370496 + x % 4503599627370496) / 2 ^ n = 2 * k + 1 := by rw [hk]; exact Nat.mul_div_cancel_left _ (Nat.two_pow_pos _)
      rw [← this]; simp
    have e4 : ((x / 4503599627370496 : Nat) : Int) - 1075 + (n : Int) = ((n + (x / 4503599627370496 - 1) : Nat) : Int) - 1074 := by omega
    rw [e3, e4] at this
    exact this
end Go.Proofs.YtdebbljohlffdaaGreatDoor
