import Derived.Test.YtdebbljohlffdaaGreatDoorNumQ
namespace Go.Proofs.YtdebbljohlffdaaGreatDoor
open Go.Shelf Go.RowKit

namespace Fl
open Ieee
/-- a number (no NaN), and a word -/
def num (x : Nat) : Prop := rung x ≤ I ∧ x < 18446744073709551616
theorem num_word (n : Bool) {r : Nat} (h : r ≤ I) : num (D.word n r) := by
  have h2 : r < 9223372036854775808 := Nat.lt_of_le_of_lt h I_lt
  exact ⟨by rw [(word_mk n r h2).2]; exact h, word_lt n r h2⟩
theorem num_nearest (n : Bool) (m : Nat) (p : Int) : num (D.nearest n m p) := by
  unfold Format.nearest
  split
  · exact num_word n (by decide)
  · dsimp only
    apply num_word
    rw [infD]
    exact Nat.min_le_right _ _
def mul2 (x : Nat) : Nat := (D.mul x two).getD 0
def div2 (x : Nat) : Nat := (D.div x two).getD 0
theorem mul2_num {x : Nat} (h : num x) : D.mul x two = some (mul2 x) ∧ num (mul2 x) := by
  have key : ∃ y, D.mul x two = some y ∧ num y := by
    unfold Format.mul
    rw [read_two]
    rcases Nat.lt_or_eq_of_le h.1 with h1 | h1
    · obtain ⟨m, p, hr, _⟩ := read_fin h1
      rw [hr]
      exact ⟨_, rfl, num_nearest _ _ _⟩
    · rw [read_inf h1]
      exact ⟨D.word (neg x ^^ false) D.infRung, rfl, num_word _ (by rw [infD]; exact Nat.le_refl _)⟩
  obtain ⟨y, hy, hn⟩ := key
  have : mul2 x = y := by unfold mul2; rw [hy]; rfl
  rw [this]; exact ⟨hy, hn⟩
theorem div2_num {x : Nat} (h : num x) : D.div x two = some (div2 x) ∧ num (div2 x) := by
  have key : ∃ y, D.div x two = some y ∧ num y := by
    unfold Format.div
    rw [read_two]
    rcases Nat.lt_or_eq_of_le h.1 with h1 | h1
    · obtain ⟨m, p, hr, _⟩ := read_fin h1
      rw [hr]
      unfold Datum.quotient
      dsimp only
      rw [if_neg (show ¬ B = 0 from Nat.ne_of_gt B_pos)]
      exact ⟨_, rfl, num_nearest _ _ _⟩
    · rw [read_inf h1]
      exact ⟨D.word (neg x ^^ false) D.infRung, rfl, num_word _ (by rw [infD]; exact Nat.le_refl _)⟩
  obtain ⟨y, hy, hn⟩ := key
  have : div2 x = y := by unfold div2; rw [hy]; rfl
  rw [this]; exact ⟨hy, hn⟩
def iter (f : Nat → Nat) : Nat → Nat → Nat
  | 0, x => x
  | k + 1, x => iter f k (f x)
def scaledS (m : Nat) (e : Int) : Nat := if 0 < e then iter mul2 e.toNat (floatOfInt .f64 m) else iter div2 (-e).toNat (floatOfInt .f64 m)
theorem num_int (n : Int) : num (floatOfInt .f64 n) := num_nearest _ _ _
theorem iter_num {f : Nat → Nat} (hf : ∀ x, num x → num (f x)) : ∀ k x, num x → num (iter f k x)
  | 0, _, h => h
  | k + 1, x, h => iter_num hf k (f x) (hf x h)
theorem scaled_num (m : Nat) (e : Int) : num (scaledS m e) := by
  unfold scaledS
  split
  · exact iter_num (fun x h => (mul2_num h).2) _ _ (num_int _)
  · exact iter_num (fun x h => (div2_num h).2) _ _ (num_int _)
/-- a part of a rung's number is one -/
theorem part_of {r v d : Nat} (h : r < I) (hU : U r = v * 2 ^ d) : ∃ s, s < I ∧ U s = v := by
  obtain ⟨e, k, hr, hk, hek, hU2, _⟩ := rung_form r
  have hI := I_eq
  have he : e ≤ 2045 ∨ 2045 < e := by omega
  rcases Nat.le_total d e with h1 | h1
  · obtain ⟨t, rfl⟩ := Nat.exists_eq_add_of_le h1
    have hv : v = k * 2 ^ t := by
      apply Nat.eq_of_mul_eq_mul_right (Nat.two_pow_pos d)
      rw [← hU, hU2, Nat.mul_assoc, ← Nat.pow_add, Nat.add_comm]
    rcases Nat.eq_zero_or_pos d with hd | hd
    · subst hd
      exact ⟨r, h, by rw [hU]; simp⟩
    · have ht : t ≤ 2045 := by
        have : (d + t) * B ≤ r := by omega
        rcases Nat.lt_or_ge 2045 t with h2 | h2
        · have h3 : 2047 * B ≤ (d + t) * B := Nat.mul_le_mul_right _ (by omega)
          omega
        · exact h2
      rw [hv]; exact rung_of t k hk ht
  · obtain ⟨t, rfl⟩ := Nat.exists_eq_add_of_le h1
    have hv : v * 2 ^ t = k := by
      apply Nat.eq_of_mul_eq_mul_right (Nat.two_pow_pos e)
      rw [← hU2, hU, Nat.mul_assoc, ← Nat.pow_add, Nat.add_comm]
    have : v ≤ k := by rw [← hv]; exact Nat.le_mul_of_pos_right _ (Nat.two_pow_pos _)
    obtain ⟨s, h2, h3⟩ := rung_of 0 v (by omega) (by omega)
    exact ⟨s, h2, by rw [h3]; simp⟩
theorem mul2_exact {s t : Nat} (hs : s < I) (ht : t < I) (hU : U t = 2 * U s) : mul2 s = t := by
  have e := rung_self (Nat.le_of_lt hs)
  have := mul_two (x := s) (r := t) (by rw [e]; exact hs) ht (by rw [e]; exact hU)
  rw [neg_self (Nat.le_of_lt hs), word_false] at this
  unfold mul2; rw [this]; rfl
theorem div2_exact {s t : Nat} (hs : s < I) (ht : t < I) (hU : 2 * U t = U s) : div2 s = t := by
  have e := rung_self (Nat.le_of_lt hs)
  have := div_two (x := s) (r := t) (by rw [e]; exact hs) ht (by rw [e]; exact hU)
  rw [neg_self (Nat.le_of_lt hs), word_false] at this
  unfold div2; rw [this]; rfl
theorem iter_mul (k : Nat) : ∀ s r, s < I → r < I → U r = U s * 2 ^ k → iter mul2 k s = r := by
  induction k with
  | zero =>
    intro s r _ _ h
    show s = r
    exact U_inj (by rw [h]; simp)
  | succ k ih =>
    intro s r hs hr h
    obtain ⟨t, h1, h2⟩ := part_of hr (v := 2 * U s) (d := k) (by rw [h, Nat.pow_succ, Nat.mul_comm 2, Nat.mul_assoc, Nat.mul_comm 2])
    show iter mul2 k (mul2 s) = r
    rw [mul2_exact hs h1 h2]
    exact ih t r h1 hr (by rw [h, h2, Nat.pow_succ, Nat.mul_comm 2 (U s), Nat.mul_assoc, Nat.mul_comm 2])
theorem iter_div (k : Nat) : ∀ s r, s < I → r < I → U s = U r * 2 ^ k → iter div2 k s = r := by
  induction k with
  | zero =>
    intro s r _ _ h
    show s = r
    exact U_inj (by rw [h]; simp)
  | succ k ih =>
    intro s r hs hr h
    obtain ⟨t, h1, h2⟩ := part_of hs (v := U r * 2 ^ k) (d := 1) (by rw [h, Nat.pow_succ, Nat.mul_assoc])
    show iter div2 k (div2 s) = r
    rw [div2_exact hs h1 (by rw [h2, h, Nat.pow_succ, Nat.mul_comm 2, Nat.mul_assoc])]
    exact ih t r h1 hr h2
/-- THE NUMBER OF A TEXT WITH ITS p, SCALED UP OR DOWN AGAIN -/
theorem scaled_exact {r : Nat} (h0 : 0 < r) (hr : r < I) : scaledS (mant r) (expo r) = r := by
  obtain ⟨m1, m2, m3⟩ := mant_lt h0 hr
  obtain ⟨p1, p2⟩ := odd_parts h0 hr
  have hN := rn_spec (k := mant r) (by rw [two_B]; exact m1)
  have hf : floatOfInt .f64 (mant r : Int) = rn (mant r) := by
    rw [ofInt_word (by omega) (by omega)]
    have : decide ((mant r : Int) < 0) = false := by simp
    rw [this, word_false]; rfl
  unfold scaledS
  rw [hf]
  have hK := K_eq
  unfold expo at *
  generalize twos (U r) = t at *
  split
  · refine iter_mul _ _ _ hN.1 hr ?_
    rw [hN.2, ONE_eq, p1, Nat.mul_assoc, ← Nat.pow_add]
    congr 2
    omega
  · refine iter_div _ _ _ hN.1 hr ?_
    rw [hN.2, ONE_eq]
    conv => rhs; rw [p1]
    rw [Nat.mul_assoc, ← Nat.pow_add]
    congr 2; omega
end Fl
set_option maxRecDepth 100000 in
set_option maxHeartbeats 1000000 in
theorem scaled_up (m e : Nat) (w : World) (_hm : m < 10000000000000000) (he : e ≤ 1200) (_h1 : 0 < e) :
    Calls Tryz.prog 78 #[.int .i64 m, .int .i64 e] w fun o w' => o = .returned (.float .f64 (Fl.iter Fl.mul2 e (floatOfInt .f64 m))) ∧ w = w' := by
  go_enter Tryz.func78, Tryz.ntmps78
  go_wp2_with fail
  go_loop [1, 5] (fun ve vx => ∃ (k x : Nat), ve = .int .i64 k ∧ k ≤ 1200 ∧ vx = .float .f64 x ∧ Hid (Fl.num x ∧ Fl.iter Fl.mul2 k x = Fl.iter Fl.mul2 e (floatOfInt .f64 m))) (fun ve _ => (intOf ve).toNat)
  case atStart => exact ⟨e, _, rfl, he, rfl, Fl.num_int _, rfl⟩
  case round =>
    obtain ⟨k, x, rfl, hk, rfl, hx⟩ := hrel
    by_cases hk0 : 0 < k
    · have hq := fun w => run_float_arith (P := Tryz.prog) w .mul 25 .f64 x 4611686018427387904 _ (Fl.mul2_num hx.out.1).1
      go_wp2_with fail
      go_round
      case rel =>
        refine ⟨k - 1, Fl.mul2 x, congrArg (Value.int .i64) (by omega), by omega, rfl, (Fl.mul2_num hx.out.1).2, ?_⟩
        rw [← hx.out.2]
        obtain ⟨j, rfl⟩ : ∃ j, k = j + 1 := ⟨k - 1, by omega⟩
        rfl
      case measure => simp [intOf]; omega
    · obtain rfl : k = 0 := by omega
      clear hk0
      go_wp2_with fail
      go_loop [1, 5] (fun ve vx => ve = .int .i64 0 ∧ vx = .float .f64 x) (fun _ _ => 0)
      case atStart => exact ⟨rfl, rfl⟩
      case round =>
        obtain ⟨rfl, rfl⟩ := hrel
        go_wp2_with fail
        go_ret
        have := hx.out.2
        exact ⟨by rw [← this]; rfl, rfl⟩
set_option maxRecDepth 100000 in
set_option maxHeartbeats 1000000 in
theorem scaled_dn (m e : Nat) (w : World) (_hm : m < 10000000000000000) (he : e ≤ 1200) :
    Calls Tryz.prog 78 #[.int .i64 m, .int .i64 (-(e : Int))] w fun o w' => o = .returned (.float .f64 (Fl.iter Fl.div2 e (floatOfInt .f64 m))) ∧ w = w' := by
  have hne : decide (0 < -(e : Int)) = false := by simp
  go_enter Tryz.func78, Tryz.ntmps78
  go_wp2_with fail
  go_loop [1, 5] (fun ve vx => ve = .int .i64 (-(e : Int)) ∧ vx = .float .f64 (floatOfInt .f64 m)) (fun _ _ => 0)
  case atStart => exact ⟨rfl, rfl⟩
  case round =>
    obtain ⟨rfl, rfl⟩ := hrel
    go_wp2_with fail
    go_loop [1, 5] (fun ve vx => ∃ (k x : Nat), ve = .int .i64 (-(k : Int)) ∧ k ≤ 1200 ∧ vx = .float .f64 x ∧ Hid (Fl.num x ∧ Fl.iter Fl.div2 k x = Fl.iter Fl.div2 e (floatOfInt .f64 m))) (fun ve _ => (-(intOf ve)).toNat)
    case atStart => exact ⟨e, _, rfl, he, rfl, Fl.num_int _, rfl⟩
    case round =>
      obtain ⟨k, x, rfl, hk, rfl, hx⟩ := hrel
      by_cases hk0 : 0 < k
      · have hq := fun w => run_float_arith (P := Tryz.prog) w .quo 25 .f64 x 4611686018427387904 _ (Fl.div2_num hx.out.1).1
        go_wp2_with fail
        go_round
        case rel =>
          refine ⟨k - 1, Fl.div2 x, congrArg (Value.int .i64) (by omega), by omega, rfl, (Fl.div2_num hx.out.1).2, ?_⟩
          rw [← hx.out.2]
          obtain ⟨j, rfl⟩ : ∃ j, k = j + 1 := ⟨k - 1, by omega⟩
          rfl
        case measure => simp [intOf]; omega
      · obtain rfl : k = 0 := by omega
        clear hk0
        go_wp2_with fail
        go_ret
        have := hx.out.2
        exact ⟨by rw [← this]; rfl, rfl⟩
end Go.Proofs.YtdebbljohlffdaaGreatDoor
