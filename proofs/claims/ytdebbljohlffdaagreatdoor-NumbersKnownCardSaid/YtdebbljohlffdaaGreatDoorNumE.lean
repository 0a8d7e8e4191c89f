import Derived.Test.YtdebbljohlffdaaGreatDoorNumD
namespace Go.Proofs.YtdebbljohlffdaaGreatDoor
open Go.RowKit

namespace Fl
def LIM : Nat := 2 * B * ONE
theorem LIM_eq : LIM = 9007199254740992 * ONE := by
  unfold LIM; rw [show 2 * B = 9007199254740992 from by decide]
def isWh (r : Nat) : Bool := decide (U r < LIM) && U r % ONE == 0
def wv (r : Nat) : Nat := U r / ONE
def wholeN (x : Nat) : Int := if neg x then -(wv (rung x) : Int) else (wv (rung x) : Int)
theorem wv_lt {r : Nat} (h : U r < LIM) : wv r < 9007199254740992 := by
  unfold wv; rw [LIM_eq] at h; exact (Nat.div_lt_iff_lt_mul ONE_pos).2 h
theorem U_I_big : LIM ≤ U I := by
  have h : LIM = U big := by
    have := val_big
    have h2 : val big = (U (rung big) : Int) := val_pos (by decide)
    have h3 : rung big = big := by decide
    rw [h2, h3] at this
    unfold LIM; omega
  rw [h, U_le_iff]; decide
theorem fin_of_lim {r : Nat} (h : U r < LIM) : r < I := by
  have := U_I_big
  exact U_lt_iff.1 (by omega)
theorem intVal {x : Nat} (h : U (rung x) < LIM) : floatToIntVal .f64 x .i64 = some (wholeN x) := by
  have h1 := wv_lt h
  unfold floatToIntVal
  have e := toInt_spec (fin_of_lim h)
  rw [show FloatKind.f64.decode x = D.read x from rfl, e]
  have e2 : (if neg x = true then -((U (rung x) / ONE : Nat) : Int) else ((U (rung x) / ONE : Nat) : Int)) = wholeN x := rfl
  rw [e2]
  have hb : -9007199254740992 < wholeN x ∧ wholeN x < 9007199254740992 := by unfold wholeN; split <;> omega
  generalize wholeN x = n at *
  have h2 : IntKind.min .i64 = -9223372036854775808 := by decide
  have h3 : IntKind.max .i64 = 9223372036854775807 := by decide
  dsimp only
  rw [h2, h3, if_pos (by omega)]
theorem two_B : 2 * B = 9007199254740992 := by decide
theorem ofInt_word {n : Int} (h1 : -9007199254740992 < n) (h2 : n < 9007199254740992) : floatOfInt .f64 n = D.word (n < 0) (rn n.natAbs) :=
  ofInt_spec n (by rw [two_B]; omega)
theorem ofInt_val {n : Int} (h1 : -9007199254740992 < n) (h2 : n < 9007199254740992) : val (floatOfInt .f64 n) = n * ONE ∧ rung (floatOfInt .f64 n) < I ∧ neg (floatOfInt .f64 n) = decide (n < 0) ∧ floatOfInt .f64 n < 18446744073709551616 := by
  have hr := @rn_spec n.natAbs (by rw [two_B]; omega)
  have hI : rn n.natAbs < 9223372036854775808 := Nat.lt_trans hr.1 I_lt
  rw [ofInt_word h1 h2, val_word hI, (word_mk _ _ hI).1, (word_mk _ _ hI).2, hr.2]
  refine ⟨?_, hr.1, rfl, word_lt _ _ hI⟩
  by_cases hn : n < 0
  · simp only [hn, decide_true, if_true]
    have : n = -(n.natAbs : Int) := by omega
    rw [Int.natCast_mul]
    conv => rhs; rw [this]
    rw [Int.neg_mul]
  · have : n = (n.natAbs : Int) := by omega
    simp only [hn, decide_false]
    rw [Int.natCast_mul]
    conv => rhs; rw [this]
    rfl
/-- the whole part stands to the number -/
theorem whole_val {x : Nat} (_h : U (rung x) < LIM) : wholeN x * ONE = if neg x then -((wv (rung x) * ONE : Nat) : Int) else ((wv (rung x) * ONE : Nat) : Int) := by
  unfold wholeN; split <;> simp [Int.neg_mul]
theorem wv_le (r : Nat) : wv r * ONE ≤ U r := Nat.div_mul_le_self _ _
theorem wv_exact {r : Nat} : wv r * ONE = U r ↔ U r % ONE = 0 := by
  have := Nat.div_add_mod (U r) ONE
  unfold wv
  rw [Nat.mul_comm] at this
  omega
theorem wholeN_bd {x : Nat} (h : U (rung x) < LIM) : -9007199254740992 < wholeN x ∧ wholeN x < 9007199254740992 := by
  have h1 := wv_lt h
  unfold wholeN; split <;> omega
end Fl

/-- against 2^53 -/
theorem ord_big {x : Nat} (h : Fl.rung x ≤ Fl.I) : (Fl.val x < (Fl.LIM : Int) → FloatKind.f64.format.order x 4845873199050653696 = some .lt) ∧ ((Fl.LIM : Int) ≤ Fl.val x → ∃ o, (o = .eq ∨ o = .gt) ∧ FloatKind.f64.format.order x 4845873199050653696 = some o) := by
  have hb : Fl.rung 4845873199050653696 ≤ Fl.I := Fl.rung_big_le
  have vb : Fl.val 4845873199050653696 = (Fl.LIM : Int) := Fl.val_big
  refine ⟨fun h1 => Fl.order_lt h hb (by rw [vb]; exact h1), fun h1 => ?_⟩
  rcases Int.lt_or_eq_of_le h1 with h2 | h2
  · exact ⟨.gt, Or.inr rfl, Fl.order_gt h hb (by rw [vb]; exact h2)⟩
  · exact ⟨.eq, Or.inl rfl, Fl.order_eq h hb (by rw [vb]; exact h2.symm)⟩

theorem refwhole_c (x : Nat) (w : World) (h : Fl.rung x ≤ Fl.I) (hp : Fl.neg x = false ∨ Fl.rung x = 0) :
    Calls Tryz.prog 47 #[.float .f64 x] w fun e w' => e = .returned (.tuple #[.int .i64 (if Fl.isWh (Fl.rung x) then (Fl.wv (Fl.rung x) : Int) else 0), .bool (Fl.isWh (Fl.rung x))]) ∧ w = w' := by
  have hv : Fl.val x = (Fl.U (Fl.rung x) : Int) := by
    rcases hp with hp | hp
    · exact Fl.val_pos hp
    · rw [Fl.val_zero_iff.2 hp, hp, Fl.U_zero]; rfl
  have hw0 : (Fl.wholeN x) = (Fl.wv (Fl.rung x) : Int) := by
    unfold Fl.wholeN
    rcases hp with hp | hp
    · rw [hp]; rfl
    · have : Fl.wv (Fl.rung x) = 0 := by unfold Fl.wv; rw [hp, Fl.U_zero]; simp
      rw [this]; simp
  by_cases hl : Fl.U (Fl.rung x) < Fl.LIM
  · have hb := Fl.wholeN_bd hl
    have ho := Fl.ofInt_val hb.1 hb.2
    have h1 := (ord_big h).1 (by rw [hv]; omega)
    have hle := Fl.wv_le (Fl.rung x)
    by_cases hm : Fl.U (Fl.rung x) % Fl.ONE = 0
    · have e : Fl.isWh (Fl.rung x) = true := by unfold Fl.isWh; simp [hl, hm]
      have ho2 : FloatKind.f64.format.order (floatOfInt .f64 (Fl.wholeN x)) x = some .eq := Fl.order_eq (by omega) h (by rw [ho.1, hv, hw0, ← Int.natCast_mul, Fl.wv_exact.2 hm])
      have := refwhole_small x _ _ w h1 (Fl.intVal hl) ho2
      rw [e]; simpa [hw0] using this
    · have e : Fl.isWh (Fl.rung x) = false := by unfold Fl.isWh; simp [hm]
      have ho2 : FloatKind.f64.format.order (floatOfInt .f64 (Fl.wholeN x)) x = some .lt := Fl.order_lt (by omega) h (by
        rw [ho.1, hv, hw0, ← Int.natCast_mul]
        have : Fl.wv (Fl.rung x) * Fl.ONE ≠ Fl.U (Fl.rung x) := fun k => hm (Fl.wv_exact.1 k)
        omega)
      have := refwhole_small x _ _ w h1 (Fl.intVal hl) ho2
      rw [e]; simpa using this
  · have e : Fl.isWh (Fl.rung x) = false := by unfold Fl.isWh; simp [hl]
    obtain ⟨o, ho, h1⟩ := (ord_big h).2 (by rw [hv]; omega)
    rw [e]
    exact refwhole_big x o w ho h1

-- the opposite
theorem run_negf (x : Nat) : Op.unary .neg (.float .f64 x) = (pure (.float .f64 (x ^^^ 9223372036854775808)) : Sem Value) := by
  unfold Op.unary
  show (pure (Value.float .f64 (Op.negFloat .f64 x)) : Sem Value) = _
  have : Op.negFloat .f64 x = x ^^^ 9223372036854775808 := by
    unfold Op.negFloat
    have e : (2 : Nat) ^ (FloatKind.f64.format.exponentBits + FloatKind.f64.format.fractionBits) = 9223372036854775808 := by decide
    rw [e]
  rw [this]
def Fl.opp (x : Nat) : Nat := x ^^^ 9223372036854775808
theorem run_opp (x : Nat) : Op.unary .neg (.float .f64 x) = (pure (.float .f64 (Fl.opp x)) : Sem Value) := run_negf x
theorem Fl.opp_rung (x : Nat) : Fl.rung (Fl.opp x) = Fl.rung x := (Fl.flip_parts x).2
theorem Fl.opp_neg (x : Nat) : Fl.neg (Fl.opp x) = !Fl.neg x := (Fl.flip_parts x).1
theorem Fl.opp_lt {x : Nat} (h : x < 18446744073709551616) : Fl.opp x < 18446744073709551616 := by
  unfold Fl.opp
  exact Nat.xor_lt_two_pow (n := 64) (by omega) (by decide)
theorem Fl.opp_val (x : Nat) : Fl.val (Fl.opp x) = -Fl.val x := by
  unfold Fl.val
  rw [Fl.opp_rung, Fl.opp_neg]
  cases Fl.neg x <;> simp

def Fl.wholeS (x : Nat) : Int := if Fl.isWh (Fl.rung x) then Fl.wholeN x else 0

set_option maxHeartbeats 400000 in
theorem refWhole_nan (x : Nat) (w : World) (h : Fl.isNaN x = true) :
    Calls Tryz.prog 18 #[.float .f64 x] w fun e w' => e = .returned (.tuple #[.int .i64 0, .bool false]) ∧ w = w' := by
  have c1 := nan_c x
  rw [h] at c1
  have c1 := Lib.hid c1
  clear h
  go_enter Tryz.func18, Tryz.ntmps18
  go_wp2_with (go_at_call 44; refine (c1.out _).mono ?_; rintro e w' ⟨rfl, rfl⟩)
  go_ret2
  exact ⟨rfl, rfl⟩
set_option maxHeartbeats 400000 in
theorem refWhole_neg (x : Nat) (n : Nat) (b : Bool) (w : World) (h : Fl.isNaN x = false) (hl : FloatKind.f64.format.order x 0 = some .lt) (hn : n < 9007199254740992)
    (hc : ∀ w, Calls Tryz.prog 47 #[.float .f64 (Fl.opp x)] w fun e w' => e = .returned (.tuple #[.int .i64 n, .bool b]) ∧ w = w') :
    Calls Tryz.prog 18 #[.float .f64 x] w fun e w' => e = .returned (.tuple #[.int .i64 (-(n : Int)), .bool b]) ∧ w = w' := by
  have c1 := nan_c x
  rw [h] at c1
  have c1 := Lib.hid c1
  clear h
  have hc := Lib.hid hc
  have ho := run_opp
  go_enter Tryz.func18, Tryz.ntmps18
  go_wp2_with (first | (go_at_call 44; refine (c1.out _).mono ?_; rintro e w' ⟨rfl, rfl⟩) | (go_at_call 47; refine (hc.out _).mono ?_; rintro e w' ⟨rfl, rfl⟩))
  go_ret2
  exact ⟨ret2 (by congr 1) rfl, rfl⟩
set_option maxHeartbeats 400000 in
theorem refWhole_pos (x : Nat) (n : Int) (b : Bool) (o : Ordering) (w : World) (h : Fl.isNaN x = false) (ho : o = .eq ∨ o = .gt) (hl : FloatKind.f64.format.order x 0 = some o)
    (hc : ∀ w, Calls Tryz.prog 47 #[.float .f64 x] w fun e w' => e = .returned (.tuple #[.int .i64 n, .bool b]) ∧ w = w') :
    Calls Tryz.prog 18 #[.float .f64 x] w fun e w' => e = .returned (.tuple #[.int .i64 n, .bool b]) ∧ w = w' := by
  have c1 := nan_c x
  rw [h] at c1
  have c1 := Lib.hid c1
  clear h
  have hc := Lib.hid hc
  rcases ho with rfl | rfl
  all_goals
    go_enter Tryz.func18, Tryz.ntmps18
    go_wp2_with (first | (go_at_call 44; refine (c1.out _).mono ?_; rintro e w' ⟨rfl, rfl⟩) | (go_at_call 47; refine (hc.out _).mono ?_; rintro e w' ⟨rfl, rfl⟩))
    go_ret2
    exact ⟨rfl, rfl⟩
theorem Fl.wh_nan {x : Nat} (h : Fl.isNaN x = true) : Fl.isWh (Fl.rung x) = false := by
  unfold Fl.isWh
  have h1 := Fl.isNaN_true.1 h
  have : ¬ Fl.U (Fl.rung x) < Fl.LIM := fun k => by have := Fl.fin_of_lim k; omega
  simp [this]
theorem refWhole_c (x : Nat) (w : World) (_hx : x < 18446744073709551616) :
    Calls Tryz.prog 18 #[.float .f64 x] w fun e w' => e = .returned (.tuple #[.int .i64 (Fl.wholeS x), .bool (Fl.isWh (Fl.rung x))]) ∧ w = w' := by
  have hz : Fl.rung 0 ≤ Fl.I := by decide
  have vz := Fl.val_zero
  unfold Fl.wholeS
  cases hn : Fl.isNaN x
  · have h := Fl.isNaN_false.1 hn
    by_cases hneg : Fl.neg x = true ∧ Fl.rung x ≠ 0
    · have hU := Fl.U_pos (Nat.pos_of_ne_zero hneg.2)
      have hl := Fl.order_lt h hz (by rw [vz, Fl.val_neg hneg.1]; omega)
      have hc := fun w => refwhole_c (Fl.opp x) w (by rw [Fl.opp_rung]; exact h) (Or.inl (by rw [Fl.opp_neg, hneg.1]; rfl))
      simp only [Fl.opp_rung] at hc
      by_cases hw : Fl.isWh (Fl.rung x) = true
      · simp only [hw, if_true] at hc ⊢
        have hlim : Fl.U (Fl.rung x) < Fl.LIM := by unfold Fl.isWh at hw; simp at hw; exact hw.1
        have := refWhole_neg x _ _ w hn hl (Fl.wv_lt hlim) hc
        simpa [Fl.wholeN, hneg.1] using this
      · simp only [Bool.not_eq_true] at hw
        simp only [hw] at hc ⊢
        have := refWhole_neg x 0 _ w hn hl (by decide) (by simpa using hc)
        simpa using this
    · have hp : Fl.neg x = false ∨ Fl.rung x = 0 := by
        by_cases h0 : Fl.rung x = 0
        · exact Or.inr h0
        · exact Or.inl (by by_cases hs : Fl.neg x = true
                           · exact absurd ⟨hs, h0⟩ hneg
                           · simpa using hs)
      have hc := fun w => refwhole_c x w h hp
      have hv : Fl.val x = (Fl.U (Fl.rung x) : Int) := by
        rcases hp with hp | hp
        · exact Fl.val_pos hp
        · rw [Fl.val_zero_iff.2 hp, hp, Fl.U_zero]; rfl
      have hN : Fl.wholeN x = (Fl.wv (Fl.rung x) : Int) := by
        unfold Fl.wholeN
        rcases hp with hp | hp
        · rw [hp]; rfl
        · have : Fl.wv (Fl.rung x) = 0 := by unfold Fl.wv; rw [hp, Fl.U_zero]; simp
          rw [this]; simp
      rw [hN]
      by_cases h0 : Fl.rung x = 0
      · exact refWhole_pos x _ _ .eq w hn (Or.inl rfl) (Fl.order_eq h hz (by rw [vz]; exact Fl.val_zero_iff.2 h0)) hc
      · have hU := Fl.U_pos (Nat.pos_of_ne_zero h0)
        exact refWhole_pos x _ _ .gt w hn (Or.inr rfl) (Fl.order_gt h hz (by rw [vz, hv]; omega)) hc
  · rw [Fl.wh_nan hn]; exact refWhole_nan x w hn
end Go.Proofs.YtdebbljohlffdaaGreatDoor
