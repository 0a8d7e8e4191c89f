import Derived.Test.YtdebbljohlffdaaGreatDoorNumA
namespace Go.Proofs.YtdebbljohlffdaaGreatDoor
open Go.RowKit

/-- the tape's word where an operation has no answer -/
def nanAns (w : World) (x y : Nat) : Nat := (Question.nanBits .f64 x y).cut (w.tape w.drawn (Question.nanBits .f64 x y))
theorem nanAns_nan (w : World) (x y : Nat) : Fl.I < Fl.rung (nanAns w x y) ∧ nanAns w x y < 18446744073709551616 := by
  unfold nanAns Question.cut Fl.rung Fl.I
  dsimp only
  generalize w.tape w.drawn (Question.nanBits .f64 x y) = t
  have h1 : (t / 2) % (2 ^ 52 - 1) < 2 ^ 52 - 1 := Nat.mod_lt _ (by decide)
  have h2 : (2 : Nat) ^ 52 = 4503599627370496 := by decide
  have h3 : (2 : Nat) ^ 63 = 9223372036854775808 := by decide
  rw [h2] at h1 ⊢
  rw [h3]
  generalize t / 2 % (4503599627370496 - 1) = q at *
  rcases Nat.mod_two_eq_zero_or_one t with h | h <;> rw [h] <;> omega
theorem run_float_nan {P : Program} (w : World) (op : BinOp) (t : TypeId) (x y : Nat) (hop : op = .add ∨ op = .sub ∨ op = .mul ∨ op = .quo) (h : floatBits op .f64 x y = none) :
    (binOp op t (.float .f64 x) (.float .f64 y)).run P w = .ok (.float .f64 (nanAns w x y)) w.drew := by
  unfold floatBits at h
  have hf : Question.forced (Question.nanBits .f64 x y) = false := rfl
  rcases hop with rfl | rfl | rfl | rfl <;> simp only at h <;> simp [binOp, Op.floatArith, h, hf, nanAns]

set_option maxHeartbeats 400000 in
theorem finite_yes (x : Nat) (w : World) (h : Fl.rung x < Fl.I) :
    Calls Tryz.prog 46 #[.float .f64 x] w fun e w' => e = .returned (.bool true) ∧ w = w' := by
  have hq := fun w => run_float_arith (P := Tryz.prog) w .sub 25 .f64 x x _ (Fl.sub_self h)
  have h1 : FloatKind.f64.format.order 0 0 = some .eq := by decide
  have h2 : FloatKind.f64.format.order x x = some .eq := Fl.order_eq (by omega) (by omega) rfl
  go_enter Tryz.func46, Tryz.ntmps46
  go_wp2
  go_ret; exact ⟨rfl, rfl⟩
set_option maxHeartbeats 400000 in
theorem finite_no (x : Nat) (w : World) (h : Fl.rung x = Fl.I) :
    Calls Tryz.prog 46 #[.float .f64 x] w fun e w' => e = .returned (.bool false) ∧ w.drew = w' := by
  have hq := run_float_nan (P := Tryz.prog) w .sub 25 x x (by simp) (Fl.sub_self_inf (by omega))
  have hn := nanAns_nan w x x
  have h1 : FloatKind.f64.format.order (nanAns w x x) (nanAns w x x) = none := Fl.order_nan_left hn.1
  clear hn
  go_enter Tryz.func46, Tryz.ntmps46
  go_wp2
  go_ret; exact ⟨rfl, rfl⟩

set_option maxRecDepth 100000 in
set_option maxHeartbeats 400000 in
theorem signbit_c (x : Nat) (w : World) (hx : x < 18446744073709551616) :
    Calls Tryz.prog 31 #[.float .f64 x] w fun e w' => e = .returned (.bool (Fl.neg x)) ∧ w = w' := by
  have e : Fl.neg x = decide (wrap64 (x : Int) < 0) := by
    rw [Fl.wrap_neg hx]
    unfold wrap64
    congr 1
    rw [eq_iff_iff]
    omega
  rw [e]; exact signbit_w x w

-- Abs, IsInf
theorem abs_bits (x : Nat) (hx : x < 18446744073709551616) : (bits .andNot .u64 (x : Int) 9223372036854775808).toNat = Fl.rung x := by
  have := u64_andNot_nat x 9223372036854775808 hx (by decide)
  have e : ((9223372036854775808 : Nat) : Int) = 9223372036854775808 := rfl
  rw [← e, this, Int.toNat_natCast]
  have e2 : 18446744073709551615 - 9223372036854775808 = 2 ^ 63 - 1 := by decide
  rw [e2, Nat.and_two_pow_sub_one_eq_mod]
  rfl
set_option maxRecDepth 100000 in
set_option maxHeartbeats 400000 in
theorem abs_c (x : Nat) (w : World) (hx : x < 18446744073709551616) :
    Calls Tryz.prog 59 #[.float .f64 x] w fun e w' => e = .returned (.float .f64 (Fl.rung x)) ∧ w = w' := by
  have hb := run_f64bits
  have hb2 := run_f64from
  go_enter Tryz.func59, Tryz.ntmps59
  go_wp2
  go_ret
  refine ⟨?_, rfl⟩
  rw [abs_bits x hx]; rfl
set_option maxRecDepth 100000 in
set_option maxHeartbeats 400000 in
theorem isinf_w (x : Nat) (o : Ordering) (w : World) (hx : x < 18446744073709551616) (h : FloatKind.f64.format.order (Fl.rung x) 9218868437227405311 = some o) :
    Calls Tryz.prog 32 #[.float .f64 x, .int .i64 0] w fun e w' => e = .returned (.bool (o == .gt)) ∧ w = w' := by
  go_enter Tryz.func32, Tryz.ntmps32
  go_wp2_with (go_at_call 59; refine (abs_c _ _ hx).mono ?_; rintro e w' ⟨rfl, rfl⟩)
  go_ret
  exact ⟨by cases o <;> rfl, rfl⟩
theorem isinf_c (x : Nat) (w : World) (hx : x < 18446744073709551616) (h : Fl.rung x ≤ Fl.I) :
    Calls Tryz.prog 32 #[.float .f64 x, .int .i64 0] w fun e w' => e = .returned (.bool (decide (Fl.rung x = Fl.I))) ∧ w = w' := by
  have hI : Fl.I = 9218868437227405312 := rfl
  have r1 : ∀ r, r ≤ Fl.I → Fl.rung r = r := fun r h => Nat.mod_eq_of_lt (by omega)
  have n1 : ∀ r, r ≤ Fl.I → Fl.neg r = false := fun r h => by unfold Fl.neg; rw [Nat.div_eq_of_lt (by omega)]; rfl
  have e1 := r1 _ h
  have e2 := r1 9218868437227405311 (by omega)
  have v1 := Fl.val_pos (n1 _ h)
  have v2 := Fl.val_pos (n1 9218868437227405311 (by omega))
  rw [e1] at v1
  rw [e2] at v2
  by_cases hi : Fl.rung x = Fl.I
  · rw [decide_eq_true hi]
    exact isinf_w x .gt w hx (Fl.order_gt (by omega) (by omega) (by rw [v1, v2]; have := Fl.U_lt (r := 9218868437227405311) (s := Fl.rung x) (by omega); omega))
  · rw [decide_eq_false hi]
    by_cases h3 : Fl.rung x = 9218868437227405311
    · exact isinf_w x .eq w hx (Fl.order_eq (by omega) (by omega) (by rw [v1, v2, h3]))
    · exact isinf_w x .lt w hx (Fl.order_lt (by omega) (by omega) (by rw [v1, v2]; have := Fl.U_lt (r := Fl.rung x) (s := 9218868437227405311) (by omega); omega))

-- comparisons
set_option maxHeartbeats 400000 in
theorem cmpi_c (x y : Int) (w : World) :
    Calls Tryz.prog 52 #[.int .i64 x, .int .i64 y] w fun e w' => e = .returned (.int .i64 (Fl.sgn x y)) ∧ w = w' := by
  by_cases h1 : x < y
  · have e : Fl.sgn x y = -1 := if_pos h1
    rw [e]
    go_enter Tryz.func52, Tryz.ntmps52
    go_wp2
    go_ret; exact ⟨rfl, rfl⟩
  · by_cases h2 : y < x
    · have e : Fl.sgn x y = 1 := by unfold Fl.sgn; rw [if_neg h1, if_pos h2]
      rw [e]
      go_enter Tryz.func52, Tryz.ntmps52
      go_wp2
      go_ret; exact ⟨rfl, rfl⟩
    · have e : Fl.sgn x y = 0 := by unfold Fl.sgn; rw [if_neg h1, if_neg h2]
      rw [e]
      go_enter Tryz.func52, Tryz.ntmps52
      go_wp2
      go_ret; exact ⟨rfl, rfl⟩

set_option maxHeartbeats 400000 in
theorem cmpf_w (x y : Nat) (o : Ordering) (w : World) (hx : FloatKind.f64.format.order x x = some .eq) (hy : FloatKind.f64.format.order y y = some .eq) (h : FloatKind.f64.format.order x y = some o) :
    Calls Tryz.prog 54 #[.float .f64 x, .float .f64 y] w fun e w' => e = .returned (.int .i64 (match o with | .lt => -1 | .gt => 1 | .eq => 0)) ∧ w = w' := by
  cases o
  all_goals
    go_enter Tryz.func54, Tryz.ntmps54
    go_wp2
    go_ret; exact ⟨rfl, rfl⟩

set_option maxHeartbeats 400000 in
theorem rank_nan (x : Nat) (w : World) (h : FloatKind.f64.format.order x x = none) :
    Calls Tryz.prog 53 #[.float .f64 x] w fun e w' => e = .returned (.int .i64 1) ∧ w = w' := by
  go_enter Tryz.func53, Tryz.ntmps53
  go_wp2
  go_ret; exact ⟨rfl, rfl⟩
set_option maxHeartbeats 400000 in
theorem rank_non (x : Nat) (w : World) (o : Ordering) (ho : o = .lt ∨ o = .gt) (h : FloatKind.f64.format.order x x = some .eq) (h0 : FloatKind.f64.format.order x 0 = some o) :
    Calls Tryz.prog 53 #[.float .f64 x] w fun e w' => e = .returned (.int .i64 0) ∧ w = w' := by
  rcases ho with rfl | rfl
  all_goals
    go_enter Tryz.func53, Tryz.ntmps53
    go_wp2
    go_ret; exact ⟨rfl, rfl⟩
set_option maxHeartbeats 400000 in
theorem rank_zero (x : Nat) (w : World) (b : Bool) (hx : x < 18446744073709551616) (hb : Fl.neg x = b) (h : FloatKind.f64.format.order x x = some .eq) (h0 : FloatKind.f64.format.order x 0 = some .eq) :
    Calls Tryz.prog 53 #[.float .f64 x] w fun e w' => e = .returned (.int .i64 (if b then -1 else 0)) ∧ w = w' := by
  have hc := signbit_c x w hx
  rw [hb] at hc
  have hc := Lib.hid hc
  clear hb
  cases b
  all_goals
    go_enter Tryz.func53, Tryz.ntmps53
    go_wp2_with (go_at_call 31; refine hc.out.mono ?_; rintro e w' ⟨rfl, rfl⟩)
    go_ret; exact ⟨rfl, rfl⟩
theorem rank_c (x : Nat) (w : World) (hx : x < 18446744073709551616) :
    Calls Tryz.prog 53 #[.float .f64 x] w fun e w' => e = .returned (.int .i64 (Fl.rankS x)) ∧ w = w' := by
  have hz : Fl.rung 0 ≤ Fl.I := by decide
  have vz := Fl.val_zero
  unfold Fl.rankS
  by_cases hn : Fl.isNaN x = true
  · rw [if_pos hn]; exact rank_nan x w (Fl.order_nan_left (Fl.isNaN_true.1 hn))
  · rw [if_neg hn]
    have h := Fl.isNaN_false.1 (by simpa using hn)
    have he := Fl.order_eq h h rfl
    by_cases h0 : Fl.rung x = 0
    · have := rank_zero x w (Fl.neg x) hx rfl he (Fl.order_eq h hz (by rw [vz]; exact Fl.val_zero_iff.2 h0))
      have e : (if Fl.rung x = 0 ∧ Fl.neg x = true then (-1 : Int) else 0) = if Fl.neg x = true then -1 else 0 := by simp [h0]
      rw [e]; exact this
    · rw [if_neg (fun k => h0 k.1)]
      have hU := Fl.U_pos (Nat.pos_of_ne_zero h0)
      by_cases hg : Fl.neg x = true
      · exact rank_non x w .lt (Or.inl rfl) he (Fl.order_lt h hz (by rw [vz, Fl.val_neg hg]; omega))
      · exact rank_non x w .gt (Or.inr rfl) he (Fl.order_gt h hz (by rw [vz, Fl.val_pos (by simpa using hg)]; omega))
end Go.Proofs.YtdebbljohlffdaaGreatDoor
