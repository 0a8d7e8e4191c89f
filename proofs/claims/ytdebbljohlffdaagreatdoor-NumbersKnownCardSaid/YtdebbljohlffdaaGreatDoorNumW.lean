import Derived.Test.YtdebbljohlffdaaGreatDoorNumV
namespace Go.Proofs.YtdebbljohlffdaaGreatDoor
open Go.Shelf Go.RowKit

set_option maxRecDepth 100000 in
set_option maxHeartbeats 1000000 in
theorem normalize_c (x : Nat) (w : World) (hx : x < 18446744073709551616) (o : Ordering) (ho : o = .eq ∨ o = .gt) (h : FloatKind.f64.format.order (Fl.rung x) 4503599627370496 = some o) :
    Calls Tryz.prog 95 #[.float .f64 x] w fun e w' => e = .returned (.tuple #[.float .f64 x, .int .i64 0]) ∧ w = w' := by
  have ha := Lib.hid (fun w => abs_c x w hx)
  clear hx
  rcases ho with rfl | rfl
  all_goals
    go_enter Tryz.func95, Tryz.ntmps95
    go_wp2_with (go_at_call 59; refine (ha.out _).mono ?_; rintro e w' ⟨rfl, rfl⟩)
    go_ret2
    exact ⟨rfl, rfl⟩
set_option maxHeartbeats 400000 in
theorem isnan_no (x : Nat) (w : World) (h : FloatKind.f64.format.order x x = some .eq) :
    Calls Tryz.prog 94 #[.float .f64 x] w fun e w' => e = .returned (.bool false) ∧ w = w' := by
  go_enter Tryz.func94, Tryz.ntmps94
  go_wp2_with fail
  go_ret
  exact ⟨rfl, rfl⟩
set_option maxRecDepth 100000 in
set_option maxHeartbeats 1000000 in
theorem ldexp_zero (x : Nat) (k : Int) (w : World) (h : FloatKind.f64.format.order x 0 = some .eq) :
    Calls Tryz.prog 72 #[.float .f64 x, .int .i64 k] w fun e w' => e = .returned (.float .f64 x) ∧ w = w' := by
  go_enter Tryz.func72, Tryz.ntmps72
  go_wp2_with fail
  go_ret
  exact ⟨rfl, rfl⟩

set_option maxRecDepth 100000 in
set_option maxHeartbeats 1000000 in
theorem copysign_c (x : Nat) (w : World) (hx : x < 9223372036854775808) :
    Calls Tryz.prog 79 #[.float .f64 0, .float .f64 x] w fun e w' => e = .returned (.float .f64 0) ∧ w = w' := by
  have hb := run_f64bits
  have hb2 := run_f64from
  have e1 := u64_andNot_nat 0 9223372036854775808 (by decide) (by decide)
  have e2 := u64_and_nat x 9223372036854775808 (by omega) (by decide)
  have e3 : x &&& 9223372036854775808 = 0 := by
    rw [show (9223372036854775808 : Nat) = 2 ^ 63 from by decide, nat_bit, Nat.div_eq_of_lt (by omega)]
  rw [e3] at e2
  have e4 : bits .andNot .u64 (0 : Int) 9223372036854775808 = 0 := e1
  have e5 : bits .and .u64 (x : Int) 9223372036854775808 = 0 := e2
  have e6 : bits .or .u64 (0 : Int) 0 = 0 := u64_or_nat 0 0 (by decide) (by decide)
  clear e1 e2 e3 hx
  go_enter Tryz.func79, Tryz.ntmps79
  go_wp2_with fail
  go_ret
  exact ⟨rfl, rfl⟩
set_option maxRecDepth 100000 in
set_option maxHeartbeats 1000000 in
theorem inf_c (w : World) :
    Calls Tryz.prog 39 #[.int .i64 1] w fun e w' => e = .returned (.float .f64 Fl.I) ∧ w = w' := by
  have hb2 := run_f64from
  go_enter Tryz.func39, Tryz.ntmps39
  go_wp2_with fail
  go_ret
  exact ⟨rfl, rfl⟩
/-- what the walks over ldexp take -/
structure LdFacts (x q : Nat) (k : Int) : Prop where
  h : FloatKind.f64.format.order x 0 = some .gt
  hk1 : -2000 ≤ k
  hk2 : k ≤ 2000
  hq1 : 1023 ≤ q
  hq2 : q ≤ 1076
  hq : (x : Int) / 4503599627370496 = (q : Int)
  hand : bits .and .i64 (q : Int) 2047 = (q : Int)
  h1 : ∀ w, Calls Tryz.prog 32 #[.float .f64 x, .int .i64 0] w fun e w' => e = .returned (.bool false) ∧ w = w'
  h2 : ∀ w, Calls Tryz.prog 94 #[.float .f64 x] w fun e w' => e = .returned (.bool false) ∧ w = w'
  h3 : ∀ w, Calls Tryz.prog 95 #[.float .f64 x] w fun e w' => e = .returned (.tuple #[.float .f64 x, .int .i64 0]) ∧ w = w'
set_option maxRecDepth 100000 in
set_option maxHeartbeats 1000000 in
theorem ldexp_low (x q : Nat) (k : Int) (w : World) (F : LdFacts x q k) (hx : x < 9223372036854775808) (he : k + ((q : Int) - 1023) < -1075) :
    Calls Tryz.prog 72 #[.float .f64 x, .int .i64 k] w fun e w' => e = .returned (.float .f64 0) ∧ w = w' := by
  obtain ⟨h, hk1, hk2, hq1, hq2, hq, hand, h1, h2, h3⟩ := F
  have h1 := Lib.hid h1
  have h2 := Lib.hid h2
  have h3 := Lib.hid h3
  have h4 := Lib.hid (fun w => copysign_c x w hx)
  clear hx
  have hb := run_f64bits
  go_enter Tryz.func72, Tryz.ntmps72
  go_wp2_with (first | (go_at_call 32; refine (h1.out _).mono ?_; rintro e w' ⟨rfl, rfl⟩) | (go_at_call 94; refine (h2.out _).mono ?_; rintro e w' ⟨rfl, rfl⟩) | (go_at_call 95; refine (h3.out _).mono ?_; rintro e w' ⟨rfl, rfl⟩) | (go_at_call 79; refine (h4.out _).mono ?_; rintro e w' ⟨rfl, rfl⟩))
  go_ret
  exact ⟨rfl, rfl⟩
set_option maxRecDepth 100000 in
set_option maxHeartbeats 1000000 in
theorem ldexp_high (x q : Nat) (k : Int) (w : World) (F : LdFacts x q k) (he : 1023 < k + ((q : Int) - 1023)) :
    Calls Tryz.prog 72 #[.float .f64 x, .int .i64 k] w fun e w' => e = .returned (.float .f64 Fl.I) ∧ w = w' := by
  obtain ⟨h, hk1, hk2, hq1, hq2, hq, hand, h1, h2, h3⟩ := F
  have h1 := Lib.hid h1
  have h2 := Lib.hid h2
  have h3 := Lib.hid h3
  have h4 := Lib.hid inf_c
  have hb := run_f64bits
  go_enter Tryz.func72, Tryz.ntmps72
  go_wp2_with (first | (go_at_call 32; refine (h1.out _).mono ?_; rintro e w' ⟨rfl, rfl⟩) | (go_at_call 94; refine (h2.out _).mono ?_; rintro e w' ⟨rfl, rfl⟩) | (go_at_call 95; refine (h3.out _).mono ?_; rintro e w' ⟨rfl, rfl⟩) | (go_at_call 39; refine (h4.out _).mono ?_; rintro e w' ⟨rfl, rfl⟩))
  go_ret
  exact ⟨rfl, rfl⟩
set_option maxRecDepth 100000 in
set_option maxHeartbeats 1000000 in
theorem ldexp_mid (x q r y : Nat) (k : Int) (w : World) (F : LdFacts x q k) (he1 : -1022 ≤ k + ((q : Int) - 1023)) (he2 : k + ((q : Int) - 1023) ≤ 1023)
    (hr : bits .or .u64 (bits .andNot .u64 (x : Int) 9218868437227405312) ((k + ((q : Int) - 1023) + 1023) * 4503599627370496) = (r : Int))
    (hy : floatBits .mul .f64 4607182418800017408 r = some y) :
    Calls Tryz.prog 72 #[.float .f64 x, .int .i64 k] w fun e w' => e = .returned (.float .f64 y) ∧ w = w' := by
  obtain ⟨h, hk1, hk2, hq1, hq2, hq, hand, h1, h2, h3⟩ := F
  have h1 := Lib.hid h1
  have h2 := Lib.hid h2
  have h3 := Lib.hid h3
  have hb := run_f64bits
  have hb2 := run_f64from
  have hm := fun w => run_float_arith (P := Tryz.prog) w .mul 25 .f64 _ _ y hy
  clear hy
  go_enter Tryz.func72, Tryz.ntmps72
  go_wp2_with (first | (go_at_call 32; refine (h1.out _).mono ?_; rintro e w' ⟨rfl, rfl⟩) | (go_at_call 94; refine (h2.out _).mono ?_; rintro e w' ⟨rfl, rfl⟩) | (go_at_call 95; refine (h3.out _).mono ?_; rintro e w' ⟨rfl, rfl⟩))
  go_ret
  exact ⟨rfl, rfl⟩
set_option maxRecDepth 100000 in
set_option maxHeartbeats 1000000 in
theorem ldexp_den (x q r y : Nat) (k : Int) (w : World) (F : LdFacts x q k) (he1 : -1075 ≤ k + ((q : Int) - 1023)) (he2 : k + ((q : Int) - 1023) < -1022)
    (hr : bits .or .u64 (bits .andNot .u64 (x : Int) 9218868437227405312) ((k + ((q : Int) - 1023) + 53 + 1023) * 4503599627370496) = (r : Int))
    (hy : floatBits .mul .f64 4368491638549381120 r = some y) :
    Calls Tryz.prog 72 #[.float .f64 x, .int .i64 k] w fun e w' => e = .returned (.float .f64 y) ∧ w = w' := by
  obtain ⟨h, hk1, hk2, hq1, hq2, hq, hand, h1, h2, h3⟩ := F
  have h1 := Lib.hid h1
  have h2 := Lib.hid h2
  have h3 := Lib.hid h3
  have hb := run_f64bits
  have hb2 := run_f64from
  have hm := fun w => run_float_arith (P := Tryz.prog) w .mul 25 .f64 _ _ y hy
  clear hy
  go_enter Tryz.func72, Tryz.ntmps72
  go_wp2_with (first | (go_at_call 32; refine (h1.out _).mono ?_; rintro e w' ⟨rfl, rfl⟩) | (go_at_call 94; refine (h2.out _).mono ?_; rintro e w' ⟨rfl, rfl⟩) | (go_at_call 95; refine (h3.out _).mono ?_; rintro e w' ⟨rfl, rfl⟩))
  go_ret
  exact ⟨rfl, rfl⟩
end Go.Proofs.YtdebbljohlffdaaGreatDoor
