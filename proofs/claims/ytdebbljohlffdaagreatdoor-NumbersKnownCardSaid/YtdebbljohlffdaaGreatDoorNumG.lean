import Derived.Test.YtdebbljohlffdaaGreatDoorNumF
namespace Go.Proofs.YtdebbljohlffdaaGreatDoor
open Go.RowKit

set_option maxHeartbeats 400000 in
theorem refdown_nan (x : Nat) (w : World) (h : Fl.isNaN x = true) :
    Calls Tryz.prog 21 #[.float .f64 x] w fun e w' => e = .returned (.float .f64 x) ∧ w = w' := by
  have c1 := nan_c x
  rw [h] at c1
  have c1 := Lib.hid c1
  clear h
  go_enter Tryz.func21, Tryz.ntmps21
  go_wp2_with (go_at_call 44; refine (c1.out _).mono ?_; rintro e w' ⟨rfl, rfl⟩)
  go_ret; exact ⟨rfl, rfl⟩
set_option maxHeartbeats 400000 in
theorem refdown_inf (x : Nat) (w : World) (h : Fl.isNaN x = false) (hi : Fl.rung x = Fl.I) :
    Calls Tryz.prog 21 #[.float .f64 x] w fun e w' => e = .returned (.float .f64 x) ∧ w.drew = w' := by
  have c1 := nan_c x
  rw [h] at c1
  have c1 := Lib.hid c1
  have c2 := Lib.hid (fun w => finite_no x w hi)
  clear h hi
  go_enter Tryz.func21, Tryz.ntmps21
  go_wp2_with (first | (go_at_call 44; refine (c1.out _).mono ?_; rintro e w' ⟨rfl, rfl⟩) | (go_at_call 46; refine (c2.out _).mono ?_; rintro e w' ⟨rfl, rfl⟩))
  go_ret; exact ⟨rfl, rfl⟩
/-- how the tests go -/
def DownWay (x : Nat) (o1 : Ordering) (o2 o3 : Ordering) : Prop := FloatKind.f64.format.order x 0 = some o1 ∧ FloatKind.f64.format.order x 4845873199050653696 = some o2 ∧ FloatKind.f64.format.order (Fl.opp x) 4845873199050653696 = some o3
set_option maxHeartbeats 800000 in
theorem refdown_out (x : Nat) (o1 o2 o3 : Ordering) (w : World) (h : Fl.isNaN x = false) (hi : Fl.rung x < Fl.I) (hw : DownWay x o1 o2 o3) (ho : o1 = .eq ∨ o2 ≠ .lt ∨ o3 ≠ .lt) :
    Calls Tryz.prog 21 #[.float .f64 x] w fun e w' => e = .returned (.float .f64 x) ∧ w = w' := by
  have c1 := nan_c x
  rw [h] at c1
  have c1 := Lib.hid c1
  have c2 := Lib.hid (fun w => finite_yes x w hi)
  have c3 := Lib.hid big_c
  have hop := run_opp
  obtain ⟨h1, h2, h3⟩ := hw
  clear h hi
  cases o1 <;> cases o2 <;> cases o3
  all_goals first
    | (exfalso; clear h1 h2 h3; rcases ho with ho | ho | ho <;> first | exact absurd ho (by decide) | exact ho rfl; done)
    | (clear ho
       go_enter Tryz.func21, Tryz.ntmps21
       go_wp2_with (first | (go_at_call 44; refine (c1.out _).mono ?_; rintro e w' ⟨rfl, rfl⟩) | (go_at_call 46; refine (c2.out _).mono ?_; rintro e w' ⟨rfl, rfl⟩) | (go_at_call 51; refine (c3.out _).mono ?_; rintro e w' ⟨rfl, rfl⟩))
       go_ret; exact ⟨rfl, rfl⟩)
set_option maxHeartbeats 800000 in
theorem refdown_mid (x : Nat) (o1 : Ordering) (n : Int) (y : Nat) (o : Ordering) (w : World) (h : Fl.isNaN x = false) (hi : Fl.rung x < Fl.I) (hw : DownWay x o1 .lt .lt) (ho1 : o1 = .lt ∨ o1 = .gt)
    (hn : floatToIntVal .f64 x .i64 = some n) (ho : FloatKind.f64.format.order (floatOfInt .f64 n) x = some o) (hy : o = .gt → floatBits .sub .f64 (floatOfInt .f64 n) 4607182418800017408 = some y) :
    Calls Tryz.prog 21 #[.float .f64 x] w fun e w' => e = .returned (.float .f64 (if o = .gt then y else floatOfInt .f64 n)) ∧ w = w' := by
  have hc := fun w => run_convert_float_int (P := Tryz.prog) w 25 3 .f64 .i64 x n (by rw [Tryz.underlying25]; rfl) Tryz.underlying3 hn
  have c1 := nan_c x
  rw [h] at c1
  have c1 := Lib.hid c1
  have c2 := Lib.hid (fun w => finite_yes x w hi)
  have c3 := Lib.hid big_c
  have hop := run_opp
  obtain ⟨h1, h2, h3⟩ := hw
  clear h hi hn
  have hq : o = .gt → ∀ w, (binOp .sub 25 (.float .f64 (floatOfInt .f64 n)) (.float .f64 4607182418800017408)).run Tryz.prog w = .ok (.float .f64 y) w := fun k w => run_float_arith (P := Tryz.prog) w .sub 25 .f64 _ _ y (hy k)
  clear hy
  rcases ho1 with rfl | rfl <;> cases o
  all_goals
    simp only [forall_const, reduceCtorEq, false_implies] at hq
    go_enter Tryz.func21, Tryz.ntmps21
    go_wp2_with (first | (go_at_call 44; refine (c1.out _).mono ?_; rintro e w' ⟨rfl, rfl⟩) | (go_at_call 46; refine (c2.out _).mono ?_; rintro e w' ⟨rfl, rfl⟩) | (go_at_call 51; refine (c3.out _).mono ?_; rintro e w' ⟨rfl, rfl⟩))
    go_ret; exact ⟨rfl, rfl⟩
end Go.Proofs.YtdebbljohlffdaaGreatDoor
