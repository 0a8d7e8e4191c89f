import Derived.Test.YtdebbljohlffdaaGreatDoorNumC
namespace Go.Proofs.YtdebbljohlffdaaGreatDoor
open Go.RowKit

theorem ret2 {a b c d : Value} (h : a = c) (k : b = d) : Ending.returned (.tuple #[a, b]) = .returned (.tuple #[c, d]) := by rw [h, k]

def opOf (n : Int) : Option BinOp := if n = 43 then some .add else if n = 45 then some .sub else if n = 42 then some .mul else if n = 47 then some .quo else none
set_option maxHeartbeats 800000 in
theorem do_ok19 (n : Int) (a b r : Nat) (o : BinOp) (w : World) (ho : opOf n = some o) (h : floatBits o .f64 a b = some r) :
    Calls Tryz.prog 24 #[.int .u8 n, .float .f64 a, .float .f64 b] w fun e w' => e = .returned (.tuple #[.float .f64 r, .bool true]) ∧ w = w' := by
  have hq := fun w => run_float_arith (P := Tryz.prog) w o 25 .f64 a b r h
  have hc : (n = 43 ∧ o = .add) ∨ (n = 45 ∧ o = .sub) ∨ (n = 42 ∧ o = .mul) ∨ (n = 47 ∧ o = .quo) := by
    unfold opOf at ho
    split at ho
    · exact Or.inl ⟨by assumption, by cases ho; rfl⟩
    split at ho
    · exact Or.inr (Or.inl ⟨by assumption, by cases ho; rfl⟩)
    split at ho
    · exact Or.inr (Or.inr (Or.inl ⟨by assumption, by cases ho; rfl⟩))
    split at ho
    · exact Or.inr (Or.inr (Or.inr ⟨by assumption, by cases ho; rfl⟩))
    · cases ho
  clear ho h
  rcases hc with ⟨rfl, rfl⟩ | ⟨rfl, rfl⟩ | ⟨rfl, rfl⟩ | ⟨rfl, rfl⟩
  all_goals
    go_enter Tryz.func24, Tryz.ntmps24
    go_wp2
    go_ret2
    exact ⟨rfl, rfl⟩
set_option maxHeartbeats 800000 in
theorem do_nan19 (n : Int) (a b : Nat) (o : BinOp) (w : World) (ho : opOf n = some o) (h : floatBits o .f64 a b = none) :
    Calls Tryz.prog 24 #[.int .u8 n, .float .f64 a, .float .f64 b] w fun e w' => e = .returned (.tuple #[.float .f64 (nanAns w a b), .bool true]) ∧ w.drew = w' := by
  have hc : (n = 43 ∧ o = .add) ∨ (n = 45 ∧ o = .sub) ∨ (n = 42 ∧ o = .mul) ∨ (n = 47 ∧ o = .quo) := by
    unfold opOf at ho
    split at ho
    · exact Or.inl ⟨by assumption, by cases ho; rfl⟩
    split at ho
    · exact Or.inr (Or.inl ⟨by assumption, by cases ho; rfl⟩)
    split at ho
    · exact Or.inr (Or.inr (Or.inl ⟨by assumption, by cases ho; rfl⟩))
    split at ho
    · exact Or.inr (Or.inr (Or.inr ⟨by assumption, by cases ho; rfl⟩))
    · cases ho
  have hq := fun w => run_float_nan (P := Tryz.prog) w o 25 a b (by rcases hc with ⟨_, rfl⟩ | ⟨_, rfl⟩ | ⟨_, rfl⟩ | ⟨_, rfl⟩ <;> simp) h
  clear ho h
  rcases hc with ⟨rfl, rfl⟩ | ⟨rfl, rfl⟩ | ⟨rfl, rfl⟩ | ⟨rfl, rfl⟩
  all_goals
    go_enter Tryz.func24, Tryz.ntmps24
    go_wp2
    go_ret2
    exact ⟨rfl, rfl⟩
set_option maxHeartbeats 800000 in
theorem do_none19 (n : Int) (a b : Nat) (w : World) (ho : opOf n = none) :
    Calls Tryz.prog 24 #[.int .u8 n, .float .f64 a, .float .f64 b] w fun e w' => e = .returned (.tuple #[.float .f64 0, .bool false]) ∧ w = w' := by
  have hc : n ≠ 43 ∧ n ≠ 45 ∧ n ≠ 42 ∧ n ≠ 47 := by
    unfold opOf at ho
    refine ⟨?_, ?_, ?_, ?_⟩ <;> intro e <;> subst e <;> simp at ho
  obtain ⟨h1, h2, h3, h4⟩ := hc
  have h1 := beq_eq_false_iff_ne.2 h1
  have h2 := beq_eq_false_iff_ne.2 h2
  have h3 := beq_eq_false_iff_ne.2 h3
  have h4 := beq_eq_false_iff_ne.2 h4
  clear ho
  · go_enter Tryz.func24, Tryz.ntmps24
    go_wp2
    go_ret2
    exact ⟨rfl, rfl⟩

set_option maxHeartbeats 800000 in
theorem do_ok20 (n : Int) (a b r : Nat) (o : BinOp) (w : World) (ho : opOf n = some o) (h : floatBits o .f64 a b = some r) :
    Calls Tryz.prog 25 #[.int .u8 n, .float .f64 a, .float .f64 b] w fun e w' => e = .returned (.tuple #[.float .f64 r, .bool true]) ∧ w = w' := by
  have hq := fun w => run_float_arith (P := Tryz.prog) w o 25 .f64 a b r h
  have hc : (n = 43 ∧ o = .add) ∨ (n = 45 ∧ o = .sub) ∨ (n = 42 ∧ o = .mul) ∨ (n = 47 ∧ o = .quo) := by
    unfold opOf at ho
    split at ho
    · exact Or.inl ⟨by assumption, by cases ho; rfl⟩
    split at ho
    · exact Or.inr (Or.inl ⟨by assumption, by cases ho; rfl⟩)
    split at ho
    · exact Or.inr (Or.inr (Or.inl ⟨by assumption, by cases ho; rfl⟩))
    split at ho
    · exact Or.inr (Or.inr (Or.inr ⟨by assumption, by cases ho; rfl⟩))
    · cases ho
  clear ho h
  rcases hc with ⟨rfl, rfl⟩ | ⟨rfl, rfl⟩ | ⟨rfl, rfl⟩ | ⟨rfl, rfl⟩
  all_goals
    go_enter Tryz.func25, Tryz.ntmps25
    go_wp2
    go_ret2
    exact ⟨rfl, rfl⟩
set_option maxHeartbeats 800000 in
theorem do_nan20 (n : Int) (a b : Nat) (o : BinOp) (w : World) (ho : opOf n = some o) (h : floatBits o .f64 a b = none) :
    Calls Tryz.prog 25 #[.int .u8 n, .float .f64 a, .float .f64 b] w fun e w' => e = .returned (.tuple #[.float .f64 (nanAns w a b), .bool true]) ∧ w.drew = w' := by
  have hc : (n = 43 ∧ o = .add) ∨ (n = 45 ∧ o = .sub) ∨ (n = 42 ∧ o = .mul) ∨ (n = 47 ∧ o = .quo) := by
    unfold opOf at ho
    split at ho
    · exact Or.inl ⟨by assumption, by cases ho; rfl⟩
    split at ho
    · exact Or.inr (Or.inl ⟨by assumption, by cases ho; rfl⟩)
    split at ho
    · exact Or.inr (Or.inr (Or.inl ⟨by assumption, by cases ho; rfl⟩))
    split at ho
    · exact Or.inr (Or.inr (Or.inr ⟨by assumption, by cases ho; rfl⟩))
    · cases ho
  have hq := fun w => run_float_nan (P := Tryz.prog) w o 25 a b (by rcases hc with ⟨_, rfl⟩ | ⟨_, rfl⟩ | ⟨_, rfl⟩ | ⟨_, rfl⟩ <;> simp) h
  clear ho h
  rcases hc with ⟨rfl, rfl⟩ | ⟨rfl, rfl⟩ | ⟨rfl, rfl⟩ | ⟨rfl, rfl⟩
  all_goals
    go_enter Tryz.func25, Tryz.ntmps25
    go_wp2
    go_ret2
    exact ⟨rfl, rfl⟩
set_option maxHeartbeats 800000 in
theorem do_none20 (n : Int) (a b : Nat) (w : World) (ho : opOf n = none) :
    Calls Tryz.prog 25 #[.int .u8 n, .float .f64 a, .float .f64 b] w fun e w' => e = .returned (.tuple #[.float .f64 0, .bool false]) ∧ w = w' := by
  have hc : n ≠ 43 ∧ n ≠ 45 ∧ n ≠ 42 ∧ n ≠ 47 := by
    unfold opOf at ho
    refine ⟨?_, ?_, ?_, ?_⟩ <;> intro e <;> subst e <;> simp at ho
  obtain ⟨h1, h2, h3, h4⟩ := hc
  have h1 := beq_eq_false_iff_ne.2 h1
  have h2 := beq_eq_false_iff_ne.2 h2
  have h3 := beq_eq_false_iff_ne.2 h3
  have h4 := beq_eq_false_iff_ne.2 h4
  clear ho
  · go_enter Tryz.func25, Tryz.ntmps25
    go_wp2
    go_ret2
    exact ⟨rfl, rfl⟩

set_option maxHeartbeats 400000 in
theorem refwhole_big (x : Nat) (o : Ordering) (w : World) (ho : o = .eq ∨ o = .gt) (h : FloatKind.f64.format.order x 4845873199050653696 = some o) :
    Calls Tryz.prog 47 #[.float .f64 x] w fun e w' => e = .returned (.tuple #[.int .i64 0, .bool false]) ∧ w = w' := by
  rcases ho with rfl | rfl
  all_goals
    go_enter Tryz.func47, Tryz.ntmps47
    go_wp2
    go_ret2
    exact ⟨rfl, rfl⟩
set_option maxHeartbeats 400000 in
theorem refwhole_small (x : Nat) (n : Int) (o : Ordering) (w : World) (h : FloatKind.f64.format.order x 4845873199050653696 = some .lt)
    (hn : floatToIntVal .f64 x .i64 = some n) (ho : FloatKind.f64.format.order (floatOfInt .f64 n) x = some o) :
    Calls Tryz.prog 47 #[.float .f64 x] w fun e w' => e = .returned (.tuple #[.int .i64 (if o = .eq then n else 0), .bool (decide (o = .eq))]) ∧ w = w' := by
  have hc := fun w => run_convert_float_int (P := Tryz.prog) w 25 3 .f64 .i64 x n (by rw [Tryz.underlying25]; rfl) Tryz.underlying3 hn
  clear hn
  cases o
  all_goals
    go_enter Tryz.func47, Tryz.ntmps47
    go_wp2
    go_ret2
    exact ⟨rfl, rfl⟩
end Go.Proofs.YtdebbljohlffdaaGreatDoor
