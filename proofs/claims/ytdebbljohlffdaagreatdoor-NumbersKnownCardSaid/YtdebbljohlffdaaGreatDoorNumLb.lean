import Derived.Test.YtdebbljohlffdaaGreatDoorNumLa
namespace Go.Proofs.YtdebbljohlffdaaGreatDoor
open Go.Shelf Go.RowKit

set_option maxHeartbeats 1000000 in
theorem back_c (a b : Nat) (w : World) (ha : a < 18446744073709551616) (hb : b < 18446744073709551616) :
    Calls Tryz.prog 56 #[.float .f64 a, .float .f64 b] w fun e w' => e = .returned (.int .i64 (Fl.cmpS b a)) ∧ w = w' := by
  have hc := Lib.hid (compare_c b a w hb ha)
  clear ha hb
  go_enter Tryz.func56, Tryz.ntmps56
  go_wp2_with (go_at_call 22; refine hc.out.mono ?_; rintro e w' ⟨rfl, rfl⟩)
  go_ret
  exact ⟨rfl, rfl⟩
set_option maxHeartbeats 1000000 in
theorem first_none (g : Nat) (none : Nat) (a : Option Addr) (c : Nat) (w : World) (_hc : c ≤ 140737488351232) :
    Calls Tryz.prog 55 #[.slice a 0 c, .float .f64 none, .func (.func g) #[] #[]] w fun e w' => e = .returned (.float .f64 none) ∧ w = w' := by
  go_enter Tryz.func55, Tryz.ntmps55
  go_wp2_with fail
  go_ret
  exact ⟨rfl, rfl⟩
/-- the last of the row so far -/
def Fl.bst (F : Nat → Nat) (x : Nat) : Nat → Nat
  | 0 => x
  | i + 1 => if Fl.cmpS (Fl.bst F x i) (F i) < 0 then F i else Fl.bst F x i
theorem Fl.lst_lt {F : Nat → Nat} {x n : Nat} (hx : x < 18446744073709551616) (h : ∀ i, i < n → F i < 18446744073709551616) : ∀ i, i ≤ n → Fl.lst F x i < 18446744073709551616
  | 0, _ => hx
  | i + 1, hi => by
    unfold Fl.lst
    split
    · exact h i hi
    · exact Fl.lst_lt hx h i (by omega)
theorem Fl.bst_lt {F : Nat → Nat} {x n : Nat} (hx : x < 18446744073709551616) (h : ∀ i, i < n → F i < 18446744073709551616) : ∀ i, i ≤ n → Fl.bst F x i < 18446744073709551616
  | 0, _ => hx
  | i + 1, hi => by
    unfold Fl.bst
    split
    · exact h i hi
    · exact Fl.bst_lt hx h i (by omega)
set_option maxRecDepth 100000 in
set_option maxHeartbeats 2000000 in
theorem first_16 (none : Nat) (b off n c : Nat) (F : Nat → Nat) (w : World) (hn : n ≤ c) (hc : c ≤ 140737488351232) (h0 : 0 < n) (hF : ∀ i, i < n → F i < 18446744073709551616) (hm : ∀ i, i < n → w.cell? ⟨b, off + i, .none⟩ = some (.float .f64 (F i))) :
    Calls Tryz.prog 55 #[.slice (some ⟨b, off, .none⟩) n c, .float .f64 none, .func (.func 22) #[] #[]] w fun e w' => e = .returned (.float .f64 (Fl.lst (fun i => F (i + 1)) (F 0) (n - 1))) ∧ w = w' := by
  have hcell0 := hm 0 h0
  rw [Nat.add_zero] at hcell0
  have hnz : ((n : Int) == 0) = false := by rw [beq_eq_false_iff_ne]; omega
  have hF := Lib.hid hF
  go_enter Tryz.func55, Tryz.ntmps55
  go_wp2_with fail
  case' inl => have hc1 : n = 1 := by omega
  case inl =>
    subst hc1
    go_loop [7, 20] (fun vx vi => vx = .float .f64 (F 0) ∧ vi = .int .i64 0) (fun _ vi => 0)
    case atStart => exact ⟨rfl, rfl⟩
    case round =>
      obtain ⟨rfl, rfl⟩ := hrel
      go_wp2_with fail
      go_ret
      exact ⟨rfl, rfl⟩
  case inr =>
    go_loop [7, 20] (fun vx vi => ∃ (i : Nat), vx = .float .f64 (Fl.lst (fun i => F (i + 1)) (F 0) i) ∧ vi = .int .i64 i ∧ i ≤ n - 1) (fun _ vi => n - (intOf vi).toNat)
    case atStart => exact ⟨0, rfl, rfl, by omega⟩
    case round =>
      obtain ⟨i, rfl, rfl, hi⟩ := hrel
      by_cases hin : i < n - 1
      · have hcell := hm (i + 1) (by omega)
        rw [show off + (i + 1) = off + 1 + i by omega] at hcell
        have hb := Fl.lst_lt (hF.out 0 h0) (fun j hj => hF.out (j + 1) (by omega)) i hi
        generalize hx : Fl.lst (fun i => F (i + 1)) (F 0) i = x at *
        have hcc := Lib.hid (fun w => compare_c (F (i + 1)) x w (hF.out (i + 1) (by omega)) hb)
        have hnext : Fl.lst (fun i => F (i + 1)) (F 0) (i + 1) = if Fl.cmpS (F (i + 1)) x < 0 then F (i + 1) else x := by rw [← hx]; rfl
        have hnext := Lib.hid hnext
        clear hx hb
        generalize F (i + 1) = y at *
        by_cases hlt : Fl.cmpS y x < 0
        · have hnx := hnext.out
          rw [if_pos hlt] at hnx
          have hnx := Lib.hid hnx
          go_wp2_with (go_at_call 22; refine (hcc.out _).mono ?_; rintro e w' ⟨rfl, rfl⟩)
          go_round
          case rel => exact ⟨i + 1, by rw [hnx.out], by go_num, by omega⟩
          case measure => simp [intOf]; omega
        · have hnx := hnext.out
          rw [if_neg hlt] at hnx
          have hnx := Lib.hid hnx
          go_wp2_with (go_at_call 22; refine (hcc.out _).mono ?_; rintro e w' ⟨rfl, rfl⟩)
          go_round
          case rel => exact ⟨i + 1, by rw [hnx.out], by go_num, by omega⟩
          case measure => simp [intOf]; omega
      · have he : i = n - 1 := by omega
        subst he
        go_wp2_with fail
        go_ret
        exact ⟨rfl, rfl⟩
set_option maxRecDepth 100000 in
set_option maxHeartbeats 2000000 in
theorem first_53 (none : Nat) (b off n c : Nat) (F : Nat → Nat) (w : World) (hn : n ≤ c) (hc : c ≤ 140737488351232) (h0 : 0 < n) (hF : ∀ i, i < n → F i < 18446744073709551616) (hm : ∀ i, i < n → w.cell? ⟨b, off + i, .none⟩ = some (.float .f64 (F i))) :
    Calls Tryz.prog 55 #[.slice (some ⟨b, off, .none⟩) n c, .float .f64 none, .func (.func 56) #[] #[]] w fun e w' => e = .returned (.float .f64 (Fl.bst (fun i => F (i + 1)) (F 0) (n - 1))) ∧ w = w' := by
  have hcell0 := hm 0 h0
  rw [Nat.add_zero] at hcell0
  have hnz : ((n : Int) == 0) = false := by rw [beq_eq_false_iff_ne]; omega
  have hF := Lib.hid hF
  go_enter Tryz.func55, Tryz.ntmps55
  go_wp2_with fail
  case' inl => have hc1 : n = 1 := by omega
  case inl =>
    subst hc1
    go_loop [7, 20] (fun vx vi => vx = .float .f64 (F 0) ∧ vi = .int .i64 0) (fun _ vi => 0)
    case atStart => exact ⟨rfl, rfl⟩
    case round =>
      obtain ⟨rfl, rfl⟩ := hrel
      go_wp2_with fail
      go_ret
      exact ⟨rfl, rfl⟩
  case inr =>
    go_loop [7, 20] (fun vx vi => ∃ (i : Nat), vx = .float .f64 (Fl.bst (fun i => F (i + 1)) (F 0) i) ∧ vi = .int .i64 i ∧ i ≤ n - 1) (fun _ vi => n - (intOf vi).toNat)
    case atStart => exact ⟨0, rfl, rfl, by omega⟩
    case round =>
      obtain ⟨i, rfl, rfl, hi⟩ := hrel
      by_cases hin : i < n - 1
      · have hcell := hm (i + 1) (by omega)
        rw [show off + (i + 1) = off + 1 + i by omega] at hcell
        have hb := Fl.bst_lt (hF.out 0 h0) (fun j hj => hF.out (j + 1) (by omega)) i hi
        generalize hx : Fl.bst (fun i => F (i + 1)) (F 0) i = x at *
        have hcc := Lib.hid (fun w => back_c (F (i + 1)) x w (hF.out (i + 1) (by omega)) hb)
        have hnext : Fl.bst (fun i => F (i + 1)) (F 0) (i + 1) = if Fl.cmpS x (F (i + 1)) < 0 then F (i + 1) else x := by rw [← hx]; rfl
        have hnext := Lib.hid hnext
        clear hx hb
        generalize F (i + 1) = y at *
        by_cases hlt : Fl.cmpS x y < 0
        · have hnx := hnext.out
          rw [if_pos hlt] at hnx
          have hnx := Lib.hid hnx
          go_wp2_with (go_at_call 56; refine (hcc.out _).mono ?_; rintro e w' ⟨rfl, rfl⟩)
          go_round
          case rel => exact ⟨i + 1, by rw [hnx.out], by go_num, by omega⟩
          case measure => simp [intOf]; omega
        · have hnx := hnext.out
          rw [if_neg hlt] at hnx
          have hnx := Lib.hid hnx
          go_wp2_with (go_at_call 56; refine (hcc.out _).mono ?_; rintro e w' ⟨rfl, rfl⟩)
          go_round
          case rel => exact ⟨i + 1, by rw [hnx.out], by go_num, by omega⟩
          case measure => simp [intOf]; omega
      · have he : i = n - 1 := by omega
        subst he
        go_wp2_with fail
        go_ret
        exact ⟨rfl, rfl⟩
set_option maxRecDepth 100000 in
set_option maxHeartbeats 1000000 in
theorem least_none (a : Option Addr) (c : Nat) (w : World) (hc : c ≤ 140737488351232) :
    Calls Tryz.prog 26 #[.slice a 0 c] w fun e w' => e = .returned (.float .f64 9221120237041090561) ∧ w = w' := by
  have hnn := Lib.hid (nanv_c w)
  have hf := Lib.hid (first_none 22 9221120237041090561 a c w hc)
  go_enter Tryz.func26, Tryz.ntmps26
  go_wp2_with (first | (go_at_call 38; refine hnn.out.mono ?_; rintro e w' ⟨rfl, rfl⟩) | (go_at_call 55; refine hf.out.mono ?_; rintro e w' ⟨rfl, rfl⟩))
  go_ret
  exact ⟨rfl, rfl⟩
set_option maxRecDepth 100000 in
set_option maxHeartbeats 1000000 in
theorem least_some (b off n c : Nat) (F : Nat → Nat) (w : World) (hn : n ≤ c) (hc : c ≤ 140737488351232) (h0 : 0 < n) (hF : ∀ i, i < n → F i < 18446744073709551616) (hm : ∀ i, i < n → w.cell? ⟨b, off + i, .none⟩ = some (.float .f64 (F i))) :
    Calls Tryz.prog 26 #[.slice (some ⟨b, off, .none⟩) n c] w fun e w' => e = .returned (.float .f64 (Fl.lst (fun i => F (i + 1)) (F 0) (n - 1))) ∧ w = w' := by
  have hnn := Lib.hid (nanv_c w)
  have hf := Lib.hid (first_16 9221120237041090561 b off n c F w hn hc h0 hF hm)
  clear hm hF
  go_enter Tryz.func26, Tryz.ntmps26
  go_wp2_with (first | (go_at_call 38; refine hnn.out.mono ?_; rintro e w' ⟨rfl, rfl⟩) | (go_at_call 55; refine hf.out.mono ?_; rintro e w' ⟨rfl, rfl⟩))
  go_ret
  exact ⟨rfl, rfl⟩
set_option maxRecDepth 100000 in
set_option maxHeartbeats 1000000 in
theorem greatest_none (a : Option Addr) (c : Nat) (w : World) (hc : c ≤ 140737488351232) :
    Calls Tryz.prog 28 #[.slice a 0 c] w fun e w' => e = .returned (.float .f64 9221120237041090561) ∧ w = w' := by
  have hnn := Lib.hid (nanv_c w)
  have hf := Lib.hid (first_none 56 9221120237041090561 a c w hc)
  go_enter Tryz.func28, Tryz.ntmps28
  go_wp2_with (first | (go_at_call 38; refine hnn.out.mono ?_; rintro e w' ⟨rfl, rfl⟩) | (go_at_call 55; refine hf.out.mono ?_; rintro e w' ⟨rfl, rfl⟩))
  go_ret
  exact ⟨rfl, rfl⟩
set_option maxRecDepth 100000 in
set_option maxHeartbeats 1000000 in
theorem greatest_some (b off n c : Nat) (F : Nat → Nat) (w : World) (hn : n ≤ c) (hc : c ≤ 140737488351232) (h0 : 0 < n) (hF : ∀ i, i < n → F i < 18446744073709551616) (hm : ∀ i, i < n → w.cell? ⟨b, off + i, .none⟩ = some (.float .f64 (F i))) :
    Calls Tryz.prog 28 #[.slice (some ⟨b, off, .none⟩) n c] w fun e w' => e = .returned (.float .f64 (Fl.bst (fun i => F (i + 1)) (F 0) (n - 1))) ∧ w = w' := by
  have hnn := Lib.hid (nanv_c w)
  have hf := Lib.hid (first_53 9221120237041090561 b off n c F w hn hc h0 hF hm)
  clear hm hF
  go_enter Tryz.func28, Tryz.ntmps28
  go_wp2_with (first | (go_at_call 38; refine hnn.out.mono ?_; rintro e w' ⟨rfl, rfl⟩) | (go_at_call 55; refine hf.out.mono ?_; rintro e w' ⟨rfl, rfl⟩))
  go_ret
  exact ⟨rfl, rfl⟩
end Go.Proofs.YtdebbljohlffdaaGreatDoor
