import Derived.Test.YtdebbljohlffdaaGreatDoorNumZc
namespace Go.Proofs.YtdebbljohlffdaaGreatDoor
open Go.Shelf Go.RowKit

/-- the first of the row so far -/
def Fl.lst (F : Nat → Nat) (x : Nat) : Nat → Nat
  | 0 => x
  | i + 1 => if Fl.cmpS (F i) (Fl.lst F x i) < 0 then F i else Fl.lst F x i
def Fl.gst (F : Nat → Nat) (x : Nat) : Nat → Nat
  | 0 => x
  | i + 1 => if Fl.cmpS (F i) (Fl.gst F x i) > 0 then F i else Fl.gst F x i
set_option maxRecDepth 100000 in
set_option maxHeartbeats 1000000 in
theorem refleast_c (a : Option Addr) (n c : Nat) (F : Nat → Nat) (w : World) (hn : n ≤ c) (hc : c ≤ 140737488351232) (hm : ∀ i, i < n → ∃ b off, a = some ⟨b, off, none⟩ ∧ w.cell? ⟨b, off + i, none⟩ = some (.float .f64 (F i))) :
    Calls Tryz.prog 27 #[.slice a n c] w fun e w' => e = .returned (.float .f64 (Fl.lst F (nanAns w 0 0) n)) ∧ w.drew = w' := by
  have hq := run_float_nan (P := Tryz.prog) w .quo 25 0 0 (by simp) (by decide)
  go_enter Tryz.func27, Tryz.ntmps27
  go_wp2_with fail
  go_loop [4, 5] (fun vx vi => ∃ (i : Nat), vx = .float .f64 (Fl.lst F (nanAns w 0 0) i) ∧ vi = .int .i64 i ∧ i ≤ n) (fun _ vi => n - (intOf vi).toNat)
  case atStart => exact ⟨0, rfl, rfl, by omega⟩
  case round =>
    obtain ⟨i, rfl, rfl, hi⟩ := hrel
    by_cases hin : i < n
    · obtain ⟨b, off, rfl, hcell⟩ := hm i hin
      have hcell : w.drew.cell? ⟨b, off + i, none⟩ = some (.float .f64 (F i)) := hcell
      have hcc := Lib.hid (fun w => refcompare_c (F i) (Fl.lst F (nanAns w 0 0) i) w)
      generalize hx : Fl.lst F (nanAns w 0 0) i = x at *
      have hnext : Fl.lst F (nanAns w 0 0) (i + 1) = if Fl.cmpS (F i) x < 0 then F i else x := by rw [← hx]; rfl
      have hcc := Lib.hid (fun w => refcompare_c (F i) x w)
      have hnext := Lib.hid hnext
      clear hx
      by_cases hlt : Fl.cmpS (F i) x < 0
      · have hnx := hnext.out
        rw [if_pos hlt] at hnx
        have hnx := Lib.hid hnx
        go_wp2_with (go_at_call 23; refine (hcc.out _).mono ?_; rintro e w' ⟨rfl, rfl⟩)
        go_round
        case rel => exact ⟨i + 1, by rw [hnx.out], by go_num, by omega⟩
        case measure => simp [intOf]; omega
      · have hnx := hnext.out
        rw [if_neg hlt] at hnx
        have hnx := Lib.hid hnx
        go_wp2_with (go_at_call 23; refine (hcc.out _).mono ?_; rintro e w' ⟨rfl, rfl⟩)
        go_round
        case rel => exact ⟨i + 1, by rw [hnx.out], by go_num, by omega⟩
        case measure => simp [intOf]; omega
    · have he : i = n := by omega
      subst he
      go_wp2_with fail
      go_ret
      exact ⟨rfl, rfl⟩
set_option maxRecDepth 100000 in
set_option maxHeartbeats 1000000 in
theorem refgreatest_some (b off n c : Nat) (F : Nat → Nat) (w : World) (hn : n ≤ c) (hc : c ≤ 140737488351232) (h0 : 0 < n) (hm : ∀ i, i < n → w.cell? ⟨b, off + i, none⟩ = some (.float .f64 (F i))) :
    Calls Tryz.prog 29 #[.slice (some ⟨b, off, none⟩) n c] w fun e w' => e = .returned (.float .f64 (Fl.gst F (F 0) n)) ∧ w = w' := by
  have hcell0 := hm 0 h0
  rw [Nat.add_zero] at hcell0
  have hnz : ((n : Int) == 0) = false := by rw [beq_eq_false_iff_ne]; omega
  go_enter Tryz.func29, Tryz.ntmps29
  go_wp2_with fail
  go_loop [3, 4] (fun vx vi => ∃ (i : Nat), vx = .float .f64 (Fl.gst F (F 0) i) ∧ vi = .int .i64 i ∧ i ≤ n) (fun _ vi => n - (intOf vi).toNat)
  case atStart => exact ⟨0, rfl, rfl, by omega⟩
  case round =>
    obtain ⟨i, rfl, rfl, hi⟩ := hrel
    by_cases hin : i < n
    · have hcell := hm i hin
      generalize hx : Fl.gst F (F 0) i = x at *
      have hnext : Fl.gst F (F 0) (i + 1) = if Fl.cmpS (F i) x > 0 then F i else x := by rw [← hx]; rfl
      have hcc := Lib.hid (fun w => refcompare_c (F i) x w)
      have hnext := Lib.hid hnext
      clear hx
      by_cases hlt : Fl.cmpS (F i) x > 0
      · have hnx := hnext.out
        rw [if_pos hlt] at hnx
        have hnx := Lib.hid hnx
        go_wp2_with (go_at_call 23; refine (hcc.out _).mono ?_; rintro e w' ⟨rfl, rfl⟩)
        go_round
        case rel => exact ⟨i + 1, by rw [hnx.out], by go_num, by omega⟩
        case measure => simp [intOf]; omega
      · have hnx := hnext.out
        rw [if_neg hlt] at hnx
        have hnx := Lib.hid hnx
        go_wp2_with (go_at_call 23; refine (hcc.out _).mono ?_; rintro e w' ⟨rfl, rfl⟩)
        go_round
        case rel => exact ⟨i + 1, by rw [hnx.out], by go_num, by omega⟩
        case measure => simp [intOf]; omega
    · have he : i = n := by omega
      subst he
      go_wp2_with fail
      go_ret
      exact ⟨rfl, rfl⟩
set_option maxHeartbeats 1000000 in
theorem refgreatest_none (a : Option Addr) (c : Nat) (w : World) (hc : c ≤ 140737488351232) :
    Calls Tryz.prog 29 #[.slice a 0 c] w fun e w' => e = .returned (.float .f64 (nanAns w 0 0)) ∧ w.drew = w' := by
  have hl := Lib.hid (refleast_c a 0 c (fun _ => 0) w (by omega) hc (fun i h => absurd h (by omega)))
  go_enter Tryz.func29, Tryz.ntmps29
  go_wp2_with (go_at_call 27; refine hl.out.mono ?_; rintro e w' ⟨rfl, rfl⟩)
  go_ret
  exact ⟨rfl, rfl⟩
end Go.Proofs.YtdebbljohlffdaaGreatDoor
