import Derived.Test.YtdebbljohlffdaaGreatDoorChecked
import Derived.WalkKit
import Derived.WalkSpells
import Derived.WalkLawsBesides
import Derived.Deep.QuietTactic
import Derived.BigQuiet
import Derived.Lib.Hide
import Derived.Test.YtdebbljohlffdaaGreatDoorFl
namespace Go.Proofs.YtdebbljohlffdaaGreatDoor
open Go.RowKit

theorem run_f64bits (x : Nat) (w : World) : (callFunc 58 #[.float .f64 x]).run Tryz.prog w = .ok (.value (.int .u64 x)) w := by
  rw [run_callFunc_extern (e := Extern.MathFloatBits.float64bits) Tryz.func58 (by kernel_rfl) (by kernel_rfl) (by kernel_rfl) (by kernel_rfl)]
  rfl
theorem run_f64from (x : Int) (w : World) : (callFunc 66 #[.int .u64 x]).run Tryz.prog w = .ok (.value (.float .f64 x.toNat)) w := by
  rw [run_callFunc_extern (e := Extern.MathFloatBits.float64frombits) Tryz.func66 (by kernel_rfl) (by kernel_rfl) (by kernel_rfl) (by kernel_rfl)]
  rfl
theorem run_integral (nm : String) (way : Ieee.Toward) (x : Nat) (h : Fl.rung x ≤ Fl.I) (w : World) : (Extern.MathFloor.toIntegral nm way #[.float .f64 x]).run Tryz.prog w = .ok (.float .f64 (Fl.D.write ((Fl.D.read x).integral way))) w := by
  have hr : ∀ s t, FloatKind.f64.decode x ≠ .nan s t := by
    intro s t
    show Fl.D.read x ≠ _
    rcases Nat.lt_or_eq_of_le h with h | h
    · obtain ⟨m, p, e, _⟩ := Fl.read_fin h
      rw [e]; intro k; cases k
    · rw [Fl.read_inf h]; intro k; cases k
  unfold Extern.MathFloor.toIntegral
  show Sem.run _ (match FloatKind.f64.decode x with | .nan s t => _ | d => _) w = _
  have e : FloatKind.f64.decode x = Fl.D.read x := rfl
  cases hd : FloatKind.f64.decode x with
  | nan s t => exact absurd hd (hr s t)
  | number s m p => rw [e] at hd; rw [hd]; rfl
  | infinity s => rw [e] at hd; rw [hd]; rfl
theorem run_archTrunc (x : Nat) (h : Fl.rung x ≤ Fl.I) (w : World) : (callFunc 60 #[.float .f64 x]).run Tryz.prog w = .ok (.value (.float .f64 (Fl.trunc x))) w := by
  rw [run_callFunc_extern (e := Extern.MathFloor.toIntegral "math.archTrunc" .zero) Tryz.func60 (by kernel_rfl) (by kernel_rfl) (by kernel_rfl) (by kernel_rfl), run_integral _ _ _ h]
  rfl
theorem run_archFloor (x : Nat) (h : Fl.rung x ≤ Fl.I) (w : World) : (callFunc 73 #[.float .f64 x]).run Tryz.prog w = .ok (.value (.float .f64 (Fl.floor x))) w := by
  rw [run_callFunc_extern (e := Extern.MathFloor.toIntegral "math.archFloor" .down) Tryz.func73 (by kernel_rfl) (by kernel_rfl) (by kernel_rfl) (by kernel_rfl), run_integral _ _ _ h]
  rfl

set_option maxHeartbeats 400000 in
theorem nan_w (x : Nat) (w : World) :
    Calls Tryz.prog 44 #[.float .f64 x] w fun e w' => e = .returned (.bool (Fl.D.order x x != some .eq)) ∧ w = w' := by
  go_enter Tryz.func44, Tryz.ntmps44
  go_wp2
  all_goals (go_ret; exact ⟨rfl, rfl⟩)
theorem nan_c (x : Nat) (w : World) :
    Calls Tryz.prog 44 #[.float .f64 x] w fun e w' => e = .returned (.bool (Fl.isNaN x)) ∧ w = w' := by
  rw [← Fl.order_self]; exact nan_w x w

set_option maxHeartbeats 400000 in
theorem big_c (w : World) :
    Calls Tryz.prog 51 #[] w fun e w' => e = .returned (.float .f64 4845873199050653696) ∧ w = w' := by
  go_enter Tryz.func51, Tryz.ntmps51
  go_wp2
  all_goals (go_ret; exact ⟨rfl, rfl⟩)

set_option maxRecDepth 100000 in
set_option maxHeartbeats 400000 in
theorem signbit_w (x : Nat) (w : World) :
    Calls Tryz.prog 31 #[.float .f64 x] w fun e w' => e = .returned (.bool (decide (wrap64 (x : Int) < 0))) ∧ w = w' := by
  have hb := run_f64bits
  go_enter Tryz.func31, Tryz.ntmps31
  go_wp2
  go_ret
  exact ⟨rfl, rfl⟩


set_option maxHeartbeats 400000 in
theorem minus_lt (x : Nat) (w : World) (h : FloatKind.f64.format.order x 0 = some .lt) :
    Calls Tryz.prog 45 #[.float .f64 x] w fun e w' => e = .returned (.bool true) ∧ w = w' := by
  go_enter Tryz.func45, Tryz.ntmps45
  go_wp2
  go_ret; exact ⟨rfl, rfl⟩
set_option maxHeartbeats 400000 in
theorem minus_gt (x : Nat) (w : World) (h : FloatKind.f64.format.order x 0 = some .gt) :
    Calls Tryz.prog 45 #[.float .f64 x] w fun e w' => e = .returned (.bool false) ∧ w = w' := by
  go_enter Tryz.func45, Tryz.ntmps45
  go_wp2
  go_ret; exact ⟨rfl, rfl⟩
set_option maxHeartbeats 400000 in
theorem minus_eq (x r : Nat) (o : Ordering) (w : World) (h : FloatKind.f64.format.order x 0 = some .eq)
    (hq : ∀ w, (binOp .quo 25 (.float .f64 4607182418800017408) (.float .f64 x)).run Tryz.prog w = .ok (.float .f64 r) w)
    (ho : FloatKind.f64.format.order r 0 = some o) :
    Calls Tryz.prog 45 #[.float .f64 x] w fun e w' => e = .returned (.bool (o == .lt)) ∧ w = w' := by
  go_enter Tryz.func45, Tryz.ntmps45
  go_wp2
  go_ret; exact ⟨by cases o <;> rfl, rfl⟩
theorem minus_c (x : Nat) (w : World) (h : Fl.rung x ≤ Fl.I) :
    Calls Tryz.prog 45 #[.float .f64 x] w fun e w' => e = .returned (.bool (Fl.neg x)) ∧ w = w' := by
  have hz : Fl.rung 0 ≤ Fl.I := by decide
  have vz := Fl.val_zero
  by_cases h0 : Fl.rung x = 0
  · have hq := fun w => run_float_arith (P := Tryz.prog) w .quo 25 .f64 4607182418800017408 x _ (Fl.one_div_zero h0)
    have hI := Fl.word_mk (Fl.neg x) Fl.I Fl.I_lt
    have hUI : 0 < Fl.U Fl.I := Fl.U_pos (by decide)
    have hv := Fl.val_word (n := Fl.neg x) Fl.I_lt
    by_cases hn : Fl.neg x = true
    · rw [hn] at hv hq hI ⊢
      exact (minus_eq x _ _ w (Fl.order_eq h hz (by rw [vz]; exact Fl.val_zero_iff.2 h0)) hq (Fl.order_lt (by rw [hI.2]; exact Nat.le_refl _) hz (by rw [vz, hv]; simp; exact hUI))).mono fun e w' h => h
    · simp only [Bool.not_eq_true] at hn
      rw [hn] at hv hq hI ⊢
      exact (minus_eq x _ _ w (Fl.order_eq h hz (by rw [vz]; exact Fl.val_zero_iff.2 h0)) hq (Fl.order_gt (by rw [hI.2]; exact Nat.le_refl _) hz (by rw [vz, hv]; simp; exact hUI))).mono fun e w' h => h
  · have hU := Fl.U_pos (Nat.pos_of_ne_zero h0)
    by_cases hn : Fl.neg x = true
    · rw [hn]
      exact minus_lt x w (Fl.order_lt h hz (by rw [vz, Fl.val_neg hn]; omega))
    · simp only [Bool.not_eq_true] at hn
      rw [hn]
      exact minus_gt x w (Fl.order_gt h hz (by rw [vz, Fl.val_pos hn]; omega))
set_option maxHeartbeats 400000 in
theorem trunc_c (x : Nat) (w : World) (h : Fl.rung x ≤ Fl.I) :
    Calls Tryz.prog 33 #[.float .f64 x] w fun e w' => e = .returned (.float .f64 (Fl.trunc x)) ∧ w = w' := by
  have hb := run_archTrunc x h
  go_enter Tryz.func33, Tryz.ntmps33
  go_wp2
  go_ret; exact ⟨rfl, rfl⟩
set_option maxHeartbeats 400000 in
theorem floor_c (x : Nat) (w : World) (h : Fl.rung x ≤ Fl.I) :
    Calls Tryz.prog 50 #[.float .f64 x] w fun e w' => e = .returned (.float .f64 (Fl.floor x)) ∧ w = w' := by
  have hb := run_archFloor x h
  go_enter Tryz.func50, Tryz.ntmps50
  go_wp2
  go_ret; exact ⟨rfl, rfl⟩
end Go.Proofs.YtdebbljohlffdaaGreatDoor
