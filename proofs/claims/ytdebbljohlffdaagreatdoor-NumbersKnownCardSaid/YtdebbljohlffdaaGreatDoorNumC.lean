import Derived.Test.YtdebbljohlffdaaGreatDoorNumB
namespace Go.Proofs.YtdebbljohlffdaaGreatDoor
open Go.RowKit

/-- how a number stands to itself -/
theorem self_num {x : Nat} (h : Fl.rung x ≤ Fl.I) : FloatKind.f64.format.order x x = some .eq := Fl.order_eq h h rfl
theorem self_nan {x : Nat} (h : Fl.I < Fl.rung x) : FloatKind.f64.format.order x x = none := Fl.order_nan_left h

set_option maxHeartbeats 400000 in
theorem compare_ranks (a b : Nat) (oa ob oc : Option Ordering) (w : World) (ha : a < 18446744073709551616) (hb : b < 18446744073709551616)
    (h1 : FloatKind.f64.format.order a a = oa) (h2 : FloatKind.f64.format.order b b = ob) (h3 : FloatKind.f64.format.order a b = oc)
    (h : (oa = none) ∨ (oa = some .eq ∧ ob = none) ∨ (oa = some .eq ∧ ob = some .eq ∧ oc = some .eq)) :
    Calls Tryz.prog 22 #[.float .f64 a, .float .f64 b] w fun e w' => e = .returned (.int .i64 (Fl.sgn (Fl.rankS a) (Fl.rankS b))) ∧ w = w' := by
  have hr := rank_c
  have hr := Lib.hid hr
  rcases h with rfl | ⟨rfl, rfl⟩ | ⟨rfl, rfl, rfl⟩
  all_goals
    go_enter Tryz.func22, Tryz.ntmps22
    go_wp2_with (first | (go_at_call 53; refine (rank_c _ _ (by assumption)).mono ?_; rintro e w' ⟨rfl, rfl⟩) | (go_at_call 52; refine (cmpi_c _ _ _).mono ?_; rintro e w' ⟨rfl, rfl⟩))
    go_ret; exact ⟨rfl, rfl⟩
set_option maxHeartbeats 400000 in
theorem compare_vals (a b : Nat) (o : Ordering) (w : World) (ho : o = .lt ∨ o = .gt)
    (h1 : FloatKind.f64.format.order a a = some .eq) (h2 : FloatKind.f64.format.order b b = some .eq) (h3 : FloatKind.f64.format.order a b = some o) :
    Calls Tryz.prog 22 #[.float .f64 a, .float .f64 b] w fun e w' => e = .returned (.int .i64 (match o with | .lt => -1 | .gt => 1 | .eq => 0)) ∧ w = w' := by
  have hc := cmpf_w a b o w h1 h2 h3
  have hc := Lib.hid hc
  rcases ho with rfl | rfl
  all_goals
    go_enter Tryz.func22, Tryz.ntmps22
    go_wp2_with (go_at_call 54; refine hc.out.mono ?_; rintro e w' ⟨rfl, rfl⟩)
    go_ret; exact ⟨rfl, rfl⟩
theorem compare_c (a b : Nat) (w : World) (ha : a < 18446744073709551616) (hb : b < 18446744073709551616) :
    Calls Tryz.prog 22 #[.float .f64 a, .float .f64 b] w fun e w' => e = .returned (.int .i64 (Fl.cmpS a b)) ∧ w = w' := by
  by_cases na : Fl.isNaN a = true
  · rw [← Fl.cmp_ranks (Or.inl na)]
    exact compare_ranks a b _ _ _ w ha hb (self_nan (Fl.isNaN_true.1 na)) rfl rfl (Or.inl rfl)
  have ra := Fl.isNaN_false.1 (by simpa using na)
  by_cases nb : Fl.isNaN b = true
  · rw [← Fl.cmp_ranks (Or.inr (Or.inl nb))]
    exact compare_ranks a b _ _ _ w ha hb (self_num ra) (self_nan (Fl.isNaN_true.1 nb)) rfl (Or.inr (Or.inl ⟨rfl, rfl⟩))
  have rb := Fl.isNaN_false.1 (by simpa using nb)
  rcases Int.lt_trichotomy (Fl.val a) (Fl.val b) with h | h | h
  · have e : Fl.cmpS a b = -1 := by unfold Fl.cmpS; rw [if_neg na, if_neg nb, if_pos h]
    rw [e]; exact compare_vals a b .lt w (Or.inl rfl) (self_num ra) (self_num rb) (Fl.order_lt ra rb h)
  · rw [← Fl.cmp_ranks (Or.inr (Or.inr h))]
    exact compare_ranks a b _ _ _ w ha hb (self_num ra) (self_num rb) (Fl.order_eq ra rb h) (Or.inr (Or.inr ⟨rfl, rfl, rfl⟩))
  · have e : Fl.cmpS a b = 1 := by unfold Fl.cmpS; rw [if_neg na, if_neg nb, if_neg (by omega), if_pos h]
    rw [e]; exact compare_vals a b .gt w (Or.inr rfl) (self_num ra) (self_num rb) (Fl.order_gt ra rb h)

set_option maxHeartbeats 400000 in
theorem refcompare_nan (a b : Nat) (na nb : Bool) (w : World) (ha : Fl.isNaN a = na) (hb : Fl.isNaN b = nb) (h : na = true ∨ nb = true) :
    Calls Tryz.prog 23 #[.float .f64 a, .float .f64 b] w fun e w' => e = .returned (.int .i64 (if na then (if nb then 0 else 1) else -1)) ∧ w = w' := by
  have c1 := nan_c a
  have c2 := nan_c b
  rw [ha] at c1
  rw [hb] at c2
  have c1 := Lib.hid c1
  have c2 := Lib.hid c2
  clear ha hb
  have t1 := trivial
  cases na <;> cases nb
  · simp at h
  all_goals
    go_enter Tryz.func23, Tryz.ntmps23
    go_wp2_with (go_at_call 44; first | with_reducible (refine (c1.out _).mono ?_; rintro e w' ⟨rfl, rfl⟩) | with_reducible (refine (c2.out _).mono ?_; rintro e w' ⟨rfl, rfl⟩))
    go_ret; exact ⟨rfl, rfl⟩

set_option maxHeartbeats 400000 in
theorem refcompare_ne (a b : Nat) (o : Ordering) (w : World) (ha : Fl.isNaN a = false) (hb : Fl.isNaN b = false) (ho : o = .lt ∨ o = .gt) (h3 : FloatKind.f64.format.order a b = some o) :
    Calls Tryz.prog 23 #[.float .f64 a, .float .f64 b] w fun e w' => e = .returned (.int .i64 (match o with | .lt => -1 | .gt => 1 | .eq => 0)) ∧ w = w' := by
  have c1 := nan_c a
  have c2 := nan_c b
  rw [ha] at c1
  rw [hb] at c2
  have c1 := Lib.hid c1
  have c2 := Lib.hid c2
  clear ha hb
  rcases ho with rfl | rfl
  all_goals
    go_enter Tryz.func23, Tryz.ntmps23
    go_wp2_with (go_at_call 44; first | with_reducible (refine (c1.out _).mono ?_; rintro e w' ⟨rfl, rfl⟩) | with_reducible (refine (c2.out _).mono ?_; rintro e w' ⟨rfl, rfl⟩))
    go_ret; exact ⟨rfl, rfl⟩
set_option maxHeartbeats 400000 in
theorem refcompare_eq (a b : Nat) (s t : Bool) (w : World) (ha : Fl.isNaN a = false) (hb : Fl.isNaN b = false) (h3 : FloatKind.f64.format.order a b = some .eq) (hs : Fl.neg a = s) (ht : Fl.neg b = t) :
    Calls Tryz.prog 23 #[.float .f64 a, .float .f64 b] w fun e w' => e = .returned (.int .i64 (if s = t then 0 else if s then -1 else 1)) ∧ w = w' := by
  have c1 := nan_c a
  have c2 := nan_c b
  have c3 := fun w => minus_c a w (Fl.isNaN_false.1 ha)
  have c4 := fun w => minus_c b w (Fl.isNaN_false.1 hb)
  rw [ha] at c1
  rw [hb] at c2
  rw [hs] at c3
  rw [ht] at c4
  have c1 := Lib.hid c1
  have c2 := Lib.hid c2
  have c3 := Lib.hid c3
  have c4 := Lib.hid c4
  clear ha hb hs ht
  cases s <;> cases t
  all_goals
    go_enter Tryz.func23, Tryz.ntmps23
    go_wp2_with (first | (go_at_call 44; first | with_reducible (refine (c1.out _).mono ?_; rintro e w' ⟨rfl, rfl⟩) | with_reducible (refine (c2.out _).mono ?_; rintro e w' ⟨rfl, rfl⟩)) | (go_at_call 45; first | with_reducible (refine (c3.out _).mono ?_; rintro e w' ⟨rfl, rfl⟩) | with_reducible (refine (c4.out _).mono ?_; rintro e w' ⟨rfl, rfl⟩)))
    go_ret; exact ⟨rfl, rfl⟩
theorem refcompare_c (a b : Nat) (w : World) :
    Calls Tryz.prog 23 #[.float .f64 a, .float .f64 b] w fun e w' => e = .returned (.int .i64 (Fl.cmpS a b)) ∧ w = w' := by
  unfold Fl.cmpS
  cases na : Fl.isNaN a <;> cases nb : Fl.isNaN b
  · have ra := Fl.isNaN_false.1 na
    have rb := Fl.isNaN_false.1 nb
    rcases Int.lt_trichotomy (Fl.val a) (Fl.val b) with h | h | h
    · simp only [h, if_true]
      exact refcompare_ne a b .lt w na nb (Or.inl rfl) (Fl.order_lt ra rb h)
    · have := refcompare_eq a b _ _ w na nb (Fl.order_eq ra rb h) rfl rfl
      simpa [h] using this
    · have := refcompare_ne a b .gt w na nb (Or.inr rfl) (Fl.order_gt ra rb h)
      have h1 : ¬ Fl.val a < Fl.val b := by omega
      simpa [h, h1] using this
  · exact refcompare_nan a b _ _ w na nb (Or.inr rfl)
  · exact refcompare_nan a b _ _ w na nb (Or.inl rfl)
  · exact refcompare_nan a b _ _ w na nb (Or.inl rfl)

/-- the same number -/
def Fl.same (a b : Nat) : Bool := Fl.cmpS a b == 0
set_option maxHeartbeats 400000 in
theorem same_c (a b : Nat) (w : World) (ha : a < 18446744073709551616) (hb : b < 18446744073709551616) :
    Calls Tryz.prog 20 #[.float .f64 a, .float .f64 b] w fun e w' => e = .returned (.bool (Fl.same a b)) ∧ w = w' := by
  unfold Fl.same
  have hc := Lib.hid (fun w => compare_c a b w ha hb)
  generalize Fl.cmpS a b = c at *
  go_enter Tryz.func20, Tryz.ntmps20
  go_wp2_with (go_at_call 22; refine (hc.out _).mono ?_; rintro e w' ⟨rfl, rfl⟩)
  go_ret; exact ⟨rfl, rfl⟩
set_option maxHeartbeats 400000 in
theorem refsame_c (a b : Nat) (w : World) :
    Calls Tryz.prog 16 #[.float .f64 a, .float .f64 b] w fun e w' => e = .returned (.bool (Fl.same a b)) ∧ w = w' := by
  unfold Fl.same
  have hc := Lib.hid (fun w => refcompare_c a b w)
  generalize Fl.cmpS a b = c at *
  go_enter Tryz.func16, Tryz.ntmps16
  go_wp2_with (go_at_call 23; refine (hc.out _).mono ?_; rintro e w' ⟨rfl, rfl⟩)
  go_ret; exact ⟨rfl, rfl⟩
end Go.Proofs.YtdebbljohlffdaaGreatDoor
