import Derived.Test.YtdebbljohlffdaaGreatDoorNumN
namespace Go.Proofs.YtdebbljohlffdaaGreatDoor
open Go.Shelf Go.RowKit

set_option maxHeartbeats 400000 in
theorem refprint_nan (x : Nat) (w : World) (h : Fl.isNaN x = true) :
    Calls Tryz.prog 15 #[.float .f64 x] w fun e w' => e = .returned (.string ⟨#[110, 97, 110]⟩) ∧ w = w' := by
  have c1 := nan_c x
  rw [h] at c1
  have c1 := Lib.hid c1
  clear h
  go_enter Tryz.func15, Tryz.ntmps15
  go_wp2_with (go_at_call 44; refine (c1.out _).mono ?_; rintro e w' ⟨rfl, rfl⟩)
  go_ret; exact ⟨rfl, rfl⟩
set_option maxHeartbeats 400000 in
theorem refprint_neg (x : Nat) (l : List UInt8) (hl : l.length < 200) (w : World) (h : Fl.isNaN x = false) (hn : Fl.neg x = true)
    (hp : Calls Tryz.prog 15 #[.float .f64 (Fl.opp x)] w fun e w' => e = .returned (.string ⟨l.toArray⟩) ∧ Below w.heap.size w w') :
    Calls Tryz.prog 15 #[.float .f64 x] w fun e w' => e = .returned (.string ⟨(45 :: l).toArray⟩) ∧ Below w.heap.size w w' := by
  have c1 := nan_c x
  rw [h] at c1
  have c1 := Lib.hid c1
  have c2 := fun w => minus_c x w (Fl.isNaN_false.1 h)
  rw [hn] at c2
  have c2 := Lib.hid c2
  have hp := Lib.hid hp
  have hop := run_opp
  clear h hn
  go_enter Tryz.func15, Tryz.ntmps15
  go_wp2_with (first | (go_at_call 44; refine (c1.out _).mono ?_; rintro e w' ⟨rfl, rfl⟩) | (go_at_call 45; refine (c2.out _).mono ?_; rintro e w' ⟨rfl, rfl⟩) | (go_at_call 15; refine hp.out.mono ?_; rintro e w' ⟨rfl, hb⟩))
  go_ret
  exact ⟨ret_str (ba_app [45] l), hb⟩
set_option maxHeartbeats 400000 in
theorem refprint_inf (x : Nat) (w : World) (h : Fl.isNaN x = false) (hn : Fl.neg x = false) (hi : Fl.rung x = Fl.I) :
    Calls Tryz.prog 15 #[.float .f64 x] w fun e w' => e = .returned (.string ⟨#[105, 110, 102]⟩) ∧ w.drew = w' := by
  have c1 := nan_c x
  rw [h] at c1
  have c1 := Lib.hid c1
  have c2 := fun w => minus_c x w (Fl.isNaN_false.1 h)
  rw [hn] at c2
  have c2 := Lib.hid c2
  have c3 := Lib.hid (fun w => finite_no x w hi)
  clear h hn hi
  go_enter Tryz.func15, Tryz.ntmps15
  go_wp2_with (first | (go_at_call 44; refine (c1.out _).mono ?_; rintro e w' ⟨rfl, rfl⟩) | (go_at_call 45; refine (c2.out _).mono ?_; rintro e w' ⟨rfl, rfl⟩) | (go_at_call 46; refine (c3.out _).mono ?_; rintro e w' ⟨rfl, rfl⟩))
  go_ret
  exact ⟨rfl, rfl⟩
set_option maxHeartbeats 400000 in
theorem refprint_whole (x : Nat) (l : List UInt8) (n : Int) (w : World) (h : Fl.isNaN x = false) (hn : Fl.neg x = false) (hi : Fl.rung x < Fl.I)
    (hw : ∀ w, Calls Tryz.prog 47 #[.float .f64 x] w fun e w' => e = .returned (.tuple #[.int .i64 n, .bool true]) ∧ w = w')
    (hd : Calls Tryz.prog 48 #[.int .i64 n] w fun e w' => e = .returned (.string ⟨l.toArray⟩) ∧ Below w.heap.size w w') :
    Calls Tryz.prog 15 #[.float .f64 x] w fun e w' => e = .returned (.string ⟨l.toArray⟩) ∧ Below w.heap.size w w' := by
  have c1 := nan_c x
  rw [h] at c1
  have c1 := Lib.hid c1
  have c2 := fun w => minus_c x w (Fl.isNaN_false.1 h)
  rw [hn] at c2
  have c2 := Lib.hid c2
  have c3 := Lib.hid (fun w => finite_yes x w hi)
  have hw := Lib.hid hw
  have hd := Lib.hid hd
  clear h hn hi
  go_enter Tryz.func15, Tryz.ntmps15
  go_wp2_with (first | (go_at_call 44; refine (c1.out _).mono ?_; rintro e w' ⟨rfl, rfl⟩) | (go_at_call 45; refine (c2.out _).mono ?_; rintro e w' ⟨rfl, rfl⟩) | (go_at_call 46; refine (c3.out _).mono ?_; rintro e w' ⟨rfl, rfl⟩) | (go_at_call 47; refine (hw.out _).mono ?_; rintro e w' ⟨rfl, rfl⟩) | (go_at_call 48; refine hd.out.mono ?_; rintro e w' ⟨rfl, hb⟩))
  go_ret
  exact ⟨rfl, hb⟩
set_option maxHeartbeats 1000000 in
theorem refprint_parts (x : Nat) (m q : Nat) (neg : Bool) (w : World) (h : Fl.isNaN x = false) (hn : Fl.neg x = false) (hi : Fl.rung x < Fl.I)
    (hw : ∀ w, Calls Tryz.prog 47 #[.float .f64 x] w fun e w' => e = .returned (.tuple #[.int .i64 0, .bool false]) ∧ w = w')
    (hp : ∀ w, Calls Tryz.prog 49 #[.float .f64 x] w fun e w' => e = .returned (.tuple #[.int .i64 m, .int .i64 (if neg then -(q : Int) else q)]) ∧ w = w')
    (hm : m < 9223372036854775808) (hq1 : q < 5000) (hq2 : neg = true → 0 < q) :
    Calls Tryz.prog 15 #[.float .f64 x] w fun e w' => e = .returned (.string ⟨(Lib.decDigits m ++ 112 :: Lib.itoa (if neg then -(q : Int) else q)).toArray⟩) ∧ Below w.heap.size w w' := by
  have c1 := nan_c x
  rw [h] at c1
  have c1 := Lib.hid c1
  have c2 := fun w => minus_c x w (Fl.isNaN_false.1 h)
  rw [hn] at c2
  have c2 := Lib.hid c2
  have c3 := Lib.hid (fun w => finite_yes x w hi)
  have hw := Lib.hid hw
  have hd := Lib.hid (digits_c m hm w)
  have hd2 := Lib.hid (digits_c q (by omega))
  have l1 : (Lib.decDigits m).length ≤ 20 := by rw [Lib.decDigits_length]; exact Lib.nDigits_le20 m (by omega)
  have l2 : (Lib.decDigits q).length ≤ 20 := by rw [Lib.decDigits_length]; exact Lib.nDigits_le20 q (by omega)
  have fin : ∀ w1 w2, Below w.heap.size w w1 → Below w1.heap.size w1 w2 → Below w.heap.size w w2 := fun _ _ a b => below2 a b
  have fin := Lib.hid fin
  cases neg
  · simp only [Bool.false_eq_true, if_false] at hp ⊢
    rw [Lib.itoa_nonneg]
    have hp := Lib.hid hp
    have hq3 : decide ((q : Int) < 0) = false := by simp
    clear h hn hi hm hq2
    generalize Lib.decDigits m = d1 at *
    generalize Lib.decDigits q = d2 at *
    go_enter Tryz.func15, Tryz.ntmps15
    go_wp2_with (first | (go_at_call 44; refine (c1.out _).mono ?_; rintro e w' ⟨rfl, rfl⟩) | (go_at_call 45; refine (c2.out _).mono ?_; rintro e w' ⟨rfl, rfl⟩) | (go_at_call 46; refine (c3.out _).mono ?_; rintro e w' ⟨rfl, rfl⟩) | (go_at_call 47; refine (hw.out _).mono ?_; rintro e w' ⟨rfl, rfl⟩) | (go_at_call 49; refine (hp.out _).mono ?_; rintro e w' ⟨rfl, rfl⟩) | fail)
    refine hd.out.mono ?_
    rintro e w1 ⟨rfl, hb1⟩
    go_wp2_with fail
    refine (hd2.out _).mono ?_
    rintro e w2 ⟨rfl, hb2⟩
    go_wp2_with fail
    go_ret
    refine ⟨ret_str ?_, fin.out _ _ hb1 hb2⟩
    rw [show (⟨#[112]⟩ : ByteArray) = ⟨[112].toArray⟩ from rfl, ba_app, ba_app]
    simp
  · simp only [if_true] at hp ⊢
    have hq3 : decide (-(q : Int) < 0) = true := by simp; exact hq2 rfl
    rw [Lib.itoa_neg q (hq2 rfl)]
    have hp := Lib.hid hp
    have hq0 := hq2 rfl
    clear h hn hi hm hq2
    generalize Lib.decDigits m = d1 at *
    generalize Lib.decDigits q = d2 at *
    go_enter Tryz.func15, Tryz.ntmps15
    go_wp2_with (first | (go_at_call 44; refine (c1.out _).mono ?_; rintro e w' ⟨rfl, rfl⟩) | (go_at_call 45; refine (c2.out _).mono ?_; rintro e w' ⟨rfl, rfl⟩) | (go_at_call 46; refine (c3.out _).mono ?_; rintro e w' ⟨rfl, rfl⟩) | (go_at_call 47; refine (hw.out _).mono ?_; rintro e w' ⟨rfl, rfl⟩) | (go_at_call 49; refine (hp.out _).mono ?_; rintro e w' ⟨rfl, rfl⟩) | fail)
    refine hd.out.mono ?_
    rintro e w1 ⟨rfl, hb1⟩
    go_wp2_with fail
    refine (hd2.out _).mono ?_
    rintro e w2 ⟨rfl, hb2⟩
    go_wp2_with fail
    go_ret
    refine ⟨ret_str ?_, fin.out _ _ hb1 hb2⟩
    rw [show (⟨#[112, 45]⟩ : ByteArray) = ⟨[112, 45].toArray⟩ from rfl, ba_app, ba_app]
    simp

theorem refprint_pos (x : Nat) (w : World) (hx : x < 18446744073709551616) (h : Fl.rung x ≤ Fl.I) (hn : Fl.neg x = false) :
    Calls Tryz.prog 15 #[.float .f64 x] w fun e w' => e = .returned (.string ⟨(Fl.txt (Fl.rung x)).toArray⟩) ∧ Below w.heap.size w w' := by
  have hN := Fl.isNaN_false.2 h
  unfold Fl.txt
  rcases Nat.lt_or_eq_of_le h with hi | hi
  · rw [if_neg (by omega)]
    have hxr : x = Fl.rung x := by
      have := Fl.wrap_neg hx
      rw [hn] at this
      have h2 : ¬ 9223372036854775808 ≤ x := by simpa using this.symm
      exact (Nat.mod_eq_of_lt (by omega)).symm
    have hw := fun w => refwhole_c x w h (Or.inl hn)
    cases hwh : Fl.isWh (Fl.rung x)
    · simp only [hwh, Bool.false_eq_true, if_false] at hw ⊢
      have h0 : 0 < Fl.rung x := by
        rcases Nat.eq_zero_or_pos (Fl.rung x) with h1 | h1
        · exfalso
          rw [h1] at hwh; unfold Fl.isWh at hwh; rw [Fl.U_zero] at hwh; simp at hwh; have := Fl.LIM_pos; omega
        · exact h1
      obtain ⟨m1, m2, m3⟩ := Fl.mant_lt h0 hi
      have hp := fun w => refparts_c (Fl.rung x) w h0 hi
      rw [← hxr] at hp
      by_cases hq : Fl.expo (Fl.rung x) < 0
      · have := refprint_parts x (Fl.mant (Fl.rung x)) (Fl.expo (Fl.rung x)).natAbs true w hN hn hi hw (fun w => by
          have e : (if true = true then -((Fl.expo (Fl.rung x)).natAbs : Int) else ((Fl.expo (Fl.rung x)).natAbs : Int)) = Fl.expo (Fl.rung x) := by simp; omega
          rw [e, ← hxr]; exact hp w) (by omega) (by omega) (by intro _; omega)
        have e : (if true = true then -((Fl.expo (Fl.rung x)).natAbs : Int) else ((Fl.expo (Fl.rung x)).natAbs : Int)) = Fl.expo (Fl.rung x) := by simp; omega
        rw [e] at this; exact this
      · have e : (if false = true then -((Fl.expo (Fl.rung x)).natAbs : Int) else ((Fl.expo (Fl.rung x)).natAbs : Int)) = Fl.expo (Fl.rung x) := by simp; omega
        have := refprint_parts x (Fl.mant (Fl.rung x)) (Fl.expo (Fl.rung x)).natAbs false w hN hn hi hw (fun w => by
          rw [e, ← hxr]; exact hp w) (by omega) (by omega) (by intro k; cases k)
        rw [e] at this; exact this
    · simp only [hwh, if_true] at hw ⊢
      have hl : Fl.U (Fl.rung x) < Fl.LIM := by unfold Fl.isWh at hwh; simp at hwh; exact hwh.1
      have := Fl.wv_lt hl
      exact refprint_whole x _ _ w hN hn hi hw (digits_c _ (by omega) w)
  · rw [if_pos hi]
    exact (refprint_inf x w hN hn hi).mono fun e w' ⟨a, b⟩ => ⟨a, by rw [← b]; exact (Below.refl _ _).drew⟩
theorem refprint_c (x : Nat) (w : World) (hx : x < 18446744073709551616) :
    Calls Tryz.prog 15 #[.float .f64 x] w fun e w' => e = .returned (.string ⟨(Fl.text x).toArray⟩) ∧ Below w.heap.size w w' := by
  unfold Fl.text
  cases hn : Fl.isNaN x
  · have h := Fl.isNaN_false.1 hn
    simp only [Bool.false_eq_true, if_false]
    cases hs : Fl.neg x
    · simp only [Bool.false_eq_true, if_false]
      exact refprint_pos x w hx h hs
    · simp only [if_true]
      have := refprint_pos (Fl.opp x) w (Fl.opp_lt hx) (by rw [Fl.opp_rung]; exact h) (by rw [Fl.opp_neg, hs]; rfl)
      rw [Fl.opp_rung] at this
      exact refprint_neg x _ (by have := Fl.txt_len h; omega) w hn hs this
  · simp only [if_true]
    exact (refprint_nan x w hn).mono fun e w' ⟨a, b⟩ => ⟨a, by rw [← b]; exact Below.refl _ _⟩
end Go.Proofs.YtdebbljohlffdaaGreatDoor
