import Derived.Test.YtdebbljohlffdaaGreatDoorNumXa
namespace Go.Proofs.YtdebbljohlffdaaGreatDoor
open Go.Shelf Go.RowKit

namespace Fl
theorem sum_val {s t : Bool} {v : Int} {r : Nat} (hr : r < I) (hU : U r = v.natAbs) : val (D.word (sumSign s t v) r) = v ∧ rung (D.word (sumSign s t v) r) = r := by
  have hI := Nat.lt_trans hr I_lt
  refine ⟨?_, (word_mk _ _ hI).2⟩
  rw [val_word hI]
  unfold sumSign
  by_cases h0 : v = 0
  · rw [if_pos h0, hU, h0]; simp
  · rw [if_neg h0]
    by_cases h1 : v < 0
    · rw [decide_eq_true h1]; simp; omega
    · rw [decide_eq_false h1]; simp; omega
/-- a rung for each whole number up to 2^53 -/
theorem rung_upto (k : Nat) (h : k ≤ 2 * B) : ∃ r, r < I ∧ U r = k * ONE := by
  rcases Nat.lt_or_eq_of_le h with h | h
  · exact ⟨rn k, rn_spec h⟩
  · refine ⟨big, by decide, ?_⟩
    have h1 := val_big
    rw [val_pos (by decide), show rung big = big from by decide] at h1
    rw [h]; omega
theorem step_abs (q o : Nat) : ∃ k : Nat, k ≤ q + 1 ∧ (-((q * o : Nat) : Int) + (o : Int)).natAbs = k * o := by
  cases q with
  | zero => exact ⟨1, by omega, by rw [Nat.zero_mul, Nat.one_mul]; omega⟩
  | succ p =>
    refine ⟨p, by omega, ?_⟩
    rw [Nat.add_mul, Nat.one_mul]
    generalize p * o = z
    omega
/-- what is below a number in sight: whole, not above, and the next one is above -/
theorem floor_in {x : Nat} (h : U (rung x) < LIM) : rung (floor x) < I ∧ isWh (rung (floor x)) = true ∧ val (floor x) ≤ val x ∧ ∃ s, D.add (floor x) one = some s ∧ rung s < I ∧ val x < val s := by
  have hlt := fin_of_lim h
  obtain ⟨r, hr, hf, hU⟩ := floor_spec hlt
  have hI := Nat.lt_trans hr I_lt
  have hwv := wv_lt h
  have hB : 2 * B = 9007199254740992 := two_B
  have hle := wv_le (rung x)
  have hO := ONE_pos
  have hmod : U (rung x) = wv (rung x) * ONE + U (rung x) % ONE := by
    have := Nat.div_add_mod (U (rung x)) ONE
    unfold wv
    rw [Nat.mul_comm]; exact this.symm
  have hml := Nat.mod_lt (U (rung x)) hO
  have hwdef : U (rung x) / ONE = wv (rung x) := rfl
  rw [hwdef] at hU
  -- the whole part below
  have key : ∃ q : Nat, U r = q * ONE ∧ q < 9007199254740992 ∧ ((neg x = false ∧ q = wv (rung x)) ∨ (neg x = true ∧ U (rung x) ≤ q * ONE ∧ q * ONE < U (rung x) + ONE)) := by
    cases hs : neg x
    · refine ⟨wv (rung x), by rw [hU, hs]; simp, hwv, Or.inl ⟨rfl, rfl⟩⟩
    · by_cases hm : U (rung x) % ONE = 0
      · refine ⟨wv (rung x), by rw [hU, hs, hm]; simp, hwv, Or.inr ⟨rfl, by omega, by omega⟩⟩
      · obtain ⟨s, hs1, hs2, hs3⟩ := dbl hlt hm
        have h2 : U (rung x) * 2 < LIM := by omega
        rw [LIM_eq] at h2
        have h3 : wv (rung x) * 2 < 9007199254740992 := by
          rcases Nat.lt_or_ge (wv (rung x) * 2) 9007199254740992 with k | k
          · exact k
          · exfalso
            have := Nat.mul_le_mul_right ONE k
            rw [Nat.mul_right_comm] at this
            omega
        refine ⟨wv (rung x) + 1, ?_, by omega, Or.inr ⟨rfl, ?_, ?_⟩⟩
        · rw [hU, hs]
          have : (U (rung x) % ONE != 0) = true := by simpa using hm
          rw [this]; rfl
        · rw [Nat.add_mul]; omega
        · rw [Nat.add_mul]; omega
  obtain ⟨q, hq, hql, hc⟩ := key
  have hrf : rung (floor x) = r := by rw [hf]; exact (word_mk _ _ hI).2
  have hvf : val (floor x) = if neg x then -((q * ONE : Nat) : Int) else ((q * ONE : Nat) : Int) := by rw [hf, val_word hI, hq]
  refine ⟨by rw [hrf]; exact hr, ?_, ?_, ?_⟩
  · rw [hrf]
    unfold isWh
    have h1 : U r < LIM := by rw [hq, LIM_eq]; exact Nat.mul_lt_mul_of_pos_right hql hO
    rw [decide_eq_true h1, hq, Nat.mul_mod_left]; rfl
  · rw [hvf]
    rcases hc with ⟨hs, hc⟩ | ⟨hs, hc1, hc2⟩
    · rw [hs, val_pos hs, hc]; simp only [Bool.false_eq_true, if_false]; omega
    · rw [hs, val_neg hs]; simp only [if_true]; omega
  · have hk : ∃ k : Nat, k ≤ 2 * B ∧ (val (floor x) + val one).natAbs = k * ONE := by
      rw [hvf, val_one]
      rcases hc with ⟨hs, hc⟩ | ⟨hs, hc1, hc2⟩
      · refine ⟨q + 1, by omega, ?_⟩
        rw [hs, Nat.add_mul]; simp only [Bool.false_eq_true, if_false]; omega
      · rw [hs]; simp only [if_true]
        obtain ⟨k, e1, e2⟩ := step_abs q ONE
        exact ⟨k, by omega, e2⟩
    obtain ⟨k, hk1, hk2⟩ := hk
    obtain ⟨s, hs1, hs2⟩ := rung_upto k hk1
    have ha := add_exact (x := floor x) (y := one) (r := s) (by rw [hrf]; exact hr) (by decide) hs1 (by rw [hs2, hk2])
    have hv := sum_val (s := neg (floor x)) (t := neg one) (v := val (floor x) + val one) hs1 (by rw [hs2, hk2])
    refine ⟨_, ha, by rw [hv.2]; exact hs1, ?_⟩
    rw [hv.1, hvf, val_one]
    rcases hc with ⟨hs, hc⟩ | ⟨hs, hc1, hc2⟩
    · rw [hs, val_pos hs, hc]; simp only [Bool.false_eq_true, if_false]; omega
    · rw [hs, val_neg hs]; simp only [if_true]; omega
/-- the whole number, as a float again -/
theorem back {x : Nat} (h : isWh (rung x) = true) : FloatKind.f64.format.order (floatOfInt .f64 (wholeS x)) x = some .eq := by
  have h2 := h
  unfold isWh at h2
  simp at h2
  have hlt := fin_of_lim h2.1
  have hwl := wv_lt h2.1
  have hv := whole_val h2.1
  unfold wholeS
  rw [if_pos h]
  have hn : (wholeN x).natAbs = wv (rung x) := by
    unfold wholeN; split <;> simp
  have hb : -9007199254740992 < wholeN x ∧ wholeN x < 9007199254740992 := by omega
  have hr := rn_spec (k := (wholeN x).natAbs) (by rw [two_B]; omega)
  have hI := Nat.lt_trans hr.1 I_lt
  rw [ofInt_word hb.1 hb.2]
  have hwe := wv_exact.2 h2.2
  refine order_eq (by rw [(word_mk _ _ hI).2]; omega) (by omega) ?_
  rw [val_word hI, hr.2]
  have e : (if decide (wholeN x < 0) = true then -(((wholeN x).natAbs * ONE : Nat) : Int) else (((wholeN x).natAbs * ONE : Nat) : Int)) = wholeN x * ONE := by
    by_cases h0 : wholeN x < 0
    · rw [if_pos (by simpa using h0), Int.natCast_mul, show ((wholeN x).natAbs : Int) = -wholeN x by omega, Int.neg_mul, Int.neg_neg]
    · rw [if_neg (by simpa using h0), Int.natCast_mul, show ((wholeN x).natAbs : Int) = wholeN x by omega]
  rw [e, hv, hwe]
  rfl
end Fl
/-- what Whole's law asks of the calls -/
structure WhFacts (x : Nat) (a : Int) (ok : Bool) (P : Nat → Prop) (w : World) : Prop where
  h1 : ∀ w, Calls Tryz.prog 17 #[.float .f64 x] w fun e w' => e = .returned (.tuple #[.int .i64 a, .bool ok]) ∧ w = w'
  h2 : ∀ w, Calls Tryz.prog 18 #[.float .f64 x] w fun e w' => e = .returned (.tuple #[.int .i64 a, .bool ok]) ∧ w = w'
  h3 : Calls Tryz.prog 19 #[.float .f64 x] w fun e w' => ∃ y, e = .returned (.float .f64 y) ∧ P y ∧ Below w.heap.size w w'
  h4 : ∀ w1, Below w.heap.size w w1 → Calls Tryz.prog 21 #[.float .f64 x] w1 fun e w' => ∃ z, e = .returned (.float .f64 z) ∧ (∀ y, P y → ∀ w, Calls Tryz.prog 20 #[.float .f64 y, .float .f64 z] w fun e w' => e = .returned (.bool true) ∧ w = w') ∧ Below w.heap.size w w'
  h5 : ∀ w', Below w.heap.size w w' → Calls Tryz.prog 12 #[] w' (Yes w)
  ho : ok = true → FloatKind.f64.format.order (floatOfInt .f64 a) x = some .eq
set_option maxRecDepth 100000 in
set_option maxHeartbeats 2000000 in
theorem wh_out1 (x : Nat) (a : Int) (ok : Bool) (P : Nat → Prop) (w : World) (F : WhFacts x a ok P w) (o1 : Option Ordering) (h1 : o1 = none ∨ o1 = some .lt ∨ o1 = some .eq) (e1 : FloatKind.f64.format.order x 14069245235905429504 = o1) :
    Calls Tryz.prog 6 #[.float .f64 x] w (Yes w) := by
  have HF := Lib.hid F
  have ho := F.ho
  clear F
  cases ok
  all_goals
    first | (have ho := ho rfl) | (clear ho)
    rcases h1 with rfl | rfl | rfl
  all_goals
    go_enter Tryz.func6, Tryz.ntmps6
    go_wp2_with fail
    refine (HF.out.h1 _).mono ?_
    rintro e w' ⟨rfl, rfl⟩
    go_wp2_with fail
    refine (HF.out.h2 _).mono ?_
    rintro e w' ⟨rfl, rfl⟩
    go_wp2_with fail
    refine HF.out.h3.mono ?_
    rintro e w1 ⟨y, rfl, hP, hb1⟩
    have hP := Lib.hid hP
    go_wp2_with fail
    refine (HF.out.h4 _ hb1).mono ?_
    rintro e w2 ⟨z, rfl, hs, hb2⟩
    have hs := Lib.hid (hs y hP.out)
    go_wp2_with fail
    refine (hs.out _).mono ?_
    rintro e w' ⟨rfl, rfl⟩
    go_wp2_with fail
    refine (HF.out.h5 _ hb2).mono ?_
    rintro e w' ⟨rfl, hbl⟩
    go_wp2_with fail
    go_ret
    exact ⟨rfl, hbl⟩
set_option maxRecDepth 100000 in
set_option maxHeartbeats 2000000 in
theorem wh_out2 (x : Nat) (a : Int) (ok : Bool) (P : Nat → Prop) (w : World) (F : WhFacts x a ok P w) (o2 : Ordering) (h2 : o2 = .eq ∨ o2 = .gt) (e1 : FloatKind.f64.format.order x 14069245235905429504 = some .gt) (e2 : FloatKind.f64.format.order x 4845873199050653696 = some o2) :
    Calls Tryz.prog 6 #[.float .f64 x] w (Yes w) := by
  have HF := Lib.hid F
  have ho := F.ho
  clear F
  cases ok
  all_goals
    first | (have ho := ho rfl) | (clear ho)
    rcases h2 with rfl | rfl
  all_goals
    go_enter Tryz.func6, Tryz.ntmps6
    go_wp2_with fail
    refine (HF.out.h1 _).mono ?_
    rintro e w' ⟨rfl, rfl⟩
    go_wp2_with fail
    refine (HF.out.h2 _).mono ?_
    rintro e w' ⟨rfl, rfl⟩
    go_wp2_with fail
    refine HF.out.h3.mono ?_
    rintro e w1 ⟨y, rfl, hP, hb1⟩
    have hP := Lib.hid hP
    go_wp2_with fail
    refine (HF.out.h4 _ hb1).mono ?_
    rintro e w2 ⟨z, rfl, hs, hb2⟩
    have hs := Lib.hid (hs y hP.out)
    go_wp2_with fail
    refine (hs.out _).mono ?_
    rintro e w' ⟨rfl, rfl⟩
    go_wp2_with fail
    refine (HF.out.h5 _ hb2).mono ?_
    rintro e w' ⟨rfl, hbl⟩
    go_wp2_with fail
    go_ret
    exact ⟨rfl, hbl⟩
set_option maxRecDepth 100000 in
set_option maxHeartbeats 2000000 in
theorem wh_in (x : Nat) (a : Int) (ok : Bool) (y0 s : Nat) (n : Int) (o : Ordering) (w : World) (F : WhFacts x a ok (fun y => y = y0) w) (e1 : FloatKind.f64.format.order x 14069245235905429504 = some .gt) (e2 : FloatKind.f64.format.order x 4845873199050653696 = some .lt)
    (hw : ∀ w, Calls Tryz.prog 17 #[.float .f64 y0] w fun e w' => e = .returned (.tuple #[.int .i64 n, .bool true]) ∧ w = w')
    (h3 : o = .lt ∨ o = .eq) (e3 : FloatKind.f64.format.order y0 x = some o) (hadd : floatBits .add .f64 y0 4607182418800017408 = some s) (e4 : FloatKind.f64.format.order s x = some .gt) :
    Calls Tryz.prog 6 #[.float .f64 x] w (Yes w) := by
  have HF := Lib.hid F
  have HW := Lib.hid hw
  have ho := F.ho
  have hq := fun w => run_float_arith (P := Tryz.prog) w .add 25 .f64 _ _ s hadd
  clear F hw hadd
  cases ok
  all_goals
    first | (have ho := ho rfl) | (clear ho)
    rcases h3 with rfl | rfl
  all_goals
    go_enter Tryz.func6, Tryz.ntmps6
    go_wp2_with fail
    refine (HF.out.h1 _).mono ?_
    rintro e w' ⟨rfl, rfl⟩
    go_wp2_with fail
    refine (HF.out.h2 _).mono ?_
    rintro e w' ⟨rfl, rfl⟩
    go_wp2_with fail
    refine HF.out.h3.mono ?_
    rintro e w1 ⟨y, rfl, hP, hb1⟩
    subst hP
    go_wp2_with fail
    refine (HF.out.h4 _ hb1).mono ?_
    rintro e w2 ⟨z, rfl, hs, hb2⟩
    have hs := Lib.hid (hs _ rfl)
    go_wp2_with fail
    refine (hs.out _).mono ?_
    rintro e w' ⟨rfl, rfl⟩
    go_wp2_with fail
    refine (HW.out _).mono ?_
    rintro e w' ⟨rfl, rfl⟩
    go_wp2_with fail
    refine (HF.out.h5 _ hb2).mono ?_
    rintro e w' ⟨rfl, hbl⟩
    go_wp2_with fail
    go_ret
    exact ⟨rfl, hbl⟩
theorem floor_lt {x : Nat} (h : Fl.rung x ≤ Fl.I) (hx : x < 18446744073709551616) : Fl.floor x < 18446744073709551616 := by
  rcases Nat.lt_or_eq_of_le h with hi | hi
  · obtain ⟨r, hr, hf, _⟩ := Fl.floor_spec hi
    rw [hf]
    exact Fl.word_lt _ _ (Nat.lt_trans hr Fl.I_lt)
  · rw [Fl.floor_inf hi hx]; exact hx
theorem same_ret {y z : Nat} (hy : y < 18446744073709551616) (hz : z < 18446744073709551616) (h : Fl.same y z = true) (w : World) : Calls Tryz.prog 20 #[.float .f64 y, .float .f64 z] w fun e w' => e = .returned (.bool true) ∧ w = w' := by
  rw [← h]
  exact same_c y z w hy hz
theorem law_whole (x : Nat) (hx : x < 18446744073709551616) (w : World) (he : Env w) : Calls Tryz.prog 6 #[.float .f64 x] w (Yes w) := by
  have hd2 : ∀ w1 w2, (w2 = w1 ∨ w2 = w1.drew) → Below w.heap.size w w1 → Below w.heap.size w w2 := by
    rintro w1 w2 (rfl | rfl) hb
    · exact hb
    · exact hb.drew
  cases hn : Fl.isNaN x
  · have h := Fl.isNaN_false.1 hn
    have hfl := floor_lt h hx
    have F : WhFacts x (Fl.wholeS x) (Fl.isWh (Fl.rung x)) (fun y => y = Fl.floor x) w :=
      ⟨fun w => whole_c x w hx, fun w => refWhole_c x w hx, (down_c x w h).mono fun e w' ⟨a, b⟩ => ⟨_, a, rfl, by rw [← b]; exact Below.refl _ _⟩,
        fun w1 hb => (refdown_c x w1 hx h).mono fun e w' ⟨a, b⟩ => ⟨_, a, fun y hy w => by rw [hy]; exact same_ret hfl hfl (same_self _) w, hd2 w1 w' b hb⟩, works_at w he, Fl.back⟩
    by_cases hl : Fl.U (Fl.rung x) < Fl.LIM
    · have hv1 : -(Fl.LIM : Int) < Fl.val x := by unfold Fl.val; split <;> omega
      have hv2 : Fl.val x < (Fl.LIM : Int) := by unfold Fl.val; split <;> omega
      obtain ⟨k1, k2, k3, s, k4, k5, k6⟩ := Fl.floor_in hl
      have hw := fun w => whole_c (Fl.floor x) w hfl
      rw [k2] at hw
      rcases Int.lt_or_eq_of_le k3 with k | k
      · exact wh_in x _ _ _ s _ .lt w F ((ord_nbig h).1 hv1) ((ord_big h).1 hv2) hw (Or.inl rfl) (Fl.order_lt (by omega) h k) k4 (Fl.order_gt (by omega) h k6)
      · exact wh_in x _ _ _ s _ .eq w F ((ord_nbig h).1 hv1) ((ord_big h).1 hv2) hw (Or.inr rfl) (Fl.order_eq (by omega) h k) k4 (Fl.order_gt (by omega) h k6)
    · by_cases hs : Fl.neg x = true
      · obtain ⟨o, ho, h1⟩ := (ord_nbig h).2 (by rw [Fl.val_neg hs]; omega)
        exact wh_out1 x _ _ _ w F o ho h1
      · have hLp := Fl.LIM_pos
        simp only [Bool.not_eq_true] at hs
        obtain ⟨o, ho, h1⟩ := (ord_big h).2 (by rw [Fl.val_pos hs]; omega)
        exact wh_out2 x _ _ _ w F o ho ((ord_nbig h).1 (by rw [Fl.val_pos hs]; omega)) h1
  · have h := Fl.isNaN_true.1 hn
    have F : WhFacts x (Fl.wholeS x) (Fl.isWh (Fl.rung x)) (fun y => Fl.I < Fl.rung y ∧ y < 18446744073709551616) w :=
      ⟨fun w => whole_c x w hx, fun w => refWhole_c x w hx, (down_nan x w h hx).mono fun e w' ⟨r, a, b, c⟩ => ⟨r, b, a, hd2 w w' c (Below.refl _ _)⟩,
        fun w1 hb => (refdown_nan x w1 hn).mono fun e w' ⟨a, b⟩ => ⟨x, a, fun y hy w => same_ret hy.2 hx (same_nans (Fl.isNaN_true.2 hy.1) hn) w, by rw [← b]; exact hb⟩, works_at w he, Fl.back⟩
    exact wh_out1 x _ _ _ w F none (Or.inl rfl) (Fl.order_nan_left h)
end Go.Proofs.YtdebbljohlffdaaGreatDoor
