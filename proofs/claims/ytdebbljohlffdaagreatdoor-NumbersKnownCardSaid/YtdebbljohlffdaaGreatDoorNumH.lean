import Derived.Test.YtdebbljohlffdaaGreatDoorNumG
namespace Go.Proofs.YtdebbljohlffdaaGreatDoor
open Go.RowKit

namespace Fl
theorem floor_word {x r : Nat} (h : rung x < I) (hU : U r = (wv (rung x) + (neg x && U (rung x) % ONE != 0).toNat) * ONE) : floor x = D.word (neg x) r := by
  obtain ⟨r', _, e, hU'⟩ := floor_spec h
  have : r' = r := U_inj (by rw [hU', hU]; rfl)
  rw [e, this]
theorem floor_of_dvd {x : Nat} (h : rung x < I) (hx : x < 18446744073709551616) (hd : U (rung x) % ONE = 0) : floor x = x := by
  rw [floor_word (r := rung x) h (by rw [hd]; simp; exact (wv_exact.2 hd).symm)]
  exact word_of x hx
theorem dvd_of_big {r : Nat} (h : LIM ≤ U r) : U r % ONE = 0 := by
  rcases @ratio r with h1 | h1
  · exfalso
    have h2 : U r < B * ONE := (Nat.div_lt_iff_lt_mul ONE_pos).1 h1
    have h3 : B * ONE ≤ LIM := by unfold LIM; exact Nat.mul_le_mul_right _ (by decide)
    omega
  · exact Nat.mod_eq_zero_of_dvd h1
theorem floor_mid {x : Nat} (hx : x < 18446744073709551616) (hl : U (rung x) < LIM) (h0 : rung x ≠ 0) :
    ∃ (y : Nat) (o : Ordering), D.order (floatOfInt .f64 (wholeN x)) x = some o ∧ (o = .gt → floatBits .sub .f64 (floatOfInt .f64 (wholeN x)) one = some y) ∧ (if o = .gt then y else floatOfInt .f64 (wholeN x)) = floor x := by
  have hb := wholeN_bd hl
  have ho := ofInt_val hb.1 hb.2
  have hwd := ofInt_word hb.1 hb.2
  have hI := fin_of_lim hl
  have hle := wv_le (rung x)
  have hUp := U_pos (Nat.pos_of_ne_zero h0)
  have hwl := wv_lt hl
  have hr := @rn_spec (wholeN x).natAbs (by rw [two_B]; omega)
  have habs : (wholeN x).natAbs = wv (rung x) := by unfold wholeN; split <;> omega
  by_cases hm : U (rung x) % ONE = 0
  · have hex := wv_exact.2 hm
    have hw0 : wv (rung x) ≠ 0 := by intro e; rw [e] at hex; omega
    refine ⟨0, .eq, order_eq (by omega) (by omega) ?_, by simp, ?_⟩
    · rw [ho.1, whole_val hl, hex]; rfl
    · simp only [reduceCtorEq, if_false]
      rw [floor_of_dvd hI hx hm]
      refine word_ext ho.2.2.2 hx ?_ ?_
      · rw [ho.2.2.1]; unfold wholeN; cases neg x <;> simp <;> omega
      · apply U_inj
        rw [hwd, (word_mk _ _ (Nat.lt_trans hr.1 I_lt)).2, hr.2, habs, hex]
  · have hne : wv (rung x) * ONE ≠ U (rung x) := fun k => hm (wv_exact.1 k)
    by_cases hs : neg x = true
    · have hw1 : wv (rung x) + 1 < 2 * B := by
        rw [two_B]
        rcases @ratio (rung x) with h1 | h1
        · unfold wv; have hBB : B = 4503599627370496 := rfl
          omega
        · exact absurd (Nat.mod_eq_zero_of_dvd h1) hm
      obtain ⟨r, hrI, hrU⟩ := rung_of K (wv (rung x) + 1) hw1 (by decide)
      have hrU : U r = (wv (rung x) + 1) * ONE := hrU
      have hN : wholeN x = -(wv (rung x) : Int) := by unfold wholeN; rw [hs]; rfl
      have hv : val (floatOfInt .f64 (wholeN x)) - val one = -(((wv (rung x) + 1) * ONE : Nat) : Int) := by
        rw [ho.1, hN, val_one, Int.neg_mul, Nat.add_mul]
        simp only [Int.natCast_add, Int.natCast_mul]
        simp
        omega
      have r1 : rung one < I := by decide
      have hnat : U r = (val (floatOfInt .f64 (wholeN x)) - val one).natAbs := by rw [hv, hrU, Int.natAbs_neg]; rfl
      refine ⟨D.word true r, .gt, order_gt (by omega) (by omega) ?_, fun _ => ?_, ?_⟩
      · rw [ho.1, whole_val hl, hs, val_neg hs]; simp only [if_true]; omega
      · show D.sub (floatOfInt .f64 (wholeN x)) one = _
        rw [sub_exact (y := one) ho.2.1 r1 hrI hnat, hv]
        have hpos : 0 < (wv (rung x) + 1) * ONE := Nat.mul_pos (by omega) ONE_pos
        have : sumSign (neg (floatOfInt .f64 (wholeN x))) (!neg one) (-(((wv (rung x) + 1) * ONE : Nat) : Int)) = true := by
          unfold sumSign
          generalize (wv (rung x) + 1) * ONE = q at hpos ⊢
          rw [if_neg (by omega)]
          simp; omega
        rw [this]
      · simp only [if_true]
        rw [floor_word (r := r) hI (by rw [hrU, hs, bne_iff_ne.2 hm]; rfl), hs]
    · simp only [Bool.not_eq_true] at hs
      have hN : wholeN x = (wv (rung x) : Int) := by unfold wholeN; rw [hs]; rfl
      refine ⟨0, .lt, order_lt (by omega) (by omega) ?_, by simp, ?_⟩
      · rw [ho.1, whole_val hl, hs, val_pos hs]; simp only [Bool.false_eq_true, if_false]; omega
      · simp only [reduceCtorEq, if_false]
        rw [hwd, floor_word (r := rn (wholeN x).natAbs) hI (by rw [hr.2, habs, hs]; simp), hs, hN]
        congr 1
end Fl

theorem refdown_c (x : Nat) (w : World) (hx : x < 18446744073709551616) (h : Fl.rung x ≤ Fl.I) :
    Calls Tryz.prog 21 #[.float .f64 x] w fun e w' => e = .returned (.float .f64 (Fl.floor x)) ∧ (w' = w ∨ w' = w.drew) := by
  have hn := Fl.isNaN_false.2 h
  have hz : Fl.rung 0 ≤ Fl.I := by decide
  have vz := Fl.val_zero
  have ho : Fl.rung (Fl.opp x) ≤ Fl.I := by rw [Fl.opp_rung]; exact h
  rcases Nat.lt_or_eq_of_le h with hi | hi
  · have hd1 : ∃ o1, FloatKind.f64.format.order x 0 = some o1 ∧ (o1 = .eq ↔ Fl.rung x = 0) := by
      rcases Int.lt_trichotomy (Fl.val x) (Fl.val 0) with k | k | k
      · exact ⟨.lt, Fl.order_lt h hz k, by rw [vz] at k; have := @Fl.val_zero_iff x; simp; intro e; have := this.2 e; omega⟩
      · exact ⟨.eq, Fl.order_eq h hz k, by rw [vz] at k; simp; exact Fl.val_zero_iff.1 k⟩
      · exact ⟨.gt, Fl.order_gt h hz k, by rw [vz] at k; have := @Fl.val_zero_iff x; simp; intro e; have := this.2 e; omega⟩
    have side : ∀ y, Fl.rung y ≤ Fl.I → ∃ o, FloatKind.f64.format.order y 4845873199050653696 = some o ∧ (o = .lt ↔ Fl.val y < (Fl.LIM : Int)) := by
      intro y hy
      by_cases k : Fl.val y < (Fl.LIM : Int)
      · exact ⟨.lt, (ord_big hy).1 k, by simp [k]⟩
      · obtain ⟨o, h1, h2⟩ := (ord_big hy).2 (by omega)
        exact ⟨o, h2, by rcases h1 with rfl | rfl <;> simp [k]⟩
    obtain ⟨o1, e1, q1⟩ := hd1
    obtain ⟨o2, e2, q2⟩ := side x h
    obtain ⟨o3, e3, q3⟩ := side (Fl.opp x) ho
    rw [Fl.opp_val] at q3
    by_cases hout : o1 = .eq ∨ o2 ≠ .lt ∨ o3 ≠ .lt
    · have hd : Fl.U (Fl.rung x) % Fl.ONE = 0 := by
        by_cases hl : Fl.U (Fl.rung x) < Fl.LIM
        · have hv1 : -Fl.val x < (Fl.LIM : Int) := by unfold Fl.val; split <;> omega
          have hv2 : Fl.val x < (Fl.LIM : Int) := by unfold Fl.val; split <;> omega
          rcases hout with k | k | k
          · rw [q1.1 k, Fl.U_zero]; exact Nat.zero_mod _
          · exact absurd (q2.2 hv2) k
          · exact absurd (q3.2 hv1) k
        · exact Fl.dvd_of_big (by omega)
      rw [Fl.floor_of_dvd hi hx hd]
      exact (refdown_out x o1 o2 o3 w hn hi ⟨e1, e2, e3⟩ hout).mono fun e w' ⟨a, b⟩ => ⟨a, Or.inl b.symm⟩
    · have h1 : o1 ≠ .eq := fun k => hout (Or.inl k)
      have h2 : o2 = .lt := Decidable.byContradiction fun k => hout (Or.inr (Or.inl k))
      have h3 : o3 = .lt := Decidable.byContradiction fun k => hout (Or.inr (Or.inr k))
      subst h2 h3
      have hl : Fl.U (Fl.rung x) < Fl.LIM := by
        have a := q2.1 rfl
        have b := q3.1 rfl
        cases hs : Fl.neg x
        · rw [Fl.val_pos hs] at a; omega
        · rw [Fl.val_neg hs] at b; omega
      obtain ⟨y, o, k1, k2, k3⟩ := Fl.floor_mid hx hl (fun k => h1 (q1.2 k))
      rw [← k3]
      exact (refdown_mid x o1 _ y o w hn hi ⟨e1, e2, e3⟩ (by cases o1 <;> simp at h1 ⊢) (Fl.intVal hl) k1 k2).mono fun e w' ⟨a, b⟩ => ⟨a, Or.inl b.symm⟩
  · rw [Fl.floor_inf hi hx]
    exact (refdown_inf x w hn hi).mono fun e w' ⟨a, b⟩ => ⟨a, Or.inr b.symm⟩
end Go.Proofs.YtdebbljohlffdaaGreatDoor
