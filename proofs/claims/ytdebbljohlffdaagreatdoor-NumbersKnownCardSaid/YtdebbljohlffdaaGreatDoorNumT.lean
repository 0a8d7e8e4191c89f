import Derived.Test.YtdebbljohlffdaaGreatDoorNumS
namespace Go.Proofs.YtdebbljohlffdaaGreatDoor
open Go.Shelf Go.RowKit

theorem num_dd {n : Nat} (h : n < 10000000000000000) : numIs (Lib.decDigits n) = true ∧ numVal (Lib.decDigits n) = n := by
  obtain ⟨h1, h2, h3⟩ := Fl.dd n
  have h16 : (10 : Nat) ^ 16 = 10000000000000000 := by decide
  have h4 := Fl.dd_len (k := 16) (n := n) (by decide) (by rw [h16]; exact h)
  have hok : numOk (Lib.decDigits n) = true := by
    unfold numOk
    rw [Bool.and_eq_true, List.all_eq_true]
    exact ⟨h1, by simpa using h4⟩
  unfold numIs numVal
  rw [hok]
  refine ⟨?_, h2⟩
  cases e : Lib.decDigits n with
  | nil => rw [e] at h3; simp at h3
  | cons => rfl
theorem PAt.none {k : Nat} {l : List UInt8} (h : PAt k l) (hn : ∀ c, c ∈ l → c ≠ 112) : k = l.length := by
  obtain ⟨_, _, h3⟩ := h
  rcases h3 with h3 | h3
  · exact h3
  · exact absurd rfl (hn 112 (List.mem_of_getElem? h3))
theorem PAt.some {k : Nat} {a b : List UInt8} (h : PAt k (a ++ 112 :: b)) (hn : ∀ c, c ∈ a → c ≠ 112) : k = a.length := by
  obtain ⟨h1, h2, h3⟩ := h
  rcases Nat.lt_trichotomy k a.length with h4 | h4 | h4
  · exfalso
    rcases h3 with h3 | h3
    · rw [List.length_append, List.length_cons] at h3; omega
    · rw [List.getElem?_append_left h4] at h3
      exact hn 112 (List.mem_of_getElem? h3) rfl
  · exact h4
  · exfalso
    refine h2 112 ?_ rfl
    rw [List.take_append, List.mem_append]
    right
    obtain ⟨j, hj⟩ : ∃ j, k - a.length = j + 1 := ⟨k - a.length - 1, by omega⟩
    rw [hj]; simp
theorem exp_itoa (e : Int) : expPart (Lib.itoa e) = (decide (e < 0), Lib.decDigits e.natAbs) := by
  unfold Lib.itoa
  by_cases h : e < 0
  · rw [if_pos h]; simp [expPart, h]
  · rw [if_neg h]
    have e1 : e.toNat = e.natAbs := by omega
    rw [e1]
    obtain ⟨c, l, h1, h2⟩ := Fl.dd_head e.natAbs
    rw [h1]
    have hc : c ≠ 45 := (Fl.notp h2).2.1
    unfold expPart
    split
    · rename_i r he; exact absurd (List.cons.inj he).1 hc
    · simp [h]
/-- THE REST IS WORTH ITS NUMBER -/
theorem rest_right {k r : Nat} (hr : r < Fl.I) (h : PAt k (Fl.txt r)) : restS k (Fl.txt r) = r := by
  unfold Fl.txt at *
  rw [if_neg (by omega)] at *
  by_cases hw : Fl.isWh r = true
  · rw [if_pos hw] at *
    have hw2 := hw
    unfold Fl.isWh at hw2
    simp at hw2
    have hlt := Fl.wv_lt hw2.1
    obtain ⟨n1, n2⟩ := num_dd (n := Fl.wv r) (by omega)
    have hk := h.none (fun c hc => (Fl.notp ((Fl.dd _).1 c hc)).1)
    unfold restS
    rw [hk, List.take_length, if_pos (Or.inr rfl), n2]
    have hN := Fl.rn_spec (k := Fl.wv r) (by rw [Fl.two_B]; exact hlt)
    rw [Fl.ofInt_word (by omega) (by omega)]
    have e1 : decide ((Fl.wv r : Int) < 0) = false := by simp
    rw [e1, Fl.word_false]
    exact Fl.U_inj (by rw [show ((Fl.wv r : Int)).natAbs = Fl.wv r from rfl, hN.2, Fl.wv_exact.2 hw2.2])
  · rw [if_neg hw] at *
    have h0 : 0 < r := by
      rcases Nat.eq_zero_or_pos r with k0 | k0
      · exfalso; apply hw; rw [k0]; unfold Fl.isWh; rw [Fl.U_zero]; simp; exact Fl.LIM_pos
      · exact k0
    obtain ⟨m1, m2, m3⟩ := Fl.mant_lt h0 hr
    obtain ⟨n1, n2⟩ := num_dd (n := Fl.mant r) (by omega)
    obtain ⟨n3, n4⟩ := num_dd (n := (Fl.expo r).natAbs) (by omega)
    have hk := h.some (fun c hc => (Fl.notp ((Fl.dd _).1 c hc)).1)
    have hse := Fl.scaled_exact h0 hr
    unfold restS
    have e1 : (Lib.decDigits (Fl.mant r) ++ 112 :: Lib.itoa (Fl.expo r)).take k = Lib.decDigits (Fl.mant r) := by rw [hk]; exact List.take_left
    have e2 : (Lib.decDigits (Fl.mant r) ++ 112 :: Lib.itoa (Fl.expo r)).drop (k + 1) = Lib.itoa (Fl.expo r) := by
      rw [hk, ← List.drop_drop, List.drop_left]; rfl
    rw [e1, e2, exp_itoa]
    simp only [n1, n2, n3, n4]
    have hl : k ≠ (Lib.decDigits (Fl.mant r) ++ 112 :: Lib.itoa (Fl.expo r)).length := by
      rw [List.length_append, List.length_cons]; omega
    rw [if_neg (fun c => c.elim (fun c => by cases c) hl), if_neg (fun c => c.elim (fun c => by cases c) (by omega))]
    unfold Fl.scaledS at hse
    by_cases he : Fl.expo r < 0
    · rw [if_pos (by simp [he])]
      rw [if_neg (by omega)] at hse
      rw [show (Fl.expo r).natAbs = (-Fl.expo r).toNat by omega]; exact hse
    · rw [if_neg (by simp [he])]
      by_cases h3 : (Fl.expo r).natAbs = 0
      · rw [if_pos h3]
        rw [if_neg (by omega), show (-Fl.expo r).toNat = 0 by omega] at hse
        exact hse
      · rw [if_neg h3]
        rw [if_pos (by omega)] at hse
        rw [show (Fl.expo r).natAbs = (Fl.expo r).toNat by omega]; exact hse
theorem restS_num (k : Nat) (l : List UInt8) : Fl.num (restS k l) := by
  unfold restS
  repeat' split
  · exact Fl.num_int _
  · exact ⟨by decide, by decide⟩
  · exact Fl.iter_num (fun x h => (Fl.div2_num h).2) _ _ (Fl.num_int _)
  · exact Fl.iter_num (fun x h => (Fl.div2_num h).2) _ _ (Fl.num_int _)
  · exact Fl.iter_num (fun x h => (Fl.mul2_num h).2) _ _ (Fl.num_int _)
/-- x IS WHAT l IS THE TEXT OF, if it is one's -/
def Worth (l : List UInt8) (x : Nat) : Prop := x < 18446744073709551616 ∧ ∀ y, y < 18446744073709551616 → Fl.text y = l → Fl.Eqv x y

theorem text_form (y : Nat) : (Fl.isNaN y = true ∧ Fl.text y = [110, 97, 110]) ∨ (Fl.isNaN y = false ∧ Fl.neg y = true ∧ Fl.text y = 45 :: Fl.txt (Fl.rung y)) ∨ (Fl.isNaN y = false ∧ Fl.neg y = false ∧ Fl.text y = Fl.txt (Fl.rung y)) := by
  unfold Fl.text
  cases hn : Fl.isNaN y
  · cases hs : Fl.neg y
    · exact Or.inr (Or.inr ⟨rfl, rfl, by simp⟩)
    · exact Or.inr (Or.inl ⟨rfl, rfl, by simp⟩)
  · exact Or.inl ⟨rfl, by simp⟩
theorem worth_nan (x : Nat) (h : Fl.isNaN x = true) (hx : x < 18446744073709551616) : Worth [110, 97, 110] x := by
  refine ⟨hx, fun y hy ht => ?_⟩
  rcases text_form y with ⟨h1, _⟩ | ⟨_, _, h3⟩ | ⟨_, _, h3⟩
  · exact Or.inl ⟨h, h1⟩
  · rw [h3] at ht; exact absurd (List.cons.inj ht).1 (by decide)
  · rw [h3] at ht
    obtain ⟨c, l, e, k⟩ := @Fl.txt_head (Fl.rung y)
    rw [e] at ht
    rcases k with k | k
    · exact absurd (List.cons.inj ht).1 (Fl.notp k).2.2.2
    · rw [k.1] at ht; exact absurd (List.cons.inj ht).1 (by decide)
theorem worth_neg {l : List UInt8} {x : Nat} (h : Worth l x) : Worth (45 :: l) (Fl.opp x) := by
  refine ⟨Fl.opp_lt h.1, fun y hy ht => ?_⟩
  rcases text_form y with ⟨h1, h2⟩ | ⟨h1, h2, h3⟩ | ⟨_, _, h3⟩
  · rw [h2] at ht; exact absurd (List.cons.inj ht).1 (by decide)
  · rw [h3] at ht
    have hl := (List.cons.inj ht).2
    have ho : Fl.text (Fl.opp y) = l := by
      unfold Fl.text
      have : Fl.isNaN (Fl.opp y) = false := by unfold Fl.isNaN at *; rw [Fl.opp_rung]; exact h1
      rw [this, Fl.opp_neg, h2, Fl.opp_rung]
      simpa using hl
    have := h.2 (Fl.opp y) (Fl.opp_lt hy) ho
    rcases this with ⟨_, k2⟩ | ⟨k1, k2, k3⟩
    · unfold Fl.isNaN at k2 h1; rw [Fl.opp_rung] at k2; rw [k2] at h1; cases h1
    · refine Or.inr ⟨?_, h1, ?_⟩
      · unfold Fl.isNaN at *; rw [Fl.opp_rung]; exact k1
      · rw [k3]
        unfold Fl.opp
        rw [Nat.xor_assoc, Nat.xor_self, Nat.xor_zero]
  · rw [h3] at ht
    obtain ⟨c, l', e, k⟩ := @Fl.txt_head (Fl.rung y)
    rw [e] at ht
    rcases k with k | k
    · exact absurd (List.cons.inj ht).1 (Fl.notp k).2.1
    · rw [k.1] at ht; exact absurd (List.cons.inj ht).1 (by decide)
theorem worth_inf : Worth [105, 110, 102] Fl.I := by
  refine ⟨by decide, fun y hy ht => ?_⟩
  rcases text_form y with ⟨h1, h2⟩ | ⟨h1, h2, h3⟩ | ⟨h1, h2, h3⟩
  · rw [h2] at ht; exact absurd (List.cons.inj ht).1 (by decide)
  · rw [h3] at ht; exact absurd (List.cons.inj ht).1 (by decide)
  · rw [h3] at ht
    obtain ⟨c, l, e, k⟩ := @Fl.txt_head (Fl.rung y)
    rw [e] at ht
    rcases k with k | k
    · exact absurd (List.cons.inj ht).1 (Fl.notp k).2.2.1
    · refine Or.inr ⟨by decide, h1, Fl.word_ext (by decide) hy (by rw [h2]; decide) (by rw [k.2]; decide)⟩
theorem worth_rest {l : List UInt8} {k : Nat} (hk : PAt k l) (h1 : l ≠ [110, 97, 110]) (h2 : l ≠ [105, 110, 102]) (h3 : ∀ r, l ≠ 45 :: r) : Worth l (restS k l) := by
  have hn := restS_num k l
  refine ⟨hn.2, fun y hy ht => ?_⟩
  rcases text_form y with ⟨_, k2⟩ | ⟨_, _, k3⟩ | ⟨k1, k2, k3⟩
  · exact absurd (ht.symm.trans k2) h1
  · exact absurd (ht.symm.trans k3) (h3 _)
  · rw [k3] at ht
    have hle := Fl.isNaN_false.1 k1
    have hlt : Fl.rung y < Fl.I := by
      rcases Nat.lt_or_eq_of_le hle with h | h
      · exact h
      · exfalso; apply h2; rw [← ht, h]; unfold Fl.txt; rw [if_pos rfl]
    refine Or.inr ⟨Fl.isNaN_false.2 hn.1, k1, ?_⟩
    rw [← ht] at hk ⊢
    rw [rest_right hlt hk]
    exact Fl.word_ext (Nat.lt_trans hlt (by decide)) hy (by rw [k2]; exact Fl.neg_self hle) (Fl.rung_self hle)
end Go.Proofs.YtdebbljohlffdaaGreatDoor
