import Derived.Test.YtdebbljohlffdaaGreatDoorNumO
namespace Go.Proofs.YtdebbljohlffdaaGreatDoor
open Go.Shelf Go.RowKit

namespace Fl
def isDig (c : UInt8) : Bool := decide (48 ≤ c.toNat) && decide (c.toNat ≤ 57)
def dval (l : List UInt8) : Nat := l.foldl (fun a c => a * 10 + (c.toNat - 48)) 0
theorem dval_snoc (l : List UInt8) (c : UInt8) : dval (l ++ [c]) = dval l * 10 + (c.toNat - 48) := by
  unfold dval; rw [List.foldl_append]; rfl
theorem ofNat48 (d : Nat) (h : d < 10) : (UInt8.ofNat (48 + d)).toNat = 48 + d := by
  rw [UInt8.toNat_ofNat']; exact Nat.mod_eq_of_lt (by omega)
theorem dd (n : Nat) : (∀ c, c ∈ Lib.decDigits n → isDig c = true) ∧ dval (Lib.decDigits n) = n ∧ 0 < (Lib.decDigits n).length := by
  induction n using Nat.strongRecOn with
  | _ n ih =>
    by_cases h : n < 10
    · rw [Lib.decDigits_one h]
      refine ⟨?_, ?_, by simp⟩
      · intro c hc
        simp only [List.mem_singleton] at hc
        subst hc
        unfold isDig
        rw [ofNat48 n h]; simp; omega
      · unfold dval; simp only [List.foldl_cons, List.foldl_nil]; rw [ofNat48 n h]; omega
    · obtain ⟨h1, h2, h3⟩ := ih (n / 10) (by omega)
      have e : Lib.decDigits n = Lib.decDigits (n / 10) ++ [UInt8.ofNat (48 + n % 10)] := by
        rw [Lib.decDigits, dif_neg h]
      rw [e]
      refine ⟨?_, ?_, by simp⟩
      · intro c hc
        rw [List.mem_append] at hc
        rcases hc with hc | hc
        · exact h1 c hc
        · simp only [List.mem_singleton] at hc
          subst hc
          unfold isDig
          rw [ofNat48 _ (by omega)]; simp; omega
      · rw [dval_snoc, h2, ofNat48 _ (by omega)]; omega
theorem dd_inj {m n : Nat} (h : Lib.decDigits m = Lib.decDigits n) : m = n := by
  rw [← (dd m).2.1, ← (dd n).2.1, h]
theorem dd_head (n : Nat) : ∃ c l, Lib.decDigits n = c :: l ∧ isDig c = true := by
  obtain ⟨h1, _, h3⟩ := dd n
  cases e : Lib.decDigits n with
  | nil => rw [e] at h3; simp at h3
  | cons c l => exact ⟨c, l, rfl, h1 c (by rw [e]; simp)⟩
theorem dd_len {n k : Nat} (hk : 0 < k) (h : n < 10 ^ k) : (Lib.decDigits n).length ≤ k := by
  rw [Lib.decDigits_length]
  rcases Nat.lt_or_ge k (Lib.nDigits n) with h1 | h1
  · exfalso
    obtain ⟨j, hj⟩ : ∃ j, Lib.nDigits n = j + 1 := ⟨Lib.nDigits n - 1, by omega⟩
    have key : ∀ (j n : Nat), Lib.nDigits n = j + 1 → 0 < j → 10 ^ j ≤ n := by
      intro j
      induction j with
      | zero => intro n _ h0; omega
      | succ j ih =>
        intro n hn _
        by_cases h10 : n < 10
        · rw [Lib.nDigits_small h10] at hn; omega
        · rw [Lib.nDigits_big h10] at hn
          rcases Nat.eq_zero_or_pos j with hj0 | hj0
          · subst hj0; simp; omega
          · have := ih (n / 10) (by omega) hj0
            rw [Nat.pow_succ]; omega
    have h2 := key j n hj (by omega)
    have h3 : 10 ^ k ≤ 10 ^ j := Nat.pow_le_pow_right (by decide) (by omega)
    omega
  · exact h1
theorem dval_lt (l : List UInt8) (h : ∀ c, c ∈ l → isDig c = true) : dval l < 10 ^ l.length := by
  have key : ∀ n (l : List UInt8), l.length = n → (∀ c, c ∈ l → isDig c = true) → dval l < 10 ^ n := by
    intro n
    induction n with
    | zero => intro l hl _; have : l = [] := List.length_eq_zero_iff.1 hl; subst this; decide
    | succ n ih =>
      intro l hl h
      have hne : l ≠ [] := fun e => by subst e; simp at hl
      have e := (List.dropLast_concat_getLast hne).symm
      rw [e, dval_snoc]
      have h1 := ih l.dropLast (by simp; omega) (fun c hc => h c (List.dropLast_subset _ hc))
      have h2 := h (l.getLast hne) (List.getLast_mem hne)
      unfold isDig at h2
      simp at h2
      rw [Nat.pow_succ]; omega
  exact key _ l rfl h

/-- the same number -/
def Eqv (a b : Nat) : Prop := (isNaN a = true ∧ isNaN b = true) ∨ (isNaN a = false ∧ isNaN b = false ∧ a = b)
theorem notp {c : UInt8} (h : isDig c = true) : c ≠ 112 ∧ c ≠ 45 ∧ c ≠ 105 ∧ c ≠ 110 := by
  refine ⟨?_, ?_, ?_, ?_⟩ <;> intro e <;> subst e <;> revert h <;> decide
/-- what a text of a number from 0 on begins with -/
theorem txt_head {r : Nat} : ∃ c l, txt r = c :: l ∧ (isDig c = true ∨ (c = 105 ∧ r = I)) := by
  unfold txt
  split
  · rename_i h
    exact ⟨105, [110, 102], rfl, Or.inr ⟨rfl, h⟩⟩
  · split
    · obtain ⟨c, l, h1, h2⟩ := dd_head (wv r)
      exact ⟨c, l, h1, Or.inl h2⟩
    · obtain ⟨c, l, h1, h2⟩ := dd_head (mant r)
      exact ⟨c, l ++ 112 :: Lib.itoa (expo r), by rw [h1]; rfl, Or.inl h2⟩
theorem itoa_inj {m n : Int} (h : Lib.itoa m = Lib.itoa n) : m = n := by
  unfold Lib.itoa at h
  obtain ⟨c, l, h1, h2⟩ := dd_head m.natAbs
  obtain ⟨c', l', h1', h2'⟩ := dd_head n.natAbs
  obtain ⟨c2, l2, h3, h4⟩ := dd_head m.toNat
  obtain ⟨c2', l2', h3', h4'⟩ := dd_head n.toNat
  by_cases hm : m < 0 <;> by_cases hn : n < 0
  · rw [if_pos hm, if_pos hn] at h
    have := dd_inj (List.cons.inj h).2
    omega
  · rw [if_pos hm, if_neg hn, h3'] at h
    exact absurd (List.cons.inj h).1.symm (notp h4').2.1
  · rw [if_neg hm, if_pos hn, h3] at h
    exact absurd (List.cons.inj h).1 (notp h4).2.1
  · rw [if_neg hm, if_neg hn] at h
    have := dd_inj h
    omega
/-- digits, then what is no digit: they part in one way -/
theorem split_dig {a b : List UInt8} {c d : UInt8} {x y : List UInt8} (ha : ∀ c, c ∈ a → isDig c = true) (hb : ∀ c, c ∈ b → isDig c = true) (hc : isDig c = false) (hd : isDig d = false) (h : a ++ c :: x = b ++ d :: y) : a = b ∧ c :: x = d :: y := by
  induction a generalizing b with
  | nil =>
    cases b with
    | nil => exact ⟨rfl, h⟩
    | cons e b => simp at h; rw [h.1] at hc; rw [hb e (by simp)] at hc; cases hc
  | cons e a ih =>
    cases b with
    | nil => simp at h; rw [← h.1] at hd; rw [ha e (by simp)] at hd; cases hd
    | cons f b =>
      simp at h
      obtain ⟨h1, h2⟩ := ih (fun c hc => ha c (by simp [hc])) (fun c hc => hb c (by simp [hc])) h.2
      exact ⟨by rw [h.1, h1], h2⟩
theorem txt_inj {r s : Nat} (hr : r ≤ I) (hs : s ≤ I) (h : txt r = txt s) : r = s := by
  by_cases h1 : r = I
  · by_cases h2 : s = I
    · rw [h1, h2]
    · exfalso
      obtain ⟨c, l, e, k⟩ := @txt_head s
      rw [h1] at h
      rw [show txt I = [105, 110, 102] from if_pos rfl, e] at h
      rcases k with k | k
      · exact (notp k).2.2.1 (List.cons.inj h).1.symm
      · exact h2 k.2
  · by_cases h2 : s = I
    · exfalso
      obtain ⟨c, l, e, k⟩ := @txt_head r
      rw [h2] at h
      rw [show txt I = [105, 110, 102] from if_pos rfl, e] at h
      rcases k with k | k
      · exact (notp k).2.2.1 (List.cons.inj h).1
      · exact h1 k.2
    · unfold txt at h
      rw [if_neg h1, if_neg h2] at h
      have nop : ∀ n : Nat, (112 : UInt8) ∈ Lib.decDigits n → False := fun n hm => (notp ((dd n).1 112 hm)).1 rfl
      by_cases w1 : isWh r = true <;> by_cases w2 : isWh s = true
      · rw [if_pos w1, if_pos w2] at h
        have := dd_inj h
        unfold isWh at w1 w2
        simp at w1 w2
        exact U_inj (by rw [← wv_exact.2 w1.2, ← wv_exact.2 w2.2, this])
      · rw [if_pos w1, if_neg w2] at h
        exact (nop (wv r) (by rw [h]; simp)).elim
      · rw [if_neg w1, if_pos w2] at h
        exact (nop (wv s) (by rw [← h]; simp)).elim
      · rw [if_neg w1, if_neg w2] at h
        obtain ⟨e1, e2⟩ := split_dig (dd (mant r)).1 (dd (mant s)).1 (by decide) (by decide) h
        have e3 := dd_inj e1
        have e4 := itoa_inj (List.cons.inj e2).2
        have z : ∀ {r : Nat}, isWh r ≠ true → 0 < r := by
          intro r hw
          rcases Nat.eq_zero_or_pos r with k | k
          · exfalso; apply hw; rw [k]; unfold isWh; rw [U_zero]; simp; exact LIM_pos
          · exact k
        have p1 := (odd_parts (z w1) (by omega)).1
        have p2 := (odd_parts (z w2) (by omega)).1
        unfold expo at e4
        exact U_inj (by rw [p1, p2, e3, show twos (U r) = twos (U s) by omega])
theorem text_inj {a b : Nat} (ha : a < 18446744073709551616) (hb : b < 18446744073709551616) (h : text a = text b) : Eqv a b := by
  unfold text at h
  have hd : ∀ r, txt r ≠ [110, 97, 110] := by
    intro r e
    obtain ⟨c, l, e1, k⟩ := @txt_head r
    rw [e1] at e
    rcases k with k | k
    · exact (notp k).2.2.2 (List.cons.inj e).1
    · rw [k.1] at e; exact absurd (List.cons.inj e).1 (by decide)
  have hm : ∀ r l, txt r ≠ 45 :: l := by
    intro r l e
    obtain ⟨c, l, e1, k⟩ := @txt_head r
    rw [e1] at e
    rcases k with k | k
    · exact (notp k).2.1 (List.cons.inj e).1
    · rw [k.1] at e; exact absurd (List.cons.inj e).1 (by decide)
  cases na : isNaN a <;> cases nb : isNaN b
  · simp only [na, nb, Bool.false_eq_true, if_false] at h
    have ra := isNaN_false.1 na
    have rb := isNaN_false.1 nb
    refine Or.inr ⟨na, nb, ?_⟩
    cases sa : neg a <;> cases sb : neg b <;> rw [sa, sb] at h
    · exact word_ext ha hb (by rw [sa, sb]) (txt_inj ra rb h)
    · exact (hm _ _ h).elim
    · exact (hm _ _ h.symm).elim
    · exact word_ext ha hb (by rw [sa, sb]) (txt_inj ra rb (List.cons.inj h).2)
  · simp only [na, nb, Bool.false_eq_true, if_false, if_true] at h
    cases sa : neg a <;> rw [sa] at h
    · exact (hd _ h).elim
    · exact absurd (List.cons.inj h).1 (by decide)
  · simp only [na, nb, Bool.false_eq_true, if_false, if_true] at h
    cases sb : neg b <;> rw [sb] at h
    · exact (hd _ h.symm).elim
    · exact absurd (List.cons.inj h).1 (by decide)
  · exact Or.inl ⟨na, nb⟩
theorem Eqv.text {a b : Nat} (h : Eqv a b) : text a = text b := by
  rcases h with ⟨h1, h2⟩ | ⟨_, _, h⟩
  · unfold Fl.text; simp only [h1, h2, if_true]
  · rw [h]
theorem same_iff {a b : Nat} (ha : a < 18446744073709551616) (hb : b < 18446744073709551616) : same a b = true ↔ Eqv a b := by
  unfold same cmpS Eqv
  cases na : isNaN a <;> cases nb : isNaN b <;> simp
  rcases Int.lt_trichotomy (val a) (val b) with h | h | h
  · simp [h]; intro e; rw [e] at h; omega
  · have h1 : ¬ val a < val b := by omega
    have h2 : ¬ val b < val a := by omega
    simp only [h1, h2, if_false]
    constructor
    · intro k
      have hn : neg a = neg b := by
        cases sa : neg a <;> cases sb : neg b <;> simp [sa, sb] at k ⊢
      refine word_ext ha hb hn ?_
      unfold val at h
      rw [hn] at h
      apply U_inj
      split at h <;> omega
    · intro k; rw [k]; simp
  · have h1 : ¬ val a < val b := by omega
    simp [h, h1]; intro e; rw [e] at h; omega
end Fl
end Go.Proofs.YtdebbljohlffdaaGreatDoor
