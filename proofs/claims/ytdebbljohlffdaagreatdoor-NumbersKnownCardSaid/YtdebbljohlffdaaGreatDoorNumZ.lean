import Derived.Test.YtdebbljohlffdaaGreatDoorNumY
namespace Go.Proofs.YtdebbljohlffdaaGreatDoor
open Go.Shelf Go.RowKit

theorem pu10 : ∀ (l : List UInt8) (acc : Nat), (∀ c, c ∈ l → Fl.isDig c = true) → l.foldl (fun a c => a * 10 + (c.toNat - 48)) acc < 18446744073709551616 → Lib.parseUint10 acc l = .ok (l.foldl (fun a c => a * 10 + (c.toNat - 48)) acc)
  | [], acc, _, _ => rfl
  | c :: r, acc, hd, hl => by
    have hc := hd c (by simp)
    unfold Fl.isDig at hc
    simp at hc
    have mono : ∀ (l : List UInt8) (a : Nat), a ≤ l.foldl (fun a c => a * 10 + (c.toNat - 48)) a := by
      intro l
      induction l with
      | nil => intro a; exact Nat.le_refl _
      | cons d t ih => intro a; rw [List.foldl_cons]; exact Nat.le_trans (by omega) (ih _)
    rw [List.foldl_cons] at hl ⊢
    have := mono r (acc * 10 + (c.toNat - 48))
    unfold Lib.parseUint10
    rw [if_pos hc, if_neg (by omega), if_neg (by omega)]
    exact pu10 r _ (fun d h => hd d (List.mem_cons_of_mem _ h)) hl
theorem pm_dd {n : Nat} (h : n < 18446744073709551616) : Lib.parseMag (Lib.decDigits n) = .ok n := by
  obtain ⟨h1, h2, h3⟩ := Fl.dd n
  unfold Lib.parseMag
  rw [if_neg (fun e => by rw [e] at h3; simp at h3)]
  have := pu10 (Lib.decDigits n) 0 h1 (by unfold Fl.dval at h2; rw [h2]; exact h)
  rw [this]
  unfold Fl.dval at h2
  rw [h2]
theorem dig_ne {c : UInt8} (h : Fl.isDig c = true) : ¬ (c.toNat = 43 ∨ c.toNat = 45) := by
  unfold Fl.isDig at h
  simp at h
  omega
theorem atoi_itoa {e : Int} (h : e.natAbs < 9223372036854775808) : Lib.atoiAll (Lib.itoa e) = .ok e := by
  unfold Lib.itoa
  by_cases h0 : e < 0
  · rw [if_pos h0]
    have hp := pm_dd (n := e.natAbs) (by omega)
    have hs : (45 : UInt8).toNat = 45 := rfl
    unfold Lib.atoiAll
    simp only [hs, or_true, if_true, hp, not_true_eq_false, false_and, if_false, true_and]
    rw [if_neg (by omega)]
    exact congrArg _ (by omega)
  · rw [if_neg h0]
    have hp := pm_dd (n := e.toNat) (by omega)
    obtain ⟨c, l, h1, h2⟩ := Fl.dd_head e.toNat
    have hn := dig_ne h2
    have hn2 : c.toNat ≠ 45 := fun k => hn (Or.inr k)
    rw [h1] at hp
    rw [h1]
    unfold Lib.atoiAll
    have hn3 : c.toNat ≠ 43 := fun k => hn (Or.inl k)
    simp only [hn3, false_or, if_false, hn2, not_false_eq_true, true_and, false_and]
    rw [hp]
    dsimp only
    rw [if_neg (by omega)]
    exact congrArg _ (by omega)
theorem ib_skip : ∀ (a : List UInt8) (b : List UInt8), (∀ c, c ∈ a → c ≠ 112) → Lib.indexByte (a ++ 112 :: b) 112 = (a.length : Int)
  | [], b, _ => rfl
  | c :: r, b, h => by
    have hc := h c (by simp)
    have ih := ib_skip r b (fun d hd => h d (List.mem_cons_of_mem _ hd))
    rw [List.cons_append]
    unfold Lib.indexByte
    rw [ih, if_neg (by simpa using hc)]
    simp
theorem ib_no : ∀ (a : List UInt8), (∀ c, c ∈ a → c ≠ 112) → Lib.indexByte a 112 = -1
  | [], _ => rfl
  | c :: r, h => by
    have hc := h c (by simp)
    have ih := ib_no r (fun d hd => h d (List.mem_cons_of_mem _ hd))
    unfold Lib.indexByte
    rw [ih, if_neg (by simpa using hc)]
    simp
theorem cut_p (a b : List UInt8) (h : ∀ c, c ∈ a → c ≠ 112) : Lib.cut (a ++ 112 :: b) [112] = (a, b, true) := by
  unfold Lib.cut
  rw [Lib.index_one, ib_skip a b h, if_pos (by omega)]
  simp
theorem cut_no (a : List UInt8) (h : ∀ c, c ∈ a → c ≠ 112) : Lib.cut a [112] = (a, [], false) := by
  unfold Lib.cut
  rw [Lib.index_one, ib_no a h, if_neg (by omega)]

/-- WHAT A TEXT IS CUT INTO, where it is one's -/
def CutOk (T m e : List UInt8) (some : Bool) : Prop := ∀ r, r ≤ Fl.I → Fl.txt r = T → PuGood m ∧ (some = false → ∀ x, Fl.LdOk (Fl.dval m) 0 x → x = r) ∧
  (some = true → ∃ k, Lib.atoiAll e = .ok k ∧ -2000 ≤ k ∧ k ≤ 2000 ∧ ∀ x, Fl.LdOk (Fl.dval m) k x → x = r)
theorem cut_ok {T m e : List UInt8} {b : Bool} (hc : Lib.cut T [112] = (m, e, b)) (hi : T ≠ [105, 110, 102]) : CutOk T m e b := by
  intro r hr ht
  have hne : r ≠ Fl.I := fun k => hi (by rw [← ht, k]; unfold Fl.txt; rw [if_pos rfl])
  have hlt : r < Fl.I := by omega
  unfold Fl.txt at ht
  rw [if_neg hne] at ht
  by_cases hw : Fl.isWh r = true
  · rw [if_pos hw] at ht
    have hw2 := hw
    unfold Fl.isWh at hw2
    simp at hw2
    have hlw := Fl.wv_lt hw2.1
    obtain ⟨d1, d2, d3⟩ := Fl.dd (Fl.wv r)
    rw [← ht, cut_no _ (fun c h => (Fl.notp (d1 c h)).1)] at hc
    obtain ⟨rfl, h⟩ := Prod.mk.inj hc
    obtain ⟨rfl, rfl⟩ := Prod.mk.inj h
    refine ⟨⟨fun k => by rw [k] at d3; simp at d3, d1, by rw [d2, PuMax_eq]; omega⟩, fun _ x hx => ?_, fun k => by cases k⟩
    refine hx.2 r 0 0 hlt (by simp) ?_
    rw [d2]
    simp
    exact (Fl.wv_exact.2 hw2.2).symm
  · rw [if_neg hw] at ht
    have h0 : 0 < r := by
      rcases Nat.eq_zero_or_pos r with k0 | k0
      · exfalso; apply hw; rw [k0]; unfold Fl.isWh; rw [Fl.U_zero]; simp; exact Fl.LIM_pos
      · exact k0
    obtain ⟨m1, m2, m3⟩ := Fl.mant_lt h0 hlt
    obtain ⟨d1, d2, d3⟩ := Fl.dd (Fl.mant r)
    rw [← ht, cut_p _ _ (fun c h => (Fl.notp (d1 c h)).1)] at hc
    obtain ⟨rfl, h⟩ := Prod.mk.inj hc
    obtain ⟨rfl, rfl⟩ := Prod.mk.inj h
    refine ⟨⟨fun k => by rw [k] at d3; simp at d3, d1, by rw [d2, PuMax_eq]; omega⟩, fun k => absurd k (by decide), fun _ => ⟨Fl.expo r, atoi_itoa (by omega), by omega, by omega, fun x hx => ?_⟩⟩
    refine hx.2 r (Fl.twos (Fl.U r)) Fl.K hlt ?_ ?_
    · unfold Fl.expo; rw [Fl.K_eq]; rfl
    · rw [d2]
      conv => lhs; rw [(Fl.odd_parts h0 hlt).1]
      rw [Fl.ONE_eq, Nat.mul_assoc, Nat.mul_assoc, Nat.mul_comm (2 ^ Fl.twos (Fl.U r))]
/-- the sign put back -/
theorem worth_sign {T l : List UInt8} {x : Nat} (b : Bool) (hl : l = if b then 45 :: T else T) (hT : b = false → ∀ r, T ≠ 45 :: r) (hx : x < 18446744073709551616) (hn : T ≠ [110, 97, 110])
    (h : ∀ r, r ≤ Fl.I → Fl.txt r = T → x = r) : Worth l (if b then Fl.opp x else x) := by
  have hw : b = false → Worth l x := by
    intro hb
    rw [hb] at hl
    simp at hl
    refine ⟨hx, fun y hy ht => ?_⟩
    rw [hl] at ht
    rcases text_form y with ⟨_, k2⟩ | ⟨_, _, k3⟩ | ⟨k1, k2, k3⟩
    · exact absurd (ht.symm.trans k2) hn
    · exact absurd (ht.symm.trans k3) (hT hb _)
    · rw [k3] at ht
      have hle := Fl.isNaN_false.1 k1
      have e := h _ hle ht
      have : x = y := by
        rw [e]
        have hI : Fl.I = 9218868437227405312 := rfl
        exact Fl.word_ext (by omega) hy (by rw [k2]; exact Fl.neg_self hle) (Fl.rung_self hle)
      exact Or.inr ⟨by rw [this]; exact k1, k1, this⟩
  cases b
  · simpa using hw rfl
  · simp at hl ⊢
    refine ⟨Fl.opp_lt hx, fun y hy ht => ?_⟩
    rw [hl] at ht
    rcases text_form y with ⟨_, k2⟩ | ⟨k1, k2, k3⟩ | ⟨k1, k2, k3⟩
    · rw [k2] at ht; exact absurd (List.cons.inj ht).1 (by decide)
    · rw [k3] at ht
      have hle := Fl.isNaN_false.1 k1
      have e := h _ hle (List.cons.inj ht).2
      have hI : Fl.I = 9218868437227405312 := rfl
      have : Fl.opp x = y := by
        refine Fl.word_ext (Fl.opp_lt hx) hy ?_ ?_
        · rw [Fl.opp_neg, e, Fl.neg_self hle, k2]; rfl
        · rw [Fl.opp_rung, e]; exact Fl.rung_self hle
      exact Or.inr ⟨by rw [this]; exact k1, k1, this⟩
    · rw [k3] at ht
      obtain ⟨c, l', e, k⟩ := @Fl.txt_head (Fl.rung y)
      rw [e] at ht
      rcases k with k | k
      · exact absurd (List.cons.inj ht).1 (Fl.notp k).2.1
      · rw [k.1] at ht; exact absurd (List.cons.inj ht).1 (by decide)
theorem no_sign {T l : List UInt8} (b : Bool) (hl : l = if b then 45 :: T else T) (hT : b = false → ∀ r, T ≠ 45 :: r) (hn : T ≠ [110, 97, 110])
    (h : ∀ r, r ≤ Fl.I → Fl.txt r ≠ T) : ∀ y, y < 18446744073709551616 → Fl.text y ≠ l := by
  intro y hy ht
  have h1 := (worth_sign (x := 0) b hl hT (by omega) hn (fun r h1 h2 => absurd h2 (h r h1))).2 y hy ht
  have h2 := (worth_sign (x := 1) b hl hT (by omega) hn (fun r h1 h2 => absurd h2 (h r h1))).2 y hy ht
  cases b
  · simp at h1 h2
    rcases h1 with ⟨k, _⟩ | ⟨_, _, k⟩
    · revert k; decide
    · rcases h2 with ⟨k2, _⟩ | ⟨_, _, k2⟩
      · revert k2; decide
      · omega
  · simp at h1 h2
    rcases h1 with ⟨k, _⟩ | ⟨_, _, k⟩
    · revert k; decide
    · rcases h2 with ⟨k2, _⟩ | ⟨_, _, k2⟩
      · revert k2; decide
      · rw [← k2] at k; revert k; decide
theorem strip (l : List UInt8) : l = (if Lib.hasPrefix l [45] then 45 :: Lib.trimPrefix l [45] else Lib.trimPrefix l [45]) ∧ (Lib.hasPrefix l [45] = false → ∀ r, Lib.trimPrefix l [45] ≠ 45 :: r) := by
  unfold Lib.trimPrefix Lib.hasPrefix
  cases l with
  | nil => simp
  | cons c r =>
    by_cases hc : c = 45
    · subst hc
      simp [List.isPrefixOf]
    · have h2 : ¬ (45 : UInt8) = c := fun k => hc k.symm
      simp [List.isPrefixOf, hc, h2]
theorem ParseOk.none {l : List UInt8} (h : ∀ y, y < 18446744073709551616 → Fl.text y ≠ l) : ParseOk l 0 210 := Or.inr ⟨rfl, rfl, h⟩
end Go.Proofs.YtdebbljohlffdaaGreatDoor
