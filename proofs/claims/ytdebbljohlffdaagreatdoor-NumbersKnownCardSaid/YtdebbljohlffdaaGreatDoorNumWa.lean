import Derived.Test.YtdebbljohlffdaaGreatDoorNumLb
namespace Go.Proofs.YtdebbljohlffdaaGreatDoor
open Go.Shelf Go.RowKit

/-- decDigits, to be worked out -/
def ddl : Nat → Nat → List UInt8 → List UInt8
  | 0, _, l => l
  | k + 1, n, l => if 9 < n then ddl k (n / 10) (UInt8.ofNat (48 + n % 10) :: l) else UInt8.ofNat (48 + n) :: l
theorem ddl_eq : ∀ (k n : Nat) (l : List UInt8), n < 10 ^ k → ddl k n l = Lib.decDigits n ++ l ∨ k = 0
  | 0, _, _, _ => Or.inr rfl
  | k + 1, n, l, h => by
    left
    unfold ddl
    by_cases h9 : 9 < n
    · rw [if_pos h9]
      have e : Lib.decDigits n = Lib.decDigits (n / 10) ++ [UInt8.ofNat (48 + n % 10)] := by
        rw [Lib.decDigits, dif_neg (by omega)]
      have hlt : n / 10 < 10 ^ k := by
        rw [Nat.pow_succ] at h
        omega
      rcases ddl_eq k (n / 10) (UInt8.ofNat (48 + n % 10) :: l) hlt with h1 | h1
      · rw [h1, e, List.append_assoc]; rfl
      · rw [h1] at hlt; simp at hlt; omega
    · rw [if_neg h9, Lib.decDigits_one (by omega)]; rfl
theorem dd_val (k n : Nat) (l : List UInt8) (h : n < 10 ^ (k + 1)) (e : ddl (k + 1) n [] = l) : Lib.decDigits n = l := by
  rcases ddl_eq (k + 1) n [] h with h1 | h1
  · rw [List.append_nil] at h1; rw [← h1, e]
  · cases h1
theorem text_12 : Fl.text 4622945017495814144 = [49, 50] := by
  have h : Fl.text 4622945017495814144 = Lib.decDigits 12 := by
    unfold Fl.text Fl.txt
    rw [if_neg (by decide +kernel), if_neg (by decide +kernel), if_neg (by decide +kernel), if_pos (by decide +kernel), show Fl.wv (Fl.rung 4622945017495814144) = 12 by decide +kernel]
  rw [h]
  exact dd_val 1 12 _ (by decide) (by decide)
theorem text_half : Fl.text 13826050856027422720 = [45, 49, 112, 45, 49] := by
  have h : Fl.text 13826050856027422720 = 45 :: (Lib.decDigits 1 ++ 112 :: 45 :: Lib.decDigits 1) := by
    unfold Fl.text Fl.txt
    rw [if_neg (by decide +kernel), if_pos (by decide +kernel), if_neg (by decide +kernel), if_neg (by decide +kernel), show Fl.mant (Fl.rung 13826050856027422720) = 1 by decide +kernel, show Fl.expo (Fl.rung 13826050856027422720) = -1 by decide +kernel]
    rfl
  rw [h, dd_val 0 1 [49] (by decide) (by decide)]
  rfl
theorem text_3p60 : Fl.text 4884153795883302912 = [51, 112, 54, 48] := by
  have h : Fl.text 4884153795883302912 = Lib.decDigits 3 ++ 112 :: Lib.decDigits 60 := by
    unfold Fl.text Fl.txt
    rw [if_neg (by decide +kernel), if_neg (by decide +kernel), if_neg (by decide +kernel), if_neg (by decide +kernel), show Fl.mant (Fl.rung 4884153795883302912) = 3 by decide +kernel, show Fl.expo (Fl.rung 4884153795883302912) = 60 by decide +kernel]
    rfl
  rw [h, dd_val 0 3 [51] (by decide) (by decide), dd_val 1 60 [54, 48] (by decide) (by decide)]
  rfl
theorem text_third : Fl.text 4599676419421066581 = [54, 48, 48, 52, 55, 57, 57, 53, 48, 51, 49, 54, 48, 54, 54, 49, 112, 45, 53, 52] := by
  have h : Fl.text 4599676419421066581 = Lib.decDigits 6004799503160661 ++ 112 :: 45 :: Lib.decDigits 54 := by
    unfold Fl.text Fl.txt
    rw [if_neg (by decide +kernel), if_neg (by decide +kernel), if_neg (by decide +kernel), if_neg (by decide +kernel), show Fl.mant (Fl.rung 4599676419421066581) = 6004799503160661 by decide +kernel, show Fl.expo (Fl.rung 4599676419421066581) = -54 by decide +kernel]
    rfl
  rw [h, dd_val 15 6004799503160661 [54, 48, 48, 52, 55, 57, 57, 53, 48, 51, 49, 54, 48, 54, 54, 49] (by decide) (by decide +kernel), dd_val 1 54 [53, 52] (by decide) (by decide)]
  rfl
theorem text_one : Fl.text 1 = [49, 112, 45, 49, 48, 55, 52] := by
  have h : Fl.text 1 = Lib.decDigits 1 ++ 112 :: 45 :: Lib.decDigits 1074 := by
    unfold Fl.text Fl.txt
    rw [if_neg (by decide +kernel), if_neg (by decide +kernel), if_neg (by decide +kernel), if_neg (by decide +kernel), show Fl.mant (Fl.rung 1) = 1 by decide +kernel, show Fl.expo (Fl.rung 1) = -1074 by decide +kernel]
    rfl
  rw [h, dd_val 0 1 [49] (by decide) (by decide), dd_val 3 1074 [49, 48, 55, 52] (by decide) (by decide)]
  rfl
/-- what has no sign and is neither nan nor inf is digits, or digits, p, an exponent -/
theorem text_dig {y : Nat} {c : UInt8} {l : List UInt8} (hd : Fl.isDig c = true) (h : Fl.text y = c :: l) : ∃ r, r < Fl.I ∧ (Lib.decDigits (Fl.wv r) = c :: l ∨ (0 < r ∧ Lib.decDigits (Fl.mant r) ++ 112 :: Lib.itoa (Fl.expo r) = c :: l)) := by
  have hn := Fl.notp hd
  rcases text_form y with ⟨_, k2⟩ | ⟨_, _, k3⟩ | ⟨k1, k2, k3⟩
  · rw [k2] at h; exact absurd (List.cons.inj h).1.symm hn.2.2.2
  · rw [k3] at h; exact absurd (List.cons.inj h).1.symm hn.2.1
  · rw [k3] at h
    have hle := Fl.isNaN_false.1 k1
    unfold Fl.txt at h
    split at h
    · exact absurd (List.cons.inj h).1.symm hn.2.2.1
    · rename_i hI
      refine ⟨Fl.rung y, by omega, ?_⟩
      split at h
      · exact Or.inl h
      · rename_i hw
        refine Or.inr ⟨?_, h⟩
        rcases Nat.eq_zero_or_pos (Fl.rung y) with k0 | k0
        · exfalso; apply hw; rw [k0]; unfold Fl.isWh; rw [Fl.U_zero]; simp; exact Fl.LIM_pos
        · exact k0
theorem no_01 (y : Nat) : Fl.text y ≠ [48, 49] := by
  intro h
  obtain ⟨r, hr, k | ⟨h0, k⟩⟩ := text_dig (by decide) h
  · have h2 := (Fl.dd (Fl.wv r)).2.1
    rw [k] at h2
    have : Fl.wv r = 1 := by rw [← h2]; rfl
    rw [this, dd_val 0 1 [49] (by decide) (by decide)] at k
    cases k
  · have : (112 : UInt8) ∈ ([48, 49] : List UInt8) := by rw [← k]; simp
    revert this; decide
theorem no_2p3 (y : Nat) : Fl.text y ≠ [50, 112, 51] := by
  intro h
  obtain ⟨r, hr, k | ⟨h0, k⟩⟩ := text_dig (by decide) h
  · have h2 := (Fl.dd (Fl.wv r)).1 112 (by rw [k]; simp)
    revert h2; decide
  · have hs := Fl.split_dig (a := Lib.decDigits (Fl.mant r)) (b := [50]) (c := 112) (d := 112) (x := Lib.itoa (Fl.expo r)) (y := [51]) (Fl.dd _).1 (by intro c hc; simp at hc; subst hc; decide) (by decide) (by decide) k
    have h2 := (Fl.dd (Fl.mant r)).2.1
    rw [hs.1] at h2
    have h3 : Fl.mant r = 2 := by rw [← h2]; rfl
    have := (Fl.odd_parts h0 hr).2
    rw [h3] at this
    cases this
theorem parse_one {x : Nat} {c : Int} (h : ParseOk [49, 112, 45, 49, 48, 55, 52] x c) : x = 1 ∧ c = 0 := by
  rcases h with ⟨h1, h2, h3⟩ | ⟨_, _, h3⟩
  · rcases Fl.text_inj h2 (show 1 < 18446744073709551616 by decide) (h3.trans text_one.symm) with ⟨_, k⟩ | ⟨_, _, k⟩
    · exact absurd k (by decide)
    · exact ⟨k, h1⟩
  · exact absurd text_one (h3 1 (by decide))
theorem parse_no_01 {x : Nat} {c : Int} (h : ParseOk [48, 49] x c) : c = 210 := by
  rcases h with ⟨h1, h2, h3⟩ | ⟨h1, _, _⟩
  · exact absurd h3 (no_01 x)
  · exact h1
theorem parse_no_2p3 {x : Nat} {c : Int} (h : ParseOk [50, 112, 51] x c) : c = 210 := by
  rcases h with ⟨h1, h2, h3⟩ | ⟨h1, _, _⟩
  · exact absurd h3 (no_2p3 x)
  · exact h1
end Go.Proofs.YtdebbljohlffdaaGreatDoor
