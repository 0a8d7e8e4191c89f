import Derived.Test.YtdebbljohlffdaaGreatDoorNumR
namespace Go.Proofs.YtdebbljohlffdaaGreatDoor
open Go.Shelf Go.RowKit

def numVal (l : List UInt8) : Nat := if numOk l then Fl.dval l else 0
def numIs (l : List UInt8) : Bool := numOk l && !l.isEmpty
theorem numVal_lt (l : List UInt8) : numVal l < 10000000000000000 + 1 := by
  unfold numVal
  split
  · rename_i h
    unfold numOk at h
    rw [Bool.and_eq_true, List.all_eq_true] at h
    have h1 := Fl.dval_lt l h.1
    have h2 : l.length ≤ 16 := by simpa using h.2
    have h3 : (10 : Nat) ^ l.length ≤ 10 ^ 16 := Nat.pow_le_pow_right (by decide) h2
    have h4 : (10 : Nat) ^ 16 = 10000000000000000 := by decide
    omega
  · omega
theorem numVal_lt' (l : List UInt8) : numVal l < 10000000000000000 := by
  unfold numVal
  split
  · rename_i h
    unfold numOk at h
    rw [Bool.and_eq_true, List.all_eq_true] at h
    have h1 := Fl.dval_lt l h.1
    have h2 : l.length ≤ 16 := by simpa using h.2
    have h3 : (10 : Nat) ^ l.length ≤ 10 ^ 16 := Nat.pow_le_pow_right (by decide) h2
    have h4 : (10 : Nat) ^ 16 = 10000000000000000 := by decide
    omega
  · omega
theorem number_k (s : ByteArray) (hs : s.size ≤ 1000) (m : Nat) (b : Bool) (hm : numVal s.data.toList = m) (hb : numIs s.data.toList = b) (w : World) :
    Calls Tryz.prog 77 #[.string s] w fun e w' => e = .returned (.tuple #[.int .i64 m, .bool b]) ∧ w = w' := by
  have := number_c s hs w
  have e : NumRes s.data.toList = .tuple #[.int .i64 m, .bool b] := by
    rw [← hm, ← hb]
    unfold NumRes numVal numIs
    split <;> rfl
  rw [e] at this; exact this

/-- the text behind the letter p -/
def expPart (b : List UInt8) : Bool × List UInt8 := match b with | 45 :: r => (true, r) | r => (false, r)
/-- WHAT A TEXT THAT BEGINS WITH NO SIGN AND IS NO WORD IS WORTH -/
def restS (k : Nat) (l : List UInt8) : Nat :=
  if numIs (l.take k) = false ∨ k = l.length then floatOfInt .f64 (numVal (l.take k) : Int)
  else if numIs (expPart (l.drop (k + 1))).2 = false ∨ 1200 < numVal (expPart (l.drop (k + 1))).2 then 0
  else if (expPart (l.drop (k + 1))).1 then Fl.iter Fl.div2 (numVal (expPart (l.drop (k + 1))).2) (floatOfInt .f64 (numVal (l.take k) : Int))
  else if numVal (expPart (l.drop (k + 1))).2 = 0 then Fl.iter Fl.div2 0 (floatOfInt .f64 (numVal (l.take k) : Int))
  else Fl.iter Fl.mul2 (numVal (expPart (l.drop (k + 1))).2) (floatOfInt .f64 (numVal (l.take k) : Int))
/-- where a text's first p stands -/
def PAt (k : Nat) (l : List UInt8) : Prop := k ≤ l.length ∧ (∀ c, c ∈ l.take k → c ≠ 112) ∧ (k = l.length ∨ l[k]? = some 112)

theorem ext_take (s : ByteArray) (k : Nat) : (s.extract 0 k).data.toList = s.data.toList.take k := by
  rw [Lib.extract_data]; simp
theorem PAt.of {s : ByteArray} {k : Nat} (hk : k ≤ s.size) (hA : ∀ c, c ∈ s.data.toList.take k → c ≠ 112) (h : k = s.size ∨ ∃ h : k < s.size, s[k] = 112) : PAt k s.data.toList := by
  have hz : s.data.toList.length = s.size := by simp
  refine ⟨by omega, hA, ?_⟩
  rcases h with h | ⟨h, e⟩
  · exact Or.inl (by omega)
  · refine Or.inr ?_
    rw [List.getElem?_eq_getElem (by omega)]
    exact congrArg some e
theorem ne_u8 (c d : UInt8) (n : Int) (hd : (d.toNat : Int) = n) (h : c ≠ d) : ((c.toNat : Int) == n) = false := by
  rw [beq_eq_false_iff_ne]
  intro e
  exact h (UInt8.toNat_inj.1 (by omega))
theorem exp_neg (s : ByteArray) (k : Nat) (hk : k < s.size) (h : s[k] = 45) : expPart (s.data.toList.drop k) = (true, s.data.toList.drop (k + 1)) := by
  have hz : s.data.toList.length = s.size := by simp
  rw [List.drop_eq_getElem_cons (by omega)]
  have e : s.data.toList[k]'(by omega) = s[k] := rfl
  rw [e, h]; rfl
theorem exp_pos (s : ByteArray) (k : Nat) (h : ∀ hk : k < s.size, s[k] ≠ 45) : expPart (s.data.toList.drop k) = (false, s.data.toList.drop k) := by
  have hz : s.data.toList.length = s.size := by simp
  by_cases hk : k < s.size
  · rw [List.drop_eq_getElem_cons (by omega)]
    have e : s.data.toList[k]'(by omega) = s[k] := rfl
    rw [e]
    have hn := h hk
    unfold expPart
    split
    · rename_i r he; exact absurd (List.cons.inj he).1 hn
    · rfl
  · rw [List.drop_eq_nil_of_le (by omega)]; rfl
/-- what the walk ends in -/
def RestEnd (s : ByteArray) (e : Ending) : Prop := ∃ k, PAt k s.data.toList ∧ e = .returned (.float .f64 (restS k s.data.toList))
theorem beq_u8 (c : UInt8) (n : Nat) (d : UInt8) (hd : d.toNat = n) : ((c.toNat : Int) == (n : Int)) = decide (c = d) := by
  rw [Bool.eq_iff_iff]
  simp only [beq_iff_eq, decide_eq_true_eq]
  constructor
  · intro h; exact UInt8.toNat_inj.1 (by omega)
  · intro h; rw [h, hd]
set_option maxRecDepth 100000 in
set_option maxHeartbeats 4000000 in
theorem value_rest (s : ByteArray) (hs : s.size ≤ 100) (w : World) (h1 : (s.toList == [110, 97, 110]) = false) (h2 : (s.toList == [105, 110, 102]) = false) (h3 : s.toList.isEmpty = true ∨ (s.toList.isEmpty = false ∧ ∃ _ : 0 < s.size, ((s[0].toNat : Int) == 45) = false)) :
    Calls Tryz.prog 57 #[.string s] w fun e w' => RestEnd s e ∧ w = w' := by
  have HZ := Lib.hid (show s.data.toList.length = s.size by simp)
  have fin := fun (k : Nat) (x : Nat) (hk : k ≤ s.size) (hA : ∀ c, c ∈ s.data.toList.take k → c ≠ 112) (h : k = s.size ∨ ∃ h : k < s.size, s[k] = 112) (he : x = restS k s.data.toList) =>
    show RestEnd s (.returned (.float .f64 x)) from ⟨k, PAt.of hk hA h, by rw [he]⟩
  have fin := Lib.hid fin
  rcases h3 with h3 | ⟨h3, h4, h5⟩
  all_goals
    go_enter Tryz.func57, Tryz.ntmps57
    go_wp2_with fail
    go_loop [5] (fun vi => ∃ k : Nat, vi = .int .i64 k ∧ k ≤ s.size ∧ Hid (∀ c, c ∈ s.data.toList.take k → c ≠ 112)) (fun vi => s.size - (intOf vi).toNat)
    case atStart => exact ⟨0, rfl, by omega, by intro c hc; simp at hc⟩
    case round =>
      clear h1 h2
      obtain ⟨k, rfl, hk, hA⟩ := hrel
      by_cases hlt : k < s.size
      · by_cases hp : s[k] = 112
        · have hb : ((s[k].toNat : Int) == 112) = true := by rw [hp]; rfl
          have hb2 : ((s[k].toNat : Int) != 112) = false := by rw [hp]; rfl
          have hee : ((k : Int) == (s.size : Int)) = false := by rw [beq_eq_false_iff_ne]; omega
          have HP := Lib.hid (And.intro hlt hp)
          obtain ⟨m, hm⟩ : ∃ m, numVal (s.data.toList.take k) = m := ⟨_, rfl⟩
          obtain ⟨b, hbb⟩ : ∃ b, numIs (s.data.toList.take k) = b := ⟨_, rfl⟩
          have hml : m < 10000000000000000 := by rw [← hm]; exact numVal_lt' _
          have hN := Lib.hid (number_k (s.extract 0 k) (by rw [ByteArray.size_extract]; omega) m b (by rw [ext_take]; exact hm) (by rw [ext_take]; exact hbb))
          have HM := Lib.hid (And.intro hm hbb)
          clear hp hm hbb
          cases b
          · go_wp2_with (go_at_call 77; refine (hN.out _).mono ?_; rintro e w' ⟨rfl, rfl⟩)
            go_ret
            refine ⟨fin.out k _ hk hA.out (Or.inr ⟨HP.out.1, HP.out.2⟩) ?_, rfl⟩
            unfold restS
            rw [if_pos (Or.inl HM.out.2), HM.out.1]
          · by_cases hm1 : ∃ h : k + 1 < s.size, s[k + 1] = 45
            · obtain ⟨hk1, he1⟩ := hm1
              have hb45 : ((s[k + 1].toNat : Int) == 45) = true := by rw [he1]; rfl
              have HE := Lib.hid (exp_neg s (k + 1) hk1 he1)
              obtain ⟨m2, hm2⟩ : ∃ m, numVal (s.data.toList.drop (k + 2)) = m := ⟨_, rfl⟩
              obtain ⟨b2, hbb2⟩ : ∃ b, numIs (s.data.toList.drop (k + 2)) = b := ⟨_, rfl⟩
              have hm2l : m2 < 10000000000000000 := by rw [← hm2]; exact numVal_lt' _
              have hN2 := Lib.hid (number_k (s.extract (k + 1 + 1) s.size) (by rw [ByteArray.size_extract]; omega) m2 b2 (by rw [Lib.extract_to_end]; exact hm2) (by rw [Lib.extract_to_end]; exact hbb2))
              have HM2 := Lib.hid (And.intro hm2 hbb2)
              clear he1 hm2 hbb2
              have hmw : m < 10000000000000000 := hml
              cases b2
              · go_wp2_with fail
                refine (hN.out _).mono ?_
                rintro e w' ⟨rfl, rfl⟩
                go_wp2_with fail
                refine (hN2.out _).mono ?_
                rintro e w' ⟨rfl, rfl⟩
                go_wp2_with fail
                go_ret
                refine ⟨fin.out k _ hk hA.out (Or.inr ⟨HP.out.1, HP.out.2⟩) ?_, rfl⟩
                unfold restS
                rw [if_neg (by rw [HM.out.2, HZ.out]; simp; omega), if_pos (Or.inl (by rw [HE.out]; exact HM2.out.2))]
              · by_cases h12 : 1200 < m2
                · go_wp2_with fail
                  refine (hN.out _).mono ?_
                  rintro e w' ⟨rfl, rfl⟩
                  go_wp2_with fail
                  refine (hN2.out _).mono ?_
                  rintro e w' ⟨rfl, rfl⟩
                  go_wp2_with fail
                  go_ret
                  refine ⟨fin.out k _ hk hA.out (Or.inr ⟨HP.out.1, HP.out.2⟩) ?_, rfl⟩
                  unfold restS
                  rw [if_neg (by rw [HM.out.2, HZ.out]; simp; omega), if_pos (Or.inr (by rw [HE.out]; show 1200 < numVal (s.data.toList.drop (k + 2)); rw [HM2.out.1]; exact h12))]
                · have hsc := Lib.hid (fun w => scaled_dn m m2 w hml (by omega))
                  go_wp2_with fail
                  refine (hN.out _).mono ?_
                  rintro e w' ⟨rfl, rfl⟩
                  go_wp2_with fail
                  refine (hN2.out _).mono ?_
                  rintro e w' ⟨rfl, rfl⟩
                  go_wp2_with fail
                  refine (hsc.out _).mono ?_
                  rintro e w' ⟨rfl, rfl⟩
                  go_wp2_with fail
                  go_ret
                  refine ⟨fin.out k _ hk hA.out (Or.inr ⟨HP.out.1, HP.out.2⟩) ?_, rfl⟩
                  have q2 : numVal (s.data.toList.drop (k + 1 + 1)) = m2 := HM2.out.1
                  have q3 : numIs (s.data.toList.drop (k + 1 + 1)) = true := HM2.out.2
                  unfold restS
                  rw [if_neg (by rw [HM.out.2, HZ.out]; simp; omega), HE.out]
                  simp only [q2, q3, HM.out.1]
                  rw [if_neg (by simp; omega)]
                  rfl
            · have hq : ∀ hk : k + 1 < s.size, s[k + 1] ≠ 45 := fun h e => hm1 ⟨h, e⟩
              have HE := Lib.hid (exp_pos s (k + 1) hq)
              obtain ⟨m2, hm2⟩ : ∃ m, numVal (s.data.toList.drop (k + 1)) = m := ⟨_, rfl⟩
              obtain ⟨b2, hbb2⟩ : ∃ b, numIs (s.data.toList.drop (k + 1)) = b := ⟨_, rfl⟩
              have hm2l : m2 < 10000000000000000 := by rw [← hm2]; exact numVal_lt' _
              have hN2 := Lib.hid (number_k (s.extract (k + 1) s.size) (by rw [ByteArray.size_extract]; omega) m2 b2 (by rw [Lib.extract_to_end]; exact hm2) (by rw [Lib.extract_to_end]; exact hbb2))
              have HM2 := Lib.hid (And.intro hm2 hbb2)
              have hcase : (¬ k + 1 < s.size) ∨ ∃ _ : k + 1 < s.size, ((s[k + 1].toNat : Int) == 45) = false := by
                by_cases hl : k + 1 < s.size
                · exact Or.inr ⟨hl, ne_u8 _ 45 45 rfl (hq hl)⟩
                · exact Or.inl hl
              clear hq hm1 hm2 hbb2
              have ends : ∀ x, x = restS k s.data.toList → RestEnd s (.returned (.float .f64 x)) := fun x h => fin.out k _ hk hA.out (Or.inr ⟨HP.out.1, HP.out.2⟩) h
              have ends := Lib.hid ends
              rcases hcase with hcase | ⟨hcase, hc45⟩
              all_goals
                cases b2
                · go_wp2_with fail
                  refine (hN.out _).mono ?_
                  rintro e w' ⟨rfl, rfl⟩
                  go_wp2_with fail
                  refine (hN2.out _).mono ?_
                  rintro e w' ⟨rfl, rfl⟩
                  go_wp2_with fail
                  go_ret
                  refine ⟨ends.out _ ?_, rfl⟩
                  unfold restS
                  rw [if_neg (by rw [HM.out.2, HZ.out]; simp; omega), if_pos (Or.inl (by rw [HE.out]; exact HM2.out.2))]
                · by_cases h12 : 1200 < m2
                  · go_wp2_with fail
                    refine (hN.out _).mono ?_
                    rintro e w' ⟨rfl, rfl⟩
                    go_wp2_with fail
                    refine (hN2.out _).mono ?_
                    rintro e w' ⟨rfl, rfl⟩
                    go_wp2_with fail
                    go_ret
                    refine ⟨ends.out _ ?_, rfl⟩
                    unfold restS
                    rw [if_neg (by rw [HM.out.2, HZ.out]; simp; omega), if_pos (Or.inr (by rw [HE.out]; show 1200 < numVal (s.data.toList.drop (k + 1)); rw [HM2.out.1]; exact h12))]
                  · have hsc : ∀ w, Calls Tryz.prog 78 #[.int .i64 m, .int .i64 m2] w fun o w' => o = .returned (.float .f64 (if m2 = 0 then Fl.iter Fl.div2 0 (floatOfInt .f64 (m : Int)) else Fl.iter Fl.mul2 m2 (floatOfInt .f64 (m : Int)))) ∧ w = w' := by
                      intro w
                      by_cases hz : m2 = 0
                      · rw [if_pos hz]
                        have := scaled_dn m 0 w hml (by omega)
                        rw [hz]; exact this
                      · rw [if_neg hz]
                        exact scaled_up m m2 w hml (by omega) (by omega)
                    obtain ⟨y, hy⟩ : ∃ y, y = (if m2 = 0 then Fl.iter Fl.div2 0 (floatOfInt .f64 (m : Int)) else Fl.iter Fl.mul2 m2 (floatOfInt .f64 (m : Int))) := ⟨_, rfl⟩
                    rw [← hy] at hsc
                    have hsc := Lib.hid hsc
                    have HY := Lib.hid hy
                    clear hy
                    go_wp2_with fail
                    refine (hN.out _).mono ?_
                    rintro e w' ⟨rfl, rfl⟩
                    go_wp2_with fail
                    refine (hN2.out _).mono ?_
                    rintro e w' ⟨rfl, rfl⟩
                    go_wp2_with fail
                    refine (hsc.out _).mono ?_
                    rintro e w' ⟨rfl, rfl⟩
                    go_wp2_with fail
                    go_ret
                    refine ⟨ends.out _ ?_, rfl⟩
                    have q2 : numVal (s.data.toList.drop (k + 1)) = m2 := HM2.out.1
                    have q3 : numIs (s.data.toList.drop (k + 1)) = true := HM2.out.2
                    unfold restS
                    rw [if_neg (by rw [HM.out.2, HZ.out]; simp; omega), HE.out]
                    simp only [q2, q3, HM.out.1]
                    rw [if_neg (by simp; omega), HY.out]
                    simp only [Bool.false_eq_true, if_false]
        · have hb : ((s[k].toNat : Int) == 112) = false := ne_u8 s[k] 112 112 rfl hp
          have hb2 : ((s[k].toNat : Int) != 112) = true := by
            have := hb
            simp only [bne, this]; rfl
          have hA2 : ∀ c, c ∈ s.data.toList.take (k + 1) → c ≠ 112 := by
            intro c hc
            rw [take_succ_at s k hlt, List.mem_append] at hc
            rcases hc with hc | hc
            · exact hA.out c hc
            · simp only [List.mem_singleton] at hc; rw [hc]; exact hp
          have hA2 := Lib.hid hA2
          clear hp
          go_wp2_with fail
          go_round
          case rel => exact ⟨k + 1, by go_num, by omega, hA2.out⟩
          case measure => simp [intOf]; omega
      · have hkk : k = s.size := by omega
        have hee : ((k : Int) == (s.size : Int)) = true := by rw [beq_iff_eq]; omega
        obtain ⟨m, hm⟩ : ∃ m, numVal (s.data.toList.take k) = m := ⟨_, rfl⟩
        obtain ⟨b, hbb⟩ : ∃ b, numIs (s.data.toList.take k) = b := ⟨_, rfl⟩
        have hml : m < 10000000000000000 := by rw [← hm]; exact numVal_lt' _
        have hN := Lib.hid (number_k (s.extract 0 k) (by rw [ByteArray.size_extract]; omega) m b (by rw [ext_take]; exact hm) (by rw [ext_take]; exact hbb))
        have HM := Lib.hid (And.intro hm hbb)
        have HK := Lib.hid hkk
        clear hm hbb hkk
        cases b
        all_goals
          go_wp2_with (go_at_call 77; refine (hN.out _).mono ?_; rintro e w' ⟨rfl, rfl⟩)
          go_ret
          refine ⟨fin.out k _ hk hA.out (Or.inl HK.out) ?_, rfl⟩
          unfold restS
          rw [if_pos (Or.inr (by rw [HZ.out]; exact HK.out)), HM.out.1]
end Go.Proofs.YtdebbljohlffdaaGreatDoor
