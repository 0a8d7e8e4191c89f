import Derived.Test.YtdebbljohlffdaaGreatDoorNumT
namespace Go.Proofs.YtdebbljohlffdaaGreatDoor
open Go.Shelf Go.RowKit

/-- what 'value' ends in -/
def ValEnd (l : List UInt8) (w : World) (e : Ending) (w' : World) : Prop := ∃ x, e = .returned (.float .f64 x) ∧ Worth l x ∧ Below w.heap.size w w'
theorem list_of (s : ByteArray) : s.toList = s.data.toList := ByteArray.toList_eq s

set_option maxRecDepth 100000 in
set_option maxHeartbeats 1000000 in
theorem value_nan (s : ByteArray) (w : World) (h1 : (s.toList == [110, 97, 110]) = true) :
    Calls Tryz.prog 57 #[.string s] w fun e w' => e = .returned (.float .f64 (nanAns w 0 0)) ∧ w.drew = w' := by
  have hq := run_float_nan (P := Tryz.prog) w .quo 25 0 0 (by simp) (by decide)
  go_enter Tryz.func57, Tryz.ntmps57
  go_wp2_with fail
  go_ret
  exact ⟨rfl, rfl⟩
set_option maxRecDepth 100000 in
set_option maxHeartbeats 1000000 in
theorem value_inf (s : ByteArray) (w : World) (h1 : (s.toList == [110, 97, 110]) = false) (h2 : (s.toList == [105, 110, 102]) = true) (h3 : s.toList.isEmpty = false) (h4 : 0 < s.size) (h5 : ((s[0].toNat : Int) == 45) = false) :
    Calls Tryz.prog 57 #[.string s] w fun e w' => e = .returned (.float .f64 Fl.I) ∧ w = w' := by
  have hq := fun w => run_float_arith (P := Tryz.prog) w .quo 25 .f64 4607182418800017408 0 _ (Fl.one_div_zero (x := 0) (by decide))
  have hI : Fl.D.word (Fl.neg 0) Fl.I = Fl.I := by decide
  rw [hI] at hq
  go_enter Tryz.func57, Tryz.ntmps57
  go_wp2_with fail
  go_ret
  exact ⟨rfl, rfl⟩
set_option maxRecDepth 100000 in
set_option maxHeartbeats 1000000 in
theorem value_neg (s : ByteArray) (l : List UInt8) (w : World) (h1 : (s.toList == [110, 97, 110]) = false) (h3 : s.toList.isEmpty = false) (h4 : 0 < s.size) (h5 : ((s[0].toNat : Int) == 45) = true) (hs : s.size ≤ 100)
    (hl : s.data.toList = 45 :: l) (hr : Calls Tryz.prog 57 #[.string (s.extract 1 s.size)] w (ValEnd l w)) :
    Calls Tryz.prog 57 #[.string s] w (ValEnd s.data.toList w) := by
  have hr := Lib.hid hr
  have hl := Lib.hid hl
  have hop := run_opp
  go_enter Tryz.func57, Tryz.ntmps57
  go_wp2_with fail
  refine hr.out.mono ?_
  rintro e w' ⟨x, rfl, hx, hb⟩
  have hx := Lib.hid hx
  go_wp2_with fail
  go_ret
  exact ⟨_, rfl, by rw [hl.out]; exact worth_neg hx.out, hb⟩
theorem value_c (n : Nat) : ∀ (s : ByteArray) (w : World), s.size ≤ n → s.size ≤ 100 → Calls Tryz.prog 57 #[.string s] w (ValEnd s.data.toList w) := by
  induction n with
  | zero =>
    intro s w h0 hs
    have hz : s.data.toList.length = s.size := by simp
    have hnil : s.data.toList = [] := List.length_eq_zero_iff.1 (by omega)
    have he : s.toList = [] := by rw [list_of]; exact hnil
    refine (value_rest s hs w (by rw [he]; rfl) (by rw [he]; rfl) (Or.inl (by rw [he]; rfl))).mono fun e w' ⟨⟨k, hk, h1⟩, h2⟩ => ?_
    refine ⟨_, h1, worth_rest hk ?_ ?_ ?_, by rw [← h2]; exact Below.refl _ _⟩ <;> rw [hnil] <;> simp
  | succ n ih =>
    intro s w h0 hs
    have hz : s.data.toList.length = s.size := by simp
    rcases Nat.eq_zero_or_pos s.size with hs0 | hs0
    · exact ih s w (by omega) hs
    have hne : s.data.toList ≠ [] := fun e => by rw [e] at hz; simp at hz; omega
    have hemp : s.toList.isEmpty = false := by
      rw [list_of]
      cases e : s.data.toList with
      | nil => exact absurd e hne
      | cons => rfl
    have hhead : s.data.toList = s[0] :: s.data.toList.drop 1 := by
      have := List.drop_eq_getElem_cons (l := s.data.toList) (i := 0) (by omega)
      rw [List.drop_zero] at this
      exact this
    by_cases hn : s.data.toList = [110, 97, 110]
    · have hans := nanAns_nan w 0 0
      refine (value_nan s w (by rw [list_of, hn]; rfl)).mono fun e w' ⟨h1, h2⟩ => ⟨_, h1, ?_, by rw [← h2]; exact (Below.refl _ _).drew⟩
      rw [hn]
      exact worth_nan _ (Fl.isNaN_true.2 hans.1) hans.2
    · have h1 : (s.toList == [110, 97, 110]) = false := by rw [list_of, beq_eq_false_iff_ne]; exact hn
      by_cases hm : s[0] = 45
      · refine value_neg s (s.data.toList.drop 1) w h1 hemp hs0 (by rw [hm]; rfl) hs (by rw [← hm]; exact hhead) ?_
        have := ih (s.extract 1 s.size) w (by rw [ByteArray.size_extract]; omega) (by rw [ByteArray.size_extract]; omega)
        rw [Lib.extract_to_end] at this
        exact this
      · have h5 := ne_u8 s[0] 45 45 rfl hm
        by_cases hi : s.data.toList = [105, 110, 102]
        · refine (value_inf s w h1 (by rw [list_of, hi]; rfl) hemp hs0 h5).mono fun e w' ⟨k1, k2⟩ => ⟨_, k1, ?_, by rw [← k2]; exact Below.refl _ _⟩
          rw [hi]; exact worth_inf
        · have h2 : (s.toList == [105, 110, 102]) = false := by rw [list_of, beq_eq_false_iff_ne]; exact hi
          refine (value_rest s hs w h1 h2 (Or.inr ⟨hemp, hs0, h5⟩)).mono fun e w' ⟨⟨k, hk, k1⟩, k2⟩ => ⟨_, k1, worth_rest hk hn hi ?_, by rw [← k2]; exact Below.refl _ _⟩
          intro r hr
          rw [hhead] at hr
          exact hm (List.cons.inj hr).1

/-- what a reader answers -/
def ParseOk (l : List UInt8) (x : Nat) (c : Int) : Prop := (c = 0 ∧ x < 18446744073709551616 ∧ Fl.text x = l) ∨ (c = 210 ∧ x = 0 ∧ ∀ y, y < 18446744073709551616 → Fl.text y ≠ l)
def ParseEnd (l : List UInt8) (w : World) (e : Ending) (w' : World) : Prop := ∃ x c, e = .returned (.tuple #[.float .f64 x, .int .i64 c]) ∧ ParseOk l x c ∧ Below w.heap.size w w'
theorem ParseOk.yes {l : List UInt8} {x : Nat} (h : Worth l x) (ht : Fl.text x = l) : ParseOk l x 0 := Or.inl ⟨rfl, h.1, ht⟩
theorem ParseOk.no {l : List UInt8} {x : Nat} (h : Worth l x) (ht : Fl.text x ≠ l) : ParseOk l 0 210 :=
  Or.inr ⟨rfl, rfl, fun y hy e => ht ((h.2 y hy e).text.trans e)⟩
theorem ParseOk.long {l : List UInt8} (h : 43 < l.length) : ParseOk l 0 210 :=
  Or.inr ⟨rfl, rfl, fun y _ e => by have := Fl.text_len y; rw [e] at this; omega⟩

set_option maxHeartbeats 1000000 in
theorem refparse_long (s : ByteArray) (w : World) (h : 60 < s.size) (h2 : s.size ≤ 140737488351232) :
    Calls Tryz.prog 30 #[.string s] w fun e w' => e = .returned (.tuple #[.float .f64 0, .int .i64 210]) ∧ w = w' := by
  go_enter Tryz.func30, Tryz.ntmps30
  go_wp2_with fail
  go_ret2
  exact ⟨rfl, rfl⟩
set_option maxHeartbeats 1000000 in
theorem refparse_w (s : ByteArray) (w : World) (h : s.size ≤ 60) : Calls Tryz.prog 30 #[.string s] w (ParseEnd s.data.toList w) := by
  have hv := Lib.hid (value_c s.size s w (Nat.le_refl _) (by omega))
  go_enter Tryz.func30, Tryz.ntmps30
  go_wp2_with fail
  refine hv.out.mono ?_
  rintro e w1 ⟨x, rfl, hx, hb⟩
  have hp := Lib.hid (refprint_c x w1 hx.1)
  have HX := Lib.hid hx
  clear hx
  have fin : ∀ y c w2, ParseOk s.data.toList y c → Below w1.heap.size w1 w2 → ParseEnd s.data.toList w (.returned (.tuple #[.float .f64 y, .int .i64 c])) w2 := fun y c w2 h1 h2 => ⟨y, c, rfl, h1, below2 hb h2⟩
  have fin := Lib.hid fin
  by_cases ht : Fl.text x = s.data.toList
  · have hb1 : (Fl.text x == s.toList) = true := by rw [list_of, beq_iff_eq]; exact ht
    have hend := Lib.hid (ParseOk.yes HX.out ht)
    clear ht
    generalize Fl.text x = l at *
    go_wp2_with fail
    refine hp.out.mono ?_
    rintro e w2 ⟨rfl, hb2⟩
    go_wp2_with fail
    go_ret2
    exact fin.out _ _ _ hend.out hb2
  · have hb1 : (Fl.text x == s.toList) = false := by rw [list_of, beq_eq_false_iff_ne]; exact ht
    have hend := Lib.hid (ParseOk.no HX.out ht)
    clear ht
    generalize Fl.text x = l at *
    go_wp2_with fail
    refine hp.out.mono ?_
    rintro e w2 ⟨rfl, hb2⟩
    go_wp2_with fail
    go_ret2
    exact fin.out _ _ _ hend.out hb2
theorem refparse_c (s : ByteArray) (w : World) (h : s.size ≤ 140737488351232) : Calls Tryz.prog 30 #[.string s] w (ParseEnd s.data.toList w) := by
  by_cases h6 : s.size ≤ 60
  · exact refparse_w s w h6
  · exact (refparse_long s w (by omega) h).mono fun e w' ⟨a, b⟩ => ⟨0, 210, a, ParseOk.long (by simp; omega), by rw [← b]; exact Below.refl _ _⟩
end Go.Proofs.YtdebbljohlffdaaGreatDoor
