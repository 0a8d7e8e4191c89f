import Derived.Test.YtdebbljohlffdaaGreatDoorNumZ
namespace Go.Proofs.YtdebbljohlffdaaGreatDoor
open Go.Shelf Go.RowKit

set_option maxHeartbeats 1000000 in
theorem parse_nan (s : ByteArray) (w : World) (b : Bool) (X : Nat) (hT : Lib.trimPrefix s.data.toList [45] = [110, 97, 110]) (hb : Lib.hasPrefix s.data.toList [45] = b) (he : Env w)
    (hX : (if b then Fl.opp 9221120237041090561 else 9221120237041090561) = X) (hW : Worth s.data.toList X) :
    Calls Tryz.prog 14 #[.string s] w (ParseEnd s.data.toList w) := by
  have hc := Lib.hid (Tryz.strings_CutPrefix s ⟨#[45]⟩ w)
  rw [show (⟨#[45]⟩ : ByteArray).data.toList = [45] from rfl, hT, hb] at hc
  have hop := run_opp
  have hn := Lib.hid (nanv_c w)
  have hp := Lib.hid (print_c X w hW.1 he)
  have ht : (Fl.text X = s.data.toList ∧ ParseOk s.data.toList X 0) ∨ (Fl.text X ≠ s.data.toList ∧ ParseOk s.data.toList 0 210) := by
    by_cases ht : Fl.text X = s.data.toList
    · exact Or.inl ⟨ht, .yes hW ht⟩
    · exact Or.inr ⟨ht, .no hW ht⟩
  clear hW hT hb he
  rcases ht with ⟨ht, hend⟩ | ⟨ht, hend⟩
  · have hend := Lib.hid hend
    have hb1 : (Fl.text X == s.toList) = true := by rw [list_of, beq_iff_eq]; exact ht
    clear ht
    cases b
    all_goals
      simp only [if_true, if_false, Bool.false_eq_true] at hX
      subst hX
      generalize Fl.text _ = l at *
      go_enter Tryz.func14, Tryz.ntmps14
      go_wp2_with (first | (go_at_call 37; refine hc.out.mono ?_; rintro e w' ⟨rfl, rfl⟩) | (go_at_call 38; refine hn.out.mono ?_; rintro e w' ⟨rfl, rfl⟩) | (go_at_call 13; refine hp.out.mono ?_; rintro e w' ⟨rfl, hbl⟩))
      go_ret2
      exact ⟨_, _, rfl, hend.out, hbl⟩
  · have hend := Lib.hid hend
    have hb1 : (Fl.text X == s.toList) = false := by rw [list_of, beq_eq_false_iff_ne]; exact ht
    clear ht
    cases b
    all_goals
      simp only [if_true, if_false, Bool.false_eq_true] at hX
      subst hX
      generalize Fl.text _ = l at *
      go_enter Tryz.func14, Tryz.ntmps14
      go_wp2_with (first | (go_at_call 37; refine hc.out.mono ?_; rintro e w' ⟨rfl, rfl⟩) | (go_at_call 38; refine hn.out.mono ?_; rintro e w' ⟨rfl, rfl⟩) | (go_at_call 13; refine hp.out.mono ?_; rintro e w' ⟨rfl, hbl⟩))
      go_ret2
      exact ⟨_, _, rfl, hend.out, hbl⟩
set_option maxHeartbeats 1000000 in
theorem parse_inf (s : ByteArray) (w : World) (b : Bool) (X : Nat) (hT : Lib.trimPrefix s.data.toList [45] = [105, 110, 102]) (hb : Lib.hasPrefix s.data.toList [45] = b) (he : Env w)
    (hX : (if b then Fl.opp Fl.I else Fl.I) = X) (hW : Worth s.data.toList X) :
    Calls Tryz.prog 14 #[.string s] w (ParseEnd s.data.toList w) := by
  have hc := Lib.hid (Tryz.strings_CutPrefix s ⟨#[45]⟩ w)
  rw [show (⟨#[45]⟩ : ByteArray).data.toList = [45] from rfl, hT, hb] at hc
  have hop := run_opp
  have hn := Lib.hid (inf_c w)
  have hp := Lib.hid (print_c X w hW.1 he)
  have ht : (Fl.text X = s.data.toList ∧ ParseOk s.data.toList X 0) ∨ (Fl.text X ≠ s.data.toList ∧ ParseOk s.data.toList 0 210) := by
    by_cases ht : Fl.text X = s.data.toList
    · exact Or.inl ⟨ht, .yes hW ht⟩
    · exact Or.inr ⟨ht, .no hW ht⟩
  clear hW hT hb he
  rcases ht with ⟨ht, hend⟩ | ⟨ht, hend⟩
  · have hend := Lib.hid hend
    have hb1 : (Fl.text X == s.toList) = true := by rw [list_of, beq_iff_eq]; exact ht
    clear ht
    cases b
    all_goals
      simp only [if_true, if_false, Bool.false_eq_true] at hX
      subst hX
      generalize Fl.text _ = l at *
      go_enter Tryz.func14, Tryz.ntmps14
      go_wp2_with (first | (go_at_call 37; refine hc.out.mono ?_; rintro e w' ⟨rfl, rfl⟩) | (go_at_call 39; refine hn.out.mono ?_; rintro e w' ⟨rfl, rfl⟩) | (go_at_call 13; refine hp.out.mono ?_; rintro e w' ⟨rfl, hbl⟩))
      go_ret2
      exact ⟨_, _, rfl, hend.out, hbl⟩
  · have hend := Lib.hid hend
    have hb1 : (Fl.text X == s.toList) = false := by rw [list_of, beq_eq_false_iff_ne]; exact ht
    clear ht
    cases b
    all_goals
      simp only [if_true, if_false, Bool.false_eq_true] at hX
      subst hX
      generalize Fl.text _ = l at *
      go_enter Tryz.func14, Tryz.ntmps14
      go_wp2_with (first | (go_at_call 37; refine hc.out.mono ?_; rintro e w' ⟨rfl, rfl⟩) | (go_at_call 39; refine hn.out.mono ?_; rintro e w' ⟨rfl, rfl⟩) | (go_at_call 13; refine hp.out.mono ?_; rintro e w' ⟨rfl, hbl⟩))
      go_ret2
      exact ⟨_, _, rfl, hend.out, hbl⟩
end Go.Proofs.YtdebbljohlffdaaGreatDoor
