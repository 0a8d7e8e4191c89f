import Derived.Test.YtdebbljohlffdaaGreatDoorNumWc
namespace Go.Proofs.YtdebbljohlffdaaGreatDoor
open Go.Shelf Go.RowKit

theorem ParseOk.both {l : List UInt8} {x y : Nat} {c d : Int} (h : ParseOk l x c) (k : ParseOk l y d) : c = d ∧ Fl.same x y = true := by
  rcases h with ⟨h1, h2, h3⟩ | ⟨h1, h2, h3⟩ <;> rcases k with ⟨k1, k2, k3⟩ | ⟨k1, k2, k3⟩
  · exact ⟨h1.trans k1.symm, same_eqv (Fl.text_inj h2 k2 (h3.trans k3.symm))⟩
  · exact absurd h3 (k3 x h2)
  · exact absurd k3 (h3 y k2)
  · exact ⟨h1.trans k1.symm, by rw [h2, k2]; exact same_self 0⟩
set_option maxHeartbeats 1000000 in
theorem law_parse_long (s : ByteArray) (h : 100 < s.size) (h2 : s.size ≤ 140737488351232) (w : World) (he : Env w) : Calls Tryz.prog 11 #[.string s] w (Yes w) := by
  have h5 := Lib.hid (works_at w he w (Below.refl _ _))
  clear he
  go_enter Tryz.func11, Tryz.ntmps11
  go_wp2_with fail
  refine h5.out.mono ?_
  rintro e w' ⟨rfl, hbl⟩
  go_wp2_with fail
  go_ret
  exact ⟨rfl, hbl⟩
set_option maxHeartbeats 1000000 in
theorem law_parse_short (s : ByteArray) (h : s.size ≤ 100) (w : World) (he : Env w) : Calls Tryz.prog 11 #[.string s] w (Yes w) := by
  have h1 := Lib.hid (parse_c s h w he)
  have h2 := Lib.hid (fun w => refparse_c s w (by omega))
  have h5 := Lib.hid (works_at w he)
  have hpr := Lib.hid (print_at w he)
  clear he
  go_enter Tryz.func11, Tryz.ntmps11
  go_wp2_with fail
  refine h1.out.mono ?_
  rintro e w1 ⟨x, c, rfl, hok, hb1⟩
  have hok := Lib.hid hok
  go_wp2_with fail
  refine (h2.out _).mono ?_
  rintro e w2 ⟨y, d, rfl, hok2, hb2⟩
  obtain ⟨rfl, hs⟩ := hok.out.both hok2
  have h4 := fun w => refsame_c x y w
  rw [hs] at h4
  have h4 := Lib.hid h4
  have hb := Lib.hid (below2 hb1 hb2)
  clear hs hok2
  rcases hok.out with ⟨rfl, hx, ht⟩ | ⟨rfl, rfl, _⟩
  · have hp := Lib.hid (hpr.out x _ hx rfl w2 hb.out)
    have hself : (Fl.text x == s.toList) = true := by rw [list_of, beq_iff_eq]; exact ht
    clear ht hx
    generalize Fl.text x = l at *
    go_wp2_with fail
    refine (h4.out _).mono ?_
    rintro e w' ⟨rfl, rfl⟩
    go_wp2_with fail
    refine hp.out.mono ?_
    rintro e w3 ⟨rfl, hb3⟩
    go_wp2_with fail
    refine (h5.out _ hb3).mono ?_
    rintro e w' ⟨rfl, hbl⟩
    go_wp2_with fail
    go_ret
    exact ⟨rfl, hbl⟩
  · go_wp2_with fail
    refine (h4.out _).mono ?_
    rintro e w' ⟨rfl, rfl⟩
    go_wp2_with fail
    refine (h5.out _ hb.out).mono ?_
    rintro e w' ⟨rfl, hbl⟩
    go_wp2_with fail
    go_ret
    exact ⟨rfl, hbl⟩
theorem law_parse (s : ByteArray) (h : s.size ≤ 140737488351232) (w : World) (he : Env w) : Calls Tryz.prog 11 #[.string s] w (Yes w) := by
  by_cases h1 : s.size ≤ 100
  · exact law_parse_short s h1 w he
  · exact law_parse_long s (by omega) h w he

theorem cmpS_anti (a b : Nat) : Fl.cmpS b a = - Fl.cmpS a b := by
  unfold Fl.cmpS
  cases Fl.isNaN a <;> cases Fl.isNaN b <;> simp
  rcases Int.lt_trichotomy (Fl.val a) (Fl.val b) with h | h | h
  · rw [if_neg (by omega), if_pos h, if_pos h]; rfl
  · rw [h]
    simp
    cases Fl.neg a <;> cases Fl.neg b <;> simp
  · rw [if_pos h, if_neg (by omega), if_pos h]
theorem cmpS_cases (a b : Nat) : Fl.cmpS a b = -1 ∨ Fl.cmpS a b = 0 ∨ Fl.cmpS a b = 1 := by
  unfold Fl.cmpS
  repeat' split
  all_goals simp
/-- where a number stands: nan last, then by size, of two noughts the one below first -/
theorem cmpS_lt {a b : Nat} : Fl.cmpS a b < 0 ↔ Fl.isNaN a = false ∧ (Fl.isNaN b = true ∨ Fl.val a < Fl.val b ∨ (Fl.val a = Fl.val b ∧ Fl.neg a = true ∧ Fl.neg b = false)) := by
  unfold Fl.cmpS
  cases Fl.isNaN a <;> cases Fl.isNaN b <;> simp
  rcases Int.lt_trichotomy (Fl.val a) (Fl.val b) with h | h | h
  · simp [h]
  · rw [h]; simp
    cases Fl.neg a <;> cases Fl.neg b <;> simp
  · rw [if_neg (by omega), if_pos h]
    simp; omega
theorem cmpS_le {a b : Nat} : Fl.cmpS a b ≤ 0 ↔ ¬ Fl.cmpS b a < 0 := by
  rw [cmpS_anti a b]; omega
theorem cmpS_trans {a b c : Nat} (h1 : Fl.cmpS a b ≤ 0) (h2 : Fl.cmpS b c ≤ 0) : Fl.cmpS a c ≤ 0 ∧ (Fl.cmpS a b < 0 → Fl.cmpS a c < 0) := by
  rw [cmpS_le, cmpS_lt] at h1 h2
  rw [cmpS_le, cmpS_lt, cmpS_lt, cmpS_lt]
  cases na : Fl.isNaN a <;> cases nb : Fl.isNaN b <;> cases nc : Fl.isNaN c <;> simp only [na, nb, nc] at * <;> simp at * <;>
    cases ga : Fl.neg a <;> cases gb : Fl.neg b <;> cases gc : Fl.neg c <;> simp only [ga, gb, gc] at * <;> simp at * <;> omega
theorem text_cmp {a b : Nat} (ha : a < 18446744073709551616) (hb : b < 18446744073709551616) : (Fl.text a == Fl.text b) = (Fl.cmpS a b == 0) := by
  have h := Fl.same_iff ha hb
  have e : Fl.same a b = (Fl.cmpS a b == 0) := rfl
  rw [← e]
  cases hs : Fl.same a b
  · rw [beq_eq_false_iff_ne]
    intro k
    have := h.2 (Fl.text_inj ha hb k)
    rw [hs] at this; cases this
  · rw [beq_iff_eq]
    exact (h.1 hs).text
set_option maxHeartbeats 1000000 in
theorem order_walk (a b c : Nat) (x y z : Int) (w : World) (ta tb : List UInt8)
    (hab : ∀ w, Calls Tryz.prog 22 #[.float .f64 a, .float .f64 b] w fun e w' => e = .returned (.int .i64 x) ∧ w = w')
    (hbc : ∀ w, Calls Tryz.prog 22 #[.float .f64 b, .float .f64 c] w fun e w' => e = .returned (.int .i64 y) ∧ w = w')
    (hac : ∀ w, Calls Tryz.prog 22 #[.float .f64 a, .float .f64 c] w fun e w' => e = .returned (.int .i64 z) ∧ w = w')
    (hba : ∀ w, Calls Tryz.prog 22 #[.float .f64 b, .float .f64 a] w fun e w' => e = .returned (.int .i64 (-x)) ∧ w = w')
    (hsm : ∀ w, Calls Tryz.prog 20 #[.float .f64 a, .float .f64 b] w fun e w' => e = .returned (.bool (x == 0)) ∧ w = w')
    (hpa : Calls Tryz.prog 13 #[.float .f64 a] w fun e w' => e = .returned (.string ⟨ta.toArray⟩) ∧ Below w.heap.size w w')
    (hpb : ∀ w', Below w.heap.size w w' → Calls Tryz.prog 13 #[.float .f64 b] w' fun e w'' => e = .returned (.string ⟨tb.toArray⟩) ∧ Below w.heap.size w w'')
    (ht : (ta == tb) = (x == 0)) (h5 : ∀ w', Below w.heap.size w w' → Calls Tryz.prog 12 #[] w' (Yes w))
    (cx : x = -1 ∨ x = 0 ∨ x = 1) (cy : y = -1 ∨ y = 0 ∨ y = 1) (cz : z = -1 ∨ z = 0 ∨ z = 1) (htr : x ≤ 0 → y ≤ 0 → z ≤ 0 ∧ (x < 0 → z < 0)) :
    Calls Tryz.prog 8 #[.float .f64 a, .float .f64 b, .float .f64 c] w (Yes w) := by
  have hab := Lib.hid hab
  have hbc := Lib.hid hbc
  have hac := Lib.hid hac
  have hba := Lib.hid hba
  have hsm := Lib.hid hsm
  have hpa := Lib.hid hpa
  have hpb := Lib.hid hpb
  have h5 := Lib.hid h5
  rcases cx with rfl | rfl | rfl <;> rcases cy with rfl | rfl | rfl <;> rcases cz with rfl | rfl | rfl
  all_goals first
    | (exfalso; have := htr (by decide) (by decide); revert this; decide)
    | (clear htr
       go_enter Tryz.func8, Tryz.ntmps8
       go_wp2_with fail
       refine (hab.out _).mono ?_
       rintro e w' ⟨rfl, rfl⟩
       go_wp2_with fail
       refine (hbc.out _).mono ?_
       rintro e w' ⟨rfl, rfl⟩
       go_wp2_with fail
       refine (hac.out _).mono ?_
       rintro e w' ⟨rfl, rfl⟩
       go_wp2_with fail
       refine (hba.out _).mono ?_
       rintro e w' ⟨rfl, rfl⟩
       go_wp2_with fail
       refine hpa.out.mono ?_
       rintro e w1 ⟨rfl, hb1⟩
       go_wp2_with fail
       refine (hpb.out _ hb1).mono ?_
       rintro e w2 ⟨rfl, hb2⟩
       go_wp2_with fail
       refine (hsm.out _).mono ?_
       rintro e w' ⟨rfl, rfl⟩
       go_wp2_with fail
       refine (h5.out _ hb2).mono ?_
       rintro e w' ⟨rfl, hbl⟩
       go_wp2_with fail
       go_ret
       exact ⟨rfl, hbl⟩)
theorem law_order (a b c : Nat) (ha : a < 18446744073709551616) (hb : b < 18446744073709551616) (hc : c < 18446744073709551616) (w : World) (he : Env w) : Calls Tryz.prog 8 #[.float .f64 a, .float .f64 b, .float .f64 c] w (Yes w) :=
  order_walk a b c (Fl.cmpS a b) (Fl.cmpS b c) (Fl.cmpS a c) w (Fl.text a) (Fl.text b) (fun w => compare_c a b w ha hb) (fun w => compare_c b c w hb hc) (fun w => compare_c a c w ha hc)
    (fun w => by rw [← cmpS_anti]; exact compare_c b a w hb ha) (fun w => same_c a b w ha hb) (print_c a w ha he) (print_at w he b _ hb rfl) (text_cmp ha hb) (works_at w he)
    (cmpS_cases a b) (cmpS_cases b c) (cmpS_cases a c) (fun h1 h2 => cmpS_trans h1 h2)
end Go.Proofs.YtdebbljohlffdaaGreatDoor
