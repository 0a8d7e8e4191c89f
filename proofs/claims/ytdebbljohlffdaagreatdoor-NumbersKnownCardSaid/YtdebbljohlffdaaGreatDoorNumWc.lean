import Derived.Test.YtdebbljohlffdaaGreatDoorNumWb
namespace Go.Proofs.YtdebbljohlffdaaGreatDoor
open Go.Shelf Go.RowKit

/-- how a law ends -/
def Yes (w : World) (e : Ending) (w' : World) : Prop := e = .returned (.bool true) ∧ Below w.heap.size w w'
theorem cmpS_self (a : Nat) : Fl.cmpS a a = 0 := by
  unfold Fl.cmpS
  cases Fl.isNaN a <;> simp
theorem cmpS_nans {a b : Nat} (ha : Fl.isNaN a = true) (hb : Fl.isNaN b = true) : Fl.cmpS a b = 0 := by
  unfold Fl.cmpS
  rw [ha, hb]; rfl
theorem same_self (a : Nat) : Fl.same a a = true := by
  unfold Fl.same
  rw [cmpS_self]; rfl
theorem same_nans {a b : Nat} (ha : Fl.isNaN a = true) (hb : Fl.isNaN b = true) : Fl.same a b = true := by
  unfold Fl.same
  rw [cmpS_nans ha hb]; rfl
theorem same_eqv {a b : Nat} (h : Fl.Eqv a b) : Fl.same a b = true := by
  rcases h with ⟨h1, h2⟩ | ⟨_, _, h⟩
  · exact same_nans h1 h2
  · rw [h]; exact same_self b
/-- works, later -/
theorem works_at (w : World) (he : Env w) (w' : World) (hb : Below w.heap.size w w') : Calls Tryz.prog 12 #[] w' (Yes w) :=
  (works_c w' (he.below hb)).mono fun _ _ ⟨h1, h2⟩ => ⟨h1, below2 hb h2⟩

set_option maxHeartbeats 1000000 in
theorem law_compare (a b : Nat) (ha : a < 18446744073709551616) (hb : b < 18446744073709551616) (w : World) (he : Env w) : Calls Tryz.prog 7 #[.float .f64 a, .float .f64 b] w (Yes w) := by
  have h1 := Lib.hid (fun w => compare_c a b w ha hb)
  have h2 := Lib.hid (fun w => refcompare_c a b w)
  have h3 := Lib.hid (fun w => same_c a b w ha hb)
  have h4 := Lib.hid (fun w => refsame_c a b w)
  have h5 := Lib.hid (works_at w he w (Below.refl _ _))
  clear ha hb he
  generalize Fl.cmpS a b = k at *
  generalize Fl.same a b = s at *
  have e1 : (k == k) = true := by simp
  have e2 : (s == s) = true := by simp
  go_enter Tryz.func7, Tryz.ntmps7
  go_wp2_with (first | (go_at_call 22; refine (h1.out _).mono ?_; rintro e w' ⟨rfl, rfl⟩) | (go_at_call 23; refine (h2.out _).mono ?_; rintro e w' ⟨rfl, rfl⟩) | (go_at_call 20; refine (h3.out _).mono ?_; rintro e w' ⟨rfl, rfl⟩) | (go_at_call 16; refine (h4.out _).mono ?_; rintro e w' ⟨rfl, rfl⟩) | (go_at_call 12; refine h5.out.mono ?_; rintro e w' ⟨rfl, hbl⟩))
  go_ret
  exact ⟨rfl, hbl⟩
/-- what Do answers -/
def DoAns (n : Int) (a b x : Nat) (ok : Bool) : Prop := (opOf n = none ∧ x = 0 ∧ ok = false) ∨ (ok = true ∧ ∃ o, opOf n = some o ∧ (floatBits o .f64 a b = some x ∨ (floatBits o .f64 a b = none ∧ Fl.isNaN x = true ∧ x < 18446744073709551616)))
theorem lit_lt {x : Nat} (h : (Lit.float .f64 x).wf = true) : x < 18446744073709551616 := by
  simpa [Lit.wf] using h
theorem DoAns.lt {n : Int} {a b x : Nat} {p : Bool} (h : DoAns n a b x p) : x < 18446744073709551616 := by
  rcases h with ⟨_, h2, _⟩ | ⟨_, o, _, h3 | ⟨_, _, h3⟩⟩
  · omega
  · exact lit_lt (floatBits_wf h3)
  · exact h3
theorem DoAns.both {n : Int} {a b x y : Nat} {p q : Bool} (h : DoAns n a b x p) (k : DoAns n a b y q) : p = q ∧ Fl.same x y = true := by
  rcases h with ⟨h1, h2, h3⟩ | ⟨h1, o, h2, h3⟩
  · rcases k with ⟨k1, k2, k3⟩ | ⟨k1, o, k2, k3⟩
    · subst h2 k2; exact ⟨h3.trans k3.symm, same_self 0⟩
    · rw [h1] at k2; cases k2
  · rcases k with ⟨k1, k2, k3⟩ | ⟨k1, o', k2, k3⟩
    · rw [h2] at k1; cases k1
    · rw [h2] at k2
      cases k2
      refine ⟨h1.trans k1.symm, ?_⟩
      rcases h3 with h3 | ⟨h3, h4, _⟩ <;> rcases k3 with k3 | ⟨k3, k4, _⟩
      · rw [h3] at k3; cases k3; exact same_self x
      · rw [h3] at k3; cases k3
      · rw [h3] at k3; cases k3
      · exact same_nans h4 k4
theorem do19 (n : Int) (a b : Nat) (w : World) : Calls Tryz.prog 24 #[.int .u8 n, .float .f64 a, .float .f64 b] w fun e w' => ∃ x ok, e = .returned (.tuple #[.float .f64 x, .bool ok]) ∧ DoAns n a b x ok ∧ Below w.heap.size w w' := by
  cases ho : opOf n with
  | none => exact (do_none19 n a b w ho).mono fun e w' ⟨h1, h2⟩ => ⟨0, false, h1, Or.inl ⟨ho, rfl, rfl⟩, by rw [← h2]; exact Below.refl _ _⟩
  | some o =>
    cases h : floatBits o .f64 a b with
    | none => exact (do_nan19 n a b o w ho h).mono fun e w' ⟨h1, h2⟩ => ⟨_, true, h1, Or.inr ⟨rfl, o, ho, Or.inr ⟨h, Fl.isNaN_true.2 (nanAns_nan w a b).1, (nanAns_nan w a b).2⟩⟩, by rw [← h2]; exact (Below.refl _ _).drew⟩
    | some r => exact (do_ok19 n a b r o w ho h).mono fun e w' ⟨h1, h2⟩ => ⟨r, true, h1, Or.inr ⟨rfl, o, ho, Or.inl h⟩, by rw [← h2]; exact Below.refl _ _⟩
theorem do20 (n : Int) (a b : Nat) (w : World) : Calls Tryz.prog 25 #[.int .u8 n, .float .f64 a, .float .f64 b] w fun e w' => ∃ x ok, e = .returned (.tuple #[.float .f64 x, .bool ok]) ∧ DoAns n a b x ok ∧ Below w.heap.size w w' := by
  cases ho : opOf n with
  | none => exact (do_none20 n a b w ho).mono fun e w' ⟨h1, h2⟩ => ⟨0, false, h1, Or.inl ⟨ho, rfl, rfl⟩, by rw [← h2]; exact Below.refl _ _⟩
  | some o =>
    cases h : floatBits o .f64 a b with
    | none => exact (do_nan20 n a b o w ho h).mono fun e w' ⟨h1, h2⟩ => ⟨_, true, h1, Or.inr ⟨rfl, o, ho, Or.inr ⟨h, Fl.isNaN_true.2 (nanAns_nan w a b).1, (nanAns_nan w a b).2⟩⟩, by rw [← h2]; exact (Below.refl _ _).drew⟩
    | some r => exact (do_ok20 n a b r o w ho h).mono fun e w' ⟨h1, h2⟩ => ⟨r, true, h1, Or.inr ⟨rfl, o, ho, Or.inl h⟩, by rw [← h2]; exact Below.refl _ _⟩
set_option maxHeartbeats 1000000 in
theorem law_do (n : Int) (a b : Nat) (w : World) (he : Env w) : Calls Tryz.prog 9 #[.int .u8 n, .float .f64 a, .float .f64 b] w (Yes w) := by
  have h1 := Lib.hid (do19 n a b w)
  have h2 := Lib.hid (fun w => do20 n a b w)
  have h5 := Lib.hid (works_at w he)
  clear he
  go_enter Tryz.func9, Tryz.ntmps9
  go_wp2_with fail
  refine h1.out.mono ?_
  rintro e w1 ⟨x, p, rfl, ha1, hb1⟩
  have ha1 := Lib.hid ha1
  go_wp2_with fail
  refine (h2.out _).mono ?_
  rintro e w2 ⟨y, q, rfl, ha2, hb2⟩
  obtain ⟨rfl, hs⟩ := ha1.out.both ha2
  have h4 := same_c x y w2 ha1.out.lt ha2.lt
  rw [hs] at h4
  have h4 := Lib.hid h4
  have hb := Lib.hid (below2 hb1 hb2)
  clear hs ha2
  go_wp2_with fail
  refine h4.out.mono ?_
  rintro e w' ⟨rfl, rfl⟩
  go_wp2_with fail
  refine (h5.out _ hb.out).mono ?_
  rintro e w' ⟨rfl, hbl⟩
  go_wp2_with fail
  go_ret
  exact ⟨rfl, hbl⟩
theorem ba_self (l : List UInt8) : (l == l) = true := by simp
set_option maxHeartbeats 1000000 in
theorem law_print (x : Nat) (hx : x < 18446744073709551616) (w : World) (he : Env w) : Calls Tryz.prog 5 #[.float .f64 x] w (Yes w) := by
  have h1 := Lib.hid (print_at w he x _ hx rfl w (Below.refl _ _))
  have h2 := Lib.hid (parse_at w he (Fl.text x) (by have := Fl.text_len x; omega))
  have h3 := Lib.hid (fun w => refprint_c x w hx)
  have hq := Lib.hid (fun y h c => @Fl.text_inj y x h hx c)
  have hnb := Lib.hid (fun (k : ∀ y, y < 18446744073709551616 → Fl.text y ≠ Fl.text x) => k x hx rfl)
  have h5 := Lib.hid (works_at w he)
  have hself := ba_self (Fl.text x)
  clear he hx
  go_enter Tryz.func5, Tryz.ntmps5
  generalize ht : Fl.text x = l at *
  have ht := Lib.hid ht
  go_wp2_with fail
  refine h1.out.mono ?_
  rintro e w1 ⟨rfl, hb1⟩
  go_wp2_with fail
  refine (h2.out _ hb1).mono ?_
  rintro e w2 ⟨y, c, rfl, hok, hb2⟩
  have hok2 : c = 0 ∧ Fl.same x y = true := by
    rcases hok with ⟨k1, k2, k3⟩ | ⟨_, _, k3⟩
    · have := hq.out y k2 k3
      refine ⟨k1, ?_⟩
      rcases this with ⟨a1, a2⟩ | ⟨_, _, a3⟩
      · exact same_nans a2 a1
      · rw [a3]; exact same_self x
    · exact absurd k3 hnb.out
  obtain ⟨rfl, hs⟩ := hok2
  have h4 := fun w => refsame_c x y w
  rw [hs] at h4
  have h4 := Lib.hid h4
  clear hok hs hb1
  go_wp2_with fail
  refine (h3.out _).mono ?_
  rintro e w3 ⟨rfl, hb3⟩
  have hb := Lib.hid (below2 hb2 hb3)
  go_wp2_with fail
  refine (h4.out _).mono ?_
  rintro e w' ⟨rfl, rfl⟩
  go_wp2_with fail
  refine (h5.out _ hb.out).mono ?_
  rintro e w' ⟨rfl, hbl⟩
  go_wp2_with fail
  go_ret
  exact ⟨rfl, hbl⟩
end Go.Proofs.YtdebbljohlffdaaGreatDoor
