import Derived.Test.YtdebbljohlffdaaGreatDoorNumXa
import Derived.Deep.Slices
namespace Go.Proofs.YtdebbljohlffdaaGreatDoor
open Go.Shelf Go.RowKit Go.ChangeShapes Go.WideShapes Go.ChangeAt Go.Deep

theorem cmpS_eqv {x x' : Nat} (y : Nat) (h : Fl.Eqv x x') : Fl.cmpS y x = Fl.cmpS y x' := by
  rcases h with ⟨h1, h2⟩ | ⟨_, _, h⟩
  · unfold Fl.cmpS
    rw [h1, h2]; simp
  · rw [h]
theorem eqv_refl (x : Nat) : Fl.Eqv x x := by
  cases h : Fl.isNaN x
  · exact Or.inr ⟨h, h, rfl⟩
  · exact Or.inl ⟨h, h⟩
theorem lst_eqv (F : Nat → Nat) {nan : Nat} (hn : Fl.isNaN nan = true) : ∀ i, Fl.Eqv (Fl.lst (fun i => F (i + 1)) (F 0) i) (Fl.lst F nan (i + 1))
  | 0 => by
    show Fl.Eqv (F 0) (if Fl.cmpS (F 0) nan < 0 then F 0 else nan)
    cases h : Fl.isNaN (F 0)
    · rw [if_pos (by unfold Fl.cmpS; rw [h, hn]; simp)]
      exact eqv_refl _
    · rw [if_neg (by rw [cmpS_nans h hn]; decide)]
      exact Or.inl ⟨h, hn⟩
  | i + 1 => by
    have ih := lst_eqv F hn i
    show Fl.Eqv (if Fl.cmpS (F (i + 1)) (Fl.lst (fun i => F (i + 1)) (F 0) i) < 0 then F (i + 1) else Fl.lst (fun i => F (i + 1)) (F 0) i) (if Fl.cmpS (F (i + 1)) (Fl.lst F nan (i + 1)) < 0 then F (i + 1) else Fl.lst F nan (i + 1))
    rw [cmpS_eqv (F (i + 1)) ih]
    split
    · exact eqv_refl _
    · exact ih
theorem bst_gst (F : Nat → Nat) : ∀ i, Fl.bst (fun i => F (i + 1)) (F 0) i = Fl.gst F (F 0) (i + 1)
  | 0 => by
    show F 0 = (if Fl.cmpS (F 0) (F 0) > 0 then F 0 else F 0)
    split <;> rfl
  | i + 1 => by
    have ih := bst_gst F i
    show (if Fl.cmpS (Fl.bst (fun i => F (i + 1)) (F 0) i) (F (i + 1)) < 0 then F (i + 1) else Fl.bst (fun i => F (i + 1)) (F 0) i) = (if Fl.cmpS (F (i + 1)) (Fl.gst F (F 0) (i + 1)) > 0 then F (i + 1) else Fl.gst F (F 0) (i + 1))
    rw [ih]
    have e := cmpS_anti (F (i + 1)) (Fl.gst F (F 0) (i + 1))
    by_cases h : Fl.cmpS (F (i + 1)) (Fl.gst F (F 0) (i + 1)) > 0
    · rw [if_pos h, if_pos (by omega)]
    · rw [if_neg h, if_neg (by omega)]
/-- a row of floats in memory -/
def Floats (w : World) (a : Option Addr) (n c : Nat) (F : Nat → Nat) : Prop :=
  (n = 0 ∧ c ≤ 140737488351232) ∨ (0 < n ∧ n ≤ c ∧ c ≤ 140737488351232 ∧ ∃ b off, a = some ⟨b, off, none⟩ ∧ (b < w.heap.size ∧ ∀ i, i < n → w.cell? ⟨b, off + i, none⟩ = some (.float .f64 (F i))) ∧ ∀ i, i < n → F i < 18446744073709551616)
theorem Floats.below {w w' : World} {a : Option Addr} {n c : Nat} {F : Nat → Nat} (h : Floats w a n c F) (hb : Below w.heap.size w w') : Floats w' a n c F := by
  rcases h with h | ⟨h1, h2, h3, b, off, h4, h5, h6⟩
  · exact Or.inl h
  · exact Or.inr ⟨h1, h2, h3, b, off, h4, ⟨Nat.lt_of_lt_of_le h5.1 hb.size, fun i hi => cell_below (h5.2 i hi) hb⟩, h6⟩
def MinEnd (F : Nat → Nat) (n : Nat) (w : World) (e : Ending) (w' : World) : Prop := ∃ x, e = .returned (.float .f64 x) ∧ x < 18446744073709551616 ∧ (∀ nan, Fl.isNaN nan = true → Fl.Eqv x (Fl.lst F nan n)) ∧ Below w.heap.size w w'
def RefMinEnd (F : Nat → Nat) (n : Nat) (w : World) (e : Ending) (w' : World) : Prop := ∃ x nan, e = .returned (.float .f64 x) ∧ x < 18446744073709551616 ∧ Fl.isNaN nan = true ∧ x = Fl.lst F nan n ∧ Below w.heap.size w w'
/-- the greatest, or any nan -/
def MaxIs (F : Nat → Nat) (n : Nat) (x : Nat) : Prop := (n = 0 ∧ Fl.isNaN x = true) ∨ (0 < n ∧ x = Fl.gst F (F 0) n)
def MaxEnd (F : Nat → Nat) (n : Nat) (w : World) (e : Ending) (w' : World) : Prop := ∃ x, e = .returned (.float .f64 x) ∧ x < 18446744073709551616 ∧ MaxIs F n x ∧ Below w.heap.size w w'
theorem min_end (a : Option Addr) (n c : Nat) (F : Nat → Nat) (w : World) (h : Floats w a n c F) : Calls Tryz.prog 26 #[.slice a n c] w (MinEnd F n w) := by
  rcases h with ⟨rfl, hc⟩ | ⟨h1, h2, h3, b, off, rfl, h5, h6⟩
  · exact (least_none a c w hc).mono fun e w' ⟨k1, k2⟩ => ⟨_, k1, by decide, fun nan hn => Or.inl ⟨by decide, hn⟩, by rw [← k2]; exact Below.refl _ _⟩
  · refine (least_some b off n c F w h2 h3 h1 h6 h5.2).mono fun e w' ⟨k1, k2⟩ => ⟨_, k1, Fl.lst_lt (h6 0 h1) (n := n - 1) (fun i hi => h6 (i + 1) (by omega)) _ (Nat.le_refl _), fun nan hn => ?_, by rw [← k2]; exact Below.refl _ _⟩
    have := lst_eqv F hn (n - 1)
    rw [show n - 1 + 1 = n by omega] at this
    exact this
theorem refmin_end (a : Option Addr) (n c : Nat) (F : Nat → Nat) (w : World) (h : Floats w a n c F) : Calls Tryz.prog 27 #[.slice a n c] w (RefMinEnd F n w) := by
  have hN := nanAns_nan w 0 0
  have hb := (Below.refl w.heap.size w).drew
  rcases h with ⟨rfl, hc⟩ | ⟨h1, h2, h3, b, off, rfl, h5, h6⟩
  · exact (refleast_c a 0 c F w (by omega) hc (fun i hi => absurd hi (by omega))).mono fun e w' ⟨k1, k2⟩ => ⟨_, _, k1, hN.2, Fl.isNaN_true.2 hN.1, rfl, by rw [← k2]; exact hb⟩
  · exact (refleast_c (some ⟨b, off, none⟩) n c F w h2 h3 (fun i hi => ⟨b, off, rfl, h5.2 i hi⟩)).mono fun e w' ⟨k1, k2⟩ => ⟨_, _, k1, Fl.lst_lt hN.2 h6 _ (Nat.le_refl _), Fl.isNaN_true.2 hN.1, rfl, by rw [← k2]; exact hb⟩
theorem max_end (a : Option Addr) (n c : Nat) (F : Nat → Nat) (w : World) (h : Floats w a n c F) : Calls Tryz.prog 28 #[.slice a n c] w (MaxEnd F n w) := by
  rcases h with ⟨rfl, hc⟩ | ⟨h1, h2, h3, b, off, rfl, h5, h6⟩
  · exact (greatest_none a c w hc).mono fun e w' ⟨k1, k2⟩ => ⟨_, k1, by decide, Or.inl ⟨rfl, by decide⟩, by rw [← k2]; exact Below.refl _ _⟩
  · refine (greatest_some b off n c F w h2 h3 h1 h6 h5.2).mono fun e w' ⟨k1, k2⟩ => ⟨_, k1, Fl.bst_lt (h6 0 h1) (n := n - 1) (fun i hi => h6 (i + 1) (by omega)) _ (Nat.le_refl _), Or.inr ⟨h1, ?_⟩, by rw [← k2]; exact Below.refl _ _⟩
    have := bst_gst F (n - 1)
    rw [show n - 1 + 1 = n by omega] at this
    exact this
theorem refmax_end (a : Option Addr) (n c : Nat) (F : Nat → Nat) (w : World) (h : Floats w a n c F) : Calls Tryz.prog 29 #[.slice a n c] w (MaxEnd F n w) := by
  rcases h with ⟨rfl, hc⟩ | ⟨h1, h2, h3, b, off, rfl, h5, h6⟩
  · exact (refgreatest_none a c w hc).mono fun e w' ⟨k1, k2⟩ => ⟨_, k1, (nanAns_nan w 0 0).2, Or.inl ⟨rfl, Fl.isNaN_true.2 (nanAns_nan w 0 0).1⟩, by rw [← k2]; exact (Below.refl _ _).drew⟩
  · refine (refgreatest_some b off n c F w h2 h3 h1 h5.2).mono fun e w' ⟨k1, k2⟩ => ⟨_, k1, ?_, Or.inr ⟨h1, rfl⟩, by rw [← k2]; exact Below.refl _ _⟩
    have := bst_gst F (n - 1)
    rw [show n - 1 + 1 = n by omega] at this
    rw [← this]
    exact Fl.bst_lt (h6 0 h1) (n := n - 1) (fun i hi => h6 (i + 1) (by omega)) _ (Nat.le_refl _)
theorem MaxIs.same {F : Nat → Nat} {n x y : Nat} (h : MaxIs F n x) (k : MaxIs F n y) : Fl.same x y = true := by
  rcases h with ⟨h1, h2⟩ | ⟨h1, h2⟩ <;> rcases k with ⟨k1, k2⟩ | ⟨k1, k2⟩
  · exact same_nans h2 k2
  · omega
  · omega
  · rw [h2, k2]; exact same_self _
set_option maxHeartbeats 1000000 in
theorem law_least_long (a : Option Addr) (n c : Nat) (w : World) (he : Env w) (h : 100 < n) (hn : n ≤ 9223372036854775807) : Calls Tryz.prog 10 #[.slice a n c] w (Yes w) := by
  have h5 := Lib.hid (works_at w he w (Below.refl _ _))
  clear he
  go_enter Tryz.func10, Tryz.ntmps10
  go_wp2_with fail
  refine h5.out.mono ?_
  rintro e w' ⟨rfl, hbl⟩
  go_wp2_with fail
  go_ret
  exact ⟨rfl, hbl⟩
set_option maxHeartbeats 1000000 in
theorem law_least_short (a : Option Addr) (n c : Nat) (F : Nat → Nat) (w : World) (he : Env w) (h : n ≤ 100) (hF : Floats w a n c F) : Calls Tryz.prog 10 #[.slice a n c] w (Yes w) := by
  have h1 := Lib.hid (min_end a n c F w hF)
  have h2 := Lib.hid (fun w1 hb => refmin_end a n c F w1 (hF.below hb))
  have h3 := Lib.hid (fun w1 hb => max_end a n c F w1 (hF.below hb))
  have h4 := Lib.hid (fun w1 hb => refmax_end a n c F w1 (hF.below hb))
  have h5 := Lib.hid (works_at w he)
  clear he hF
  go_enter Tryz.func10, Tryz.ntmps10
  go_wp2_with fail
  refine h1.out.mono ?_
  rintro e w1 ⟨x, rfl, hx, hmin, hb1⟩
  have hx := Lib.hid (And.intro hx hmin)
  clear hmin
  go_wp2_with fail
  refine (h2.out _ hb1).mono ?_
  rintro e w2 ⟨y, nan, rfl, hy, hn, he, hb2⟩
  have hs := fun w => same_c x y w hx.out.1 hy
  rw [show Fl.same x y = true from same_eqv (by rw [he]; exact hx.out.2 nan hn)] at hs
  have hs := Lib.hid hs
  have hb := below2 hb1 hb2
  clear hy hn he
  go_wp2_with fail
  refine (hs.out _).mono ?_
  rintro e w' ⟨rfl, rfl⟩
  go_wp2_with fail
  refine (h3.out _ hb).mono ?_
  rintro e w3 ⟨u, rfl, hu, hmax, hb3⟩
  have hb := below2 hb hb3
  have hu := Lib.hid (And.intro hu hmax)
  clear hmax
  go_wp2_with fail
  refine (h4.out _ hb).mono ?_
  rintro e w4 ⟨v, rfl, hv, hmax2, hb4⟩
  have hs2 := fun w => same_c u v w hu.out.1 hv
  rw [hu.out.2.same hmax2] at hs2
  have hs2 := Lib.hid hs2
  have hb := below2 hb hb4
  clear hv hmax2
  go_wp2_with fail
  refine (hs2.out _).mono ?_
  rintro e w' ⟨rfl, rfl⟩
  go_wp2_with fail
  refine (h5.out _ hb).mono ?_
  rintro e w' ⟨rfl, hbl⟩
  go_wp2_with fail
  go_ret
  exact ⟨rfl, hbl⟩
theorem floats_of {H : Type} {enc : TypeId × Value → H} {w : World} {base : Nat} {held : Bool} {fuel : Nat} {cs : List Value} {x : DataW H × List MemPlace} (h : DataW.trod enc Tryz.prog w base (fun _ => true) held fuel 22 cs = some x) :
    ∃ a n c F, cs = [.slice a n c] ∧ (n ≤ 100 → c ≤ 140737488351232 → Floats w a n c F) ∧ n ≤ 9223372036854775807 ∧ ((x.1 = .nil ∧ c = 0) ∨ ∃ el sp, x.1 = .slice el sp ∧ el.length + sp.length = c) := by
  rcases open_slice1 Tryz.underlying22 (by kernel_rfl) h with ⟨hcs, hx0⟩ | ⟨a, len, cap, m, n, V, D, Pl, hcs, hb, hl, hm, hmm, hx, hV⟩
  · exact ⟨none, 0, 0, fun _ => 0, hcs, fun _ _ => Or.inl ⟨rfl, by decide⟩, by decide, Or.inl ⟨by rw [hx0], rfl⟩⟩
  · simp only [if_true] at hmm
    have hmx : maxLen = 9223372036854775807 := by decide
    obtain ⟨F, hF⟩ := choose_lt (α := Nat) (p := fun i b => V i = .float .f64 b ∧ b < 18446744073709551616) (n := m) (fun i hi => by
      have h2 := (hV i hi).2
      cases n with
      | zero => simp [DataW.trod] at h2
      | succ n =>
        unfold DataW.trod at h2
        rw [Tryz.underlying25] at h2
        split at h2 <;> simp_all
        rename_i hk
        have h3 := h2.1.2
        rw [← hk] at h3
        exact lit_lt h3)
    refine ⟨some a, len, cap, F, hcs, fun _ hc => ?_, by omega, Or.inr ⟨_, _, by rw [hx], by rw [List.length_map, List.length_map, List.length_range, List.length_range]; omega⟩⟩
    rcases Nat.eq_zero_or_pos len with h0 | h0
    · exact Or.inl ⟨h0, hc⟩
    · refine Or.inr ⟨h0, hl, hc, ?_⟩
      obtain ⟨b, off, spot⟩ := a
      have hc0 := (hV 0 (by omega)).1
      have hspot : spot = none := by simpa [Addr.add] using World.cell?_spot hc0
      subst hspot
      refine ⟨b, off, rfl, ⟨World.block_lt_of_cell? _ _ hc0, fun i hi => ?_⟩, fun i hi => (hF i (by omega)).2⟩
      have := (hV i (by omega)).1
      rw [(hF i (by omega)).1, Lib.add_plain] at this
      exact this
end Go.Proofs.YtdebbljohlffdaaGreatDoor
