import Derived.Test.YtdebbljohlffdaaGreatDoorNumJ
namespace Go.Proofs.YtdebbljohlffdaaGreatDoor
open Go.Shelf Go.RowKit

/-- WHAT THE WORLD HOLDS OF THE LIBRARY -/
structure Env (w : World) : Prop where
  pow : Lib.TabIs Tryz.prog w "internal/strconv.uint64pow10" .u64 Lib.pow10Tab
  tz : TabAt 1 Lib.deBruijn64tab w
  mx : ∃ m, w.cell? ⟨3, 0, none⟩ = some (.int .i64 m)
  syn : ∃ t p, w.cell? ⟨4, 0, none⟩ = some (.iface t p)
  rng : ∃ t p, w.cell? ⟨5, 0, none⟩ = some (.iface t p)
theorem var_below {P : Program} {w w' : World} {n : String} {vs : Array Value} (h : w.var? P n = some vs) (hb : Below w.heap.size w w') : w'.var? P n = some vs := by
  unfold World.var? at *
  cases hg : P.globalNamed n with
  | none => simp [hg] at h
  | some g =>
    simp only [hg, Option.bind_some] at h ⊢
    have hlt : g < w.heap.size := by
      rcases Nat.lt_or_ge g w.heap.size with h' | h'
      · exact h'
      · rw [Array.getElem?_eq_none h'] at h; simp at h
    rw [hb.block g hlt]
    exact h
theorem cell_below {w w' : World} {a : Addr} {v : Value} (h : w.cell? a = some v) (hb : Below w.heap.size w w') : w'.cell? a = some v := (hb.cell (World.block_lt_of_cell? _ _ h)).trans h
theorem Env.below {w w' : World} (h : Env w) (hb : Below w.heap.size w w') : Env w' :=
  ⟨var_below h.pow hb, fun j hj => cell_below (h.tz j hj) hb, h.mx.imp fun _ k => cell_below k hb, h.syn.imp fun _ k => k.imp fun _ k => cell_below k hb, h.rng.imp fun _ k => k.imp fun _ k => cell_below k hb⟩
theorem below2 {a b c : World} (h : Below a.heap.size a b) (k : Below b.heap.size b c) : Below a.heap.size a c := h.trans (k.mono h.size)

set_option maxHeartbeats 400000 in
theorem fmtuint_c (u : Nat) (hu64 : u < 18446744073709551616) (w : World) (he : Env w) :
    Calls Tryz.prog 34 #[.int .u64 u, .int .i64 10] w fun e w' => e = .returned (.string ⟨(Lib.decDigits u).toArray⟩) ∧ Below w.heap.size w w' := by
  have hc := Lib.hid (fmtuint_in u hu64 w he.pow)
  clear hu64
  go_enter Tryz.func34, Tryz.ntmps34
  go_wp2_with (go_at_call 62; refine hc.out.mono ?_; rintro e w' ⟨rfl, hb⟩)
  go_ret; exact ⟨rfl, hb⟩

set_option maxHeartbeats 400000 in
theorem print_nan (x : Nat) (w : World) (h : FloatKind.f64.format.order x x = none) :
    Calls Tryz.prog 13 #[.float .f64 x] w fun e w' => e = .returned (.string ⟨#[110, 97, 110]⟩) ∧ w = w' := by
  go_enter Tryz.func13, Tryz.ntmps13
  go_wp2_with fail
  go_ret; exact ⟨rfl, rfl⟩

theorem ba_app (a b : List UInt8) : (⟨a.toArray⟩ ++ ⟨b.toArray⟩ : ByteArray) = ⟨(a ++ b).toArray⟩ := by
  apply ByteArray.ext
  rw [ByteArray.data_append]
  simp
theorem ret_str {a : ByteArray} {l : List UInt8} (h : a = ⟨l.toArray⟩) : Ending.returned (.string a) = .returned (.string ⟨l.toArray⟩) := by rw [h]
set_option maxHeartbeats 400000 in
theorem print_neg (x : Nat) (l : List UInt8) (hl : l.length < 200) (w : World) (h : FloatKind.f64.format.order x x = some .eq) (hx : x < 18446744073709551616) (hn : Fl.neg x = true)
    (hp : Calls Tryz.prog 13 #[.float .f64 (Fl.opp x)] w fun e w' => e = .returned (.string ⟨l.toArray⟩) ∧ Below w.heap.size w w') :
    Calls Tryz.prog 13 #[.float .f64 x] w fun e w' => e = .returned (.string ⟨(45 :: l).toArray⟩) ∧ Below w.heap.size w w' := by
  have hs := fun w => signbit_c x w hx
  rw [hn] at hs
  have hs := Lib.hid hs
  have hp := Lib.hid hp
  have hop := run_opp
  clear hn hx
  go_enter Tryz.func13, Tryz.ntmps13
  go_wp2_with (first | (go_at_call 31; refine (hs.out _).mono ?_; rintro e w' ⟨rfl, rfl⟩) | (go_at_call 13; refine hp.out.mono ?_; rintro e w' ⟨rfl, hb⟩))
  go_ret
  exact ⟨ret_str (ba_app [45] l), hb⟩
set_option maxHeartbeats 400000 in
theorem print_inf (x : Nat) (w : World) (h : FloatKind.f64.format.order x x = some .eq) (hx : x < 18446744073709551616) (hn : Fl.neg x = false) (hi : Fl.rung x = Fl.I) :
    Calls Tryz.prog 13 #[.float .f64 x] w fun e w' => e = .returned (.string ⟨#[105, 110, 102]⟩) ∧ w = w' := by
  have hs := fun w => signbit_c x w hx
  rw [hn] at hs
  have hs := Lib.hid hs
  have hf := fun w => isinf_c x w hx (by omega)
  rw [decide_eq_true hi] at hf
  have hf := Lib.hid hf
  clear hn hx hi
  go_enter Tryz.func13, Tryz.ntmps13
  go_wp2_with (first | (go_at_call 31; refine (hs.out _).mono ?_; rintro e w' ⟨rfl, rfl⟩) | (go_at_call 32; refine (hf.out _).mono ?_; rintro e w' ⟨rfl, rfl⟩))
  go_ret; exact ⟨rfl, rfl⟩
set_option maxHeartbeats 400000 in
theorem print_whole (x t u : Nat) (w : World) (h : FloatKind.f64.format.order x x = some .eq) (hx : x < 18446744073709551616) (hn : Fl.neg x = false) (hi : Fl.rung x < Fl.I)
    (h2 : FloatKind.f64.format.order x 4845873199050653696 = some .lt)
    (ht : ∀ w, Calls Tryz.prog 33 #[.float .f64 x] w fun e w' => e = .returned (.float .f64 t) ∧ w = w') (h3 : FloatKind.f64.format.order x t = some .eq)
    (hu : floatToIntVal .f64 x .u64 = some (u : Int)) (l : List UInt8)
    (hf : Calls Tryz.prog 34 #[.int .u64 u, .int .i64 10] w fun e w' => e = .returned (.string ⟨l.toArray⟩) ∧ Below w.heap.size w w') :
    Calls Tryz.prog 13 #[.float .f64 x] w fun e w' => e = .returned (.string ⟨l.toArray⟩) ∧ Below w.heap.size w w' := by
  have hs := fun w => signbit_c x w hx
  rw [hn] at hs
  have hs := Lib.hid hs
  have hI := fun w => isinf_c x w hx (by omega)
  rw [decide_eq_false (show ¬ Fl.rung x = Fl.I by omega)] at hI
  have hI := Lib.hid hI
  have hc := fun w => run_convert_float_int (P := Tryz.prog) w 25 47 .f64 .u64 x u (by rw [Tryz.underlying25]; rfl) Tryz.underlying47 hu
  have ht := Lib.hid ht
  have hf := Lib.hid hf
  clear hn hx hi hu
  go_enter Tryz.func13, Tryz.ntmps13
  go_wp2_with (first | (go_at_call 31; refine (hs.out _).mono ?_; rintro e w' ⟨rfl, rfl⟩) | (go_at_call 32; refine (hI.out _).mono ?_; rintro e w' ⟨rfl, rfl⟩) | (go_at_call 33; refine (ht.out _).mono ?_; rintro e w' ⟨rfl, rfl⟩) | (go_at_call 34; refine hf.out.mono ?_; rintro e w' ⟨rfl, hb⟩))
  go_ret; exact ⟨rfl, hb⟩
set_option maxHeartbeats 1000000 in
theorem print_parts (x : Nat) (t m : Nat) (q : Int) (o2 : Ordering) (o3 : Ordering) (w : World) (h : FloatKind.f64.format.order x x = some .eq) (hx : x < 18446744073709551616) (hn : Fl.neg x = false) (hi : Fl.rung x < Fl.I)
    (h2 : FloatKind.f64.format.order x 4845873199050653696 = some o2)
    (ht : ∀ w, Calls Tryz.prog 33 #[.float .f64 x] w fun e w' => e = .returned (.float .f64 t) ∧ w = w') (h3 : FloatKind.f64.format.order x t = some o3) (ho : o2 ≠ .lt ∨ o3 ≠ .eq)
    (hp : ∀ w', w = w' → Calls Tryz.prog 35 #[.float .f64 x] w' fun e w'' => e = .returned (.tuple #[.int .u64 m, .int .i64 q]) ∧ w' = w'')
    (hm : m < 18446744073709551616) (hq1 : -5000 ≤ q) (hq2 : q ≤ 5000) (he : Env w) :
    Calls Tryz.prog 13 #[.float .f64 x] w fun e w' => e = .returned (.string ⟨(Lib.decDigits m ++ 112 :: Lib.itoa q).toArray⟩) ∧ Below w.heap.size w w' := by
  have hs := fun w => signbit_c x w hx
  rw [hn] at hs
  have hs := Lib.hid hs
  have hI := fun w => isinf_c x w hx (by omega)
  rw [decide_eq_false (show ¬ Fl.rung x = Fl.I by omega)] at hI
  have hI := Lib.hid hI
  have ht := Lib.hid ht
  have hp := Lib.hid hp
  have hf := Lib.hid (fmtuint_c m hm w he)
  have l1 : (Lib.decDigits m).length ≤ 20 := by rw [Lib.decDigits_length]; exact Lib.nDigits_le20 m hm
  have l2 : (Lib.itoa q).length ≤ 21 := Lib.itoa_length_le q (by omega) (by omega)
  have hT : ∀ w', Below w.heap.size w w' → Calls Tryz.prog 36 #[.int .i64 q] w' fun e w'' => e = .returned (.string ⟨(Lib.itoa q).toArray⟩) ∧ Below w'.heap.size w' w'' := fun w' hb =>
    (Tryz.strconv_Itoa q (by omega) (by omega) w' (he.below hb).pow).mono fun e w'' hk => ⟨hk.1, by obtain ⟨k, os, e2⟩ := hk.2; rw [e2]; exact Lib.below_grow _ _ (Nat.le_refl _) _ _⟩
  have hT := Lib.hid hT
  generalize e1 : Lib.decDigits m = d1 at *
  generalize e2 : Lib.itoa q = d2 at *
  have fin : ∀ w1 w2, Below w.heap.size w w1 → Below w1.heap.size w1 w2 → Below w.heap.size w w2 := fun _ _ a b => below2 a b
  have fin := Lib.hid fin
  clear hn hx hi he hm hq1 hq2 e1 e2
  cases o2 <;> cases o3
  all_goals first
    | (exfalso; clear h2 h3; rcases ho with ho | ho <;> exact ho rfl; done)
    | (clear ho
       go_enter Tryz.func13, Tryz.ntmps13
       go_wp2_with (first | (go_at_call 31; refine (hs.out _).mono ?_; rintro e w' ⟨rfl, rfl⟩) | (go_at_call 32; refine (hI.out _).mono ?_; rintro e w' ⟨rfl, rfl⟩) | (go_at_call 33; refine (ht.out _).mono ?_; rintro e w' ⟨rfl, rfl⟩) | (go_at_call 35; refine (hp.out _ rfl).mono ?_; rintro e w' ⟨rfl, rfl⟩) | (go_at_call 34; refine hf.out.mono ?_; rintro e w1 ⟨rfl, hb1⟩) | (go_at_call 36; refine (hT.out _ (by assumption)).mono ?_; rintro e w2 ⟨rfl, hb2⟩))
       go_ret
       refine ⟨ret_str ?_, fin.out _ _ (by assumption) (by assumption)⟩
       rw [show (⟨#[112]⟩ : ByteArray) = ⟨[112].toArray⟩ from rfl, ba_app, ba_app]
       simp)

theorem Fl.mant_lt {r : Nat} (h0 : 0 < r) (h : r < Fl.I) : Fl.mant r < 9007199254740992 ∧ -1074 ≤ Fl.expo r ∧ Fl.expo r ≤ 1126 := by
  obtain ⟨e, k, hr, hk, hek, hU, _⟩ := Fl.rung_form r
  obtain ⟨e1, e2⟩ := Fl.odd_parts h0 h
  have hk0 : 0 < k := by
    rcases Nat.eq_zero_or_pos k with h1 | h1
    · have := Fl.U_pos h0
      rw [hU, h1] at this; simp at this
    · exact h1
  obtain ⟨m, hm, hlt⟩ := Lib.ctzFrom_spec 64 k hk0 (Nat.lt_trans hk (by decide))
  have hU2 : Fl.U r = (2 * m + 1) * 2 ^ (Lib.ctzFrom 64 k + e) := by
    rw [hU]
    conv => lhs; rw [hm]
    rw [Nat.pow_add, Nat.mul_comm (2 ^ Lib.ctzFrom 64 k), Nat.mul_assoc]
  obtain ⟨f1, f2⟩ := Fl.mant_of h (by omega) hU2
  have he : e ≤ 2046 := by
    rcases Nat.lt_or_ge 2046 e with h1 | h1
    · have : 2047 * Fl.B ≤ e * Fl.B := Nat.mul_le_mul_right _ h1
      have := Fl.I_eq
      omega
    · exact h1
  have h53 : 2 * m + 1 ≤ k := by rw [hm]; exact Nat.le_mul_of_pos_left _ (Nat.two_pow_pos _)
  have hB : Fl.B = 4503599627370496 := rfl
  rw [f1, f2]
  omega
theorem Fl.txt_len {r : Nat} (h : r ≤ Fl.I) : (Fl.txt r).length ≤ 42 := by
  unfold Fl.txt
  split
  · simp
  · rename_i hne
    have hlt : r < Fl.I := by omega
    split
    · rename_i hw
      have hl : Fl.U r < Fl.LIM := by unfold Fl.isWh at hw; simp at hw; exact hw.1
      have := Fl.wv_lt hl
      rw [Lib.decDigits_length]
      have := Lib.nDigits_le20 (Fl.wv r) (by omega)
      omega
    · rename_i hw
      have h0 : 0 < r := by
        rcases Nat.eq_zero_or_pos r with h1 | h1
        · exfalso; apply hw; rw [h1]; unfold Fl.isWh; rw [Fl.U_zero]; simp; exact Fl.LIM_pos
        · exact h1
      obtain ⟨h1, h2, h3⟩ := Fl.mant_lt h0 hlt
      have := Lib.nDigits_le20 (Fl.mant r) (by omega)
      have := Lib.itoa_length_le (Fl.expo r) (by omega) (by omega)
      rw [List.length_append, List.length_cons, Lib.decDigits_length]
      omega
theorem Fl.text_len (b : Nat) : (Fl.text b).length ≤ 43 := by
  unfold Fl.text
  split
  · simp
  · rename_i hn
    have := Fl.txt_len (Fl.isNaN_false.1 (by simpa using hn))
    split
    · rw [List.length_cons]; omega
    · omega
theorem Fl.uintVal {x : Nat} (hn : Fl.neg x = false) (h : Fl.U (Fl.rung x) < Fl.LIM) : floatToIntVal .f64 x .u64 = some (Fl.wv (Fl.rung x) : Int) := by
  have h1 := Fl.wv_lt h
  unfold floatToIntVal
  have e := Fl.toInt_spec (Fl.fin_of_lim h)
  rw [show FloatKind.f64.decode x = Fl.D.read x from rfl, e, hn]
  simp only [Bool.false_eq_true, if_false]
  have e2 : Fl.U (Fl.rung x) / Fl.ONE = Fl.wv (Fl.rung x) := rfl
  rw [e2]
  generalize Fl.wv (Fl.rung x) = n at *
  have h2 : IntKind.min .u64 = 0 := by decide
  have h3 : IntKind.max .u64 = 18446744073709551615 := by decide
  rw [h2, h3, if_pos (by omega)]

theorem print_pos (x : Nat) (w : World) (hx : x < 18446744073709551616) (h : Fl.rung x ≤ Fl.I) (hn : Fl.neg x = false) (he : Env w) :
    Calls Tryz.prog 13 #[.float .f64 x] w fun e w' => e = .returned (.string ⟨(Fl.txt (Fl.rung x)).toArray⟩) ∧ Below w.heap.size w w' := by
  have hself := self_num h
  unfold Fl.txt
  rcases Nat.lt_or_eq_of_le h with hi | hi
  · rw [if_neg (by omega)]
    have hxr : x = Fl.rung x := by
      have := Fl.wrap_neg hx
      rw [hn] at this
      have h2 : ¬ 9223372036854775808 ≤ x := by simpa using this.symm
      exact (Nat.mod_eq_of_lt (by omega)).symm
    have tv := Fl.trunc_val hi
    rw [hn] at tv
    have hv := Fl.val_pos hn
    have ht := fun w => trunc_c x w h
    by_cases hw : Fl.isWh (Fl.rung x) = true
    · rw [if_pos hw]
      have hw2 := hw
      unfold Fl.isWh at hw2
      simp at hw2
      have hlt := Fl.wv_lt hw2.1
      exact print_whole x _ _ w hself hx hn hi ((ord_big h).1 (by rw [hv]; omega)) ht (Fl.order_eq h (by omega) (by rw [tv.2, hv, Fl.wv_exact.2 hw2.2]; rfl)) (Fl.uintVal hn hw2.1) _ (fmtuint_c _ (by omega) w he)
    · rw [if_neg hw]
      have h0 : 0 < Fl.rung x := by
        rcases Nat.eq_zero_or_pos (Fl.rung x) with h1 | h1
        · exfalso; apply hw; rw [h1]; unfold Fl.isWh; rw [Fl.U_zero]; simp; exact Fl.LIM_pos
        · exact h1
      obtain ⟨m1, m2, m3⟩ := Fl.mant_lt h0 hi
      have hp : ∀ w', w = w' → Calls Tryz.prog 35 #[.float .f64 x] w' fun e w'' => e = .returned (.tuple #[.int .u64 (Fl.mant (Fl.rung x) : Int), .int .i64 (Fl.expo (Fl.rung x))]) ∧ w' = w'' := by
        intro w' hw'
        rw [← hxr]
        exact parts_c x w' (by omega) (by omega) (by rw [← hw']; exact he.tz)
      have hle := Fl.wv_le (Fl.rung x)
      by_cases hl : Fl.U (Fl.rung x) < Fl.LIM
      · have hm : Fl.U (Fl.rung x) % Fl.ONE ≠ 0 := fun k => hw (by unfold Fl.isWh; simp [hl, k])
        have hne : Fl.wv (Fl.rung x) * Fl.ONE ≠ Fl.U (Fl.rung x) := fun k => hm (Fl.wv_exact.1 k)
        exact print_parts x _ _ _ .lt .gt w hself hx hn hi ((ord_big h).1 (by rw [hv]; omega)) ht (Fl.order_gt h (by omega) (by rw [tv.2, hv]; simp only [Bool.false_eq_true, if_false]; omega)) (Or.inr (by simp)) hp (by omega) (by omega) (by omega) he
      · obtain ⟨o, ho, h1⟩ := (ord_big h).2 (by rw [hv]; omega)
        obtain ⟨o3, h3⟩ : ∃ o3, FloatKind.f64.format.order x (Fl.trunc x) = some o3 := ⟨_, Fl.order_num h (by omega)⟩
        exact print_parts x _ _ _ o o3 w hself hx hn hi h1 ht h3 (Or.inl (by rcases ho with rfl | rfl <;> simp)) hp (by omega) (by omega) (by omega) he
  · rw [if_pos hi]
    exact (print_inf x w hself hx hn hi).mono fun e w' ⟨a, b⟩ => ⟨a, by rw [← b]; exact Below.refl _ _⟩
theorem print_c (x : Nat) (w : World) (hx : x < 18446744073709551616) (he : Env w) :
    Calls Tryz.prog 13 #[.float .f64 x] w fun e w' => e = .returned (.string ⟨(Fl.text x).toArray⟩) ∧ Below w.heap.size w w' := by
  unfold Fl.text
  cases hn : Fl.isNaN x
  · have h := Fl.isNaN_false.1 hn
    simp only [Bool.false_eq_true, if_false]
    cases hs : Fl.neg x
    · simp only [Bool.false_eq_true, if_false]
      exact print_pos x w hx h hs he
    · simp only [if_true]
      have := print_pos (Fl.opp x) w (Fl.opp_lt hx) (by rw [Fl.opp_rung]; exact h) (by rw [Fl.opp_neg, hs]; rfl) he
      rw [Fl.opp_rung] at this
      exact print_neg x _ (by have := Fl.txt_len h; omega) w (self_num h) hx hs this
  · simp only [if_true]
    exact (print_nan x w (self_nan (Fl.isNaN_true.1 hn))).mono fun e w' ⟨a, b⟩ => ⟨a, by rw [← b]; exact Below.refl _ _⟩
end Go.Proofs.YtdebbljohlffdaaGreatDoor
