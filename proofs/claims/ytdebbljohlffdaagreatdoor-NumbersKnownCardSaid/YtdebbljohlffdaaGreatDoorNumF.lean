import Derived.Test.YtdebbljohlffdaaGreatDoorNumE
namespace Go.Proofs.YtdebbljohlffdaaGreatDoor
open Go.RowKit

set_option maxHeartbeats 400000 in
theorem whole_out1 (x : Nat) (o : Option Ordering) (w : World) (ho : o = none ∨ o = some .lt ∨ o = some .eq) (h : FloatKind.f64.format.order x 14069245235905429504 = o) :
    Calls Tryz.prog 17 #[.float .f64 x] w fun e w' => e = .returned (.tuple #[.int .i64 0, .bool false]) ∧ w = w' := by
  rcases ho with rfl | rfl | rfl
  all_goals
    go_enter Tryz.func17, Tryz.ntmps17
    go_wp2
    go_ret2
    exact ⟨rfl, rfl⟩
set_option maxHeartbeats 400000 in
theorem whole_out2 (x : Nat) (o : Ordering) (w : World) (h : FloatKind.f64.format.order x 14069245235905429504 = some .gt) (ho : o = .eq ∨ o = .gt) (h2 : FloatKind.f64.format.order x 4845873199050653696 = some o) :
    Calls Tryz.prog 17 #[.float .f64 x] w fun e w' => e = .returned (.tuple #[.int .i64 0, .bool false]) ∧ w = w' := by
  rcases ho with rfl | rfl
  all_goals
    go_enter Tryz.func17, Tryz.ntmps17
    go_wp2
    go_ret2
    exact ⟨rfl, rfl⟩
set_option maxHeartbeats 400000 in
theorem whole_in (x t : Nat) (n : Int) (o : Ordering) (w : World) (h : FloatKind.f64.format.order x 14069245235905429504 = some .gt) (h2 : FloatKind.f64.format.order x 4845873199050653696 = some .lt)
    (ht : ∀ w, Calls Tryz.prog 33 #[.float .f64 x] w fun e w' => e = .returned (.float .f64 t) ∧ w = w') (h3 : FloatKind.f64.format.order x t = some o) (hn : floatToIntVal .f64 x .i64 = some n) :
    Calls Tryz.prog 17 #[.float .f64 x] w fun e w' => e = .returned (.tuple #[.int .i64 (if o = .eq then n else 0), .bool (decide (o = .eq))]) ∧ w = w' := by
  have hc := fun w => run_convert_float_int (P := Tryz.prog) w 25 3 .f64 .i64 x n (by rw [Tryz.underlying25]; rfl) Tryz.underlying3 hn
  clear hn
  have ht := Lib.hid ht
  cases o
  all_goals
    go_enter Tryz.func17, Tryz.ntmps17
    go_wp2_with (go_at_call 33; refine (ht.out _).mono ?_; rintro e w' ⟨rfl, rfl⟩)
    go_ret2
    exact ⟨rfl, rfl⟩

/-- against -2^53 -/
theorem ord_nbig {x : Nat} (h : Fl.rung x ≤ Fl.I) : (-(Fl.LIM : Int) < Fl.val x → FloatKind.f64.format.order x 14069245235905429504 = some .gt) ∧ (Fl.val x ≤ -(Fl.LIM : Int) → ∃ o, (o = none ∨ o = some .lt ∨ o = some .eq) ∧ FloatKind.f64.format.order x 14069245235905429504 = o) := by
  have hb : Fl.rung 14069245235905429504 ≤ Fl.I := by decide
  have vb : Fl.val 14069245235905429504 = -(Fl.LIM : Int) := by
    have e : (14069245235905429504 : Nat) = Fl.opp Fl.big := by decide
    rw [e, Fl.opp_val, Fl.val_big]; rfl
  refine ⟨fun h1 => Fl.order_gt h hb (by rw [vb]; exact h1), fun h1 => ?_⟩
  rcases Int.lt_or_eq_of_le h1 with h2 | h2
  · exact ⟨_, Or.inr (Or.inl rfl), Fl.order_lt h hb (by rw [vb]; exact h2)⟩
  · exact ⟨_, Or.inr (Or.inr rfl), Fl.order_eq h hb (by rw [vb]; exact h2)⟩

theorem Fl.LIM_pos : 0 < Fl.LIM := by rw [Fl.LIM_eq]; exact Nat.mul_pos (by decide) Fl.ONE_pos
theorem Fl.trunc_val {x : Nat} (h : Fl.rung x < Fl.I) : Fl.rung (Fl.trunc x) < Fl.I ∧ Fl.val (Fl.trunc x) = (if Fl.neg x then -((Fl.wv (Fl.rung x) * Fl.ONE : Nat) : Int) else ((Fl.wv (Fl.rung x) * Fl.ONE : Nat) : Int)) := by
  obtain ⟨r, hr, ht, hU⟩ := Fl.trunc_spec h
  have hI := Nat.lt_trans hr Fl.I_lt
  rw [ht, (Fl.word_mk _ _ hI).2, Fl.val_word hI, hU]
  exact ⟨hr, rfl⟩

theorem whole_c (x : Nat) (w : World) (_hx : x < 18446744073709551616) :
    Calls Tryz.prog 17 #[.float .f64 x] w fun e w' => e = .returned (.tuple #[.int .i64 (Fl.wholeS x), .bool (Fl.isWh (Fl.rung x))]) ∧ w = w' := by
  cases hn : Fl.isNaN x
  · have h := Fl.isNaN_false.1 hn
    by_cases hl : Fl.U (Fl.rung x) < Fl.LIM
    · have hv1 : -(Fl.LIM : Int) < Fl.val x := by unfold Fl.val; split <;> omega
      have hv2 : Fl.val x < (Fl.LIM : Int) := by unfold Fl.val; split <;> omega
      have ht := fun w => trunc_c x w h
      have hlt := Fl.fin_of_lim hl
      have tv := Fl.trunc_val hlt
      have hle := Fl.wv_le (Fl.rung x)
      unfold Fl.wholeS
      by_cases hm : Fl.U (Fl.rung x) % Fl.ONE = 0
      · have e : Fl.isWh (Fl.rung x) = true := by unfold Fl.isWh; simp [hl, hm]
        have := whole_in x _ _ .eq w ((ord_nbig h).1 hv1) ((ord_big h).1 hv2) ht (Fl.order_eq h (by omega) (by rw [tv.2, Fl.wv_exact.2 hm]; rfl)) (Fl.intVal hl)
        rw [e]; simpa using this
      · have e : Fl.isWh (Fl.rung x) = false := by unfold Fl.isWh; simp [hm]
        have hne : Fl.wv (Fl.rung x) * Fl.ONE ≠ Fl.U (Fl.rung x) := fun k => hm (Fl.wv_exact.1 k)
        rw [e]
        by_cases hs : Fl.neg x = true
        · have := whole_in x _ _ .lt w ((ord_nbig h).1 hv1) ((ord_big h).1 hv2) ht (Fl.order_lt h (by omega) (by rw [tv.2, Fl.val_neg hs, if_pos hs]; omega)) (Fl.intVal hl)
          simpa using this
        · simp only [Bool.not_eq_true] at hs
          have := whole_in x _ _ .gt w ((ord_nbig h).1 hv1) ((ord_big h).1 hv2) ht (Fl.order_gt h (by omega) (by rw [tv.2, Fl.val_pos hs, hs]; simp only [Bool.false_eq_true, if_false]; omega)) (Fl.intVal hl)
          simpa using this
    · have e : Fl.isWh (Fl.rung x) = false := by unfold Fl.isWh; simp [hl]
      unfold Fl.wholeS
      rw [e]
      by_cases hs : Fl.neg x = true
      · obtain ⟨o, ho, h1⟩ := (ord_nbig h).2 (by rw [Fl.val_neg hs]; omega)
        exact whole_out1 x o w ho h1
      · have hLp := Fl.LIM_pos
        simp only [Bool.not_eq_true] at hs
        obtain ⟨o, ho, h1⟩ := (ord_big h).2 (by rw [Fl.val_pos hs]; omega)
        exact whole_out2 x o w ((ord_nbig h).1 (by rw [Fl.val_pos hs]; omega)) ho h1
  · have h1 := Fl.isNaN_true.1 hn
    unfold Fl.wholeS
    rw [Fl.wh_nan hn]
    exact whole_out1 x none w (Or.inl rfl) (Fl.order_nan_left h1)

-- Down
set_option maxHeartbeats 400000 in
theorem down_c (x : Nat) (w : World) (h : Fl.rung x ≤ Fl.I) :
    Calls Tryz.prog 19 #[.float .f64 x] w fun e w' => e = .returned (.float .f64 (Fl.floor x)) ∧ w = w' := by
  go_enter Tryz.func19, Tryz.ntmps19
  go_wp2_with (go_at_call 50; refine (floor_c x _ h).mono ?_; rintro e w' ⟨rfl, rfl⟩)
  go_ret; exact ⟨rfl, rfl⟩

set_option maxRecDepth 100000 in
/-- what the floor's assembly answers to what is no number: none again -/
theorem run_floor_nan (x : Nat) (h : Fl.I < Fl.rung x) (hx : x < 18446744073709551616) (w : World) : ∃ r w', (Fl.I < Fl.rung r ∧ r < 18446744073709551616) ∧ (w' = w ∨ w' = w.drew) ∧ (callFunc 73 #[.float .f64 x]).run Tryz.prog w = .ok (.value (.float .f64 r)) w' := by
  rw [run_callFunc_extern (e := Extern.MathFloor.toIntegral "math.archFloor" .down) Tryz.func73 (by kernel_rfl) (by kernel_rfl) (by kernel_rfl) (by kernel_rfl)]
  have hd : FloatKind.f64.decode x = .nan (Fl.neg x) (Fl.rung x - Fl.I) := Fl.read_nan h
  by_cases hq : FloatKind.f64.format.quiet (Fl.rung x - Fl.I) = Fl.rung x - Fl.I
  · refine ⟨x, w, ⟨h, hx⟩, Or.inl rfl, ?_⟩
    have e : (Extern.MathFloor.toIntegral "math.archFloor" .down #[.float .f64 x]).run Tryz.prog w = .ok (.float .f64 x) w := by
      unfold Extern.MathFloor.toIntegral
      show Sem.run _ (match FloatKind.f64.decode x with | .nan s t => _ | d => _) w = _
      rw [hd]
      dsimp only
      rw [if_pos hq]; rfl
    rw [e]; rfl
  · have hlt : ∀ t : Nat, t % Fl.D.binade < 4503599627370496 := fun t => by rw [Fl.binadeD]; exact Nat.mod_lt _ (by decide)
    have hq2 : 0 < FloatKind.f64.format.quiet (Fl.rung x - Fl.I) % Fl.D.binade := by
      have e : FloatKind.f64.format.quiet (Fl.rung x - Fl.I) = (Fl.rung x - Fl.I) ||| 2 ^ 51 := rfl
      rw [e, Fl.binadeD]
      have hr := Fl.rung_lt x
      have hl : Fl.rung x - Fl.I < 2 ^ 52 := by
        have h52 : (2 : Nat) ^ 52 = 4503599627370496 := by decide
        unfold Fl.I at *; omega
      have h2 : ((Fl.rung x - Fl.I) ||| 2 ^ 51) < 2 ^ 52 := Nat.or_lt_two_pow hl (by decide)
      have h3 : Fl.rung x - Fl.I ≤ (Fl.rung x - Fl.I) ||| 2 ^ 51 := Nat.left_le_or
      have h52 : (2 : Nat) ^ 52 = 4503599627370496 := by decide
      rw [h52] at h2
      rw [Nat.mod_eq_of_lt h2]
      omega
    have hnw : ∀ s, Fl.I < Fl.rung (FloatKind.f64.encode (.nan s (FloatKind.f64.format.quiet (Fl.rung x - Fl.I)))) ∧ FloatKind.f64.encode (.nan s (FloatKind.f64.format.quiet (Fl.rung x - Fl.I))) < 18446744073709551616 := by
      intro s
      have e : FloatKind.f64.encode (.nan s (FloatKind.f64.format.quiet (Fl.rung x - Fl.I))) = Fl.D.word s (Fl.D.infRung + FloatKind.f64.format.quiet (Fl.rung x - Fl.I) % Fl.D.binade) := rfl
      have h1 := hlt (FloatKind.f64.format.quiet (Fl.rung x - Fl.I))
      rw [e, Fl.infD]
      generalize FloatKind.f64.format.quiet (Fl.rung x - Fl.I) % Fl.D.binade = q at *
      have h2 : 9218868437227405312 + q < 9223372036854775808 := by omega
      refine ⟨?_, Fl.word_lt _ _ h2⟩
      rw [(Fl.word_mk _ _ h2).2]; unfold Fl.I; omega
    have hf : Question.forced (.extern "math.Floor,Ceil,Trunc,RoundToEven.signallingNaN kept" 2) = false := rfl
    have e : ∃ r, (Fl.I < Fl.rung r ∧ r < 18446744073709551616) ∧ (Extern.MathFloor.toIntegral "math.archFloor" .down #[.float .f64 x]).run Tryz.prog w = .ok (.float .f64 r) w.drew := by
      unfold Extern.MathFloor.toIntegral
      refine ⟨if (Question.extern "math.Floor,Ceil,Trunc,RoundToEven.signallingNaN kept" 2).cut (w.tape w.drawn (.extern "math.Floor,Ceil,Trunc,RoundToEven.signallingNaN kept" 2)) == 1 then x else FloatKind.f64.encode (.nan (Fl.neg x) (FloatKind.f64.format.quiet (Fl.rung x - Fl.I))), ?_, ?_⟩
      · split
        · exact ⟨h, hx⟩
        · exact hnw _
      · show Sem.run _ (match FloatKind.f64.decode x with | .nan s t => _ | d => _) w = _
        rw [hd]
        dsimp only
        rw [if_neg hq, Sem.run_bind, run_choose_drew, hf]
        rfl
    obtain ⟨r, hr, e⟩ := e
    exact ⟨r, w.drew, hr, Or.inr rfl, by rw [e]; rfl⟩
set_option maxRecDepth 100000 in
set_option maxHeartbeats 400000 in
theorem down_nan (x : Nat) (w : World) (h : Fl.I < Fl.rung x) (hx : x < 18446744073709551616) :
    Calls Tryz.prog 19 #[.float .f64 x] w fun e w' => ∃ r, (Fl.I < Fl.rung r ∧ r < 18446744073709551616) ∧ e = .returned (.float .f64 r) ∧ (w' = w ∨ w' = w.drew) := by
  obtain ⟨r, w2, hr, hw, hrun⟩ := run_floor_nan x h hx w
  have c54 : Calls Tryz.prog 50 #[.float .f64 x] w fun e w' => e = .returned (.float .f64 r) ∧ w2 = w' := by
    clear hw hr h hx
    go_enter Tryz.func50, Tryz.ntmps50
    go_wp2
    go_ret; exact ⟨rfl, rfl⟩
  have c27 : Calls Tryz.prog 19 #[.float .f64 x] w fun e w' => e = .returned (.float .f64 r) ∧ w2 = w' := by
    clear hw hrun hr h hx
    have c54 := Lib.hid c54
    go_enter Tryz.func19, Tryz.ntmps19
    go_wp2_with (go_at_call 50; refine c54.out.mono ?_; rintro e w' ⟨rfl, rfl⟩)
    go_ret; exact ⟨rfl, rfl⟩
  exact c27.mono fun e w' ⟨h1, h2⟩ => ⟨r, hr, h1, by rw [← h2]; exact hw⟩
end Go.Proofs.YtdebbljohlffdaaGreatDoor
