import Derived.Test.YtdebbljohlffdaaGreatDoorNumM
namespace Go.Proofs.YtdebbljohlffdaaGreatDoor
open Go.Shelf Go.RowKit

def fbits : Value → Nat | .float _ b => b | _ => 0
theorem wholeAt (b : Bool) (r : Nat) (w : World) (h : r < Fl.I) (hb : Fl.isWh r = b) :
    Calls Tryz.prog 47 #[.float .f64 r] w fun e w' => e = .returned (.tuple #[.int .i64 (if b then (Fl.wv r : Int) else 0), .bool b]) ∧ w = w' := by
  have e := Fl.rung_self (Nat.le_of_lt h)
  have := refwhole_c r w (by rw [e]; omega) (Or.inl (Fl.neg_self (Nat.le_of_lt h)))
  rw [e, hb] at this
  exact this
theorem ordAt {r : Nat} (h : r < Fl.I) : (Fl.U r < Fl.LIM → FloatKind.f64.format.order r 4845873199050653696 = some .lt) ∧ (Fl.LIM ≤ Fl.U r → ∃ o, (o = .eq ∨ o = .gt) ∧ FloatKind.f64.format.order r 4845873199050653696 = some o) := by
  have e := Fl.rung_self (Nat.le_of_lt h)
  have hv := Fl.val_pos (Fl.neg_self (Nat.le_of_lt h))
  rw [e] at hv
  have := ord_big (x := r) (by rw [e]; omega)
  rw [hv] at this
  exact ⟨fun k => this.1 (by omega), fun k => this.2 (by omega)⟩

set_option maxRecDepth 100000 in
set_option maxHeartbeats 2000000 in
theorem refparts_c (r : Nat) (w : World) (h0 : 0 < r) (hr : r < Fl.I) :
    Calls Tryz.prog 49 #[.float .f64 r] w fun e w' => e = .returned (.tuple #[.int .i64 (Fl.mant r), .int .i64 (Fl.expo r)]) ∧ w = w' := by
  have hB := Lib.hid big_c
  have HR := Lib.hid (And.intro h0 hr)
  clear h0 hr
  have HT := Lib.hid Fl.TOP_eq
  go_enter Tryz.func49, Tryz.ntmps49
  go_wp2_with fail
  go_loop [0, 4] (fun vx ve => ∃ (s a : Nat), vx = .float .f64 s ∧ ve = .int .i64 a ∧ Hid (s < Fl.I ∧ 0 < s ∧ Fl.Rel r s a 0) ∧ a < 5000) (fun vx _ => fbits vx)
  case atStart => exact ⟨r, 0, rfl, rfl, ⟨HR.out.2, HR.out.1, rfl⟩, by omega⟩
  case round =>
    obtain ⟨s, a, rfl, rfl, hs, ha⟩ := hrel
    by_cases hl : Fl.U s < Fl.LIM
    · have ho := (ordAt hs.out.1).1 hl
      have HL := Lib.hid hl
      clear hl
      go_wp2_with (go_at_call 51; refine (hB.out _).mono ?_; rintro e w' ⟨rfl, rfl⟩)
      go_loop [0, 4] (fun vx ve => ∃ (t b : Nat), vx = .float .f64 t ∧ ve = .int .i64 ((a : Int) - (b : Int)) ∧ Hid (t < Fl.I ∧ 0 < t ∧ Fl.Rel r t a b ∧ Fl.U t < Fl.LIM) ∧ b < 10000) (fun vx _ => Fl.LIM - Fl.U (fbits vx))
      case atStart => exact ⟨s, 0, rfl, by simp, ⟨hs.out.1, hs.out.2.1, hs.out.2.2, HL.out⟩, by omega⟩
      case round =>
        obtain ⟨t, b, rfl, rfl, ht, hbb⟩ := hrel
        cases hw : Fl.isWh t
        · have hm : Fl.U t % Fl.ONE ≠ 0 := by
            intro k
            unfold Fl.isWh at hw
            simp [ht.out.2.2.2, k] at hw
          obtain ⟨t2, h1, h2, h3⟩ := Fl.dbl ht.out.1 hm
          have hU := Fl.U_pos ht.out.2.1
          have ht2 : 0 < t2 := by
            rcases Nat.eq_zero_or_pos t2 with k | k
            · rw [k, Fl.U_zero] at h2; omega
            · exact k
          have e := Fl.rung_self (Nat.le_of_lt ht.out.1)
          have hmul := Fl.mul_two (x := t) (r := t2) (by rw [e]; exact ht.out.1) h1 (by rw [e]; exact h2)
          rw [Fl.neg_self (Nat.le_of_lt ht.out.1), Fl.word_false] at hmul
          have hq := fun w => run_float_arith (P := Tryz.prog) w .mul 25 .f64 t 4611686018427387904 t2 hmul
          have hrel2 := Fl.Rel.dbl ht.out.2.2.1 h2
          have hbd := Fl.Rel.bound2 hrel2 h1 HR.out.1
          have hb2 : b + 1 < 10000 := by have := HT.out; omega
          have hc := Lib.hid (fun w => wholeAt false t w ht.out.1 hw)
          have HN := Lib.hid (And.intro h1 (And.intro ht2 (And.intro hrel2 (And.intro h3 (And.intro h2 hU)))))
          clear hw hm h1 h2 h3 hU ht2 e hmul hrel2 hbd
          go_wp2_with (go_at_call 47; refine (hc.out _).mono ?_; rintro e w' ⟨rfl, rfl⟩)
          go_round
          case rel => exact ⟨t2, b + 1, rfl, by go_num, ⟨HN.out.1, HN.out.2.1, HN.out.2.2.1, HN.out.2.2.2.1⟩, hb2⟩
          case measure =>
            have h2 := HN.out.2.2.2.2.1
            have h3 := HN.out.2.2.2.1
            have h4 := HN.out.2.2.2.2.2
            show Fl.LIM - Fl.U t2 < Fl.LIM - Fl.U t
            omega
        · have hm : Fl.U t % Fl.ONE = 0 := by
            unfold Fl.isWh at hw
            simp at hw; exact hw.2
          have hN := Fl.Rel.whole ht.out.2.2.1 hm
          have hw0 : 0 < Fl.wv t := by
            rcases Nat.eq_zero_or_pos (Fl.wv t) with k | k
            · exfalso
              have h1 := Fl.wv_exact.2 hm
              have h2 := Fl.U_pos ht.out.2.1
              rw [k] at h1; omega
            · exact k
          have hwl := Fl.wv_lt ht.out.2.2.2
          have hc := Lib.hid (fun w => wholeAt true t w ht.out.1 hw)
          have HN := Lib.hid hN
          clear hw hm hN
          generalize Fl.wv t = n0 at *
          go_wp2_with (go_at_call 47; refine (hc.out _).mono ?_; rintro e w' ⟨rfl, rfl⟩)
          go_loop [4, 7] (fun ve vn => ∃ (n c : Nat), vn = .int .i64 n ∧ ve = .int .i64 ((c : Int) - (b : Int)) ∧ 0 < n ∧ n < 9007199254740992 ∧ Hid (Fl.RelN r n c b) ∧ c < 20000) (fun _ vn => (intOf vn).toNat)
          case atStart => exact ⟨n0, a, rfl, rfl, hw0, hwl, HN.out, by omega⟩
          case round =>
            clear hw0 hwl
            obtain ⟨n, c, rfl, rfl, hn0, hn1, hn2, hc3⟩ := hrel
            by_cases hodd : n % 2 = 1
            · have hd := Lib.hid (Fl.RelN.done hn2.out HR.out.2 HR.out.1 hodd)
              have hb1 : ((n : Int) % 2 == 0) = false := by rw [beq_eq_false_iff_ne]; omega
              clear hodd
              go_wp2_with fail
              go_ret2
              exact ⟨ret2 (by rw [hd.out.1]; rfl) (by rw [hd.out.2]; rfl), rfl⟩
            · have hb1 : ((n : Int) % 2 == 0) = true := by rw [beq_iff_eq]; omega
              have hh := Lib.hid (Fl.RelN.half (show Fl.RelN r (2 * (n / 2)) c b by rw [show 2 * (n / 2) = n by omega]; exact hn2.out))
              have hbd := Fl.RelN.bound hh.out HR.out.2 (by omega)
              have hc4 : c + 1 < 20000 := by have := HT.out; omega
              have hn3 : 0 < n / 2 := by omega
              clear hodd hbd
              go_wp2_with fail
              go_round
              case rel => exact ⟨n / 2, c + 1, by go_num, by go_num, hn3, by omega, hh.out, hc4⟩
              case measure => simp [intOf]; omega
    · obtain ⟨o, ho, h1⟩ := (ordAt hs.out.1).2 (by omega)
      obtain ⟨t, k1, k2, k3⟩ := Fl.half hs.out.1 (by omega)
      have hUs := Fl.U_pos hs.out.2.1
      have ht0 : 0 < t := by
        rcases Nat.eq_zero_or_pos t with k | k
        · rw [k, Fl.U_zero] at k2; omega
        · exact k
      have e := Fl.rung_self (Nat.le_of_lt hs.out.1)
      have hdv := Fl.div_two (x := s) (r := t) (by rw [e]; exact hs.out.1) k1 (by rw [e]; exact k2)
      rw [Fl.neg_self (Nat.le_of_lt hs.out.1), Fl.word_false] at hdv
      have hq := fun w => run_float_arith (P := Tryz.prog) w .quo 25 .f64 s 4611686018427387904 t hdv
      have hrel2 := Fl.Rel.half hs.out.2.2 k2
      have hbd := Fl.Rel.bound hrel2 HR.out.2 ht0
      have ha2 : a + 1 < 5000 := by have := HT.out; omega
      have HN := Lib.hid (And.intro k1 (And.intro ht0 (And.intro hrel2 k3)))
      clear hl k1 k2 k3 hUs ht0 e hdv hrel2 hbd
      rcases ho with rfl | rfl
      all_goals
        go_wp2_with (go_at_call 51; refine (hB.out _).mono ?_; rintro e w' ⟨rfl, rfl⟩)
        go_round
        case rel => exact ⟨t, a + 1, rfl, by go_num, ⟨HN.out.1, HN.out.2.1, HN.out.2.2.1⟩, ha2⟩
        case measure => exact HN.out.2.2.2
end Go.Proofs.YtdebbljohlffdaaGreatDoor
