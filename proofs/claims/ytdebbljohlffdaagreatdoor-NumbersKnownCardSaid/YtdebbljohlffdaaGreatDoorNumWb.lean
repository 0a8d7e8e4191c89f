import Derived.Test.YtdebbljohlffdaaGreatDoorNumWa
namespace Go.Proofs.YtdebbljohlffdaaGreatDoor
open Go.Shelf Go.RowKit

theorem parse_at (w : World) (he : Env w) (l : List UInt8) (hl : l.length ≤ 100) (w' : World) (hb : Below w.heap.size w w') : Calls Tryz.prog 14 #[.string ⟨l.toArray⟩] w' fun e w'' => ∃ x c, e = .returned (.tuple #[.float .f64 x, .int .i64 c]) ∧ ParseOk l x c ∧ Below w.heap.size w w'' :=
  (parse_c ⟨l.toArray⟩ hl w' (he.below hb)).mono fun _e _w'' ⟨x, c, h1, h2, h3⟩ => ⟨x, c, h1, h2, below2 hb h3⟩
theorem print_at (w : World) (he : Env w) (x : Nat) (l : List UInt8) (hx : x < 18446744073709551616) (hl : Fl.text x = l) (w' : World) (hb : Below w.heap.size w w') : Calls Tryz.prog 13 #[.float .f64 x] w' fun e w'' => e = .returned (.string ⟨l.toArray⟩) ∧ Below w.heap.size w w'' :=
  (print_c x w' hx (he.below hb)).mono fun e w'' ⟨h1, h2⟩ => ⟨by rw [← hl]; exact h1, below2 hb h2⟩
def three (nan : Nat) : Nat → Nat
  | 0 => 4611686018427387904
  | 1 => nan
  | _ => 4607182418800017408
theorem three_lst {nan : Nat} (h : Fl.isNaN nan = true) : Fl.lst (fun i => three nan (i + 1)) (three nan 0) 2 = 4607182418800017408 := by
  have h1 : Fl.cmpS nan 4611686018427387904 = 1 := by
    unfold Fl.cmpS
    rw [if_pos h, if_neg (by decide)]
  have h2 : Fl.lst (fun i => three nan (i + 1)) (three nan 0) 1 = 4611686018427387904 := by
    show (if Fl.cmpS nan 4611686018427387904 < 0 then nan else 4611686018427387904) = _
    rw [h1]; rfl
  show (if Fl.cmpS 4607182418800017408 (Fl.lst (fun i => three nan (i + 1)) (three nan 0) 1) < 0 then 4607182418800017408 else Fl.lst (fun i => three nan (i + 1)) (three nan 0) 1) = _
  rw [h2, if_pos (by decide +kernel)]
set_option maxHeartbeats 1000000 in
theorem least_three {nan : Nat} (h : Fl.isNaN nan = true) (hx : nan < 18446744073709551616) (w : World) :
    Calls Tryz.prog 26 #[.slice (some ⟨w.heap.size, 0, none⟩) 3 3] (w.alloc (.cells #[.float .f64 4611686018427387904, .float .f64 nan, .float .f64 4607182418800017408] 25)) fun e w' =>
      e = .returned (.float .f64 4607182418800017408) ∧ w.alloc (.cells #[.float .f64 4611686018427387904, .float .f64 nan, .float .f64 4607182418800017408] 25) = w' := by
  have := least_some w.heap.size 0 3 3 (three nan) (w.alloc (.cells #[.float .f64 4611686018427387904, .float .f64 nan, .float .f64 4607182418800017408] 25)) (by decide) (by decide) (by decide) (fun i hi => by
    match i, hi with
    | 0, _ => exact show 4611686018427387904 < 18446744073709551616 by decide
    | 1, _ => exact hx
    | 2, _ => exact show 4607182418800017408 < 18446744073709551616 by decide) (fun i hi => by
    rw [Nat.zero_add, World.cell?_alloc_new]
    match i, hi with
    | 0, _ => rfl
    | 1, _ => rfl
    | 2, _ => rfl)
  rw [three_lst h] at this
  exact this
set_option maxRecDepth 100000 in
set_option maxHeartbeats 4000000 in
theorem works_c (w : World) (he : Env w) : Calls Tryz.prog 12 #[] w fun e w' => e = .returned (.bool true) ∧ Below w.heap.size w w' := by
  have hp1 := Lib.hid (parse_at w he [49, 112, 45, 49, 48, 55, 52] (by decide))
  have hp2 := Lib.hid (parse_at w he [48, 49] (by decide))
  have hp3 := Lib.hid (parse_at w he [50, 112, 51] (by decide))
  have ht1 := Lib.hid (print_at w he 4622945017495814144 _ (by decide) text_12)
  have ht2 := Lib.hid (print_at w he 13826050856027422720 _ (by decide) text_half)
  have ht3 := Lib.hid (print_at w he 4884153795883302912 _ (by decide) text_3p60)
  have ht4 := Lib.hid (print_at w he 4599676419421066581 _ (by decide) text_third)
  have hq0 := run_float_nan (P := Tryz.prog) w .quo 25 0 0 (by simp) (by decide)
  have hq1 := fun w => run_float_arith (P := Tryz.prog) w .quo 25 .f64 4607182418800017408 0 9218868437227405312 (by decide)
  have hq2 := fun w => run_float_arith (P := Tryz.prog) w .quo 25 .f64 13830554455654793216 9218868437227405312 9223372036854775808 (by decide)
  have hq3 := fun w => run_float_arith (P := Tryz.prog) w .quo 25 .f64 1 4611686018427387904 0 (by decide +kernel)
  have hd := Lib.hid (fun w => do_ok19 47 4607182418800017408 9223372036854775808 18442240474082181120 .quo w rfl (by decide))
  have hb0 := Lib.hid ((Below.refl w.heap.size w).drew)
  have hN := (nanAns_nan w 0 0)
  generalize nanAns w 0 0 = nan at *
  have hop := run_opp
  have o1 : FloatKind.f64.format.order 1 0 = some .gt := by decide +kernel
  have o2 : FloatKind.f64.format.order 0 0 = some .eq := by decide +kernel
  have o3 : FloatKind.f64.format.order 18442240474082181120 (Fl.opp 9218868437227405312) = some .eq := by decide +kernel
  have o4 : FloatKind.f64.format.order 13835058055282163712 13835058055282163712 = some .eq := by decide +kernel
  have hc1 := fun w => compare_c 9223372036854775808 0 w (by decide) (by decide)
  rw [show Fl.cmpS 9223372036854775808 0 = -1 by decide +kernel] at hc1
  have hc1 := Lib.hid hc1
  have hd1 := fun w => down_c 9223372036854775808 w (by decide)
  rw [show Fl.floor 9223372036854775808 = 9223372036854775808 by decide +kernel] at hd1
  have hd1 := Lib.hid hd1
  have hs1 := fun w => same_c 9223372036854775808 9223372036854775808 w (by decide) (by decide)
  rw [show Fl.same 9223372036854775808 9223372036854775808 = true by decide +kernel] at hs1
  have hs1 := Lib.hid hs1
  have nn := Fl.isNaN_true.2 hN.1
  have hc2 := fun w => compare_c 9218868437227405312 nan w (by decide) hN.2
  rw [show Fl.cmpS 9218868437227405312 nan = -1 by unfold Fl.cmpS; rw [nn, if_neg (by decide)]; rfl] at hc2
  have hc2 := Lib.hid hc2
  have hc3 := fun w => compare_c nan nan w hN.2 hN.2
  rw [show Fl.cmpS nan nan = 0 by unfold Fl.cmpS; rw [nn]; rfl] at hc3
  have hc3 := Lib.hid hc3
  have hd2 := fun w => down_c 13832806255468478464 w (by decide)
  rw [show Fl.floor 13832806255468478464 = 13835058055282163712 by decide +kernel] at hd2
  have hd2 := Lib.hid hd2
  have hs2 := fun w => same_c 4607182418800017408 4607182418800017408 w (by decide) (by decide)
  rw [show Fl.same 4607182418800017408 4607182418800017408 = true by decide +kernel] at hs2
  have hs2 := Lib.hid hs2
  have HNaN := Lib.hid (And.intro nn hN.2)
  clear he nn hN
  go_enter Tryz.func12, Tryz.ntmps12
  go_wp2_with fail
  refine (hp1.out _ hb0.out).mono ?_
  rintro e w1 ⟨x, c, rfl, hok, hb1⟩
  obtain ⟨rfl, rfl⟩ := parse_one hok
  clear hok
  go_wp2_with fail
  refine (hp2.out _ hb1).mono ?_
  rintro e w2 ⟨y, c, rfl, hok, hb2⟩
  have hc := parse_no_01 hok
  subst hc
  clear hok
  go_wp2_with fail
  refine (hp3.out _ hb2).mono ?_
  rintro e w3 ⟨z, c, rfl, hok, hb3⟩
  have hc := parse_no_2p3 hok
  subst hc
  clear hok
  go_wp2_with fail
  refine (hd.out _).mono ?_
  rintro e w' ⟨rfl, rfl⟩
  go_wp2_with fail
  refine (ht1.out _ hb3).mono ?_
  rintro e w4 ⟨rfl, hb4⟩
  go_wp2_with fail
  refine (ht2.out _ hb4).mono ?_
  rintro e w5 ⟨rfl, hb5⟩
  go_wp2_with fail
  refine (ht3.out _ hb5).mono ?_
  rintro e w6 ⟨rfl, hb6⟩
  go_wp2_with fail
  refine (ht4.out _ hb6).mono ?_
  rintro e w7 ⟨rfl, hb7⟩
  clear hb1 hb2 hb3 hb4 hb5 hb6
  go_wp2_with fail
  refine (hc1.out _).mono ?_
  rintro e w' ⟨rfl, rfl⟩
  go_wp2_with fail
  refine (hd1.out _).mono ?_
  rintro e w' ⟨rfl, rfl⟩
  go_wp2_with fail
  refine (hs1.out _).mono ?_
  rintro e w' ⟨rfl, rfl⟩
  go_wp2_with fail
  refine (hc2.out _).mono ?_
  rintro e w' ⟨rfl, rfl⟩
  go_wp2_with fail
  refine (hc3.out _).mono ?_
  rintro e w' ⟨rfl, rfl⟩
  go_wp2_with fail
  refine (hd2.out _).mono ?_
  rintro e w' ⟨rfl, rfl⟩
  have hl := Lib.hid (fun w => least_three HNaN.out.1 HNaN.out.2 w)
  go_wp2_with fail
  refine (hl.out _).mono ?_
  rintro e w' ⟨rfl, rfl⟩
  go_wp2_with fail
  refine (hs2.out _).mono ?_
  rintro e w' ⟨rfl, rfl⟩
  go_wp2_with fail
  go_ret
  exact ⟨rfl, hb7.alloc hb7.size _⟩
end Go.Proofs.YtdebbljohlffdaaGreatDoor
