import Derived.Test.YtdebbljohlffdaaGreatDoorNumX
namespace Go.Proofs.YtdebbljohlffdaaGreatDoor
open Go.Shelf Go.RowKit

/-- how strconv's readers end: a value, or an error -/
def PubEnd (l : List UInt8) (w : World) (e : Ending) (w' : World) : Prop :=
  ((PuGood l ∧ e = .returned (.tuple #[.int .u64 (Fl.dval l), .nilIface])) ∨ (¬ PuGood l ∧ ∃ (v : Int) (N : Nat), e = .returned (.tuple #[.int .u64 v, .iface 90 (.pointer (some ⟨N, 0, none⟩))]))) ∧ Below w.heap.size w w'
set_option maxRecDepth 100000 in
set_option maxHeartbeats 1000000 in
theorem puint_c (s : ByteArray) (hs : s.size ≤ 1000) (w : World) (he : Env w) :
    Calls Tryz.prog 41 #[.string s, .int .i64 10, .int .i64 53] w (PubEnd s.data.toList w) := by
  have hp := Lib.hid (puint_in s hs w)
  have HE := Lib.hid he
  clear he
  go_enter Tryz.func41, Tryz.ntmps41
  go_wp2_with fail
  refine hp.out.mono ?_
  rintro e w1 ⟨⟨hg, rfl⟩ | ⟨hg, v, c, hc, rfl⟩, hb⟩
  · have HG := Lib.hid hg
    clear hg
    go_wp2_with fail
    go_ret2
    exact ⟨Or.inl ⟨HG.out, rfl⟩, hb⟩
  · have HG := Lib.hid hg
    obtain ⟨t4, p4, h4⟩ := (HE.out.below hb).syn
    obtain ⟨t5, p5, h5⟩ := (HE.out.below hb).rng
    have f4 := Lib.hid (fun fn => Tryz.strconv_toError_syntax fn s 10 53 _ w1 (by omega) h4 (Or.inr ⟨t4, p4, rfl⟩))
    have f5 := Lib.hid (fun fn => Tryz.strconv_toError_range fn s 10 53 _ w1 (by omega) h5 (Or.inr ⟨t5, p5, rfl⟩))
    clear hg h4 h5
    have fin : ∀ N w2, Below w1.heap.size w1 w2 → PubEnd s.data.toList w (.returned (.tuple #[.int .u64 v, .iface 90 (.pointer (some ⟨N, 0, none⟩))])) w2 := fun N w2 h2 => ⟨Or.inr ⟨HG.out, v, N, rfl⟩, below2 hb h2⟩
    have fin := Lib.hid fin
    rcases hc with rfl | rfl
    · go_wp2_with fail
      refine (f5.out _).mono ?_
      rintro e w2 ⟨N, rfl, _, _, hb2⟩
      go_wp2_with fail
      go_ret2
      exact fin.out N _ hb2
    · go_wp2_with fail
      refine (f4.out _).mono ?_
      rintro e w2 ⟨N, rfl, _, _, hb2⟩
      go_wp2_with fail
      go_ret2
      exact fin.out N _ hb2
def AtEnd (l : List UInt8) (w : World) (e : Ending) (w' : World) : Prop :=
  ((∃ v, Lib.atoiAll l = .ok v ∧ e = .returned (.tuple #[.int .i64 v, .nilIface])) ∨ ((∀ v, Lib.atoiAll l ≠ .ok v) ∧ ∃ (v : Int) (N : Nat), e = .returned (.tuple #[.int .i64 v, .iface 90 (.pointer (some ⟨N, 0, none⟩))]))) ∧ Below w.heap.size w w'
theorem atoi_c (s : ByteArray) (hs : s.size ≤ 1000) (w : World) (he : Env w) : Calls Tryz.prog 42 #[.string s] w (AtEnd s.data.toList w) := by
  rcases h : Lib.atoiAll s.data.toList with v | _ | _
  ·
    refine (Tryz.strconv_Atoi_ok s (by omega) v h w).mono fun e w' ⟨h1, h2⟩ => ⟨Or.inl ⟨v, h, h1⟩, ?_⟩
    rcases h2 with rfl | ⟨t, rfl⟩
    · exact Below.refl _ _
    · exact Lib.bytesWorld_below _ _ _
  ·
    obtain ⟨t4, p4, h4⟩ := he.syn
    refine (Tryz.strconv_Atoi_syntax s (by omega) h _ w h4 (Or.inr ⟨t4, p4, rfl⟩)).mono fun e w' ⟨N, h1, _, _, h2⟩ => ⟨Or.inr ⟨fun v k => ?_, 0, N, h1⟩, h2⟩
    rw [h] at k; cases k
  ·
    obtain ⟨t5, p5, h5⟩ := he.rng
    refine (Tryz.strconv_Atoi_range s (by omega) h _ w h5 (Or.inr ⟨t5, p5, rfl⟩)).mono fun e w' ⟨N, h1, _, _, h2⟩ => ⟨Or.inr ⟨fun v k => ?_, _, N, h1⟩, h2⟩
    rw [h] at k; cases k
set_option maxRecDepth 100000 in
set_option maxHeartbeats 400000 in
theorem nanv_c (w : World) : Calls Tryz.prog 38 #[] w fun e w' => e = .returned (.float .f64 9221120237041090561) ∧ w = w' := by
  have hb2 := run_f64from
  go_enter Tryz.func38, Tryz.ntmps38
  go_wp2_with fail
  go_ret
  exact ⟨rfl, rfl⟩
def LdEnd (n : Nat) (k : Int) (w : World) (e : Ending) (w' : World) : Prop := (∃ x, Fl.LdOk n k x ∧ e = .returned (.float .f64 x)) ∧ w = w'
set_option maxHeartbeats 400000 in
theorem ldexp_c (n : Nat) (k : Int) (w : World) (h : n < 9007199254740992) (hk1 : -2000 ≤ k) (hk2 : k ≤ 2000) :
    Calls Tryz.prog 43 #[.float .f64 (floatOfInt .f64 (n : Int)), .int .i64 k] w (LdEnd n k w) := by
  have hl := Lib.hid (ldexp_in n k w h hk1 hk2)
  go_enter Tryz.func43, Tryz.ntmps43
  go_wp2_with fail
  refine hl.out.mono ?_
  rintro e w' ⟨⟨x, hx, rfl⟩, rfl⟩
  have hx := Lib.hid hx
  go_wp2_with fail
  go_ret
  exact ⟨⟨x, hx.out, rfl⟩, rfl⟩
end Go.Proofs.YtdebbljohlffdaaGreatDoor
