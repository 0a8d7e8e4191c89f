import Derived.Test.YtdebbljohlffdaaGreatDoorNumZa
namespace Go.Proofs.YtdebbljohlffdaaGreatDoor
open Go.Shelf Go.RowKit

theorem size_of (l : List UInt8) : (⟨l.toArray⟩ : ByteArray).size = l.length := rfl
theorem data_of (l : List UInt8) : (⟨l.toArray⟩ : ByteArray).data.toList = l := rfl
/-- Parse ends so, where its text is cut -/
structure Cuts (s : ByteArray) (b : Bool) (T m e : List UInt8) (fd : Bool) : Prop where
  hT : Lib.trimPrefix s.data.toList [45] = T
  hb : Lib.hasPrefix s.data.toList [45] = b
  hc : Lib.cut T [112] = (m, e, fd)
  h1 : T ≠ [110, 97, 110]
  h2 : T ≠ [105, 110, 102]
  lT : T.length ≤ 100
  lm : m.length ≤ 100
  le : e.length ≤ 100
theorem Cuts.bad {s : ByteArray} {b : Bool} {T m e : List UInt8} {fd : Bool} (h : Cuts s b T m e fd) (hn : ¬ PuGood m ∨ (fd = true ∧ ∀ k, Lib.atoiAll e = .ok k → k < -2000 ∨ 2000 < k)) : ParseOk s.data.toList 0 210 := by
  have hs := strip s.data.toList
  rw [h.hT, h.hb] at hs
  refine ParseOk.none (no_sign b hs.1 hs.2 h.h1 fun r hr ht => ?_)
  obtain ⟨k1, k2, k3⟩ := cut_ok h.hc h.h2 r hr ht
  rcases hn with hn | ⟨hf, hn⟩
  · exact hn k1
  · obtain ⟨k, a1, a2, a3, _⟩ := k3 hf
    rcases hn k a1 with h4 | h4 <;> omega
theorem Cuts.good {s : ByteArray} {b : Bool} {T m e : List UInt8} {fd : Bool} (h : Cuts s b T m e fd) {k : Int} (hk : (fd = false ∧ k = 0) ∨ (fd = true ∧ Lib.atoiAll e = .ok k)) {x : Nat} (hx : Fl.LdOk (Fl.dval m) k x) :
    Worth s.data.toList (if b then Fl.opp x else x) := by
  have hs := strip s.data.toList
  rw [h.hT, h.hb] at hs
  refine worth_sign b hs.1 hs.2 hx.1.2 h.h1 fun r hr ht => ?_
  obtain ⟨k1, k2, k3⟩ := cut_ok h.hc h.h2 r hr ht
  rcases hk with ⟨hf, rfl⟩ | ⟨hf, ha⟩
  · exact k2 hf x hx
  · obtain ⟨k', a1, a2, a3, a4⟩ := k3 hf
    rw [ha] at a1
    cases a1
    exact a4 x hx
theorem PuGood.lt {l : List UInt8} (h : PuGood l) : Fl.dval l < 9007199254740992 := by
  have := h.2.2
  rw [PuMax_eq] at this
  omega
theorem below_drewN (w : World) : ∀ k, Below w.heap.size w (w.drewN k)
  | 0 => Below.refl _ _
  | k + 1 => by
    rw [World.drewN]
    exact (below_drewN w k).trans ((Below.refl _ _).drew)
/-- the last part -/
theorem print_end {s : ByteArray} {X : Nat} (hW : Worth s.data.toList X) (w0 w : World) (he : Env w) (hbl : Below w0.heap.size w0 w) :
    ∃ l : List UInt8, ∃ t : Bool, (l == s.toList) = t ∧ ParseOk s.data.toList (if t then X else 0) (if t then 0 else 210) ∧ Calls Tryz.prog 13 #[.float .f64 X] w fun e w' => e = .returned (.string ⟨l.toArray⟩) ∧ Below w0.heap.size w0 w' := by
  refine ⟨Fl.text X, _, rfl, ?_, (print_c X w hW.1 he).mono fun e w' ⟨h1, h2⟩ => ⟨h1, below2 hbl h2⟩⟩
  by_cases ht : Fl.text X = s.data.toList
  · have hb1 : (Fl.text X == s.toList) = true := by rw [list_of, beq_iff_eq]; exact ht
    rw [hb1]
    exact .yes hW ht
  · have hb1 : (Fl.text X == s.toList) = false := by rw [list_of, beq_eq_false_iff_ne]; exact ht
    rw [hb1]
    exact .no hW ht
set_option maxHeartbeats 2000000 in
theorem parse_no (s : ByteArray) (w : World) (b : Bool) (T m e : List UInt8) (hC : Cuts s b T m e false) (he : Env w) :
    Calls Tryz.prog 14 #[.string s] w (ParseEnd s.data.toList w) := by
  have hcp := Lib.hid (Tryz.strings_CutPrefix s ⟨#[45]⟩ w)
  rw [show (⟨#[45]⟩ : ByteArray).data.toList = [45] from rfl, hC.hT, hC.hb] at hcp
  obtain ⟨mx, hmx⟩ := he.mx
  have hlT := hC.lT
  have hcut := Lib.hid (Tryz.strings_Cut ⟨T.toArray⟩ ⟨#[112]⟩ mx w (by rw [size_of]; omega) hmx)
  rw [show (⟨#[112]⟩ : ByteArray).data.toList = [112] from rfl, show (⟨T.toArray⟩ : ByteArray).data.toList = T from rfl, hC.hc] at hcut
  have h1 : (T == [110, 97, 110]) = false := beq_eq_false_iff_ne.2 hC.h1
  have h2 : (T == [105, 110, 102]) = false := beq_eq_false_iff_ne.2 hC.h2
  have hop := run_opp
  have hlm := hC.lm
  have hle := hC.le
  have hbd : ∀ k, Below w.heap.size w (w.drewN k) := fun k => below_drewN w k
  have he1 := fun k => he.below (hbd k)
  have hbd := Lib.hid hbd
  have he1 := Lib.hid he1
  have HE := Lib.hid he
  have HC := Lib.hid hC
  clear hmx hC he
  go_enter Tryz.func14, Tryz.ntmps14
  go_wp2_with (first | (go_at_call 37; refine hcp.out.mono ?_; rintro e w' ⟨rfl, rfl⟩) | (go_at_call 40; refine hcut.out.mono ?_; rintro e w' ⟨rfl, nn, rfl⟩))
  refine (puint_c ⟨m.toArray⟩ (by rw [size_of]; omega) _ (he1.out nn)).mono ?_
  rw [data_of]
  rintro e' w2 ⟨⟨hg, rfl⟩ | ⟨hg, v, N, rfl⟩, hb2⟩
  · have hlt := hg.lt
    have hg := Lib.hid hg
    have hbw := below2 (hbd.out nn) hb2
    have hbw := Lib.hid hbw
    have hl := Lib.hid (ldexp_c (Fl.dval m) 0 w2 hlt (by omega) (by omega))
    go_wp2_with fail
    refine hl.out.mono ?_
    rintro e' w' ⟨⟨x, hx, rfl⟩, rfl⟩
    cases b
    all_goals
      obtain ⟨l, t, ht, hend, hp⟩ := print_end (HC.out.good (k := 0) (Or.inl ⟨rfl, rfl⟩) hx) _ _ (HE.out.below hbw.out) hbw.out
      simp only [if_true, if_false, Bool.false_eq_true] at hp hend
      have hend := Lib.hid hend
      have hp := Lib.hid hp
      have hx := Lib.hid hx
      cases t
      all_goals
        go_wp2_with fail
        refine hp.out.mono ?_
        rintro e w' ⟨rfl, hbl⟩
        go_wp2_with fail
        go_ret2
        exact ⟨_, _, rfl, hend.out, hbl⟩
  · have hend := Lib.hid (HC.out.bad (Or.inl hg))
    have hbw := Lib.hid (below2 (hbd.out nn) hb2)
    have hg := Lib.hid hg
    go_wp2_with fail
    go_ret2
    exact ⟨_, _, rfl, hend.out, hbw.out⟩
end Go.Proofs.YtdebbljohlffdaaGreatDoor
