import Derived.Test.YtdebbljohlffdaaGreatDoorNumZb
namespace Go.Proofs.YtdebbljohlffdaaGreatDoor
open Go.Shelf Go.RowKit

set_option maxHeartbeats 2000000 in
theorem parse_p (s : ByteArray) (w : World) (b : Bool) (T m e : List UInt8) (hC : Cuts s b T m e true) (he : Env w) :
    Calls Tryz.prog 14 #[.string s] w (ParseEnd s.data.toList w) := by
  have hcp := Lib.hid (Tryz.strings_CutPrefix s ⟨#[45]⟩ w)
  rw [show (⟨#[45]⟩ : ByteArray).data.toList = [45] from rfl, hC.hT, hC.hb] at hcp
  obtain ⟨mx, hmx⟩ := he.mx
  have hlT := hC.lT
  have hcut := Lib.hid (Tryz.strings_Cut ⟨T.toArray⟩ ⟨#[112]⟩ mx w (by rw [size_of]; omega) hmx)
  rw [show (⟨#[112]⟩ : ByteArray).data.toList = [112] from rfl, show (⟨T.toArray⟩ : ByteArray).data.toList = T from rfl, hC.hc] at hcut
  have h1 : (T == [110, 97, 110]) = false := beq_eq_false_iff_ne.2 hC.h1
  have h2 : (T == [105, 110, 102]) = false := beq_eq_false_iff_ne.2 hC.h2
  have hop := run_opp
  have hlm := hC.lm
  have hle := hC.le
  have hbd : ∀ k, Below w.heap.size w (w.drewN k) := fun k => below_drewN w k
  have he1 := fun k => he.below (hbd k)
  have hbd := Lib.hid hbd
  have he1 := Lib.hid he1
  have HE := Lib.hid he
  have HC := Lib.hid hC
  clear hmx hC he
  go_enter Tryz.func14, Tryz.ntmps14
  go_wp2_with (first | (go_at_call 37; refine hcp.out.mono ?_; rintro e w' ⟨rfl, rfl⟩) | (go_at_call 40; refine hcut.out.mono ?_; rintro e w' ⟨rfl, nn, rfl⟩))
  refine (puint_c ⟨m.toArray⟩ (by rw [size_of]; omega) _ (he1.out nn)).mono ?_
  rw [data_of]
  rintro e' w2 ⟨hp2, hb2⟩
  have hbw := below2 (hbd.out nn) hb2
  have hE2 := HE.out.below hbw
  have hat := Lib.hid (atoi_c ⟨e.toArray⟩ (by rw [size_of]; omega) w2 hE2)
  rw [data_of] at hat
  have HBW := Lib.hid hbw
  clear hbw hE2
  rcases hp2 with ⟨hg, rfl⟩ | ⟨hg, v, N, rfl⟩
  · have hlt := hg.lt
    have hg := Lib.hid hg
    go_wp2_with fail
    refine hat.out.mono ?_
    rintro e' w3 ⟨⟨k, hk, rfl⟩ | ⟨hk, v, N, rfl⟩, hb3⟩
    · have HB3 := Lib.hid (below2 HBW.out hb3)
      by_cases hk1 : k > 2000
      · have hend := Lib.hid (HC.out.bad (Or.inr ⟨rfl, fun k' h' => by rw [hk] at h'; cases h'; omega⟩))
        have hk := Lib.hid hk
        clear hlt
        go_wp2_with fail
        go_ret2
        exact ⟨_, _, rfl, hend.out, HB3.out⟩
      · by_cases hk2 : k < -2000
        · have hend := Lib.hid (HC.out.bad (Or.inr ⟨rfl, fun k' h' => by rw [hk] at h'; cases h'; omega⟩))
          have hk := Lib.hid hk
          clear hlt
          go_wp2_with fail
          go_ret2
          exact ⟨_, _, rfl, hend.out, HB3.out⟩
        · have hl := Lib.hid (ldexp_c (Fl.dval m) k w3 hlt (by omega) (by omega))
          have hk := Lib.hid hk
          go_wp2_with fail
          refine hl.out.mono ?_
          rintro e' w' ⟨⟨x, hx, rfl⟩, rfl⟩
          cases b
          all_goals
            obtain ⟨l, t, ht, hend, hp⟩ := print_end (HC.out.good (k := k) (Or.inr ⟨rfl, hk.out⟩) hx) _ _ (HE.out.below HB3.out) HB3.out
            simp only [if_true, if_false, Bool.false_eq_true] at hp hend
            have hend := Lib.hid hend
            have hp := Lib.hid hp
            have hx := Lib.hid hx
            cases t
            all_goals
              go_wp2_with fail
              refine hp.out.mono ?_
              rintro e w' ⟨rfl, hbl⟩
              go_wp2_with fail
              go_ret2
              exact ⟨_, _, rfl, hend.out, hbl⟩
    · have hend := Lib.hid (HC.out.bad (Or.inr ⟨rfl, fun k' h' => absurd h' (hk k')⟩))
      have HB3 := Lib.hid (below2 HBW.out hb3)
      have hk := Lib.hid hk
      clear hlt
      go_wp2_with fail
      go_ret2
      exact ⟨_, _, rfl, hend.out, HB3.out⟩
  · have hend := Lib.hid (HC.out.bad (Or.inl hg))
    have hg := Lib.hid hg
    go_wp2_with fail
    refine hat.out.mono ?_
    rintro e' w3 ⟨⟨k, hk, rfl⟩ | ⟨hk, v, N, rfl⟩, hb3⟩
    all_goals
      have HB3 := Lib.hid (below2 HBW.out hb3)
      have hk := Lib.hid hk
      go_wp2_with fail
      go_ret2
      exact ⟨_, _, rfl, hend.out, HB3.out⟩
/-- PARSE -/
theorem parse_c (s : ByteArray) (hs : s.size ≤ 100) (w : World) (he : Env w) : Calls Tryz.prog 14 #[.string s] w (ParseEnd s.data.toList w) := by
  have hst := strip s.data.toList
  have hlT := Lib.trimPrefix_le s.data.toList [45]
  have hl : s.data.toList.length = s.size := by simp
  cases hb : Lib.hasPrefix s.data.toList [45] <;> generalize hT : Lib.trimPrefix s.data.toList [45] = T at * <;> rw [hb] at hst
  all_goals
    by_cases h1 : T = [110, 97, 110]
    · rw [h1] at hT hst
      refine parse_nan s w _ _ hT hb he rfl ?_
      have hw : ∀ X, Fl.isNaN X = true → X < 18446744073709551616 → Worth [110, 97, 110] X := worth_nan
      simp at hst
      simp
      rw [hst]
      first
        | exact worth_nan _ (by decide) (by decide)
        | exact worth_neg (worth_nan _ (by decide) (by decide))
    · by_cases h2 : T = [105, 110, 102]
      · rw [h2] at hT hst
        refine parse_inf s w _ _ hT hb he rfl ?_
        simp at hst
        simp
        rw [hst]
        first
          | exact worth_inf
          | exact worth_neg worth_inf
      · cases hc : Lib.cut T [112] with
        | mk m r =>
          obtain ⟨e, fd⟩ := r
          have hcl : m.length ≤ T.length ∧ e.length ≤ T.length := by
            unfold Lib.cut at hc
            split at hc
            · have e1 := congrArg Prod.fst hc
              have e2 := congrArg (fun p => p.2.1) hc
              simp only at e1 e2
              rw [← e1, ← e2]
              rw [List.length_take, List.length_drop]
              omega
            · have e1 := congrArg Prod.fst hc
              have e2 := congrArg (fun p => p.2.1) hc
              simp only at e1 e2
              rw [← e1, ← e2]
              simp
          have hC : Cuts s _ T m e fd := ⟨hT, hb, hc, h1, h2, by omega, by omega, by omega⟩
          cases fd
          · exact parse_no s w _ T m e hC he
          · exact parse_p s w _ T m e hC he
end Go.Proofs.YtdebbljohlffdaaGreatDoor
