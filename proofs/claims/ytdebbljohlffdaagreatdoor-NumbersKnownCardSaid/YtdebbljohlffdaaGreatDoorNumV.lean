import Derived.Test.YtdebbljohlffdaaGreatDoorNumU
import Derived.Lib.AtoiErrMem
namespace Go.Proofs.YtdebbljohlffdaaGreatDoor
open Go.Shelf Go.RowKit

/-- the greatest number of the size -/
def PuMax : Nat := 9007199254740991
theorem PuMax_eq : PuMax = 9007199254740991 := rfl
def PuGood (l : List UInt8) : Prop := l ≠ [] ∧ (∀ c, c ∈ l → Fl.isDig c = true) ∧ Fl.dval l ≤ PuMax
/-- how the reader of digits ends -/
def PuEnd (l : List UInt8) (w : World) (e : Ending) (w' : World) : Prop :=
  ((PuGood l ∧ e = .returned (.tuple #[.int .u64 (Fl.dval l), .nilIface])) ∨ (¬ PuGood l ∧ ∃ (v c : Int), (c = 1 ∨ c = 2) ∧ e = .returned (.tuple #[.int .u64 v, .iface 88 (.int .i64 c)]))) ∧ Below w.heap.size w w'
theorem dval_mono (l m : List UInt8) : Fl.dval l ≤ Fl.dval (l ++ m) := by
  induction m generalizing l with
  | nil => simp
  | cons c m ih =>
    have h1 := ih (l ++ [c])
    rw [List.append_assoc] at h1
    have h2 := Fl.dval_snoc l c
    have h3 : l ++ c :: m = l ++ ([c] ++ m) := rfl
    rw [h3]
    omega
set_option maxRecDepth 100000 in
set_option maxHeartbeats 4000000 in
theorem puint_in (s : ByteArray) (hs : s.size ≤ 1000) (w : World) :
    Calls Tryz.prog 68 #[.string s, .int .i64 10, .int .i64 53] w (PuEnd s.data.toList w) := by
  have HZ := Lib.hid (show s.data.toList.length = s.size by simp)
  have HM := Lib.hid PuMax_eq
  by_cases h0 : s.size = 0
  · have hnil : s.data.toList = [] := List.length_eq_zero_iff.1 (by rw [HZ.out]; exact h0)
    have he : s.toList.isEmpty = true := by rw [list_of, hnil]; rfl
    have HN := Lib.hid hnil
    clear h0 hnil
    go_enter Tryz.func68, Tryz.ntmps68
    go_wp2_with fail
    go_ret2
    exact ⟨Or.inr ⟨fun h => h.1 HN.out, _, _, Or.inr rfl, rfl⟩, Below.refl _ _⟩
  · have he : s.toList.isEmpty = false := by
      rw [list_of]
      cases e : s.data.toList with
      | nil => have := HZ.out; rw [e] at this; simp at this; omega
      | cons => rfl
    have hcv := fun w => Lib.run_convert_string_bytes (P := Tryz.prog) w 9 75 5 s Tryz.underlying9 Tryz.underlying75 Tryz.underlying5
    have hfin : ∀ e w', Below w.heap.size w w' → ((PuGood s.data.toList ∧ e = .returned (.tuple #[.int .u64 (Fl.dval s.data.toList), .nilIface])) ∨ (¬ PuGood s.data.toList ∧ ∃ (v c : Int), (c = 1 ∨ c = 2) ∧ e = .returned (.tuple #[.int .u64 v, .iface 88 (.int .i64 c)]))) → PuEnd s.data.toList w e w' := fun e w' h1 h2 => ⟨h2, h1⟩
    have hfin := Lib.hid hfin
    have hb := Lib.hid (Lib.bytesWorld_below w 5 s)
    go_enter Tryz.func68, Tryz.ntmps68
    go_wp2_with fail
    go_loop [12, 13, 101] (fun vu vn vk => ∃ (k : Nat) (a : Int), vu = .bool false ∧ vn = .int .u64 a ∧ vk = .int .i64 k ∧ k ≤ s.size ∧ 0 ≤ a ∧ a ≤ 9007199254740991 ∧ Hid (a = (Fl.dval (s.data.toList.take k) : Int) ∧ (∀ c, c ∈ s.data.toList.take k → Fl.isDig c = true))) (fun _ _ vk => s.size - (intOf vk).toNat)
    case atStart => exact ⟨0, 0, rfl, rfl, rfl, by omega, by omega, by omega, rfl, by simp⟩
    case round =>
      clear hcv
      obtain ⟨k, n, rfl, rfl, rfl, hk, hn0, hn, hI⟩ := hrel
      by_cases hlt : k < s.size
      · have hc := Lib.bytesWorld_cell w 5 s k hlt
        have hg : s.data.toList.getD k 0 = s[k] := by
          rw [List.getD_eq_getElem?_getD, List.getElem?_eq_getElem (by rw [HZ.out]; exact hlt)]; rfl
        rw [hg] at hc
        clear hg
        have ht := take_succ_at s k hlt
        by_cases hd : Fl.isDig s[k] = true
        · have hd2 := hd
          unfold Fl.isDig at hd2
          simp at hd2
          obtain ⟨d1, d2⟩ := hd2
          have hall : ∀ c, c ∈ s.data.toList.take (k + 1) → Fl.isDig c = true := by
            intro c hc
            rw [ht, List.mem_append] at hc
            rcases hc with hc | hc
            · exact hI.out.2 c hc
            · simp only [List.mem_singleton] at hc; rw [hc]; exact hd
          have hv : n * 10 + ((s[k].toNat : Int) - 48) = (Fl.dval (s.data.toList.take (k + 1)) : Int) := by
            have h1 := hI.out.1
            rw [ht, Fl.dval_snoc]; omega
          have hmono := dval_mono (s.data.toList.take (k + 1)) (s.data.toList.drop (k + 1))
          rw [List.take_append_drop] at hmono
          have HV := Lib.hid (And.intro hv (And.intro hall hmono))
          clear ht hd hall hv hmono
          generalize s[k] = c at *
          generalize hcn : c.toNat = cn at *
          have Hcn := Lib.hid hcn
          clear hcn
          have g1 : (48 : Int) ≤ (cn : Int) := by omega
          have g2 : (cn : Int) ≤ 57 := by omega
          have h95 : ((cn : Int) == 95) = false := by rw [beq_eq_false_iff_ne]; omega
          clear d1 d2
          by_cases hbig : 9007199254740991 < n * 10 + ((cn : Int) - 48)
          · have hbad : ¬ PuGood s.data.toList := by
              intro hG
              have := hG.2.2
              have hM := HM.out
              have h1 := HV.out.1
              have h2 := HV.out.2.2
              have h3 := Hcn.out
              rw [hM] at this
              omega
            have hbad := Lib.hid hbad
            go_wp2_with fail
            go_ret2
            exact hfin.out _ _ hb.out (Or.inr ⟨hbad.out, _, _, Or.inl rfl, rfl⟩)
          · have hlow : 0 ≤ n * 10 + ((cn : Int) - 48) := by omega
            go_wp2_with fail
            go_round
            case rel => exact ⟨k + 1, n * 10 + ((cn : Int) - 48), rfl, rfl, by go_num, by omega, by omega, by omega, HV.out.1, HV.out.2.1⟩
            case measure => simp [intOf]; omega
        · have hbad : ¬ PuGood s.data.toList := fun hG => hd (hG.2.1 _ (mem_at s k hlt))
          have hbad := Lib.hid hbad
          have hd2 : s[k].toNat < 48 ∨ 57 < s[k].toNat := by
            unfold Fl.isDig at hd
            simp at hd
            by_cases h1 : s[k].toNat < 48
            · exact Or.inl h1
            · exact Or.inr (hd (by omega))
          have hc256 : s[k].toNat < 256 := s[k].toNat_lt
          clear ht hd
          generalize s[k] = c at *
          generalize hcn : c.toNat = cn at *
          clear hcn
          have hor := u8_or_nat cn 32 hc256 (by decide)
          have hor2 : bits .or .u8 (cn : Int) 32 = ((cn ||| 32 : Nat) : Int) := hor
          clear hor
          have hlt8 : (cn ||| 32) < 2 ^ 8 := Nat.or_lt_two_pow hc256 (by decide)
          generalize cn ||| 32 = lo at hor2 hlt8
          have hlo2 : (lo : Int) ≤ 255 := by omega
          clear hlt8
          have hlow := Lib.hid (fun w => Tryz.internal_strconv_lower cn w)
          have hd3 : (cn : Int) < 48 ∨ 57 < (cn : Int) := by omega
          clear hd2
          have hll : ((lo : Int) < 97) ∨ (97 ≤ (lo : Int) ∧ (lo : Int) ≤ 122) ∨ (97 ≤ (lo : Int) ∧ 122 < (lo : Int)) := by omega
          rcases hd3 with hd3 | hd3 <;> rcases hll with hll | ⟨hll, hll2⟩ | ⟨hll, hll2⟩
          · go_wp2_with fail
            refine (hlow.out _).mono ?_
            rintro e w' ⟨rfl, rfl⟩
            go_wp2_with fail
            go_ret2
            exact hfin.out _ _ hb.out (Or.inr ⟨hbad.out, _, _, Or.inr rfl, rfl⟩)
          · go_wp2_with fail
            refine (hlow.out _).mono ?_
            rintro e w' ⟨rfl, rfl⟩
            go_wp2_with fail
            refine (hlow.out _).mono ?_
            rintro e w' ⟨rfl, rfl⟩
            go_wp2_with fail
            refine (hlow.out _).mono ?_
            rintro e w' ⟨rfl, rfl⟩
            go_wp2_with fail
            go_ret2
            exact hfin.out _ _ hb.out (Or.inr ⟨hbad.out, _, _, Or.inr rfl, rfl⟩)
          · go_wp2_with fail
            refine (hlow.out _).mono ?_
            rintro e w' ⟨rfl, rfl⟩
            go_wp2_with fail
            refine (hlow.out _).mono ?_
            rintro e w' ⟨rfl, rfl⟩
            go_wp2_with fail
            go_ret2
            exact hfin.out _ _ hb.out (Or.inr ⟨hbad.out, _, _, Or.inr rfl, rfl⟩)
          · have hx : ¬ (cn : Int) = 95 ∨ (cn : Int) = 95 := by omega
            rcases hx with hx | hx
            · have h95 : ((cn : Int) == 95) = false := by rw [beq_eq_false_iff_ne]; omega
              clear hx
              go_wp2_with fail
              refine (hlow.out _).mono ?_
              rintro e w' ⟨rfl, rfl⟩
              go_wp2_with fail
              go_ret2
              exact hfin.out _ _ hb.out (Or.inr ⟨hbad.out, _, _, Or.inr rfl, rfl⟩)
            · have h95 : ((cn : Int) == 95) = true := by rw [beq_iff_eq]; omega
              clear hx
              go_wp2_with fail
              refine (hlow.out _).mono ?_
              rintro e w' ⟨rfl, rfl⟩
              go_wp2_with fail
              go_ret2
              exact hfin.out _ _ hb.out (Or.inr ⟨hbad.out, _, _, Or.inr rfl, rfl⟩)
          · have hx : ¬ (cn : Int) = 95 ∨ (cn : Int) = 95 := by omega
            rcases hx with hx | hx
            · have h95 : ((cn : Int) == 95) = false := by rw [beq_eq_false_iff_ne]; omega
              clear hx
              go_wp2_with fail
              refine (hlow.out _).mono ?_
              rintro e w' ⟨rfl, rfl⟩
              go_wp2_with fail
              refine (hlow.out _).mono ?_
              rintro e w' ⟨rfl, rfl⟩
              go_wp2_with fail
              refine (hlow.out _).mono ?_
              rintro e w' ⟨rfl, rfl⟩
              go_wp2_with fail
              go_ret2
              exact hfin.out _ _ hb.out (Or.inr ⟨hbad.out, _, _, Or.inr rfl, rfl⟩)
            · have h95 : ((cn : Int) == 95) = true := by rw [beq_iff_eq]; omega
              clear hx
              go_wp2_with fail
              refine (hlow.out _).mono ?_
              rintro e w' ⟨rfl, rfl⟩
              go_wp2_with fail
              refine (hlow.out _).mono ?_
              rintro e w' ⟨rfl, rfl⟩
              go_wp2_with fail
              refine (hlow.out _).mono ?_
              rintro e w' ⟨rfl, rfl⟩
              go_wp2_with fail
              go_ret2
              exact hfin.out _ _ hb.out (Or.inr ⟨hbad.out, _, _, Or.inr rfl, rfl⟩)
          · have hx : ¬ (cn : Int) = 95 ∨ (cn : Int) = 95 := by omega
            rcases hx with hx | hx
            · have h95 : ((cn : Int) == 95) = false := by rw [beq_eq_false_iff_ne]; omega
              clear hx
              go_wp2_with fail
              refine (hlow.out _).mono ?_
              rintro e w' ⟨rfl, rfl⟩
              go_wp2_with fail
              refine (hlow.out _).mono ?_
              rintro e w' ⟨rfl, rfl⟩
              go_wp2_with fail
              go_ret2
              exact hfin.out _ _ hb.out (Or.inr ⟨hbad.out, _, _, Or.inr rfl, rfl⟩)
            · have h95 : ((cn : Int) == 95) = true := by rw [beq_iff_eq]; omega
              clear hx
              go_wp2_with fail
              refine (hlow.out _).mono ?_
              rintro e w' ⟨rfl, rfl⟩
              go_wp2_with fail
              refine (hlow.out _).mono ?_
              rintro e w' ⟨rfl, rfl⟩
              go_wp2_with fail
              go_ret2
              exact hfin.out _ _ hb.out (Or.inr ⟨hbad.out, _, _, Or.inr rfl, rfl⟩)
      · have hkk : k = s.size := by omega
        have hgood : PuGood s.data.toList ∧ n = (Fl.dval s.data.toList : Int) := by
          have ht : s.data.toList.take k = s.data.toList := List.take_of_length_le (by rw [HZ.out]; omega)
          have h1 := hI.out
          rw [ht] at h1
          refine ⟨⟨fun e => ?_, h1.2, ?_⟩, h1.1⟩
          · have := HZ.out; rw [e] at this; simp at this; omega
          · rw [HM.out]; omega
        have hgood := Lib.hid hgood
        clear hkk
        go_wp2_with fail
        go_ret2
        exact hfin.out _ _ hb.out (Or.inl ⟨hgood.out.1, by rw [← hgood.out.2]; rfl⟩)
end Go.Proofs.YtdebbljohlffdaaGreatDoor
