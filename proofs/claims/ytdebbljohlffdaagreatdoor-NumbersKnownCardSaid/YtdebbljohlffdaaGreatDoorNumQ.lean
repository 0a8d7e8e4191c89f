import Derived.Test.YtdebbljohlffdaaGreatDoorNumP
namespace Go.Proofs.YtdebbljohlffdaaGreatDoor
open Go.Shelf Go.RowKit

def numOk (l : List UInt8) : Bool := l.all Fl.isDig && decide (l.length ≤ 16)
def NumRes (l : List UInt8) : Value := .tuple #[.int .i64 (if numOk l then (Fl.dval l : Int) else 0), .bool (numOk l && !l.isEmpty)]
theorem NumRes.bad {l : List UInt8} (h : numOk l = false) : Value.tuple #[.int .i64 0, .bool false] = NumRes l := by unfold NumRes; simp [h]
theorem NumRes.good {l : List UInt8} (h : numOk l = true) (n : Int) (b : Bool) (hn : n = (Fl.dval l : Int)) (hb : b = !l.isEmpty) : Value.tuple #[.int .i64 n, .bool b] = NumRes l := by unfold NumRes; simp [h, hn, hb]
theorem take_succ_at (s : ByteArray) (k : Nat) (h : k < s.size) : s.data.toList.take (k + 1) = s.data.toList.take k ++ [s[k]] := by
  rw [List.take_succ_eq_append_getElem (by simpa using h)]; rfl
theorem mem_at (s : ByteArray) (k : Nat) (h : k < s.size) : s[k] ∈ s.data.toList := by
  have e : s[k] = s.data.toList[k]'(by simpa using h) := rfl
  rw [e]; exact List.getElem_mem _
theorem ret_v {a b : Value} (h : a = b) : Ending.returned a = .returned b := by rw [h]

set_option maxHeartbeats 1000000 in
theorem number_c (s : ByteArray) (hs : s.size ≤ 1000) (w : World) :
    Calls Tryz.prog 77 #[.string s] w fun e w' => e = .returned (NumRes s.data.toList) ∧ w = w' := by
  have hsz : s.data.toList.length = s.size := by simp
  have HZ := Lib.hid hsz
  clear hsz
  go_enter Tryz.func77, Tryz.ntmps77
  go_wp2_with fail
  go_loop [4, 5] (fun vn vi => ∃ (k n : Nat), vi = .int .i64 k ∧ k ≤ s.size ∧ k ≤ 16 ∧ vn = .int .i64 n ∧ n < 10000000000000000 ∧ Hid (n = Fl.dval (s.data.toList.take k) ∧ (∀ c, c ∈ s.data.toList.take k → Fl.isDig c = true))) (fun _ vi => s.size - (intOf vi).toNat)
  case atStart => exact ⟨0, 0, rfl, by omega, by omega, rfl, by omega, rfl, by simp⟩
  case round =>
    obtain ⟨k, n, rfl, hk, hk2, rfl, hn, hH⟩ := hrel
    by_cases hlt : k < s.size
    · by_cases h1 : (s[k].toNat : Int) < 48
      · have hb := Lib.hid (NumRes.bad (l := s.data.toList) (by
          have : Fl.isDig s[k] = false := by unfold Fl.isDig; simp; omega
          unfold numOk
          rw [Bool.and_eq_false_iff]; left
          rw [List.all_eq_false]
          exact ⟨s[k], mem_at s k hlt, by simp [this]⟩))
        go_wp2_with fail
        go_ret2
        exact ⟨ret_v hb.out, rfl⟩
      · by_cases h2 : 57 < (s[k].toNat : Int)
        · have hb := Lib.hid (NumRes.bad (l := s.data.toList) (by
            have : Fl.isDig s[k] = false := by unfold Fl.isDig; simp; omega
            unfold numOk
            rw [Bool.and_eq_false_iff]; left
            rw [List.all_eq_false]
            exact ⟨s[k], mem_at s k hlt, by simp [this]⟩))
          go_wp2_with fail
          go_ret2
          exact ⟨ret_v hb.out, rfl⟩
        · by_cases h3 : 15 < (k : Int)
          · have hb := Lib.hid (NumRes.bad (l := s.data.toList) (by
              unfold numOk
              rw [Bool.and_eq_false_iff]; right
              rw [HZ.out]; simp; omega))
            go_wp2_with fail
            go_ret2
            exact ⟨ret_v hb.out, rfl⟩
          · have ht := take_succ_at s k hlt
            have hd : Fl.isDig s[k] = true := by unfold Fl.isDig; simp; omega
            have hv : n * 10 + (s[k].toNat - 48) = Fl.dval (s.data.toList.take (k + 1)) := by rw [ht, Fl.dval_snoc, ← hH.out.1]
            have hall : ∀ c, c ∈ s.data.toList.take (k + 1) → Fl.isDig c = true := by
              intro c hc
              rw [ht, List.mem_append] at hc
              rcases hc with hc | hc
              · exact hH.out.2 c hc
              · simp only [List.mem_singleton] at hc; rw [hc]; exact hd
            have hlim : n * 10 + (s[k].toNat - 48) < 10000000000000000 := by
              rw [hv]
              have h4 := Fl.dval_lt _ hall
              have h5 : (s.data.toList.take (k + 1)).length ≤ 16 := by rw [List.length_take]; omega
              have h6 : (10 : Nat) ^ (s.data.toList.take (k + 1)).length ≤ 10 ^ 16 := Nat.pow_le_pow_right (by decide) h5
              have h7 : (10 : Nat) ^ 16 = 10000000000000000 := by decide
              omega
            have HV := Lib.hid (And.intro hv hall)
            have hge : 48 ≤ s[k].toNat := by omega
            have HC := Lib.hid (show (n : Int) * 10 + ((s[k].toNat : Int) - 48) = ((n * 10 + (s[k].toNat - 48) : Nat) : Int) by
              generalize s[k].toNat = c at hge
              omega)
            clear ht hd hv hall
            go_wp2_with fail
            go_round
            case rel => refine ⟨k + 1, n * 10 + (s[k].toNat - 48), by go_num, ?_, ?_, congrArg (Value.int .i64) HC.out, hlim, HV.out.1, HV.out.2⟩ <;> omega
            case measure => simp [intOf]; omega
    · have hkk : k = s.size := by omega
      have ht : s.data.toList.take k = s.data.toList := List.take_of_length_le (by rw [HZ.out]; omega)
      have hok : numOk s.data.toList = true := by
        unfold numOk
        rw [Bool.and_eq_true]
        refine ⟨?_, by rw [HZ.out]; simp; omega⟩
        rw [List.all_eq_true]
        rw [ht] at hH
        exact hH.out.2
      have hval : (n : Int) = (Fl.dval s.data.toList : Int) := by rw [hH.out.1, ht]
      have he : ∀ b : Bool, (b = !s.data.toList.isEmpty) → Value.tuple #[.int .i64 (n : Int), .bool b] = NumRes s.data.toList := fun b hb => NumRes.good hok n b hval hb
      have he := Lib.hid he
      clear ht hok hval hkk
      go_wp2_with fail
      go_ret2
      refine ⟨ret_v (he.out _ ?_), rfl⟩
      have h0 := HZ.out
      rw [← h0]
      cases s.data.toList <;> simp
end Go.Proofs.YtdebbljohlffdaaGreatDoor
