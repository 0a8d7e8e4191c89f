import Derived.Test.YtdebbljohlffdaaGreatDoorNumK
namespace Go.Proofs.YtdebbljohlffdaaGreatDoor
open Go.Shelf Go.RowKit

/-- a prefix of the digits -/
def DigInv (n0 : Nat) (n : Nat) (l : List UInt8) : Prop := Lib.decDigits n ++ l = Lib.decDigits n0 ∧ l.length ≤ 20
theorem DigInv.start (n : Nat) : DigInv n n [] := ⟨by simp, by simp⟩


theorem one_byte (c : Nat) (hc : c < 256) (z : Int) (hz : z = (c : Int)) (w : World) :
    (convert 75 9 (.slice (some ⟨w.heap.size, 0, none⟩) 1 1)).run Tryz.prog (w.alloc (.cells #[.int .u8 z] 5)) = .ok (.string ⟨#[UInt8.ofNat c]⟩) (w.alloc (.cells #[.int .u8 z] 5)) := by
  have h := run_convert_bytes_back (P := Tryz.prog) (w.alloc (.cells #[.int .u8 z] 5)) 75 9 5 ⟨w.heap.size, 0, none⟩ 1 [UInt8.ofNat c] Tryz.underlying75 Tryz.underlying5 Tryz.underlying9 (fun j hj => by
    have hj0 : j = 0 := by simpa using hj
    subst hj0
    rw [Lib.add_plain, World.cell?_alloc_new]
    simp only [List.getElem_cons_zero, UInt8.toNat_ofNat']
    rw [Nat.mod_eq_of_lt (show c < 2 ^ 8 from hc), hz]
    rfl)
  exact h
theorem DigInv.step {n0 k : Nat} {l : List UInt8} (h : DigInv n0 k l) (h9 : 9 < k) (hn0 : n0 < 9223372036854775808) : DigInv n0 (k / 10) (UInt8.ofNat (48 + k % 10) :: l) := by
  obtain ⟨h1, h2⟩ := h
  have e : Lib.decDigits k = Lib.decDigits (k / 10) ++ [UInt8.ofNat (48 + k % 10)] := by
    rw [Lib.decDigits, dif_neg (by omega)]
  rw [e, List.append_assoc] at h1
  refine ⟨h1, ?_⟩
  have h3 := congrArg List.length h1
  rw [Lib.decDigits_length n0] at h3
  have := Lib.nDigits_le20 n0 (by omega)
  simp only [List.length_append, List.length_cons, List.length_nil] at h3 ⊢
  omega
theorem DigInv.last {n0 k : Nat} {l : List UInt8} (h : DigInv n0 k l) (h9 : ¬ 9 < k) : [UInt8.ofNat (48 + k)] ++ l = Lib.decDigits n0 := by
  rw [← h.1, Lib.decDigits_one (by omega)]
set_option maxRecDepth 100000 in
set_option maxHeartbeats 1000000 in
theorem digits_c (n : Nat) (hn : n < 9223372036854775808) (w : World) :
    Calls Tryz.prog 48 #[.int .i64 n] w fun e w' => e = .returned (.string ⟨(Lib.decDigits n).toArray⟩) ∧ Below w.heap.size w w' := by
  have hN := Lib.hid hn
  go_enter Tryz.func48, Tryz.ntmps48
  go_wp2_with fail
  go_loopw [0, 3] (fun vn vs wr => ∃ (k : Nat) (l : List UInt8), vn = .int .i64 k ∧ k < 9223372036854775808 ∧ vs = .string ⟨l.toArray⟩ ∧ Hid (DigInv n k l) ∧ l.length ≤ 20 ∧ Below w.heap.size w wr) (fun vn _ _ => (intOf vn).toNat)
  case atStart => exact ⟨n, [], rfl, hn, rfl, DigInv.start n, by simp, Below.refl _ _⟩
  case round =>
    clear hn
    obtain ⟨k, l, rfl, hk, rfl, hI, hl, hb⟩ := hrel
    by_cases h9 : 9 < k
    · have hc := one_byte (48 + k % 10) (by omega) (48 + (k : Int) % 10) (by omega) wr
      obtain ⟨b, hb8⟩ : ∃ b, b = UInt8.ofNat (48 + k % 10) := ⟨_, rfl⟩
      rw [← hb8] at hc
      have HB := Lib.hid hb8
      clear hb8
      go_wp2_with fail
      go_roundw
      case rel =>
        have hs := DigInv.step hI.out h9 hN.out
        refine ⟨k / 10, _, by go_num, by omega, ?_, hs, hs.2, hb.alloc hb.size _⟩
        rw [show (⟨#[b]⟩ : ByteArray) = ⟨[b].toArray⟩ from rfl, ba_app, ← HB.out]
        rfl
      case measure => simp [intOf]; omega
    · have hc := one_byte (48 + k) (by omega) (48 + (k : Int)) (by omega) wr
      obtain ⟨b, hb8⟩ : ∃ b, b = UInt8.ofNat (48 + k) := ⟨_, rfl⟩
      rw [← hb8] at hc
      have HB := Lib.hid hb8
      clear hb8
      go_wp2_with fail
      go_ret
      refine ⟨ret_str ?_, hb.alloc hb.size _⟩
      rw [show (⟨#[b]⟩ : ByteArray) = ⟨[b].toArray⟩ from rfl, ba_app, HB.out, DigInv.last hI.out h9]
end Go.Proofs.YtdebbljohlffdaaGreatDoor
