import Derived.Test.YtdebbljohlffdaaGreatDoorNumXw
import Derived.Test.YtdebbljohlffdaaGreatDoorNumXl
import Derived.Test.YtdebbljohlffdaaGreatDoorNumXp
import Derived.OwnWalk
import Derived.Laws.OwnMore
namespace Go.Proofs.YtdebbljohlffdaaGreatDoor
open Go.Shelf Go.RowKit

namespace Fl
/-- halves of 1 -/
def Pw (k : Nat) (r : Nat) : Prop := r < I ∧ U r = 2 ^ k
theorem pw_one : Pw K 4607182418800017408 := ⟨by decide, by decide +kernel⟩
theorem pw_down {k r : Nat} (h : Pw (k + 1) r) (hk : k ≤ 2045) : ∃ s, Pw k s ∧ D.div r two = some s ∧ FloatKind.f64.format.order s 0 = some .gt ∧ U s < U r := by
  obtain ⟨h1, h2⟩ := h
  obtain ⟨s, hs, hU⟩ := Fl.rung_of k 1 (by decide) hk
  rw [Nat.one_mul] at hU
  have e := rung_self (Nat.le_of_lt h1)
  have h2 : 2 * U s = U r := by rw [h2, hU, Nat.pow_succ, Nat.mul_comm]
  have hd := div_two (x := r) (r := s) (by rw [e]; exact h1) hs (by rw [e]; exact h2)
  rw [neg_self (Nat.le_of_lt h1), word_false] at hd
  have hp : 0 < U s := by rw [hU]; exact Nat.two_pow_pos _
  have es := rung_self (Nat.le_of_lt hs)
  refine ⟨s, ⟨hs, hU⟩, hd, order_gt (by rw [es]; omega) (by decide) ?_, by omega⟩
  rw [val_zero, val_pos (neg_self (Nat.le_of_lt hs)), es]
  omega
theorem pw_least {r : Nat} (h : Pw 0 r) : r = 1 := U_inj (by rw [h.2]; decide)
def TOPK : Nat := 2097
theorem TOPK_eq : TOPK = 2097 := rfl
theorem pw_up {k r : Nat} (h : Pw k r) (hk : k < TOPK) : ∃ s, Pw (k + 1) s ∧ D.mul r two = some s ∧ FloatKind.f64.format.order s I = some .lt ∧ U r < U s := by
  rw [TOPK_eq] at hk
  obtain ⟨h1, h2⟩ := h
  have hB : B = 2 ^ 52 := by decide
  obtain ⟨s, hs, hU⟩ : ∃ s, s < I ∧ U s = 2 ^ (k + 1) := by
    rcases Nat.lt_or_ge k 2045 with h3 | h3
    · obtain ⟨s, a, b⟩ := Fl.rung_of (k + 1) 1 (by decide) (by omega)
      exact ⟨s, a, by rw [b, Nat.one_mul]⟩
    · obtain ⟨E, hE⟩ : ∃ E, E = 2045 := ⟨_, rfl⟩
      obtain ⟨j, rfl⟩ : ∃ j, k = E + j := ⟨k - E, by omega⟩
      have hj : 2 ^ (j + 1) ≤ 2 ^ 52 := Nat.pow_le_pow_right (by decide) (by omega)
      obtain ⟨s, a, b⟩ := Fl.rung_of E (2 ^ (j + 1)) (by rw [hB]; omega) (by omega)
      exact ⟨s, a, by rw [b, ← Nat.pow_add]; congr 1; omega⟩
  have e := rung_self (Nat.le_of_lt h1)
  have h2' : U s = 2 * U r := by rw [h2, hU, Nat.pow_succ, Nat.mul_comm]
  have hd := mul_two (x := r) (r := s) (by rw [e]; exact h1) hs (by rw [e]; exact h2')
  rw [neg_self (Nat.le_of_lt h1), word_false] at hd
  have hp : 0 < U r := by rw [h2]; exact Nat.two_pow_pos _
  have es := rung_self (Nat.le_of_lt hs)
  have eI : rung I = I := rung_self (Nat.le_refl _)
  refine ⟨s, ⟨hs, hU⟩, hd, order_lt (by rw [es]; omega) (by rw [eI]; omega) ?_, by omega⟩
  rw [val_pos (neg_self (Nat.le_of_lt hs)), val_pos (neg_self (Nat.le_refl _)), es, eI]
  have := U_lt hs
  omega
theorem pw_most {r : Nat} (h : Pw TOPK r) : r = 9214364837600034816 := U_inj (by rw [h.2]; decide +kernel)
end Fl
end Go.Proofs.YtdebbljohlffdaaGreatDoor
