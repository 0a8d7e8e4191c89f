import Derived.Test.YtdebbljohlffdaaGreatDoorKnownA
import Derived.Maps.AppendAt
namespace Go.Proofs.YtdebbljohlffdaaGreatDoor
open Go.Shelf Go.RowKit

theorem Tryz.info25 : (Tryz.prog.info? 25).map (fun i => (i.zero, i.size, i.bytes)) = some (some (.float .f64 0), 1, 8) := by kernel_rfl
/-- the cells of a list of floats -/
def fcells (L : List Nat) : List Value := L.map fun b => .float .f64 b
def FOk (L : List Nat) : Prop := ∀ b, b ∈ L → b < 18446744073709551616
theorem fok_at {L : List Nat} {k n : Nat} (h : FOk L) (hk : k < n) (hn : n ≤ L.length) : L.getD k 0 < 18446744073709551616 := by
  rw [List.getD_eq_getElem?_getD, List.getElem?_eq_getElem (by omega)]
  exact h _ (List.getElem_mem _)
theorem fok_app {L : List Nat} {x : Nat} (h : FOk L) (hx : x < 18446744073709551616) : FOk (L ++ [x]) := by
  intro b hb
  rw [List.mem_append] at hb
  rcases hb with hb | hb
  · exact h b hb
  · simp at hb; subst hb; exact hx
theorem fcells_app (L : List Nat) (x : Nat) : fcells (L ++ [x]) = fcells L ++ [.float .f64 x] := by simp [fcells]
theorem own_drew {w : World} {base n : Nat} {v : Value} {xs : List Value} (h : w.ownsRow base 25 1 v n xs) : w.drew.ownsRow base 25 1 v n xs := h.drew
theorem row_base {w : World} {base n : Nat} {v : Value} {xs : List Value} (h : w.ownsRow base 25 1 v n xs) (k : Nat) (hk : v.ownBlock = some k) : base ≤ k := by
  rcases h.2 with ⟨rfl, _⟩ | ⟨g, cap, cur, rfl, hb, _⟩
  · simp [Value.ownBlock] at hk
  · have : g = k := by simpa [Value.ownBlock] using hk
    omega
def edges0 : List Nat := [0, 9223372036854775808, 4607182418800017408, 4602678819172646912, 4609434218613702656, 4611686018427387904, 4613937818241073152, 4591870180066957722, 4599676419421066581, 4622945017495814144, 4845873199050653695, 4845873199050653696, 4845873199050653696, 4845873199050653697, 4841369599423283199, 4841369599423283200, 4831355200913801216, 4936209963552724370, 9094988921128908188, 1, 3, 4503599627370495, 4503599627370496, 9214364837600034816, 9218868437227405312, 9218868437227405312]
theorem row_parts {w : World} {base n : Nat} {v : Value} {xs : List Value} (h : w.ownsRow base 25 1 v n xs) (hn : 0 < n) : ∃ g cap cur, v = .slice (some ⟨g, 0, none⟩) n cap ∧ base ≤ g ∧ w.heap[g]? = some (.cells cur 25 (0, 0)) ∧ n ≤ cap := by
  rcases h.2 with ⟨_, h0⟩ | ⟨g, cap, cur, h1, h2, h3, h4, _⟩
  · omega
  · exact ⟨g, cap, cur, h1, h2, h3, h4⟩
theorem row_cell {w : World} {base n g cap : Nat} {L : List Nat} (h : w.ownsRow base 25 1 (.slice (some ⟨g, 0, none⟩) n cap) n (fcells L)) (hL : L.length = n) {k : Nat} (hk : k < n) : w.cell? ⟨g, k, none⟩ = some (.float .f64 (L.getD k 0)) := by
  have := h.cells (g := g) rfl k (.float .f64 (L.getD k 0)) (by simp [fcells, List.getElem?_eq_getElem (show k < L.length by omega), List.getD_eq_getElem?_getD])
  rw [Lib.add_plain, Nat.zero_add] at this
  exact this
set_option maxRecDepth 100000 in
set_option maxHeartbeats 4000000 in
theorem edges_c (w : World) : Calls Tryz.prog 4 #[] w fun e w' => ∃ v L, e = .returned v ∧ w'.ownsRow w.heap.size 25 1 v 53 (fcells L) ∧ FOk L ∧ Below w.heap.size w w' := by
  have hq1 := fun w => run_float_arith (P := Tryz.prog) w .quo 25 .f64 4607182418800017408 0 9218868437227405312 (by decide)
  go_enter Tryz.func4, Tryz.ntmps4
  go_wp2_with fail
  go_loop [3] (fun vx => ∃ (r k : Nat), vx = .float .f64 r ∧ Hid (Fl.Pw k r) ∧ k ≤ Fl.K) (fun vx => Fl.U (match vx with | .float _ b => b | _ => 0))
  case atStart => exact ⟨_, Fl.K, rfl, Fl.pw_one, Nat.le_refl _⟩
  case round =>
    obtain ⟨r, k, rfl, hp, hk⟩ := hrel
    rcases k with _ | k
    · have h1 := Fl.pw_least hp.out
      subst h1
      have hq2 := fun w => run_float_arith (P := Tryz.prog) w .quo 25 .f64 1 4611686018427387904 0 (by decide +kernel)
      have o2 : FloatKind.f64.format.order 0 0 = some .eq := by decide +kernel
      clear hp
      go_wp2_with fail
      go_loop [4] (fun vx => ∃ (r k : Nat), vx = .float .f64 r ∧ Hid (Fl.Pw k r) ∧ k ≤ Fl.TOPK) (fun vx => 2 ^ Fl.TOP - Fl.U (match vx with | .float _ b => b | _ => 0))
      case atStart => exact ⟨_, Fl.K, rfl, Fl.pw_one, by decide⟩
      case round =>
        clear hk
        obtain ⟨r, k, rfl, hp, hk⟩ := hrel
        rcases Nat.lt_or_eq_of_le hk with h | h
        · obtain ⟨s, h1, h2, h3, h4⟩ := Fl.pw_up hp.out h
          have hq3 := fun w => run_float_arith (P := Tryz.prog) w .mul 25 .f64 r 4611686018427387904 s h2
          have hU := Fl.U_bound hp.out.1
          have HN := Lib.hid (And.intro h1 (And.intro h4 hU))
          have h3 : FloatKind.f64.format.order s 9218868437227405312 = some .lt := h3
          clear h1 h2 h4 hU
          go_wp2_with fail
          go_round
          case rel => exact ⟨s, k + 1, rfl, HN.out.1, h⟩
          case measure =>
            show 2 ^ Fl.TOP - Fl.U s < 2 ^ Fl.TOP - Fl.U r
            have := HN.out.2
            omega
        · subst h
          have h1 := Fl.pw_most hp.out
          subst h1
          have hq3 := fun w => run_float_arith (P := Tryz.prog) w .mul 25 .f64 9214364837600034816 4611686018427387904 9218868437227405312 (by decide +kernel)
          have o3 : FloatKind.f64.format.order 9218868437227405312 9218868437227405312 = some .eq := by decide +kernel
          have a1 := fun w => run_float_arith (P := Tryz.prog) w .quo 25 .f64 13830554455654793216 9218868437227405312 9223372036854775808 (by decide +kernel)
          have a2 := fun w => run_float_arith (P := Tryz.prog) w .mul 25 .f64 1 4613937818241073152 3 (by decide +kernel)
          have a3 := fun w => run_float_arith (P := Tryz.prog) w .mul 25 .f64 1 4841369599423283198 4503599627370495 (by decide +kernel)
          have a4 := fun w => run_float_arith (P := Tryz.prog) w .mul 25 .f64 1 4841369599423283200 4503599627370496 (by decide +kernel)
          have a5 := fun w => run_float_arith (P := Tryz.prog) w .quo 25 .f64 9214364837600034816 4845873199050653696 8975674057349398528 (by decide +kernel)
          have a6 := fun w => run_float_arith (P := Tryz.prog) w .sub 25 .f64 9214364837600034816 8975674057349398528 9214364837600034815 (by decide +kernel)
          have a7 := fun w => run_float_arith (P := Tryz.prog) w .add 25 .f64 9214364837600034816 9214364837600034815 9218868437227405312 (by decide +kernel)
          clear hp hk
          obtain ⟨i0, hi, hz0, hz1, hz2⟩ := info_parts Tryz.info25
          have hneg := run_negf
          go_wp2_with fail
          go_loopw [5, 7] (fun v i wr => ∃ (k : Nat) (L : List Nat), k ≤ 26 ∧ i = .int .i64 k ∧ Hid (L.length = 26 + k ∧ FOk L) ∧ wr.ownsRow w.heap.size 25 1 v (26 + k) (fcells L) ∧ Below w.heap.size w wr) (fun _ i _ => 26 - (intOf i).toNat)
          case atStart =>
            exact ⟨0, edges0, by omega, rfl, Lib.hid ⟨by decide, by unfold FOk edges0; decide⟩, World.ownsRow_lit _ _ _ (Nat.le_refl _) (by decide) (by decide), (Below.refl _ _).alloc (Nat.le_refl _) _⟩
          case round =>
            obtain ⟨k, L, hk, rfl, hL, hown, hb⟩ := hrel
            by_cases hlt : k < 26
            · obtain ⟨g, cap, cur, rfl, hg, hh, hcap⟩ := row_parts hown (by omega)
              have hcell : wr.cell? ⟨g, k, none⟩ = some (.float .f64 (L.getD k 0)) := row_cell hown hL.out.1 (by omega)
              have hx : Hid (L.getD k 0 < 18446744073709551616) := Lib.hid (fok_at (n := 26 + k) hL.out.2 (by omega) (by have := hL.out.1; omega))
              have HB := Lib.hid hb
              clear hb
              generalize L.getD k 0 = x at hcell hx
              go_wp2_with (at_builtin; refine wpList_append_own _ rfl _ _ 22 rfl w.heap.size 25 i0 (.float .f64 0) 1 8 Tryz.underlying22 hi hz0 hz1 hz2 rfl (by decide) _ _ _ rfl (hown.alloc _) ⟨wr.heap.size, 0, none⟩ 1 1 [.float .f64 (x ^^^ 9223372036854775808)] rfl rfl (cell_one_new _ _ _) (by intro u hu; simp at hu; subst hu; rfl) (by unfold maxLen; omega) (by omega) (by have := HB.out.size; simp; omega) ?_; intro v' w1 hown' hgrow _)
              go_roundw
              case rel => exact ⟨k + 1, L ++ [x ^^^ 9223372036854775808], by omega, by go_num, Lib.hid ⟨by have := hL.out.1; simp; omega, fok_app hL.out.2 (Nat.xor_lt_two_pow (n := 64) (by have := hx.out; omega) (by decide))⟩, by rw [fcells_app]; exact hown', (HB.out.alloc HB.out.size _).grown hgrow (by have := HB.out.size; simp; omega) (fun j e => by cases e; exact hg)⟩
              case measure => simp [intOf]; omega
            · obtain rfl : k = 26 := by omega
              have HB := Lib.hid hb
              clear hb
              have hnan := fun w => run_float_nan (P := Tryz.prog) w .quo 25 0 0 (by simp) (by decide +kernel)
              go_wp2_with (at_builtin; refine wpList_append_own _ rfl _ _ 22 rfl w.heap.size 25 i0 (.float .f64 0) 1 8 Tryz.underlying22 hi hz0 hz1 hz2 rfl (by decide) _ _ _ rfl ((own_drew hown).alloc _) ⟨wr.heap.size, 0, none⟩ 1 1 [.float .f64 (nanAns wr 0 0)] rfl rfl (cell_one_new _ _ _) (by intro u hu; simp at hu; subst hu; rfl) (by unfold maxLen; omega) (by omega) (by have := HB.out.size; simp; omega) ?_; intro v' w1 hown' hgrow _)
              go_ret
              refine ⟨_, L ++ [nanAns wr 0 0], rfl, by rw [fcells_app]; exact hown', fok_app hL.out.2 (nanAns_nan wr 0 0).2, ?_⟩
              exact (HB.out.drew.alloc HB.out.size _).grown hgrow (by have := HB.out.size; simp; omega) (row_base hown)
    · obtain ⟨s, h1, h2, h3, h4⟩ := Fl.pw_down hp.out (by have := Fl.K_eq; omega)
      have hq2 := fun w => run_float_arith (P := Tryz.prog) w .quo 25 .f64 r 4611686018427387904 s h2
      have HN := Lib.hid (And.intro h1 h4)
      clear h1 h2 h4
      go_wp2_with fail
      go_round
      case rel => exact ⟨s, k, rfl, HN.out.1, by omega⟩
      case measure => exact HN.out.2
end Go.Proofs.YtdebbljohlffdaaGreatDoor
