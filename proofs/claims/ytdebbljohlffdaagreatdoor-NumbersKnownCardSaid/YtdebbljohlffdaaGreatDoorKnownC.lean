import Derived.Test.YtdebbljohlffdaaGreatDoorKnownB
import Derived.Deep.QuietTactic
import Derived.Outline
import Derived.BigQuiet
import Derived.Deep.RegionHeld3
namespace Go.Proofs.YtdebbljohlffdaaGreatDoor
open Go.Shelf Go.RowKit

/-- one of the rows of numbers: each of its cells, wherever it was laid below -/
def RowF (w1 : World) (g : Nat) (L : List Nat) : Prop := L.length = 53 ∧ FOk L ∧ ∀ k, k < 53 → w1.cell? ⟨g, k, none⟩ = some (.float .f64 (L.getD k 0))
theorem RowF.at {w1 W : World} {g : Nat} {L : List Nat} (h : RowF w1 g L) (hb : Below w1.heap.size w1 W) {k : Nat} (hk : k < 53) : W.cell? ⟨g, k, none⟩ = some (.float .f64 (L.getD k 0)) ∧ L.getD k 0 < 18446744073709551616 :=
  ⟨cell_below (h.2.2 k hk) hb, fok_at h.2.1 hk (by have := h.1; omega)⟩
theorem RowF.ex {w1 W : World} {g : Nat} {L : List Nat} (h : RowF w1 g L) (hb : Below w1.heap.size w1 W) {k : Nat} (hk : k < 53) : ∃ x, W.cell? ⟨g, k, none⟩ = some (.float .f64 x) ∧ Hid (x < 18446744073709551616) :=
  ⟨_, (h.at hb hk).1, Lib.hid (h.at hb hk).2⟩
/-- a cell of floats, wherever was laid since -/
def Cellf (w1 : World) (g k x : Nat) : Prop := (∀ W, Below w1.heap.size w1 W → W.cell? ⟨g, k, none⟩ = some (.float .f64 x)) ∧ x < 18446744073709551616
theorem RowF.cell {w1 : World} {g : Nat} {L : List Nat} (h : RowF w1 g L) {k : Nat} (hk : k < 53) : ∃ x, Hid (Cellf w1 g k x) :=
  ⟨_, Lib.hid ⟨fun W hb => (h.at hb hk).1, (h.at (Below.refl _ _) hk).2⟩⟩
theorem keepF {w1 W W' : World} {g k j m n x y z u : Nat} (hx : Hid (Cellf w1 g k x)) (hy : Hid (Cellf w1 g j y)) (hz : Hid (Cellf w1 g m z)) (hu : Hid (Cellf w1 g n u)) (hb : Hid (Below w1.heap.size w1 W)) (h : Below W.heap.size W W') :
    Hid (Below w1.heap.size w1 W') ∧ W'.cell? ⟨g, k, none⟩ = some (.float .f64 x) ∧ W'.cell? ⟨g, j, none⟩ = some (.float .f64 y) ∧ W'.cell? ⟨g, m, none⟩ = some (.float .f64 z) ∧ W'.cell? ⟨g, n, none⟩ = some (.float .f64 u) :=
  have hb' := hb.out.trans (h.mono hb.out.size)
  ⟨Lib.hid hb', hx.out.1 W' hb', hy.out.1 W' hb', hz.out.1 W' hb', hu.out.1 W' hb'⟩
theorem sBelow {w1 W : World} {A B C D : Prop} (h : Hid (Below w1.heap.size w1 W) ∧ A ∧ B ∧ C ∧ D) : Below w1.heap.size w1 W := h.1.out
theorem keepF2 {w1 W W' : World} {A B C D : Prop} {g k j m n x y z u : Nat} (hx : Hid (Cellf w1 g k x)) (hy : Hid (Cellf w1 g j y)) (hz : Hid (Cellf w1 g m z)) (hu : Hid (Cellf w1 g n u)) (hb : Hid (Below w1.heap.size w1 W) ∧ A ∧ B ∧ C ∧ D) (h : Below W.heap.size W W') :
    Hid (Below w1.heap.size w1 W') ∧ W'.cell? ⟨g, k, none⟩ = some (.float .f64 x) ∧ W'.cell? ⟨g, j, none⟩ = some (.float .f64 y) ∧ W'.cell? ⟨g, m, none⟩ = some (.float .f64 z) ∧ W'.cell? ⟨g, n, none⟩ = some (.float .f64 u) := keepF hx hy hz hu hb.1 h
theorem tmod_nat {a : Int} {m n : Nat} (h : a = m) (_hn : 0 < n) : a.tmod n = ((m % n : Nat) : Int) := by
  subst h
  rw [Int.tmod_eq_emod_of_nonneg (by omega)]
  omega
theorem sums {k j : Nat} (hk : k < 53) (hj : j < 53) : ∃ m n q : Nat, m < 53 ∧ n < 53 ∧ q < 4 ∧ IntKind.i64.wrap ((k : Int) * 7) = (k : Int) * 7 ∧ IntKind.i64.wrap ((k : Int) * 7 + (j : Int)) = (k : Int) * 7 + (j : Int) ∧ ((k : Int) * 7 + (j : Int)).tmod 53 = (m : Int) ∧
    IntKind.i64.wrap (2 * (j : Int)) = 2 * (j : Int) ∧ IntKind.i64.wrap ((k : Int) + 2 * (j : Int)) = (k : Int) + 2 * (j : Int) ∧ ((k : Int) + 2 * (j : Int)).tmod 53 = (n : Int) ∧
    IntKind.i64.wrap ((k : Int) + (j : Int)) = (k : Int) + (j : Int) ∧ ((k : Int) + (j : Int)).tmod 4 = (q : Int) ∧ (m : Int) < 53 ∧ (n : Int) < 53 ∧ (q : Int) < 4 ∧ (0 : Int) ≤ m ∧ (0 : Int) ≤ n ∧ (0 : Int) ≤ q :=
  ⟨(k * 7 + j) % 53, (k + 2 * j) % 53, (k + j) % 4, Nat.mod_lt _ (by decide), Nat.mod_lt _ (by decide), Nat.mod_lt _ (by decide), IntWalk.i64_in _ (by omega), IntWalk.i64_in _ (by omega), tmod_nat (m := k * 7 + j) (n := 53) (by omega) (by omega), IntWalk.i64_in _ (by omega), IntWalk.i64_in _ (by omega), tmod_nat (m := k + 2 * j) (n := 53) (by omega) (by omega), IntWalk.i64_in _ (by omega), tmod_nat (m := k + j) (n := 4) (by omega) (by omega), by omega, by omega, by omega, by omega, by omega, by omega⟩
def isStr : Value → Bool
  | .string _ => true
  | _ => false
theorem isStr_some {v : Value} (h : isStr v = true) : ∃ s, v = .string s := by
  cases v <;> simp [isStr] at h
  exact ⟨_, rfl⟩
/-- a block of texts -/
def Strs (W : World) (g : Nat) : Prop := ∀ j, j < 51 → ∃ s, W.cell? ⟨g, j, none⟩ = some (.string s)
theorem strs_new (w : World) (cs : Array Value) (h : cs.toList.all isStr = true) (hs : cs.size = 51) : Strs (w.alloc (.cells cs 9)) w.heap.size := by
  intro j hj
  have hr := World.ownsRow_lit (base := w.heap.size) (e := 9) (size := 1) w cs 51 (Nat.le_refl _) (by decide) (by omega)
  have := hr.cellAt j (by omega)
  have hl : j < cs.toList.length := by simp; omega
  rw [List.getElem?_eq_getElem hl] at this
  obtain ⟨s, e⟩ := isStr_some (List.all_eq_true.1 h _ (List.getElem_mem hl))
  exact ⟨s, by rw [this, e]⟩
theorem Strs.below {W W' : World} {g : Nat} (h : Strs W g) (hb : Below W.heap.size W W') : Strs W' g := fun j hj => by
  obtain ⟨s, e⟩ := h j hj
  exact ⟨s, cell_below e hb⟩
theorem below3 {w A B : World} (h : Below w.heap.size w A) (k : Below A.heap.size A B) : Below w.heap.size w B := h.trans (k.mono h.size)
/-- the floats of three cells -/
theorem floats3 (W : World) (x y z : Nat) (hx : x < 18446744073709551616) (hy : y < 18446744073709551616) (hz : z < 18446744073709551616) :
    Floats (W.alloc (.cells #[.float .f64 x, .float .f64 y, .float .f64 z] 25)) (some ⟨W.heap.size, 0, none⟩) 3 3 (fun i => [x, y, z].getD i 0) := by
  refine Or.inr ⟨by omega, Nat.le_refl _, by decide, W.heap.size, 0, rfl, ⟨by simp, fun i hi => ?_⟩, fun i hi => ?_⟩
  · have hr := World.ownsRow_lit (base := W.heap.size) (e := 25) (size := 1) W #[.float .f64 x, .float .f64 y, .float .f64 z] 3 (Nat.le_refl _) (by decide) rfl
    have := hr.cellAt i (by omega)
    rw [Nat.zero_add, this]
    match i, hi with
    | 0, _ => rfl
    | 1, _ => rfl
    | 2, _ => rfl
  · match i, hi with
    | 0, _ => exact hx
    | 1, _ => exact hy
    | 2, _ => exact hz
set_option maxRecDepth 100000 in
set_option maxHeartbeats 4000000 in
theorem known_c (w : World) (he : Env w) : Calls Tryz.prog 3 #[] w (Yes w) := by
  have hed := Lib.hid (edges_c w)
  have HE := Lib.hid he
  clear he
  go_enter Tryz.func3, Tryz.ntmps3
  go_wp2_with fail
  refine hed.out.mono ?_
  rintro e w1 ⟨v, L, rfl, hown, hL, hb⟩
  have HR : Hid (∃ g cap, v = .slice (some ⟨g, 0, none⟩) 53 cap ∧ 53 ≤ cap ∧ RowF w1 g L) := by
    obtain ⟨g, cap, cur, rfl, hg, hh, hcap⟩ := row_parts hown (by omega)
    have hl : L.length = 53 := by have := hown.1; simpa [fcells] using this
    exact Lib.hid ⟨g, cap, rfl, hcap, hl, hL, fun k hk => row_cell hown hl hk⟩
  have HB := Lib.hid hb
  clear hb hown hL hed
  obtain ⟨g, cap, rfl, hcap, hR⟩ := HR.out
  clear HR
  have HR := Lib.hid hR
  have LP := Lib.hid (fun (W : World) (hW : Below w1.heap.size w1 W) (x : Nat) (hx : x < 18446744073709551616) => law_print x hx W (HE.out.below (HB.out.trans (hW.mono HB.out.size))))
  have LW := Lib.hid (fun (W : World) (hW : Below w1.heap.size w1 W) (x : Nat) (hx : x < 18446744073709551616) => law_whole x hx W (HE.out.below (HB.out.trans (hW.mono HB.out.size))))
  have LC := Lib.hid (fun (W : World) (hW : Below w1.heap.size w1 W) (x y : Nat) (hx : x < 18446744073709551616) (hy : y < 18446744073709551616) => law_compare x y hx hy W (HE.out.below (HB.out.trans (hW.mono HB.out.size))))
  have LO := Lib.hid (fun (W : World) (hW : Below w1.heap.size w1 W) (x y z : Nat) (hx : x < 18446744073709551616) (hy : y < 18446744073709551616) (hz : z < 18446744073709551616) => law_order x y z hx hy hz W (HE.out.below (HB.out.trans (hW.mono HB.out.size))))
  have LD := Lib.hid (fun (W : World) (hW : Below w1.heap.size w1 W) (n : Int) (x y : Nat) => law_do n x y W (HE.out.below (HB.out.trans (hW.mono HB.out.size))))
  have LL := Lib.hid (fun (W : World) (hW : Below w1.heap.size w1 W) (a : Option Addr) (F : Nat → Nat) (hF : Floats W a 3 3 F) => law_least_short a 3 3 F W (HE.out.below (HB.out.trans (hW.mono HB.out.size))) (by decide) hF)
  have LL0 := Lib.hid (fun (W : World) (hW : Below w1.heap.size w1 W) => law_least_short none 0 0 (fun _ => 0) W (HE.out.below (HB.out.trans (hW.mono HB.out.size))) (by decide) (Or.inl ⟨rfl, by decide⟩))
  have LS := Lib.hid (fun (W : World) (hW : Below w1.heap.size w1 W) (s : ByteArray) => law_parse_all s W (HE.out.below (HB.out.trans (hW.mono HB.out.size))))
  have LK := Lib.hid (fun (W : World) (hW : Below w1.heap.size w1 W) => works_at W (HE.out.below (HB.out.trans (hW.mono HB.out.size))) W (Below.refl _ _))
  clear hR
  go_wp2_with fail
  go_loopw [2] (fun i wr => ∃ k : Nat, k ≤ 53 ∧ i = .int .i64 k ∧ Hid (Below w1.heap.size w1 wr)) (fun i _ => 53 - (intOf i).toNat)
  case atStart => exact ⟨0, by omega, rfl, Lib.hid (Below.refl _ _)⟩
  case round =>
    obtain ⟨k, hk, rfl, hbr⟩ := hrel
    by_cases hlt : k < 53
    · obtain ⟨x, hc, hx⟩ := HR.out.ex hbr.out hlt
      go_wp2_with fail
      refine (LP.out _ hbr.out _ hx.out).mono ?_
      rintro e W2 ⟨rfl, hb2⟩
      have H3 := Lib.hid (below3 hbr.out hb2)
      clear hb2 hc hx
      obtain ⟨x, hc, hx⟩ := HR.out.ex H3.out hlt
      go_wp2_with fail
      refine (LW.out _ H3.out _ hx.out).mono ?_
      rintro e W3 ⟨rfl, hb2⟩
      have H4 := Lib.hid (below3 H3.out hb2)
      clear hb2 hc hx
      go_wp2_with fail
      go_loopw [3] (fun i wi => ∃ j : Nat, j ≤ 53 ∧ i = .int .i64 j ∧ Hid (Below w1.heap.size w1 wi)) (fun i _ => 53 - (intOf i).toNat)
      case atStart => exact ⟨0, by omega, rfl, H4⟩
      case round =>
        obtain ⟨j, hj, rfl, hbi⟩ := hrel
        by_cases hlj : j < 53
        · obtain ⟨x, hx⟩ := HR.out.cell hlt
          obtain ⟨y, hy⟩ := HR.out.cell hlj
          go_wp2_with fail
          obtain ⟨m, n, q, hm, hn, hq, e1, e2, e3, e4, e5, e6, e7, e8, b3, b6, b8, c3, c6, c8⟩ := sums hlt hlj
          obtain ⟨z, hz⟩ := HR.out.cell hm
          obtain ⟨u, hu⟩ := HR.out.cell hn
          dsimp only [List.append]
          go_region_held3 (fun W' => Hid (Below w1.heap.size w1 W') ∧ W'.cell? ⟨g, k, none⟩ = some (.float .f64 x) ∧ W'.cell? ⟨g, j, none⟩ = some (.float .f64 y) ∧ W'.cell? ⟨g, m, none⟩ = some (.float .f64 z) ∧ W'.cell? ⟨g, n, none⟩ = some (.float .f64 u))
            (first | assumption | exact keepF hx hy hz hu hbi (Below.refl _ _).drew | exact keepF2 hx hy hz hu (by assumption) (by assumption) | exact keepF2 hx hy hz hu (by assumption) ((Below.refl _ _).alloc (Nat.le_refl _) _))
            (first | (go_at_call 7; refine (LC.out _ (sBelow (by assumption)) _ _ hx.out.2 hy.out.2).mono ?_; rintro e W5 ⟨rfl, hb2⟩) | (go_at_call 8; refine (LO.out _ (sBelow (by assumption)) _ _ _ hx.out.2 hy.out.2 hz.out.2).mono ?_; rintro e W5 ⟨rfl, hb2⟩) | (go_at_call 9; refine (LD.out _ (sBelow (by assumption)) _ _ _).mono ?_; rintro e W5 ⟨rfl, hb2⟩) | (go_at_call 10; refine (LL.out _ (sBelow (by assumption)) _ _ (floats3 _ _ _ _ hx.out.2 hy.out.2 hu.out.2)).mono ?_; rintro e W5 ⟨rfl, hb2⟩))
          go_wp2_with fail
          clear e1 e2 e3 e4 e5 e6 e7 e8 b3 b6 b8 c3 c6 c8
          go_roundw
          case rel => exact ⟨j + 1, by omega, by go_num, And.left (by assumption)⟩
          case measure => simp [intOf]; omega
        · go_wp2_with fail
          go_roundw
          case rel => exact ⟨k + 1, by omega, by go_num, hbi⟩
          case measure => simp [intOf]; omega
    · go_wp2_with fail
      go_loopw [107] (fun i w3 => ∃ j : Nat, j ≤ 51 ∧ i = .int .i64 j ∧ Hid (Below w1.heap.size w1 w3 ∧ Strs w3 wr.heap.size)) (fun i _ => 51 - (intOf i).toNat)
      case atStart => exact ⟨0, by omega, rfl, Lib.hid ⟨hbr.out.alloc hbr.out.size _, strs_new _ _ (by decide) rfl⟩⟩
      case round =>
        obtain ⟨j, hj, rfl, hs⟩ := hrel
        by_cases hlt : j < 51
        · obtain ⟨s, hc⟩ := hs.out.2 j hlt
          go_wp2_with fail
          refine (LS.out _ hs.out.1 _).mono ?_
          rintro e W5 ⟨rfl, hb2⟩
          have H5 := Lib.hid (And.intro (below3 hs.out.1 hb2) (hs.out.2.below hb2))
          clear hb2 hc
          go_wp2_with fail
          go_roundw
          case rel => exact ⟨j + 1, by omega, by go_num, H5⟩
          case measure => simp [intOf]; omega
        · go_wp2_with fail
          refine (LL0.out _ hs.out.1).mono ?_
          rintro e W5 ⟨rfl, hb2⟩
          have H5 := Lib.hid (below3 hs.out.1 hb2)
          clear hb2
          go_wp2_with fail
          refine (LD.out _ H5.out _ _ _).mono ?_
          rintro e W6 ⟨rfl, hb2⟩
          have H6 := Lib.hid (below3 H5.out hb2)
          clear hb2
          go_wp2_with fail
          refine (LD.out _ H6.out _ _ _).mono ?_
          rintro e W7 ⟨rfl, hb2⟩
          have H7 := Lib.hid (below3 H6.out hb2)
          clear hb2
          go_wp2_with fail
          refine (LK.out _ H7.out).mono ?_
          rintro e W8 ⟨rfl, hb2⟩
          have H8 := Lib.hid (below3 HB.out (below3 H7.out hb2))
          clear hb2
          go_wp2_with fail
          go_ret
          exact ⟨rfl, H8.out⟩
end Go.Proofs.YtdebbljohlffdaaGreatDoor
