import Derived.Test.YtdebbljohlffdaaGreatDoorNumXa
namespace Go.Proofs.YtdebbljohlffdaaGreatDoor
open Go.Shelf Go.RowKit

set_option maxHeartbeats 1000000 in
theorem law_parse_far (s : ByteArray) (h : 100 < s.size) (w : World) (he : Env w) : Calls Tryz.prog 11 #[.string s] w (Yes w) := by
  have h5 := Lib.hid (works_at w he w (Below.refl _ _))
  clear he
  go_enter Tryz.func11, Tryz.ntmps11
  go_wp2_with fail
  refine h5.out.mono ?_
  rintro e w' ⟨rfl, hbl⟩
  go_wp2_with fail
  go_ret
  exact ⟨rfl, hbl⟩
theorem law_parse_all (s : ByteArray) (w : World) (he : Env w) : Calls Tryz.prog 11 #[.string s] w (Yes w) := by
  by_cases h1 : s.size ≤ 100
  · exact law_parse_short s h1 w he
  · exact law_parse_far s (by omega) w he
end Go.Proofs.YtdebbljohlffdaaGreatDoor
