import Derived.Test.YtdebbljohlffdaaDoorNumXa
namespace Go.Proofs.YtdebbljohlffdaaDoor
open Go.Shelf Go.RowKit

set_option maxHeartbeats 1000000 in
theorem law_parse_far (s : ByteArray) (h : 100 < s.size) (w : World) (he : Env w) : Calls Tryd.prog 4 #[.string s] w (Yes w) := by
  have h5 := Lib.hid (works_at w he w (Below.refl _ _))
  clear he
  go_enter Tryd.func4, Tryd.ntmps4
  go_wp2_with fail
  refine h5.out.mono ?_
  rintro e w' ⟨rfl, hbl⟩
  go_wp2_with fail
  go_ret
  exact ⟨rfl, hbl⟩
theorem law_parse_all (s : ByteArray) (w : World) (he : Env w) : Calls Tryd.prog 4 #[.string s] w (Yes w) := by
  by_cases h1 : s.size ≤ 100
  · exact law_parse_short s h1 w he
  · exact law_parse_far s (by omega) w he
end Go.Proofs.YtdebbljohlffdaaDoor
