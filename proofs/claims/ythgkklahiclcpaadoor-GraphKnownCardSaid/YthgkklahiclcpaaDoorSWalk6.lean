/- Walks: MinFill, MinDegree. -/
import Derived.Test.YthgkklahiclcpaaDoorSWalk5
namespace Go.Proofs.YthgkklahiclcpaaDoor
open Go.RowKit

set_option maxRecDepth 100000 in
set_option maxHeartbeats 1000000 in
theorem MinFill_c (v : Value) (L : List VS) (w : World) (hI : SetsAt w v L) (hT : TabAt w) (hL : L.length ≤ 140737488355328) :
    Calls Tryd.prog 15 #[v] w (OrderPost fillC L w) := by
  have H := hid (orderFill_c v L w hI hT hL)
  go_enter Tryd.func15, Tryd.ntmps15
  go_wp2_with fail
  refine H.out.mono ?_
  rintro e w2 ⟨v2, rfl, h2, hb2⟩
  go_wp2_with fail
  go_ret
  exact ⟨v2, rfl, h2, hb2⟩
set_option maxRecDepth 100000 in
set_option maxHeartbeats 1000000 in
theorem MinDegree_c (v : Value) (L : List VS) (w : World) (hI : SetsAt w v L) (hT : TabAt w) (hL : L.length ≤ 140737488355328) :
    Calls Tryd.prog 17 #[v] w (OrderPost degC L w) := by
  have H := hid (orderDeg_c v L w hI hT hL)
  go_enter Tryd.func17, Tryd.ntmps17
  go_wp2_with fail
  refine H.out.mono ?_
  rintro e w2 ⟨v2, rfl, h2, hb2⟩
  go_wp2_with fail
  go_ret
  exact ⟨v2, rfl, h2, hb2⟩
end Go.Proofs.YthgkklahiclcpaaDoor
