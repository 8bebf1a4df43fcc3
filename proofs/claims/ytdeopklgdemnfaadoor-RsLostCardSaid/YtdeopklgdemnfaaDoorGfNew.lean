/- The walk of the making of a field. No condition. -/
import Derived.Test.YtdeopklgdemnfaaDoorGfCells
namespace Go.Proofs.YtdeopklgdemnfaaDoor
open Go.RowKit Gf

def freshF : Array Value := tabs (.int .u32 0) (.int .i32 0) (.int .u32 0) 0
theorem zeroF (w : World) : (zeroValue 98).run Tryd.prog w = .ok (.agg freshF) w := by kernel_rfl

set_option maxRecDepth 100000 in
theorem new_any (w : World) : Calls Tryd.prog 14 #[] w fun e w' => e = .returned (.pointer (some ⟨w.heap.size, 0, none⟩)) ∧ w' = w.alloc (.cells freshF 98) := by
  have hz := zeroF
  go_enter Tryd.func14, Tryd.ntmps14
  go_wp2
  go_ret
  exact ⟨rfl, rfl⟩

end Go.Proofs.YtdeopklgdemnfaaDoor
