/- The walk of the making of a field. No condition. -/
import Derived.Test.YtdeopklgdemnfaaGfCells
namespace Go.Proofs.Ytdeopklgdemnfaa
open Go.RowKit Gf

def freshF : Array Value := tabs (.int .u32 0) (.int .i32 0) (.int .u32 0) 0
theorem zeroF (w : World) : (zeroValue 66).run Try.prog w = .ok (.agg freshF) w := by kernel_rfl

set_option maxRecDepth 100000 in
theorem new_any (w : World) : Calls Try.prog 7 #[] w fun e w' => e = .returned (.pointer (some ⟨w.heap.size, 0, none⟩)) ∧ w' = w.alloc (.cells freshF 66) := by
  have hz := zeroF
  go_enter Try.func7, Try.ntmps7
  go_wp2
  go_ret
  exact ⟨rfl, rfl⟩

end Go.Proofs.Ytdeopklgdemnfaa
