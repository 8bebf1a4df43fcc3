/- The number of an error, in the law's package. Condition: the library's handle of the type 'error' reads as the program lays it. -/
import Derived.Test.YtdeopklgdemnfaaDoorErrAs
namespace Go.Proofs.YtdeopklgdemnfaaDoor
open Go.RowKit
set_option maxHeartbeats 800000 in
theorem num7_nil (w : World) : Calls Tryd.prog 19 #[.nilIface] w fun e w' => e = .returned (.int .i64 0) ∧ Below w.heap.size w w' := by
  go_enter Tryd.func19, Tryd.ntmps19
  go_wp2
  go_ret
  exact ⟨rfl, (Below.refl _ _).alloc (Nat.le_refl _) _⟩
set_option maxHeartbeats 800000 in
theorem num7_hit (x : Int) (w : World) (hg : Handle w) : Calls Tryd.prog 19 #[.iface 99 (.int .i64 x)] w fun e w' => e = .returned (.int .i64 x) ∧ Below w.heap.size w w' := by
  have hlt := hg.lt
  have hgA : (w.alloc (.cells #[.int .i64 0] 99)).cell? ⟨0, 0, none⟩ = _ := (World.cell?_alloc_lt _ _ ⟨0, 0, none⟩ hlt).trans hg
  have htA : (w.alloc (.cells #[.int .i64 0] 99)).cell? ⟨w.heap.size, 0, none⟩ = some (.int .i64 0) := by simp
  have hfA : (w.alloc (.cells #[.int .i64 0] 99)).frozen? ⟨w.heap.size, 0, none⟩ = false := by simp
  go_enter Tryd.func19, Tryd.ntmps19
  go_wp2_with (go_at_call 52; refine (as_hit _ _ (.int .i64 0) _ hgA htA hfA).mono ?_; rintro e w' ⟨rfl, rfl⟩)
  go_ret
  exact ⟨rfl, (((((Below.refl _ _).alloc (Nat.le_refl _) _).alloc (by simp) _).alloc (by simp; omega) _).alloc (by simp; omega) _).alloc (by simp; omega) _⟩
end Go.Proofs.YtdeopklgdemnfaaDoor
