/- The number of an error, in the law's package. Condition: the library's handle of the type 'error' reads as the program lays it. -/
import Derived.Test.YtnnadhfpkplncaaDoorErrAs
namespace Go.Proofs.YtnnadhfpkplncaaDoor
open Go.RowKit
/-- An error's value. -/
def errN (n : Int) : Value := .iface 78 (.int .i64 n)
set_option maxHeartbeats 800000 in
theorem numk_nil (w : World) : Calls Tryd.prog 12 #[.nilIface] w fun e w' => e = .returned (.int .i64 0) ∧ Below w.heap.size w w' := by
  go_enter Tryd.func12, Tryd.ntmps12
  go_wp2
  go_ret
  exact ⟨rfl, (Below.refl _ _).alloc (Nat.le_refl _) _⟩
set_option maxHeartbeats 800000 in
theorem numk_hit (x : Int) (w : World) (hg : Handle w) : Calls Tryd.prog 12 #[.iface 78 (.int .i64 x)] w fun e w' => e = .returned (.int .i64 x) ∧ Below w.heap.size w w' := by
  have hlt := hg.lt
  have hgA : (w.alloc (.cells #[.int .i64 0] 78)).cell? ⟨0, 0, none⟩ = _ := (World.cell?_alloc_lt _ _ ⟨0, 0, none⟩ hlt).trans hg
  have htA : (w.alloc (.cells #[.int .i64 0] 78)).cell? ⟨w.heap.size, 0, none⟩ = some (.int .i64 0) := by simp
  have hfA : (w.alloc (.cells #[.int .i64 0] 78)).frozen? ⟨w.heap.size, 0, none⟩ = false := by simp
  go_enter Tryd.func12, Tryd.ntmps12
  go_wp2_with (go_at_call 31; refine (as_hit _ _ (.int .i64 0) _ hgA htA hfA).mono ?_; rintro e w' ⟨rfl, rfl⟩)
  go_ret
  exact ⟨rfl, (((((Below.refl _ _).alloc (Nat.le_refl _) _).alloc (by simp) _).alloc (by simp; omega) _).alloc (by simp; omega) _).alloc (by simp; omega) _⟩
/-- An error or none. -/
def errV (n : Int) : Value := if n = 0 then .nilIface else errN n
theorem numk_any (n : Int) (w : World) (hg : Handle w) : Calls Tryd.prog 12 #[errV n] w fun e w' => e = .returned (.int .i64 n) ∧ Below w.heap.size w w' := by
  unfold errV
  by_cases h : n = 0
  · subst h; exact numk_nil w
  · rw [if_neg h]; exact numk_hit n w hg
end Go.Proofs.YtnnadhfpkplncaaDoor
