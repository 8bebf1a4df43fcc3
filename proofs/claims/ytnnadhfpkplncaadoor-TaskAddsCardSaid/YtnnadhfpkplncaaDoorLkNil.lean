/- What a nil table answers. No condition. -/
import Derived.Test.YtnnadhfpkplncaaDoorLkInts
import Derived.Great.Walk
namespace Go.Proofs.YtnnadhfpkplncaaDoor
open Go.RowKit Go.Maps

set_option maxRecDepth 100000 in
theorem take_nil (who : Int) (nm : List UInt8) (all : Bool) (w : World) : Calls Tryd.prog 9 #[.pointer none, .int .i64 who, .string ⟨nm.toArray⟩, .bool all] w fun e w' => e = .returned (errV 1) ∧ w' = w := by
  go_enter Tryd.func9, Tryd.ntmps9
  go_wp2_with fail
  refine (may_nil who nm all w).mono ?_
  rintro e w1 ⟨rfl, rfl⟩
  rw [show errV 1 = .iface 78 (.int .i64 1) from rfl]
  go_wp2_with fail
  go_ret
  exact ⟨rfl, rfl⟩
set_option maxRecDepth 100000 in
theorem free_nil (who : Int) (w : World) : Calls Tryd.prog 16 #[.pointer none, .int .i64 who] w fun e w' => e = .returned (.tuple #[]) ∧ w' = w := by
  go_enter Tryd.func16, Tryd.ntmps16
  go_wp2_with fail
  exact Go.Great.bodyPost_end0 rfl rfl ⟨rfl, rfl⟩
set_option maxRecDepth 100000 in
theorem holds_nil (who : Int) (nm : List UInt8) (w : World) : Calls Tryd.prog 18 #[.pointer none, .int .i64 who, .string ⟨nm.toArray⟩] w fun e w' => e = .returned (.tuple #[.bool false, .bool false]) ∧ w' = w := by
  go_enter Tryd.func18, Tryd.ntmps18
  go_wp2_with fail
  go_ret2
  exact ⟨rfl, rfl⟩
set_option maxRecDepth 100000 in
theorem len_nil (w : World) : Calls Tryd.prog 19 #[.pointer none] w fun e w' => e = .returned (.int .i64 0) ∧ w' = w := by
  go_enter Tryd.func19, Tryd.ntmps19
  go_wp2_with fail
  go_ret
  exact ⟨rfl, rfl⟩
set_option maxRecDepth 100000 in
theorem holders_nil (nm : List UInt8) (w : World) : Calls Tryd.prog 17 #[.pointer none, .string ⟨nm.toArray⟩] w fun e w' => e = .returned (.slice none 0 0) ∧ w' = w := by
  go_enter Tryd.func17, Tryd.ntmps17
  go_wp2_with fail
  go_ret
  exact ⟨rfl, rfl⟩
set_option maxRecDepth 100000 in
theorem names_nil (who : Int) (w : World) : Calls Tryd.prog 15 #[.pointer none, .int .i64 who] w fun e w' => e = .returned (.slice none 0 0) ∧ w' = w := by
  go_enter Tryd.func15, Tryd.ntmps15
  go_wp2_with fail
  go_ret
  exact ⟨rfl, rfl⟩
end Go.Proofs.YtnnadhfpkplncaaDoor
