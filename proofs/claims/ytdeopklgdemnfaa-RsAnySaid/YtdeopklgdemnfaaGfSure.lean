/- What must come whatever the input is, at the field. No condition. -/
import Derived.Test.YtdeopklgdemnfaaGfOps
import Derived.Test.YtdeopklgdemnfaaGfRef
namespace Go.Proofs.Ytdeopklgdemnfaa
open Go.RowKit Gf

theorem newField (w : World) : FieldIn w.heap.size (w.alloc (.cells freshF 66)) := Or.inl (Array.getElem?_push_size)

set_option maxRecDepth 100000 in
theorem sure7_any (w : World) : Calls Try.prog 10 #[] w fun e w' => e = .returned (.bool true) ∧ Below w.heap.size w w' := by
  have hF := newField w
  go_enter Try.func10, Try.ntmps10
  go_wp2_with (go_at_call 7; refine (new_any _).mono ?_; rintro e w1 ⟨rfl, rfl⟩)
  refine (inv_any w.heap.size 2 (by omega) (by omega) _ hF).mono ?_
  rintro e w2 ⟨rfl, a2⟩
  rw [show gi (2 : Int).toNat = 142 by decide +kernel, show invErr 2 = .nilIface from rfl]
  go_wp2_with fail
  refine (mul_any w.heap.size 2 128 (by omega) (by omega) (by omega) (by omega) _ (Or.inr a2.here)).mono ?_
  rintro e w3 ⟨rfl, a3⟩
  rw [show gm (2 : Int).toNat (128 : Int).toNat = 29 by decide +kernel]
  go_wp2
  go_ret
  exact ⟨rfl, ((Below.refl _ _).alloc (Nat.le_refl _) _).trans (a2.below.trans a3.below)⟩

end Go.Proofs.Ytdeopklgdemnfaa
