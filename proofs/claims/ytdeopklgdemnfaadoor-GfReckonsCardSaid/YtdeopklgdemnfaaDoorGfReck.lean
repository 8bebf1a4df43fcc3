/- The walk of the law on all of the field's calls. Condition: the library's handle of the type 'error' reads as the program lays it. -/
import Derived.Test.YtdeopklgdemnfaaDoorGfErr
namespace Go.Proofs.YtdeopklgdemnfaaDoor
open Go.RowKit Gf

set_option maxRecDepth 100000 in
theorem add_nil (x y : Int) (w : World) : Calls Tryd.prog 28 #[.pointer none, .int .u8 x, .int .u8 y] w fun e w' => e = .returned (.int .u8 0) ∧ w = w' := by
  go_enter Tryd.func28, Tryd.ntmps28
  go_wp2
  go_ret
  exact ⟨rfl, rfl⟩
set_option maxRecDepth 100000 in
theorem inv_nil (x : Int) (w : World) : Calls Tryd.prog 15 #[.pointer none, .int .u8 x] w fun e w' => e = .returned (.tuple #[.int .u8 0, errZero]) ∧ w = w' := by
  go_enter Tryd.func15, Tryd.ntmps15
  go_wp2_with (go_at_call 51; refine (made_nil _).mono ?_; rintro e w' ⟨rfl, rfl⟩)
  go_ret2
  exact ⟨rfl, rfl⟩
set_option maxRecDepth 100000 in
theorem exp_nil (n : Int) (w : World) : Calls Tryd.prog 21 #[.pointer none, .int .i64 n] w fun e w' => e = .returned (.int .u8 0) ∧ w = w' := by
  go_enter Tryd.func21, Tryd.ntmps21
  go_wp2_with (go_at_call 51; refine (made_nil _).mono ?_; rintro e w' ⟨rfl, rfl⟩)
  go_ret
  exact ⟨rfl, rfl⟩
set_option maxRecDepth 100000 in
theorem pow_nil (x n : Int) (w : World) : Calls Tryd.prog 23 #[.pointer none, .int .u8 x, .int .i64 n] w fun e w' => e = .returned (.int .u8 0) ∧ w = w' := by
  go_enter Tryd.func23, Tryd.ntmps23
  go_wp2_with (go_at_call 51; refine (made_nil _).mono ?_; rintro e w' ⟨rfl, rfl⟩)
  go_ret
  exact ⟨rfl, rfl⟩
set_option maxRecDepth 100000 in
set_option maxHeartbeats 1600000 in
theorem reckons_nat (X Y : Nat) (n : Int) (hX : X < 256) (hY : Y < 256) (W : World) (hH : Handle W) :
    Calls Tryd.prog 6 #[.int .u8 (X : Int), .int .u8 (Y : Int), .int .i64 n] W (FieldEnd W) := by
  have h := FW.new W
  have hb := hH.lt
  have e14 : errZero = invErr ((0 : Nat) : Int) := rfl
  have HE := Lib.hid e14
  clear e14
  go_enter Tryd.func6, Tryd.ntmps6
  go_wp2_with (go_at_call 14; refine (new_any _).mono ?_; rintro e w1 ⟨rfl, rfl⟩)
  refine (divA _ _ _ X Y hX hY h).mono ?_; rintro e v ⟨rfl, h⟩; go_wp2_with fail
  refine (rdiv_any X Y hX hY _).mono ?_; rintro e v' ⟨rfl, rfl⟩; go_wp2_with fail
  refine (invA _ _ _ X hX h).mono ?_; rintro e v ⟨rfl, h⟩; go_wp2_with fail
  refine (rinv_any X hX _).mono ?_; rintro e v' ⟨rfl, rfl⟩; go_wp2_with fail
  refine (logE _ _ _ X hX h).mono ?_; rintro e v ⟨rfl, h⟩; go_wp2_with fail
  refine (rlog_any X hX _).mono ?_; rintro e v' ⟨rfl, rfl⟩; go_wp2_with fail
  refine (inv_nil 1 _).mono ?_; rintro e v' ⟨rfl, rfl⟩; go_wp2_with fail
  refine (add_any _ X Y _).mono ?_; rintro e v' ⟨rfl, rfl⟩; go_wp2_with fail
  refine (mulE _ _ _ X Y _ rfl (by omega) (by omega) (by omega) (by omega) h).mono ?_; rintro e v ⟨rfl, h⟩; rw [Int.toNat_natCast, Int.toNat_natCast]; go_wp2_with fail
  refine (rmul_nat X Y hX hY _).mono ?_; rintro e v' ⟨rfl, rfl⟩; go_wp2_with fail
  refine (numE Y _ _ _ hH hb h).mono ?_; rintro e v ⟨rfl, h⟩; go_wp2_with fail
  refine (numE X _ _ _ hH hb h).mono ?_; rintro e v ⟨rfl, h⟩; go_wp2_with fail
  refine (numE X _ _ _ hH hb h).mono ?_; rintro e v ⟨rfl, h⟩; go_wp2_with fail
  refine (expE _ _ _ n _ rfl h).mono ?_; rintro e v ⟨rfl, h⟩; go_wp2_with fail
  refine (rexp_any n _).mono ?_; rintro e v' ⟨rfl, rfl⟩; go_wp2_with fail
  refine (powE _ _ _ X n _ rfl hX h).mono ?_; rintro e v ⟨rfl, h⟩; go_wp2_with fail
  refine (rpow_any X hX n _).mono ?_; rintro e v' ⟨rfl, rfl⟩; go_wp2_with fail
  refine (mul_nil _ _ _).mono ?_; rintro e v' ⟨rfl, rfl⟩; go_wp2_with fail
  refine (add_nil _ _ _).mono ?_; rintro e v' ⟨rfl, rfl⟩; go_wp2_with fail
  refine (exp_nil _ _).mono ?_; rintro e v' ⟨rfl, rfl⟩; go_wp2_with fail
  refine (pow_nil _ _ _).mono ?_; rintro e v' ⟨rfl, rfl⟩; go_wp2_with fail
  rw [HE.out]
  refine (numE 0 _ _ _ hH hb h).mono ?_; rintro e v ⟨rfl, h⟩
  rw [show rinvErr 0 = 14 from rfl]
  go_wp2_with fail
  refine (sureE _ _ _ h).mono ?_; rintro e v ⟨rfl, h⟩; go_wp2_with fail
  go_ret
  exact ⟨rfl, h⟩
end Go.Proofs.YtdeopklgdemnfaaDoor
