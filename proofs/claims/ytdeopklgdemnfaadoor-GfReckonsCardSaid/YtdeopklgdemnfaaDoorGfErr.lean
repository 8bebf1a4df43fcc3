/- The field's errors by their numbers, and its calls on no field at all. Condition: the library's handle of the type 'error' reads as the program lays it. -/
import Derived.Test.YtdeopklgdemnfaaDoorGfMore
import Derived.Test.YtdeopklgdemnfaaDoorErrNum7
namespace Go.Proofs.YtdeopklgdemnfaaDoor
open Go.RowKit Gf

/-- The number of what the inverse's call answers. -/
theorem numE (a : Nat) (b : Nat) (W v : World) (hH : Handle W) (hb : 0 < b) (h : FW b W v) :
    Calls Tryd.prog 19 #[invErr a] v fun e w' => e = .returned (.int .i64 (rinvErr a)) ∧ FW b W w' := by
  have keep : ∀ w' : World, Below v.heap.size v w' → FW b W w' := fun w' hw =>
    ⟨by have e := hw.block b h.2.2; have := h.1; unfold FieldIn at *; rw [e]; exact this, h.below hw, Nat.lt_of_lt_of_le h.2.2 hw.size⟩
  by_cases h0 : a = 0
  · have e1 : invErr a = .iface 99 (.int .i64 14) := by unfold invErr; rw [if_pos (by omega)]; rfl
    have e2 : rinvErr a = 14 := by unfold rinvErr; rw [if_pos h0]
    rw [e1, e2]
    exact (num7_hit 14 v (hH.below hb h.2.1)).mono fun _ _ ⟨he, hw⟩ => ⟨he, keep _ hw⟩
  · have e1 : invErr a = .nilIface := by unfold invErr; rw [if_neg (by omega)]
    have e2 : rinvErr a = 0 := by unfold rinvErr; rw [if_neg h0]
    rw [e1, e2]
    exact (num7_nil v).mono fun _ _ ⟨he, hw⟩ => ⟨he, keep _ hw⟩
theorem sureE (b : Nat) (W v : World) (h : FW b W v) : Calls Tryd.prog 20 #[] v fun e w' => e = .returned (.bool true) ∧ Below b W w' :=
  (sure7_any v).mono fun _ _ ⟨he, hw⟩ => ⟨he, h.below hw⟩

set_option maxRecDepth 100000 in
set_option maxHeartbeats 1600000 in
theorem inverses_nat (X Y : Nat) (hX : X < 256) (hY : Y < 256) (W : World) (hH : Handle W) :
    Calls Tryd.prog 3 #[.int .u8 (X : Int), .int .u8 (Y : Int)] W (FieldEnd W) := by
  have h := FW.new W
  have hb := hH.lt
  go_enter Tryd.func3, Tryd.ntmps3
  go_wp2_with (go_at_call 14; refine (new_any _).mono ?_; rintro e w1 ⟨rfl, rfl⟩)
  refine (invA _ _ _ X hX h).mono ?_; rintro e v ⟨rfl, h⟩; go_wp2_with fail
  refine (rinv_any X hX _).mono ?_; rintro e v' ⟨rfl, rfl⟩; go_wp2_with fail
  refine (divA _ _ _ Y X hY hX h).mono ?_; rintro e v ⟨rfl, h⟩; go_wp2_with fail
  refine (rdiv_any Y X hY hX _).mono ?_; rintro e v' ⟨rfl, rfl⟩; go_wp2_with fail
  refine (numE X _ _ _ hH hb h).mono ?_; rintro e v ⟨rfl, h⟩; go_wp2_with fail
  refine (numE X _ _ _ hH hb h).mono ?_; rintro e v ⟨rfl, h⟩; go_wp2_with fail
  refine (sureE _ _ _ h).mono ?_; rintro e v ⟨rfl, h⟩; go_wp2_with fail
  go_ret
  exact ⟨rfl, h⟩
set_option maxRecDepth 100000 in
set_option maxHeartbeats 1600000 in
theorem exponents_nat (X : Nat) (n : Int) (hX : X < 256) (W : World) (hH : Handle W) :
    Calls Tryd.prog 5 #[.int .u8 (X : Int), .int .i64 n] W (FieldEnd W) := by
  have h := FW.new W
  have hb := hH.lt
  go_enter Tryd.func5, Tryd.ntmps5
  go_wp2_with (go_at_call 14; refine (new_any _).mono ?_; rintro e w1 ⟨rfl, rfl⟩)
  refine (logE _ _ _ X hX h).mono ?_; rintro e v ⟨rfl, h⟩; go_wp2_with fail
  refine (rlog_any X hX _).mono ?_; rintro e v' ⟨rfl, rfl⟩; go_wp2_with fail
  refine (expE _ _ _ n _ rfl h).mono ?_; rintro e v ⟨rfl, h⟩; go_wp2_with fail
  refine (rexp_any n _).mono ?_; rintro e v' ⟨rfl, rfl⟩; go_wp2_with fail
  refine (powE _ _ _ X n _ rfl hX h).mono ?_; rintro e v ⟨rfl, h⟩; go_wp2_with fail
  refine (rpow_any X hX n _).mono ?_; rintro e v' ⟨rfl, rfl⟩; go_wp2_with fail
  refine (numE X _ _ _ hH hb h).mono ?_; rintro e v ⟨rfl, h⟩; go_wp2_with fail
  refine (sureE _ _ _ h).mono ?_; rintro e v ⟨rfl, h⟩; go_wp2_with fail
  go_ret
  exact ⟨rfl, h⟩
end Go.Proofs.YtdeopklgdemnfaaDoor
