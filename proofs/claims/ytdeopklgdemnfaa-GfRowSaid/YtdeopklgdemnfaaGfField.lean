/- The walk of the field's law. No condition but that the numbers are bytes. -/
import Derived.Test.YtdeopklgdemnfaaGfSure
namespace Go.Proofs.Ytdeopklgdemnfaa
open Go.RowKit Gf

/-- Behind a world W a field was made, in block b; no block below b has turned. -/
def FW (b : Nat) (W v : World) : Prop := FieldIn b v ∧ Below b W v ∧ b < v.heap.size
theorem FW.new (w : World) : FW w.heap.size w (w.alloc (.cells freshF 66)) := ⟨newField w, (Below.refl _ _).alloc (Nat.le_refl _) _, by simp⟩
theorem FW.at {b : Nat} {W v v' : World} (h : FW b W v) (a : At b madeF 66 v v') : FW b W v' := ⟨Or.inr a.here, h.2.1.trans a.below, by rw [a.size]; exact h.2.2⟩
theorem FW.below {b : Nat} {W v v' : World} (h : FW b W v) (a : Below v.heap.size v v') : Below b W v' := h.2.1.trans (a.mono (Nat.le_of_lt h.2.2))
theorem mulE (b : Nat) (W v : World) (x y : Int) (r : Nat) (hr : gm x.toNat y.toNat = r) (hx0 : 0 ≤ x) (hx : x < 256) (hy0 : 0 ≤ y) (hy : y < 256) (h : FW b W v) :
    Calls Try.prog 8 #[.pointer (some ⟨b, 0, none⟩), .int .u8 x, .int .u8 y] v fun e w' => e = .returned (.int .u8 (r : Int)) ∧ FW b W w' :=
  hr ▸ (mul_any b x y hx0 hx hy0 hy v h.1).mono fun _ _ ⟨he, ha⟩ => ⟨he, h.at ha⟩
theorem addE (b : Nat) (W v : World) (x y : Nat) (r : Nat) (hr : x ^^^ y = r) (hx : x < 256) (hy : y < 256) (h : FW b W v) :
    Calls Try.prog 11 #[.pointer (some ⟨b, 0, none⟩), .int .u8 (x : Int), .int .u8 (y : Int)] v fun e w' => e = .returned (.int .u8 (r : Int)) ∧ FW b W w' :=
  (add_any b x y v).mono fun _ _ ⟨he, ha⟩ => ⟨by rw [he, u8_xor_nat x y hx hy, hr], ha ▸ h⟩
theorem invE (b : Nat) (W v : World) (x : Nat) (r : Nat) (hr : gi x = r) (hx0 : 0 < x) (hx : x < 256) (h : FW b W v) :
    Calls Try.prog 12 #[.pointer (some ⟨b, 0, none⟩), .int .u8 (x : Int)] v fun e w' => e = .returned (.tuple #[.int .u8 (r : Int), .nilIface]) ∧ FW b W w' :=
  hr ▸ (inv_pos b x hx0 hx v h.1).mono fun _ _ ⟨he, ha⟩ => ⟨he, h.at ha⟩
theorem divE (b : Nat) (W v : World) (x y : Nat) (r : Nat) (hr : gm x (gi y) = r) (hx : x < 256) (hy0 : 0 < y) (hy : y < 256) (h : FW b W v) :
    Calls Try.prog 13 #[.pointer (some ⟨b, 0, none⟩), .int .u8 (x : Int), .int .u8 (y : Int)] v fun e w' => e = .returned (.tuple #[.int .u8 (r : Int), .nilIface]) ∧ FW b W w' :=
  (div_any b x y (by omega) (by omega) (by omega) (by omega) v h.1).mono fun _ _ ⟨he, ha⟩ => ⟨by rw [he, Int.toNat_natCast, Int.toNat_natCast, hr]; unfold invErr; rw [if_neg (by omega)], h.at ha⟩

def FieldEnd (W : World) (e : Ending) (w' : World) : Prop := e = .returned (.bool true) ∧ Below W.heap.size W w'

set_option maxRecDepth 100000 in
set_option maxHeartbeats 1600000 in
theorem field_nat (X Y Z : Nat) (hX : X < 256) (hY : Y < 256) (hZ : Z < 256) (W : World) :
    Calls Try.prog 5 #[.int .u8 (X : Int), .int .u8 (Y : Int), .int .u8 (Z : Int)] W (FieldEnd W) := by
  have h := FW.new W
  have hXY := gm_lt X Y
  have hYZ := gm_lt Y Z
  have hXZ := gm_lt X Z
  have hyz := xor_lt hY hZ
  go_enter Try.func5, Try.ntmps5
  go_wp2_with (go_at_call 7; refine (new_any _).mono ?_; rintro e w1 ⟨rfl, rfl⟩)
  refine (mulE _ _ _ X Y (gm X Y) rfl (by omega) (by omega) (by omega) (by omega) h).mono ?_; rintro e v ⟨rfl, h⟩; go_wp2_with fail
  refine (mulE _ _ _ Y X (gm X Y) (gm_comm _ _) (by omega) (by omega) (by omega) (by omega) h).mono ?_; rintro e v ⟨rfl, h⟩; go_wp2_with fail
  refine (mulE _ _ _ Y Z (gm Y Z) rfl (by omega) (by omega) (by omega) (by omega) h).mono ?_; rintro e v ⟨rfl, h⟩; go_wp2_with fail
  refine (mulE _ _ _ X (gm Y Z) (gm (gm X Y) Z) (gm_assoc _ _ _) (by omega) (by omega) (by omega) (by omega) h).mono ?_; rintro e v ⟨rfl, h⟩; go_wp2_with fail
  refine (mulE _ _ _ X Y (gm X Y) rfl (by omega) (by omega) (by omega) (by omega) h).mono ?_; rintro e v ⟨rfl, h⟩; go_wp2_with fail
  refine (mulE _ _ _ (gm X Y) Z (gm (gm X Y) Z) rfl (by omega) (by omega) (by omega) (by omega) h).mono ?_; rintro e v ⟨rfl, h⟩; go_wp2_with fail
  refine (addE _ _ _ Y Z (Y ^^^ Z) rfl (by omega) (by omega) h).mono ?_; rintro e v ⟨rfl, h⟩; go_wp2_with fail
  refine (mulE _ _ _ X (Y ^^^ Z : Nat) (gm X Y ^^^ gm X Z) (gm_xor hX hY hZ) (by omega) (by omega) (by omega) (by omega) h).mono ?_; rintro e v ⟨rfl, h⟩; go_wp2_with fail
  refine (mulE _ _ _ X Y (gm X Y) rfl (by omega) (by omega) (by omega) (by omega) h).mono ?_; rintro e v ⟨rfl, h⟩; go_wp2_with fail
  refine (mulE _ _ _ X Z (gm X Z) rfl (by omega) (by omega) (by omega) (by omega) h).mono ?_; rintro e v ⟨rfl, h⟩; go_wp2_with fail
  refine (addE _ _ _ (gm X Y) (gm X Z) (gm X Y ^^^ gm X Z) rfl (by omega) (by omega) h).mono ?_; rintro e v ⟨rfl, h⟩; go_wp2_with fail
  refine (mulE _ _ _ X 1 X (gm_one X hX) (by omega) (by omega) (by omega) (by omega) h).mono ?_; rintro e v ⟨rfl, h⟩; go_wp2_with fail
  refine (addE _ _ _ X X 0 (Nat.xor_self _) (by omega) (by omega) h).mono ?_; rintro e v ⟨rfl, h⟩; go_wp2_with fail
  refine (mulE _ _ _ X 0 0 (gm_zero_right X) (by omega) (by omega) (by omega) (by omega) h).mono ?_; rintro e v ⟨rfl, h⟩; go_wp2_with fail
  · refine (mulE _ _ _ 0 Y 0 (gm_zero_left Y) (by omega) (by omega) (by omega) (by omega) h).mono ?_; rintro e v ⟨rfl, h⟩; go_wp2_with fail
    refine (sure7_any _).mono ?_; rintro e v ⟨rfl, hb⟩; go_wp2_with fail
    go_ret
    exact ⟨rfl, h.below hb⟩
  · have hy0 : gm X Y = 0 := by
      have hor : ((X : Int) == 0) = true ∨ ((Y : Int) == 0) = true := by assumption
      simp only [beq_iff_eq] at hor
      rcases hor with h0 | h0
      · obtain rfl : X = 0 := by omega
        exact gm_zero_left _
      · obtain rfl : Y = 0 := by omega
        exact gm_zero_right _
    refine (mulE _ _ _ X Y 0 hy0 (by omega) (by omega) (by omega) (by omega) h).mono ?_; rintro e v ⟨rfl, h⟩; clear hy0; go_wp2_with fail
    refine (sure7_any _).mono ?_; rintro e v ⟨rfl, hb⟩; go_wp2_with fail
    go_ret
    exact ⟨rfl, h.below hb⟩
  · have hpos : 0 < X ∧ 0 < Y := by
      have hand : ((X : Int) == 0) = false ∧ ((Y : Int) == 0) = false := by assumption
      simp only [beq_eq_false_iff_ne] at hand
      omega
    obtain ⟨hX0, hY0⟩ := hpos
    have hg := gi_lt X
    have hg0 := gi_ne_zero hX0
    have hp0 := gm_ne_zero hX0 hY0
    have hpn : ((gm X Y : Int) != 0) = true := by simp; omega
    refine (invE _ _ _ X (gi X) rfl hX0 hX h).mono ?_; rintro e v ⟨rfl, h⟩; go_wp2_with fail
    refine (invE _ _ _ (gi X) X (gi_gi hX0 hX) hg0 hg h).mono ?_; rintro e v ⟨rfl, h⟩; go_wp2_with fail
    refine (mulE _ _ _ X Y (gm X Y) rfl (by omega) (by omega) (by omega) (by omega) h).mono ?_; rintro e v ⟨rfl, h⟩; go_wp2_with fail
    refine (divE _ _ _ (gm X Y) Y X (by rw [← gm_assoc, gm_gi hY0 hY, gm_one X hX]) hXY hY0 hY h).mono ?_; rintro e v ⟨rfl, h⟩; go_wp2_with fail
    refine (mulE _ _ _ X (gi X) 1 (gm_gi hX0 hX) (by omega) (by omega) (by omega) (by omega) h).mono ?_; rintro e v ⟨rfl, h⟩; go_wp2_with fail
    refine (mulE _ _ _ X Y (gm X Y) rfl (by omega) (by omega) (by omega) (by omega) h).mono ?_; rintro e v ⟨rfl, h⟩; go_wp2_with fail
    refine (sure7_any _).mono ?_; rintro e v ⟨rfl, hb⟩; go_wp2_with fail
    go_ret
    exact ⟨rfl, h.below hb⟩
theorem field_walk (x y z : Int) (hx0 : 0 ≤ x) (hx : x < 256) (hy0 : 0 ≤ y) (hy : y < 256) (hz0 : 0 ≤ z) (hz : z < 256) (w : World) :
    Calls Try.prog 5 #[.int .u8 x, .int .u8 y, .int .u8 z] w fun e w' => e = .returned (.bool true) ∧ Below w.heap.size w w' := by
  obtain ⟨X, rfl⟩ := Int.eq_ofNat_of_zero_le hx0
  obtain ⟨Y, rfl⟩ := Int.eq_ofNat_of_zero_le hy0
  obtain ⟨Z, rfl⟩ := Int.eq_ofNat_of_zero_le hz0
  exact field_nat X Y Z (by omega) (by omega) (by omega) w
end Go.Proofs.Ytdeopklgdemnfaa
