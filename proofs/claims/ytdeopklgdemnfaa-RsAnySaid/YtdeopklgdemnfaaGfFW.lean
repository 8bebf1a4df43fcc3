/- The field's calls behind a world in which it was made. No condition but that the numbers are bytes. -/
import Derived.Test.YtdeopklgdemnfaaGfSure
namespace Go.Proofs.Ytdeopklgdemnfaa
open Go.RowKit Gf

/-- Behind a world W a field was made, in block b; no block below b has turned. -/
def FW (b : Nat) (W v : World) : Prop := FieldIn b v ∧ Below b W v ∧ b < v.heap.size
theorem FW.new (w : World) : FW w.heap.size w (w.alloc (.cells freshF 66)) := ⟨newField w, (Below.refl _ _).alloc (Nat.le_refl _) _, by simp⟩
theorem FW.at {b : Nat} {W v v' : World} (h : FW b W v) (a : At b madeF 66 v v') : FW b W v' := ⟨Or.inr a.here, h.2.1.trans a.below, by rw [a.size]; exact h.2.2⟩
theorem FW.below {b : Nat} {W v v' : World} (h : FW b W v) (a : Below v.heap.size v v') : Below b W v' := h.2.1.trans (a.mono (Nat.le_of_lt h.2.2))
theorem mulE (b : Nat) (W v : World) (x y : Int) (r : Nat) (hr : gm x.toNat y.toNat = r) (hx0 : 0 ≤ x) (hx : x < 256) (hy0 : 0 ≤ y) (hy : y < 256) (h : FW b W v) :
    Calls Try.prog 8 #[.pointer (some ⟨b, 0, none⟩), .int .u8 x, .int .u8 y] v fun e w' => e = .returned (.int .u8 (r : Int)) ∧ FW b W w' :=
  hr ▸ (mul_any b x y hx0 hx hy0 hy v h.1).mono fun _ _ ⟨he, ha⟩ => ⟨he, h.at ha⟩
theorem addE (b : Nat) (W v : World) (x y : Nat) (r : Nat) (hr : x ^^^ y = r) (hx : x < 256) (hy : y < 256) (h : FW b W v) :
    Calls Try.prog 11 #[.pointer (some ⟨b, 0, none⟩), .int .u8 (x : Int), .int .u8 (y : Int)] v fun e w' => e = .returned (.int .u8 (r : Int)) ∧ FW b W w' :=
  (add_any b x y v).mono fun _ _ ⟨he, ha⟩ => ⟨by rw [he, u8_xor_nat x y hx hy, hr], ha ▸ h⟩
theorem invE (b : Nat) (W v : World) (x : Nat) (r : Nat) (hr : gi x = r) (hx0 : 0 < x) (hx : x < 256) (h : FW b W v) :
    Calls Try.prog 12 #[.pointer (some ⟨b, 0, none⟩), .int .u8 (x : Int)] v fun e w' => e = .returned (.tuple #[.int .u8 (r : Int), .nilIface]) ∧ FW b W w' :=
  hr ▸ (inv_pos b x hx0 hx v h.1).mono fun _ _ ⟨he, ha⟩ => ⟨he, h.at ha⟩
theorem divE (b : Nat) (W v : World) (x y : Nat) (r : Nat) (hr : gm x (gi y) = r) (hx : x < 256) (hy0 : 0 < y) (hy : y < 256) (h : FW b W v) :
    Calls Try.prog 13 #[.pointer (some ⟨b, 0, none⟩), .int .u8 (x : Int), .int .u8 (y : Int)] v fun e w' => e = .returned (.tuple #[.int .u8 (r : Int), .nilIface]) ∧ FW b W w' :=
  (div_any b x y (by omega) (by omega) (by omega) (by omega) v h.1).mono fun _ _ ⟨he, ha⟩ => ⟨by rw [he, Int.toNat_natCast, Int.toNat_natCast, hr]; unfold invErr; rw [if_neg (by omega)], h.at ha⟩

def FieldEnd (W : World) (e : Ending) (w' : World) : Prop := e = .returned (.bool true) ∧ Below W.heap.size W w'

end Go.Proofs.Ytdeopklgdemnfaa
