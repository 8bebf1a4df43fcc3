/- The field's calls by its tables: the product, the sum, the inverse, the part. Condition: the field's block holds the fresh cells or the made ones. -/
import Derived.Test.YtdeopklgdemnfaaGfDo
import Derived.Deep.QuietTactic
import Derived.BigQuiet
namespace Go.Proofs.Ytdeopklgdemnfaa
open Go.RowKit Gf

set_option maxRecDepth 100000 in
theorem made_done (b : Nat) (w : World) (hb : w.heap[b]? = some (.cells madeF 66 (0, 0))) :
    Calls Try.prog 20 #[.pointer (some ⟨b, 0, none⟩)] w fun e w' => e = .returned (.pointer (some ⟨b, 0, none⟩)) ∧ w = w' := by
  go_enter Try.func20, Try.ntmps20
  go_wp2_with (go_at_call 26; refine (do_done b _ _ hb).mono ?_; rintro e w' ⟨rfl, rfl⟩)
  go_ret
  exact ⟨rfl, rfl⟩
set_option maxRecDepth 100000 in
theorem made_first (b : Nat) (w : World) (hb : w.heap[b]? = some (.cells freshF 66 (0, 0))) :
    Calls Try.prog 20 #[.pointer (some ⟨b, 0, none⟩)] w fun e w' => e = .returned (.pointer (some ⟨b, 0, none⟩)) ∧ At b madeF 66 w w' := by
  go_enter Try.func20, Try.ntmps20
  go_wp2_with (go_at_call 26; refine (do_first b _ hb).mono ?_; rintro e w' ⟨rfl, ha⟩)
  go_ret
  exact ⟨rfl, ha⟩
set_option maxRecDepth 100000 in
theorem made_nil (w : World) : Calls Try.prog 20 #[.pointer none] w fun e w' => e = .returned (.pointer none) ∧ w = w' := by
  go_enter Try.func20, Try.ntmps20
  go_wp2
  go_ret
  exact ⟨rfl, rfl⟩
/-- Whether fresh or made: made behind it. -/
theorem made_any (b : Nat) (w : World) (hb : FieldIn b w) :
    Calls Try.prog 20 #[.pointer (some ⟨b, 0, none⟩)] w fun e w' => e = .returned (.pointer (some ⟨b, 0, none⟩)) ∧ At b madeF 66 w w' := by
  rcases hb with hb | hb
  · exact made_first b w hb
  · exact (made_done b w hb).mono fun _ _ ⟨he, hw⟩ => ⟨he, hw ▸ At.refl hb⟩

set_option maxRecDepth 100000 in
theorem add_any (b : Nat) (x y : Int) (w : World) :
    Calls Try.prog 11 #[.pointer (some ⟨b, 0, none⟩), .int .u8 x, .int .u8 y] w fun e w' => e = .returned (.int .u8 (bits .xor .u8 x y)) ∧ w = w' := by
  go_enter Try.func11, Try.ntmps11
  go_wp2
  go_ret
  exact ⟨rfl, rfl⟩

theorem At.drewN {b : Nat} {c : Array Value} {T : TypeId} {w w' : World} (h : At b c T w w') (n : Nat) : At b c T w (w'.drewN n) := ⟨h.os, h.tape, h.output, h.size, h.other, h.here⟩

set_option maxRecDepth 100000 in
theorem mul_pos (b : Nat) (X Y : Nat) (hx0 : 0 < X) (hx : X < 256) (hy0 : 0 < Y) (hy : Y < 256) (w : World) (hb : FieldIn b w) :
    Calls Try.prog 8 #[.pointer (some ⟨b, 0, none⟩), .int .u8 (X : Int), .int .u8 (Y : Int)] w fun e w' => e = .returned (.int .u8 (gm X Y)) ∧ At b madeF 66 w w' := by
  have lx := (lg_spec X hx0 hx).1
  have ly := (lg_spec Y hy0 hy).1
  have hX : ((X : Int) == 0) = false := by simp; omega
  have hY : ((Y : Int) == 0) = false := by simp; omega
  have hfin : gm X Y = pw (lg X + lg Y) := gm_pos hx0 hy0
  have HF := Lib.hid hfin
  clear hfin
  go_enter Try.func8, Try.ntmps8
  go_wp2_with (go_at_call 20; refine (made_any b _ hb).mono ?_; rintro e w1 ⟨rfl, a1⟩)
  have cx : w1.cell? ⟨b, 513 + X, none⟩ = some (.int .i64 (lg X)) := (a1.cell _).trans (tabs_log _ _ _ X (by omega) (by omega))
  have cy : w1.cell? ⟨b, 513 + Y, none⟩ = some (.int .i64 (lg Y)) := (a1.cell _).trans (tabs_log _ _ _ Y (by omega) (by omega))
  have cz : w1.cell? ⟨b, 3 + (lg X + lg Y), none⟩ = some (.int .u8 (pw (lg X + lg Y))) := (a1.cell _).trans (tabs_exp _ _ _ _ (by omega))
  go_quiet (fail)
  go_wp2
  go_ret
  exact ⟨by rw [HF.out]; rfl, a1.drewN _⟩

set_option maxRecDepth 100000 in
theorem mul_zero_left (b : Nat) (y : Int) (w : World) (hb : FieldIn b w) :
    Calls Try.prog 8 #[.pointer (some ⟨b, 0, none⟩), .int .u8 0, .int .u8 y] w fun e w' => e = .returned (.int .u8 0) ∧ At b madeF 66 w w' := by
  go_enter Try.func8, Try.ntmps8
  go_wp2_with (go_at_call 20; refine (made_any b _ hb).mono ?_; rintro e w1 ⟨rfl, a1⟩)
  go_ret
  exact ⟨rfl, a1⟩
set_option maxRecDepth 100000 in
theorem mul_zero_right (b : Nat) (x : Int) (hx : 0 < x) (w : World) (hb : FieldIn b w) :
    Calls Try.prog 8 #[.pointer (some ⟨b, 0, none⟩), .int .u8 x, .int .u8 0] w fun e w' => e = .returned (.int .u8 0) ∧ At b madeF 66 w w' := by
  have hX : (x == 0) = false := by simp; omega
  go_enter Try.func8, Try.ntmps8
  go_wp2_with (go_at_call 20; refine (made_any b _ hb).mono ?_; rintro e w1 ⟨rfl, a1⟩)
  go_ret
  exact ⟨rfl, a1⟩
/-- The product of any two. -/
theorem mul_any (b : Nat) (x y : Int) (hx0 : 0 ≤ x) (hx : x < 256) (hy0 : 0 ≤ y) (hy : y < 256) (w : World) (hb : FieldIn b w) :
    Calls Try.prog 8 #[.pointer (some ⟨b, 0, none⟩), .int .u8 x, .int .u8 y] w fun e w' => e = .returned (.int .u8 (gm x.toNat y.toNat)) ∧ At b madeF 66 w w' := by
  obtain ⟨X, rfl⟩ := Int.eq_ofNat_of_zero_le hx0
  obtain ⟨Y, rfl⟩ := Int.eq_ofNat_of_zero_le hy0
  rw [Int.toNat_natCast, Int.toNat_natCast]
  rcases Nat.eq_zero_or_pos X with rfl | h1
  · rw [gm_zero_left]; exact mul_zero_left b _ w hb
  rcases Nat.eq_zero_or_pos Y with rfl | h2
  · rw [gm_zero_right]; exact mul_zero_right b _ (by omega) w hb
  exact mul_pos b X Y h1 (by omega) h2 (by omega) w hb
set_option maxRecDepth 100000 in
theorem mul_nil (x y : Int) (w : World) : Calls Try.prog 8 #[.pointer none, .int .u8 x, .int .u8 y] w fun e w' => e = .returned (.int .u8 0) ∧ w = w' := by
  go_enter Try.func8, Try.ntmps8
  go_wp2_with (go_at_call 20; refine (made_nil _).mono ?_; rintro e w' ⟨rfl, rfl⟩)
  go_ret
  exact ⟨rfl, rfl⟩

/-- api.ErrZero. -/
def errZero : Value := .iface 67 (.int .i64 14)
set_option maxRecDepth 100000 in
theorem inv_pos (b : Nat) (X : Nat) (hx0 : 0 < X) (hx : X < 256) (w : World) (hb : FieldIn b w) :
    Calls Try.prog 12 #[.pointer (some ⟨b, 0, none⟩), .int .u8 (X : Int)] w fun e w' => e = .returned (.tuple #[.int .u8 (gi X), .nilIface]) ∧ At b madeF 66 w w' := by
  have lx := (lg_spec X hx0 hx).1
  have hX : ((X : Int) == 0) = false := by simp; omega
  have hfin : gi X = pw (255 - lg X) := gi_pos hx0
  have HF := Lib.hid hfin
  clear hfin
  go_enter Try.func12, Try.ntmps12
  go_wp2_with (go_at_call 20; refine (made_any b _ hb).mono ?_; rintro e w1 ⟨rfl, a1⟩)
  have cx : w1.cell? ⟨b, 513 + X, none⟩ = some (.int .i64 (lg X)) := (a1.cell _).trans (tabs_log _ _ _ X (by omega) (by omega))
  have cz : w1.cell? ⟨b, 3 + (255 - lg X), none⟩ = some (.int .u8 (pw (255 - lg X))) := (a1.cell _).trans (tabs_exp _ _ _ _ (by omega))
  go_quiet (fail)
  go_wp2
  go_ret2
  exact ⟨by rw [HF.out]; rfl, a1.drewN _⟩
set_option maxRecDepth 100000 in
theorem inv_zero (b : Nat) (w : World) (hb : FieldIn b w) :
    Calls Try.prog 12 #[.pointer (some ⟨b, 0, none⟩), .int .u8 0] w fun e w' => e = .returned (.tuple #[.int .u8 0, errZero]) ∧ At b madeF 66 w w' := by
  go_enter Try.func12, Try.ntmps12
  go_wp2_with (go_at_call 20; refine (made_any b _ hb).mono ?_; rintro e w1 ⟨rfl, a1⟩)
  go_ret2
  exact ⟨rfl, a1⟩
/-- The error of a number that has no inverse. -/
def invErr (x : Int) : Value := if x = 0 then errZero else .nilIface
theorem inv_any (b : Nat) (x : Int) (hx0 : 0 ≤ x) (hx : x < 256) (w : World) (hb : FieldIn b w) :
    Calls Try.prog 12 #[.pointer (some ⟨b, 0, none⟩), .int .u8 x] w fun e w' => e = .returned (.tuple #[.int .u8 (gi x.toNat), invErr x]) ∧ At b madeF 66 w w' := by
  obtain ⟨X, rfl⟩ := Int.eq_ofNat_of_zero_le hx0
  rw [Int.toNat_natCast]
  rcases Nat.eq_zero_or_pos X with rfl | h1
  · exact inv_zero b w hb
  · rw [show invErr (X : Int) = .nilIface by unfold invErr; rw [if_neg (by omega)]]
    exact inv_pos b X h1 (by omega) w hb

set_option maxRecDepth 100000 in
theorem div_any (b : Nat) (x y : Int) (hx0 : 0 ≤ x) (hx : x < 256) (hy0 : 0 ≤ y) (hy : y < 256) (w : World) (hb : FieldIn b w) :
    Calls Try.prog 13 #[.pointer (some ⟨b, 0, none⟩), .int .u8 x, .int .u8 y] w fun e w' => e = .returned (.tuple #[.int .u8 (gm x.toNat (gi y.toNat)), invErr y]) ∧ At b madeF 66 w w' := by
  go_enter Try.func13, Try.ntmps13
  go_wp2_with (go_at_call 12; refine (inv_any b y hy0 hy _ hb).mono ?_; rintro e w1 ⟨rfl, a1⟩)
  refine (mul_any b x _ hx0 hx (by omega) (by have := gi_lt y.toNat; omega) _ (Or.inr a1.here)).mono ?_
  rintro e w2 ⟨rfl, a2⟩
  go_wp2
  go_ret2
  exact ⟨rfl, a1.trans a2⟩
end Go.Proofs.Ytdeopklgdemnfaa
