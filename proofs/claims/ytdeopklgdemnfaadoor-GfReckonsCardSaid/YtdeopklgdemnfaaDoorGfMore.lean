/- The field's powers, logarithms and rests, and its calls on no field at all. Condition: the field's block holds the fresh cells or the made ones. -/
import Derived.Test.YtdeopklgdemnfaaDoorGfFW
import Derived.Test.YtdeopklgdemnfaaDoorGfRefs
namespace Go.Proofs.YtdeopklgdemnfaaDoor
open Go.RowKit Gf

set_option maxRecDepth 100000 in
theorem rest_any (n : Int) (w : World) : Calls Tryd.prog 53 #[.int .i64 n] w fun e w' => e = .returned (.int .i64 (n % 255)) ∧ w = w' := by
  obtain ⟨h1, h2, h3⟩ := tmod_255 n
  have H := Lib.hid h1
  clear h1
  go_enter Tryd.func53, Tryd.ntmps53
  go_wp2
  go_ret
  exact ⟨by rw [← H.out]; rfl, rfl⟩

theorem rest_k (n : Int) (k : Nat) (hk : n % 255 = (k : Int)) (w : World) : Calls Tryd.prog 53 #[.int .i64 n] w fun e w' => e = .returned (.int .i64 (k : Int)) ∧ w' = w.drewN 0 :=
  hk ▸ (rest_any n w).mono fun _ _ ⟨he, hw⟩ => ⟨he, hw.symm⟩
set_option maxRecDepth 100000 in
theorem exp_any (b : Nat) (n : Int) (w : World) (hb : FieldIn b w) :
    Calls Tryd.prog 21 #[.pointer (some ⟨b, 0, none⟩), .int .i64 n] w fun e w' => e = .returned (.int .u8 (pw (n % 255).toNat)) ∧ At b madeF 98 w w' := by
  obtain ⟨k, hk⟩ : ∃ k : Nat, n % 255 = k := Int.eq_ofNat_of_zero_le (by omega)
  have hk2 : k < 255 := by omega
  have H := Lib.hid hk
  clear hk
  go_enter Tryd.func21, Tryd.ntmps21
  go_wp2_with (go_at_call 51; refine (made_any b _ hb).mono ?_; rintro e w1 ⟨rfl, a1⟩)
  have cz : w1.cell? ⟨b, 3 + k, none⟩ = some (.int .u8 (pw k)) := (a1.cell _).trans (tabs_exp _ _ _ _ (by omega))
  go_quiet ((go_at_call 53; exact Calls.quiet_of_same (rest_k n k H.out _)))
  go_wp2
  go_ret
  exact ⟨by rw [H.out]; rfl, a1.drewN _⟩
set_option maxRecDepth 100000 in
theorem log_any (b : Nat) (a : Nat) (ha : a < 256) (w : World) (hb : FieldIn b w) :
    Calls Tryd.prog 24 #[.pointer (some ⟨b, 0, none⟩), .int .u8 (a : Int)] w fun e w' => e = .returned (.tuple #[.int .i64 (lgv a), invErr a]) ∧ At b madeF 98 w w' := by
  rcases Nat.eq_zero_or_pos a with h0 | h0
  · subst h0
    go_enter Tryd.func24, Tryd.ntmps24
    go_wp2_with (go_at_call 51; refine (made_any b _ hb).mono ?_; rintro e w1 ⟨rfl, a1⟩)
    go_ret2
    exact ⟨rfl, a1⟩
  · have hab : ((a : Int) == 0) = false := by simp; omega
    have h1 : lgv a = lg a := by unfold lgv; rw [if_neg (by omega)]
    have h2 : invErr a = .nilIface := by unfold invErr; rw [if_neg (by omega)]
    have lx := (lg_spec a h0 ha).1
    rw [h1, h2]
    clear h1 h2
    go_enter Tryd.func24, Tryd.ntmps24
    go_wp2_with fail
    refine (made_any b _ hb).mono ?_; rintro e w1 ⟨rfl, a1⟩
    have cx : w1.cell? ⟨b, 513 + a, none⟩ = some (.int .i64 (lg a)) := (a1.cell _).trans (tabs_log _ _ _ a (by omega) (by omega))
    go_wp2
    go_ret2
    exact ⟨rfl, a1⟩
set_option maxRecDepth 100000 in
theorem pow_any (b : Nat) (a : Nat) (ha : a < 256) (n : Int) (w : World) (hb : FieldIn b w) :
    Calls Tryd.prog 23 #[.pointer (some ⟨b, 0, none⟩), .int .u8 (a : Int), .int .i64 n] w fun e w' => e = .returned (.int .u8 (gp a n)) ∧ At b madeF 98 w w' := by
  by_cases hn : n = 0
  · subst hn
    go_enter Tryd.func23, Tryd.ntmps23
    go_wp2_with (go_at_call 51; refine (made_any b _ hb).mono ?_; rintro e w1 ⟨rfl, a1⟩)
    go_ret
    exact ⟨rfl, a1⟩
  have hnb : (n == 0) = false := by simp [hn]
  rcases Nat.eq_zero_or_pos a with h0 | h0
  · subst h0
    have hg : gp 0 n = 0 := by unfold gp; rw [if_neg hn]; rfl
    rw [hg]
    clear hg hn
    go_enter Tryd.func23, Tryd.ntmps23
    go_wp2_with (go_at_call 51; refine (made_any b _ hb).mono ?_; rintro e w1 ⟨rfl, a1⟩)
    go_ret
    exact ⟨rfl, a1⟩
  have hab : ((a : Int) == 0) = false := by simp; omega
  obtain ⟨r, hr⟩ : ∃ r : Nat, n % 255 = r := Int.eq_ofNat_of_zero_le (by omega)
  have hr2 : r < 255 := by omega
  have lx := (lg_spec a h0 ha).1
  have hq : lg a * r ≤ 254 * 254 := Nat.mul_le_mul (by omega) (by omega)
  have hg : gp a n = pw (lg a * r % 255) := by unfold gp; rw [if_neg hn, if_neg (by omega), hr, pw_mod]; rfl
  have hz : ((lg a : Int) * (r : Int)) % 255 = ((lg a * r % 255 : Nat) : Int) := by simp
  have hqz : (lg a : Int) * (r : Int) ≤ 64516 := by
    have : ((lg a * r : Nat) : Int) ≤ ((254 * 254 : Nat) : Int) := Int.ofNat_le.2 hq
    simpa using this
  have hqz0 : 0 ≤ (lg a : Int) * (r : Int) := by
    have : (0 : Int) ≤ ((lg a * r : Nat) : Int) := Int.natCast_nonneg _
    simpa using this
  have hm : lg a * r % 255 < 255 := Nat.mod_lt _ (by omega)
  generalize lg a * r % 255 = m at *
  have H := Lib.hid hr
  have HG := Lib.hid hg
  have HZ := Lib.hid hz
  clear hr hg hn hz hq
  go_enter Tryd.func23, Tryd.ntmps23
  go_wp2_with (go_at_call 51; refine (made_any b _ hb).mono ?_; rintro e w1 ⟨rfl, a1⟩)
  have cx : w1.cell? ⟨b, 513 + a, none⟩ = some (.int .i64 (lg a)) := (a1.cell _).trans (tabs_log _ _ _ a (by omega) (by omega))
  have cz : w1.cell? ⟨b, 3 + m, none⟩ = some (.int .u8 (pw m)) := (a1.cell _).trans (tabs_exp _ _ _ _ (by omega))
  have hw : IntKind.i64.wrap ((lg a : Int) * (r : Int)) = (lg a : Int) * (r : Int) := IntWalk.i64_in _ (by omega)
  go_quiet ((go_at_call 53; first | (with_reducible exact Calls.quiet_of_same (rest_k n r H.out _)) | (with_reducible exact Calls.quiet_of_same (rest_k _ m HZ.out _))))
  go_wp2
  go_ret
  exact ⟨by rw [HG.out]; rfl, a1.drewN _⟩
theorem FW.low {b : Nat} {W v : World} (h : FW b W v) : Below b W v := h.2.1
theorem expE (b : Nat) (W v : World) (n : Int) (r : Nat) (hr : pw (n % 255).toNat = r) (h : FW b W v) :
    Calls Tryd.prog 21 #[.pointer (some ⟨b, 0, none⟩), .int .i64 n] v fun e w' => e = .returned (.int .u8 (r : Int)) ∧ FW b W w' :=
  hr ▸ (exp_any b n v h.1).mono fun _ _ ⟨he, ha⟩ => ⟨he, h.at ha⟩
theorem powE (b : Nat) (W v : World) (x : Nat) (n : Int) (r : Nat) (hr : gp x n = r) (hx : x < 256) (h : FW b W v) :
    Calls Tryd.prog 23 #[.pointer (some ⟨b, 0, none⟩), .int .u8 (x : Int), .int .i64 n] v fun e w' => e = .returned (.int .u8 (r : Int)) ∧ FW b W w' :=
  hr ▸ (pow_any b x hx n v h.1).mono fun _ _ ⟨he, ha⟩ => ⟨he, h.at ha⟩
theorem logE (b : Nat) (W v : World) (x : Nat) (hx : x < 256) (h : FW b W v) :
    Calls Tryd.prog 24 #[.pointer (some ⟨b, 0, none⟩), .int .u8 (x : Int)] v fun e w' => e = .returned (.tuple #[.int .i64 (lgv x), invErr x]) ∧ FW b W w' :=
  (log_any b x hx v h.1).mono fun _ _ ⟨he, ha⟩ => ⟨he, h.at ha⟩
theorem invA (b : Nat) (W v : World) (x : Nat) (hx : x < 256) (h : FW b W v) :
    Calls Tryd.prog 15 #[.pointer (some ⟨b, 0, none⟩), .int .u8 (x : Int)] v fun e w' => e = .returned (.tuple #[.int .u8 (gi x), invErr x]) ∧ FW b W w' :=
  (inv_any b x (by omega) (by omega) v h.1).mono fun _ _ ⟨he, ha⟩ => ⟨he, h.at ha⟩
theorem divA (b : Nat) (W v : World) (x y : Nat) (hx : x < 256) (hy : y < 256) (h : FW b W v) :
    Calls Tryd.prog 17 #[.pointer (some ⟨b, 0, none⟩), .int .u8 (x : Int), .int .u8 (y : Int)] v fun e w' => e = .returned (.tuple #[.int .u8 (gm x (gi y)), invErr y]) ∧ FW b W w' :=
  (div_any b x y (by omega) (by omega) (by omega) (by omega) v h.1).mono fun _ _ ⟨he, ha⟩ => ⟨he, h.at ha⟩
theorem gi_zero : gi 0 = 0 := by simp [gi]
end Go.Proofs.YtdeopklgdemnfaaDoor
