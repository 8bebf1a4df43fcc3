/- The reference's inverses, parts, powers and logarithms: no tables. No condition but that the numbers are bytes. -/
import Derived.Test.YtdeopklgdemnfaaDoorGfRef
namespace Go.Proofs.YtdeopklgdemnfaaDoor
open Go.RowKit Gf

theorem tmod_255 (n : Int) : (n.tmod 255 + 255) % 255 = n % 255 ∧ -255 < n.tmod 255 ∧ n.tmod 255 < 255 := by
  rcases Int.lt_or_le n 0 with h | h
  · have e : n.tmod 255 = -((-n) % 255) := by
      rw [← Int.tmod_eq_emod_of_nonneg (a := -n) (by omega), Int.neg_tmod, Int.neg_neg]
    rw [e]
    exact ⟨by omega, by omega, by omega⟩
  · rw [Int.tmod_eq_emod_of_nonneg h]
    exact ⟨by omega, by omega, by omega⟩
set_option maxRecDepth 100000 in
theorem rrest_any (n : Int) (w : World) : Calls Tryd.prog 54 #[.int .i64 n] w fun e w' => e = .returned (.int .i64 (n % 255)) ∧ w = w' := by
  obtain ⟨h1, h2, h3⟩ := tmod_255 n
  have H := Lib.hid h1
  clear h1
  go_enter Tryd.func54, Tryd.ntmps54
  go_wp2
  go_ret
  exact ⟨by rw [← H.out]; rfl, rfl⟩

/-- The error's number of the inverse. -/
def rinvErr (a : Nat) : Int := if a = 0 then 14 else 0
theorem gi_unique {a k : Nat} (ha : a < 256) (hk : k < 256) (h : gm a k = 1) : 0 < a ∧ gi a = k := by
  have h0 : 0 < a := by
    rcases Nat.eq_zero_or_pos a with rfl | h0
    · rw [gm_zero_left] at h; omega
    · exact h0
  refine ⟨h0, ?_⟩
  have := congrArg (gm (gi a)) h
  rw [gm_assoc, gm_comm (gi a) a, gm_gi h0 ha, one_gm k hk, gm_one _ (gi_lt a)] at this
  exact this.symm
set_option maxRecDepth 100000 in
set_option maxHeartbeats 800000 in
theorem rinv_any (a : Nat) (ha : a < 256) (w : World) :
    Calls Tryd.prog 16 #[.int .u8 (a : Int)] w fun e w' => e = .returned (.tuple #[.int .u8 (gi a), .int .i64 (rinvErr a)]) ∧ w = w' := by
  go_enter Tryd.func16, Tryd.ntmps16
  go_wp2
  go_loop [4] (fun i => ∃ k : Nat, 1 ≤ k ∧ k ≤ 256 ∧ i = .int .i64 k ∧ Hid (∀ j, 1 ≤ j → j < k → gm a j ≠ 1)) (fun i => 256 - (intOf i).toNat)
  case atStart => exact ⟨1, by omega, by omega, rfl, fun j h1 h2 => by omega⟩
  case round =>
    obtain ⟨k, hk1, hk, rfl, hall⟩ := hrel
    by_cases hlt : k < 256
    · by_cases hone : gm a k = 1
      · have hu := gi_unique ha hlt hone
        obtain ⟨hu0, hu1⟩ := hu
        have H1 := Lib.hid hu1
        have hb : ((gm a k : Int) == 1) = true := by rw [hone]; rfl
        clear hu1 hone
        go_wp2_with (go_at_call 29; refine (rmul_nat a k ha hlt _).mono ?_; rintro e w' ⟨rfl, rfl⟩)
        go_ret2
        refine ⟨?_, rfl⟩
        rw [H1.out]; unfold rinvErr; rw [if_neg (by omega)]; rfl
      · have hb : ((gm a k : Int) == 1) = false := by simp; omega
        have H1 := Lib.hid hone
        clear hone
        go_wp2_with (go_at_call 29; refine (rmul_nat a k ha hlt _).mono ?_; rintro e w' ⟨rfl, rfl⟩)
        refine ⟨⟨k + 1, by omega, by omega, by go_num, ?_⟩, by simp [intOf]; omega⟩
        intro j h1 h2
        by_cases e : j = k
        · subst e; exact H1.out
        · exact hall.out j h1 (by omega)
    · obtain rfl : a = 0 := by
        rcases Nat.eq_zero_or_pos a with h0 | h0
        · exact h0
        · exact absurd (gm_gi h0 ha) (hall.out (gi a) (gi_ne_zero h0) (by have := gi_lt a; omega))
      go_wp2
      go_ret2
      exact ⟨rfl, rfl⟩
set_option maxRecDepth 100000 in
theorem rdiv_any (a b : Nat) (ha : a < 256) (hb : b < 256) (w : World) :
    Calls Tryd.prog 18 #[.int .u8 (a : Int), .int .u8 (b : Int)] w fun e w' => e = .returned (.tuple #[.int .u8 (gm a (gi b)), .int .i64 (rinvErr b)]) ∧ w = w' := by
  have hg := gi_lt b
  go_enter Tryd.func18, Tryd.ntmps18
  go_wp2_with (go_at_call 16; refine (rinv_any b hb _).mono ?_; rintro e w' ⟨rfl, rfl⟩)
  refine (rmul_nat a (gi b) ha hg _).mono ?_; rintro e w' ⟨rfl, rfl⟩
  go_wp2
  go_ret2
  exact ⟨rfl, rfl⟩
theorem pw_step (k : Nat) : gm (pw k) 2 = pw (k + 1) := by
  have h2 : lg 2 = 1 := by decide +kernel
  rw [gm_pos (pw_bd k).1 (by omega), lg_pw', h2]
  exact pw_congr (by omega)
theorem pw_mul_step (a k : Nat) (h : 0 < a) : gm (pw (lg a * k)) a = pw (lg a * (k + 1)) := by
  rw [gm_pos (pw_bd _).1 h, lg_pw', Nat.mul_succ]
  exact pw_congr (by omega)
set_option maxRecDepth 100000 in
set_option maxHeartbeats 800000 in
theorem rexp_any (n : Int) (w : World) : Calls Tryd.prog 26 #[.int .i64 n] w fun e w' => e = .returned (.int .u8 (pw (n % 255).toNat)) ∧ w = w' := by
  obtain ⟨r, hr⟩ : ∃ r : Nat, n % 255 = r := Int.eq_ofNat_of_zero_le (by omega)
  have hr2 : r < 255 := by omega
  have H := Lib.hid hr
  clear hr
  go_enter Tryd.func26, Tryd.ntmps26
  go_wp2
  go_loop [3, 4] (fun x i => ∃ k : Nat, k ≤ r ∧ i = .int .i64 k ∧ x = .int .u8 (pw k)) (fun _ i => r - (intOf i).toNat)
  case atStart => exact ⟨0, by omega, rfl, rfl⟩
  case round =>
    obtain ⟨k, hk, rfl, rfl⟩ := hrel
    have hp := pw_bd k
    go_wp2_with fail
    refine (rrest_any n _).mono ?_; rintro e w' ⟨rfl, rfl⟩
    rw [H.out]
    by_cases hlt : k < r
    · go_wp2_with fail
      refine (rmul_any (pw k) 2 (by omega) (by omega) (by omega) (by omega) _).mono ?_; rintro e w' ⟨rfl, rfl⟩
      go_wp2
      refine ⟨⟨k + 1, by omega, by go_num, ?_⟩, by simp [intOf]; omega⟩
      rw [pw_step]
    · go_wp2
      obtain rfl : k = r := by omega
      go_ret
      exact ⟨by rw [H.out]; rfl, rfl⟩
/-- The error's number of the logarithm. -/
def lgv (a : Nat) : Int := if a = 0 then 0 else lg a
set_option maxRecDepth 100000 in
set_option maxHeartbeats 800000 in
theorem rlog_any (a : Nat) (ha : a < 256) (w : World) : Calls Tryd.prog 25 #[.int .u8 (a : Int)] w fun e w' => e = .returned (.tuple #[.int .i64 (lgv a), .int .i64 (rinvErr a)]) ∧ w = w' := by
  go_enter Tryd.func25, Tryd.ntmps25
  go_wp2
  go_loop [4, 5] (fun x i => ∃ k : Nat, k ≤ 255 ∧ i = .int .i64 k ∧ x = .int .u8 (pw k) ∧ Hid (∀ j, j < k → pw j ≠ a)) (fun _ i => 255 - (intOf i).toNat)
  case atStart => exact ⟨0, by omega, rfl, rfl, fun j h => by omega⟩
  case round =>
    obtain ⟨k, hk, rfl, rfl, hall⟩ := hrel
    have hp := pw_bd k
    by_cases hlt : k < 255
    · by_cases hone : pw k = a
      · have hb : ((pw k : Int) == (a : Int)) = true := by rw [hone]; simp
        have H1 := Lib.hid hone
        clear hone
        go_wp2
        go_ret2
        refine ⟨?_, rfl⟩
        obtain rfl := H1.out
        unfold lgv rinvErr; rw [if_neg (by omega), if_neg (by omega), lg_pw k hlt]; rfl
      · have hb : ((pw k : Int) == (a : Int)) = false := by simp; omega
        have H1 := Lib.hid hone
        clear hone
        go_wp2_with fail
        refine (rmul_any (pw k) 2 (by omega) (by omega) (by omega) (by omega) _).mono ?_; rintro e w' ⟨rfl, rfl⟩
        go_wp2
        refine ⟨⟨k + 1, by omega, by go_num, ?_, ?_⟩, by simp [intOf]; omega⟩
        · rw [pw_step]
        · intro j h1
          by_cases e : j = k
          · subst e; exact H1.out
          · exact hall.out j (by omega)
    · obtain rfl : a = 0 := by
        rcases Nat.eq_zero_or_pos a with h0 | h0
        · exact h0
        · have hl := lg_spec a h0 ha
          exact absurd hl.2 (hall.out (lg a) (by omega))
      go_wp2
      go_ret2
      exact ⟨rfl, rfl⟩
/-- A number's power. -/
def gp (a : Nat) (n : Int) : Nat := if n = 0 then 1 else if a = 0 then 0 else pw (lg a * (n % 255).toNat)
set_option maxRecDepth 100000 in
set_option maxHeartbeats 800000 in
theorem rpow_any (a : Nat) (ha : a < 256) (n : Int) (w : World) : Calls Tryd.prog 27 #[.int .u8 (a : Int), .int .i64 n] w fun e w' => e = .returned (.int .u8 (gp a n)) ∧ w = w' := by
  by_cases hn : n = 0
  · subst hn
    go_enter Tryd.func27, Tryd.ntmps27
    go_wp2
    go_ret
    exact ⟨rfl, rfl⟩
  have hnb : (n == 0) = false := by simp [hn]
  rcases Nat.eq_zero_or_pos a with h0 | h0
  · subst h0
    have hg : gp 0 n = 0 := by unfold gp; rw [if_neg hn]; rfl
    rw [hg]
    clear hg hn
    go_enter Tryd.func27, Tryd.ntmps27
    go_wp2
    go_ret
    exact ⟨rfl, rfl⟩
  have hab : ((a : Int) == 0) = false := by simp; omega
  obtain ⟨r, hr⟩ : ∃ r : Nat, n % 255 = r := Int.eq_ofNat_of_zero_le (by omega)
  have hr2 : r < 255 := by omega
  have hg : gp a n = pw (lg a * r) := by unfold gp; rw [if_neg hn, if_neg (by omega), hr]; rfl
  have H := Lib.hid hr
  have HG := Lib.hid hg
  clear hr hg hn
  go_enter Tryd.func27, Tryd.ntmps27
  go_wp2
  go_loop [5, 6] (fun x i => ∃ k : Nat, k ≤ r ∧ i = .int .i64 k ∧ x = .int .u8 (pw (lg a * k))) (fun _ i => r - (intOf i).toNat)
  case atStart => exact ⟨0, by omega, rfl, rfl⟩
  case round =>
    obtain ⟨k, hk, rfl, rfl⟩ := hrel
    have hp := pw_bd (lg a * k)
    go_wp2_with fail
    refine (rrest_any n _).mono ?_; rintro e w' ⟨rfl, rfl⟩
    rw [H.out]
    by_cases hlt : k < r
    · go_wp2_with fail
      refine (rmul_any (pw (lg a * k)) a (by omega) (by omega) (by omega) (by omega) _).mono ?_; rintro e w' ⟨rfl, rfl⟩
      go_wp2
      refine ⟨⟨k + 1, by omega, by go_num, ?_⟩, by simp [intOf]; omega⟩
      rw [pw_mul_step a k h0]
    · go_wp2
      obtain rfl : k = r := by omega
      go_ret
      exact ⟨by rw [HG.out]; rfl, rfl⟩
end Go.Proofs.YtdeopklgdemnfaaDoor
