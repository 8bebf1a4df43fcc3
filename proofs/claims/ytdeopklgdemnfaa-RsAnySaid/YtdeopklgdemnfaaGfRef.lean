/- The reference's product, bit by bit. No condition but that both are bytes. -/
import Derived.Test.YtdeopklgdemnfaaGfCells
import Derived.Deep.QuietTactic
import Derived.BigQuiet
namespace Go.Proofs.Ytdeopklgdemnfaa
open Go.RowKit Gf

theorem nat_beq_one (t : Nat) : ((t : Int) == 1) = decide (t = 1) := by
  rw [Bool.eq_iff_iff]; simp; omega
set_option maxRecDepth 100000 in
set_option maxHeartbeats 800000 in
theorem rmul_nat (a b : Nat) (ha : a < 256) (hb : b < 256) (w : World) :
    Calls Try.prog 9 #[.int .u8 (a : Int), .int .u8 (b : Int)] w fun e w' => e = .returned (.int .u8 (gm a b)) ∧ w = w' := by
  have hfin := gm_bm ha hb
  have HF := Lib.hid hfin
  clear hfin
  go_enter Try.func9, Try.ntmps9
  go_wp2
  go_loop [5, 6, 7] (fun x n i => ∃ k : Nat, k ≤ 8 ∧ i = .int .i64 k ∧ x = .int .i64 (dbls a k) ∧ n = .int .i64 (bm a b k)) (fun _ _ i => 8 - (intOf i).toNat)
  case atStart => exact ⟨0, by omega, rfl, rfl, rfl⟩
  case round =>
    obtain ⟨k, hk, rfl, rfl, rfl⟩ := hrel
    have hd := dbls_lt ha k
    have hm := bm_lt b ha k
    by_cases hlt : k < 8
    · have ht : ((b : Int) / 2 ^ k).tmod 2 = ((b / 2 ^ k % 2 : Nat) : Int) := by
        have e : (b : Int) / 2 ^ k = ((b / 2 ^ k : Nat) : Int) := by simp
        rw [e]; rfl
      have hx := xor_lt hm hd
      by_cases hbit : b / 2 ^ k % 2 = 1
      all_goals
        by_cases hbig : 255 < 2 * dbls a k
        all_goals
          have hc : (((b : Int) / 2 ^ k).tmod 2 == 1) = decide (b / 2 ^ k % 2 = 1) := by rw [ht]; exact nat_beq_one _
          simp only [hbit, decide_true, decide_false] at hc
          have HB := Lib.hid hbit
          clear hbit ht hx
          go_wp2
          refine ⟨⟨k + 1, by omega, by go_num, ?_, ?_⟩, by simp [intOf]; omega⟩
          · refine congrArg (Value.int .i64) ?_
            simp only [dbls, dbl]
            first
              | (rw [if_pos hbig, show ((2 : Int) * (dbls a k : Int)) = ((2 * dbls a k : Nat) : Int) by omega]
                 exact i64_xor_nat (2 * dbls a k) 285 (by omega) (by omega))
              | (rw [if_neg hbig]; omega)
          · refine congrArg (Value.int .i64) ?_
            simp only [bm]
            first
              | (rw [if_pos HB.out]
                 exact i64_xor_nat (bm a b k) (dbls a k) (by omega) (by omega))
              | (rw [if_neg HB.out])
    · go_wp2
      obtain rfl : k = 8 := by omega
      go_ret
      exact ⟨by rw [HF.out]; rfl, rfl⟩
theorem rmul_any (x y : Int) (hx0 : 0 ≤ x) (hx : x < 256) (hy0 : 0 ≤ y) (hy : y < 256) (w : World) :
    Calls Try.prog 9 #[.int .u8 x, .int .u8 y] w fun e w' => e = .returned (.int .u8 (gm x.toNat y.toNat)) ∧ w = w' := by
  obtain ⟨X, rfl⟩ := Int.eq_ofNat_of_zero_le hx0
  obtain ⟨Y, rfl⟩ := Int.eq_ofNat_of_zero_le hy0
  rw [Int.toNat_natCast, Int.toNat_natCast]
  exact rmul_nat X Y (by omega) (by omega) w
end Go.Proofs.Ytdeopklgdemnfaa
