/- Which arm leads to a place; is a place one; a tree's root. No condition but that the place is one, that the tree reads. -/
import Derived.Test.YtnnadhfpkplncaaRxMem
namespace Go.Proofs.Ytnnadhfpkplncaa
open Go.RowKit

set_option maxRecDepth 100000 in
theorem arm_any (r a : Nat) (hr : r ≤ 2) (ha : a ≤ 4095) (w : World) : Calls Try.prog 39 #[.int .i64 r, .int .i64 a] w fun e w' => e = .returned (.int .i64 ((a / 16 ^ (2 - r) % 16 : Nat) : Int)) ∧ w = w' := by
  obtain ⟨q, hq⟩ : ∃ q, a / 16 ^ (2 - r) % 16 = q := ⟨_, rfl⟩
  rw [hq]
  have HQ := Lib.hid hq
  clear hq
  go_enter Try.func39, Try.ntmps39
  go_wp2
  go_loop [1, 7] (fun x i => ∃ k : Nat, k ≤ 2 - r ∧ i = .int .i64 k ∧ x = .int .i64 ((a / 16 ^ k : Nat) : Int)) (fun _ i => 2 - r - (intOf i).toNat)
  case atStart => exact ⟨0, by omega, rfl, by simp⟩
  case round =>
    obtain ⟨k, hk, rfl, rfl⟩ := hrel
    have hle : a / 16 ^ k ≤ 4095 := Nat.le_trans (Nat.div_le_self _ _) ha
    by_cases hlt : k < 2 - r
    · have hs : a / 16 ^ (k + 1) = a / 16 ^ k / 16 := by rw [Nat.pow_succ, Nat.div_div_eq_div_mul]
      have HS := Lib.hid hs
      clear hs
      generalize a / 16 ^ k = x at *
      have hki : (k : Int) < 2 - (r : Int) := by omega
      go_wp2
      refine ⟨⟨k + 1, by omega, by go_num, ?_⟩, by simp [intOf]; omega⟩
      rw [HS.out]
      go_num
    · have hki : ¬ (k : Int) < 2 - (r : Int) := by omega
      obtain rfl : k = 2 - r := by omega
      have hq := HQ.out
      generalize a / 16 ^ (2 - r) = x at *
      have HQ2 := Lib.hid hq
      clear hq HQ
      go_wp2
      go_ret
      refine ⟨?_, rfl⟩
      rw [← HQ2.out]
      go_num
theorem has_any (z : Int) (w : World) : Calls Try.prog 35 #[.int .i64 z] w fun e w' => e = .returned (.bool (decide (0 ≤ z ∧ z ≤ 4095))) ∧ w = w' := by
  go_enter Try.func35, Try.ntmps35
  by_cases h1 : 0 ≤ z
  · by_cases h2 : z < 4096
    · have e : decide (0 ≤ z ∧ z ≤ 4095) = true := decide_eq_true ⟨h1, by omega⟩
      rw [e]
      go_wp2
      go_ret
      exact ⟨rfl, rfl⟩
    · have e : decide (0 ≤ z ∧ z ≤ 4095) = false := decide_eq_false (by omega)
      rw [e]
      go_wp2
      go_ret
      exact ⟨rfl, rfl⟩
  · have e : decide (0 ≤ z ∧ z ≤ 4095) = false := decide_eq_false (by omega)
    rw [e]
    go_wp2
    go_ret
    exact ⟨rfl, rfl⟩
theorem of_any (f : Nat → Int) (S : Nat → Nat → Option Nat) (A : Option Addr) (w : World) (h : RdR f S w A) : Calls Try.prog 36 #[.pointer A] w fun e w' => e = .returned (.pointer (ptr (S 2 0))) ∧ w = w' := by
  obtain ⟨h0, h⟩ := h
  clear h0
  rcases h with ⟨hb, rfl⟩ | ⟨b, r, hs, rfl, hc⟩
  · rw [hb]
    clear hb
    go_enter Try.func36, Try.ntmps36
    go_wp2
    go_ret
    exact ⟨rfl, rfl⟩
  · rw [hs]
    have hc0 : w.cell? ⟨r, 0, none⟩ = some (.pointer (some ⟨b, 0, none⟩)) := block_cell hc
    clear hs hc
    go_enter Try.func36, Try.ntmps36
    go_wp2
    go_ret
    exact ⟨rfl, rfl⟩
end Go.Proofs.Ytnnadhfpkplncaa
