/- A row of a code, by number, or the error: of the program and of the reference alike. Condition: the numbers are such as a code can have. -/
import Derived.Test.YtdeopklgdemnfaaDoorRsCtx
namespace Go.Proofs.YtdeopklgdemnfaaDoor
open Go.RowKit Gf Rs

def rowS (K M : Nat) (i : Int) : List F × Int := if 0 ≤ i ∧ i < ((K + M : Nat) : Int) then (rowF K i.toNat, 0) else ([], 1)
theorem row_S (cb K M fb : Nat) (hs : K + M ≤ 32) (i : Int) (w : World) (h : CodeAt cb K M fb w) : Calls Tryd.prog 34 #[.pointer (some ⟨cb, 0, none⟩), .int .i64 i] w (Res1 fb w (rowS K M i)) := by
  by_cases hi : 0 ≤ i ∧ i < ((K + M : Nat) : Int)
  · obtain ⟨n, rfl⟩ := Int.eq_ofNat_of_zero_le hi.1
    refine (row_good cb K M fb hs n (by omega) w h).mono fun e w' hp => ?_
    obtain ⟨e1, e2, e3⟩ := hp
    have hr : rowS K M n = (rowF K n, 0) := by unfold rowS; rw [if_pos hi]; rfl
    rw [hr]
    have hlt := block_lt h.1
    exact ⟨_, by rw [e1]; rfl, ⟨_, _, by rw [rowF_length], by rw [rowF_length]; exact Nat.le_refl _, RdB.whole e2 (by have := h.2.2.lt; omega)⟩, e3⟩
  · refine (row_bad cb K M fb hs i (by omega) w h).mono fun e w' hp => ?_
    obtain ⟨e1, rfl⟩ := hp
    exact Res1.no (by unfold rowS; rw [if_neg hi]) (by decide) e1 (Keep.refl _ _)
theorem rrow_S (K M : Nat) (hs : K + M ≤ 32) (i : Int) (w : World) : Calls Tryd.prog 35 #[.agg #[.int .i64 K, .int .i64 M], .int .i64 i] w (RRes1 w (rowS K M i)) := by
  by_cases hi : 0 ≤ i ∧ i < ((K + M : Nat) : Int)
  · obtain ⟨n, rfl⟩ := Int.eq_ofNat_of_zero_le hi.1
    refine (rrow_good K M hs n (by omega) w).mono fun e w' hp => ?_
    obtain ⟨v, e1, e2, e3⟩ := hp
    have hr : rowS K M n = (rowF K n, 0) := by unfold rowS; rw [if_pos hi]; rfl
    rw [hr]
    exact ⟨v, e1, fun fb hfb => e2.hd hfb, e3⟩
  · refine (rrow_bad K M hs i (by omega) w).mono fun e w' hp => ?_
    obtain ⟨e1, e2⟩ := hp
    exact RRes1.no (by unfold rowS; rw [if_neg hi]) e1 e2
end Go.Proofs.YtdeopklgdemnfaaDoor
