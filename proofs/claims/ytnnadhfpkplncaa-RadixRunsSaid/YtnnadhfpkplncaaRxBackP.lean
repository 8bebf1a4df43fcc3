/- The order in which unlike places are set changes nothing. No condition of its own. -/
import Derived.Test.YtnnadhfpkplncaaRxOpen
namespace Go.Proofs.Ytnnadhfpkplncaa
open Go.RowKit

/-- The place of an item. -/
def atL (l : List (Int × Int)) (i : Nat) : Int := (l[i]?.getD (0, 0)).1
/-- What is set in order. -/
def FT (l : List (Int × Int)) : Nat → Nat → Int
  | 0 => fun _ => 0
  | k + 1 => setF (FT l k) (atL l k) ((k : Int) + 1)
/-- The last one of a place, counted from one; none: 0. -/
def lastv (l : List (Int × Int)) : Nat → Nat → Nat
  | 0, _ => 0
  | k + 1, p => if atL l k = (p : Int) then k + 1 else lastv l k p
theorem lastv_le (l : List (Int × Int)) : ∀ k p, lastv l k p ≤ k
  | 0, _ => Nat.le_refl _
  | k + 1, p => by
    unfold lastv
    have := lastv_le l k p
    split <;> omega
theorem lastv_hit (l : List (Int × Int)) : ∀ (k p i : Nat), i < k → atL l i = (p : Int) → i + 1 ≤ lastv l k p
  | 0, _, i, h, _ => by omega
  | k + 1, p, i, h, he => by
    unfold lastv
    by_cases hk : atL l k = (p : Int)
    · rw [if_pos hk]; omega
    · rw [if_neg hk]
      have hne : i ≠ k := fun e => hk (by rw [← e]; exact he)
      exact lastv_hit l k p i (by omega) he
theorem lastv_at (l : List (Int × Int)) : ∀ (k p : Nat), 0 < lastv l k p → atL l (lastv l k p - 1) = (p : Int)
  | 0, _, h => by simp [lastv] at h
  | k + 1, p, h => by
    unfold lastv at h ⊢
    by_cases hk : atL l k = (p : Int)
    · rw [if_pos hk]; simpa using hk
    · rw [if_neg hk] at h ⊢
      exact lastv_at l k p h
theorem setF_eq (f : Nat → Int) (z n : Int) (p : Nat) : setF f z n p = if z = (p : Int) ∧ p < 4096 then n else f p := by
  unfold setF updF
  by_cases hz : 0 ≤ z ∧ z ≤ 4095
  · rw [if_pos hz]
    show (if p = z.toNat then n else f p) = _
    by_cases h : p = z.toNat
    · rw [if_pos h, if_pos ⟨by omega, by omega⟩]
    · rw [if_neg h, if_neg (by omega)]
  · rw [if_neg hz, if_neg (by omega)]
theorem FT_eq (l : List (Int × Int)) : ∀ k p, FT l k p = if p < 4096 then (lastv l k p : Int) else 0
  | 0, p => by unfold FT lastv; split <;> rfl
  | k + 1, p => by
    unfold FT lastv
    rw [setF_eq, FT_eq l k p]
    by_cases hp : p < 4096
    · by_cases hk : atL l k = (p : Int)
      · rw [if_pos ⟨hk, hp⟩, if_pos hp, if_pos hk]; rfl
      · rw [if_neg (fun h => hk h.1), if_pos hp, if_pos hp, if_neg hk]
    · rw [if_neg (fun h => hp h.2), if_neg hp, if_neg hp]
/-- What is set from the end on, down to index j. -/
def UF (l : List (Int × Int)) (K j : Nat) : Nat → Int := fun p => if p < 4096 ∧ j < lastv l K p then (lastv l K p : Int) else 0
theorem UF_top (l : List (Int × Int)) (K : Nat) : UF l K K = fun _ => 0 := by
  funext p
  unfold UF
  rw [if_neg]
  have := lastv_le l K p
  omega
theorem UF_end (l : List (Int × Int)) (K : Nat) : UF l K 0 = FT l K := by
  funext p
  rw [FT_eq]
  unfold UF
  by_cases hp : p < 4096
  · rw [if_pos hp]
    by_cases h0 : 0 < lastv l K p
    · rw [if_pos ⟨hp, h0⟩]
    · rw [if_neg (fun h => h0 h.2)]; omega
  · rw [if_neg (fun h => hp h.1), if_neg hp]
theorem UF_step (l : List (Int × Int)) (K j : Nat) (hj : j < K) : (getF (UF l K (j + 1)) (atL l j) = 0 → setF (UF l K (j + 1)) (atL l j) ((j : Int) + 1) = UF l K j) ∧ (getF (UF l K (j + 1)) (atL l j) ≠ 0 → UF l K (j + 1) = UF l K j) := by
  have key : ∀ p : Nat, p < 4096 → atL l j ≠ (p : Int) → UF l K (j + 1) p = UF l K j p := fun p hp hne => by
    unfold UF
    have h1 : lastv l K p ≠ j + 1 := fun e => hne (by have := lastv_at l K p (by omega); rwa [e] at this)
    by_cases h : j < lastv l K p
    · rw [if_pos ⟨hp, by omega⟩, if_pos ⟨hp, h⟩]
    · rw [if_neg (by omega), if_neg (by omega)]
  have hout : ∀ p, ¬ p < 4096 → ∀ j, UF l K j p = 0 := fun p hp j => by unfold UF; rw [if_neg (fun h => hp h.1)]
  constructor
  · intro h0
    funext p
    rw [setF_eq]
    by_cases hp : p < 4096
    · by_cases hat : atL l j = (p : Int)
      · rw [if_pos ⟨hat, hp⟩]
        have hhit := lastv_hit l K p j hj hat
        unfold getF at h0
        rw [if_pos ⟨by omega, by omega⟩, hat] at h0
        unfold UF at h0 ⊢
        rw [Int.toNat_natCast] at h0
        have hle : ¬ j + 1 < lastv l K p := fun h => by rw [if_pos ⟨hp, h⟩] at h0; omega
        rw [if_pos ⟨hp, by omega⟩]
        omega
      · rw [if_neg (fun h => hat h.1)]; exact key p hp hat
    · rw [if_neg (fun h => hp h.2), hout p hp, hout p hp]
  · intro h0
    funext p
    by_cases hp : p < 4096
    · by_cases hat : atL l j = (p : Int)
      · unfold getF at h0
        rw [hat] at h0
        rw [if_pos ⟨by omega, by omega⟩, Int.toNat_natCast] at h0
        unfold UF at h0 ⊢
        by_cases h : j + 1 < lastv l K p
        · rw [if_pos ⟨hp, h⟩, if_pos ⟨hp, by omega⟩]
        · rw [if_neg (fun k => h k.2)] at h0; exact absurd rfl h0
      · exact key p hp hat
    · rw [hout p hp, hout p hp]
theorem diffL_self (f : Nat → Int) : diffL f f = [] := by
  unfold diffL
  exact List.filter_eq_nil_iff.2 fun a _ => by simp
/-- Set and taken away again. -/
theorem back_again {f : Nat → Int} {z n : Int} (h : getF f z = 0) : setF (setF f z n) z 0 = f := by
  funext p
  rw [setF_eq, setF_eq]
  by_cases hz : z = (p : Int) ∧ p < 4096
  · rw [if_pos hz]
    unfold getF at h
    rw [if_pos ⟨by omega, by omega⟩, hz.1, Int.toNat_natCast] at h
    exact h.symm
  · rw [if_neg hz, if_neg hz]
end Go.Proofs.Ytnnadhfpkplncaa
