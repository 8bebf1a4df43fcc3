/- What a put does to a volume's numbers, in plain words. No condition. -/
import Derived.Test.YtnnadhfpkplncaaVoGets
namespace Go.Proofs.Ytnnadhfpkplncaa

def cntV (f : Nat → Int) : Nat := (numsL f).length
theorem cntV_eq (f : Nat → Int) : cntV f = ((List.range 4096).filter fun a => decide (f a ≠ 0)).length := by
  unfold cntV
  rw [nums_len, items_eq]
theorem cntL (f : Nat → Int) (a : Nat) (n : Int) : ∀ l : List Nat, l.Nodup → (((l.filter fun b => decide (updF f a n b ≠ 0)).length : Nat) : Int) = ((l.filter fun b => decide (f b ≠ 0)).length : Nat) + (if a ∈ l then (if n = 0 then 0 else 1) - (if f a = 0 then 0 else 1) else 0)
  | [], _ => by simp
  | b :: l, h => by
    obtain ⟨h1, h2⟩ := List.nodup_cons.1 h
    have ih := cntL f a n l h2
    by_cases e : b = a
    · subst e
      rw [if_neg h1] at ih
      rw [if_pos (by simp)]
      have e1 : updF f b n b = n := by simp [updF]
      simp only [List.filter_cons, e1]
      by_cases hn : n = 0 <;> by_cases hf : f b = 0 <;> simp [hn, hf] at ih ⊢ <;> omega
    · have e1 : updF f a n b = f b := by simp [updF, e]
      have e2 : (a ∈ b :: l) ↔ a ∈ l := by simp [Ne.symm e]
      simp only [List.filter_cons, e1, e2]
      by_cases hf : f b = 0 <;> simp [hf] at ih ⊢ <;> omega
theorem cnt_set (f : Nat → Int) (z n : Int) (hz : 0 ≤ z ∧ z ≤ 4095) : (cntV (setF f z n) : Int) = cntV f + ((if n = 0 then 0 else 1) - (if getF f z = 0 then 0 else 1)) := by
  obtain ⟨a, rfl⟩ := Int.eq_ofNat_of_zero_le hz.1
  rw [setF_in (by omega), cntV_eq, cntV_eq, cntL f a n _ List.nodup_range, if_pos (List.mem_range.2 (by omega))]
  have : getF f (a : Int) = f a := by unfold getF; rw [if_pos hz]; rfl
  rw [this]
theorem getF_setF_other {f : Nat → Int} {z y n : Int} (h : z ≠ y) : getF (setF f z n) y = getF f y := by
  unfold getF setF
  by_cases hz : 0 ≤ z ∧ z ≤ 4095
  · rw [if_pos hz]
    by_cases hy : 0 ≤ y ∧ y ≤ 4095
    · rw [if_pos hy, if_pos hy]
      unfold updF
      rw [if_neg (by omega)]
    · rw [if_neg hy, if_neg hy]
  · rw [if_neg hz]
def fK (f : Nat → Int) (z : Int) (xs : List Int) : Nat → Nat → Int
  | 0 => f
  | k + 1 => setF (fK f z xs k) (z + (k : Int)) (xs.getD k 0)
def uK (u : Int) (f : Nat → Int) (z : Int) (xs : List Int) : Nat → Int
  | 0 => u
  | k + 1 => uK u f z xs k - (if getF f (z + (k : Int)) = 0 then 0 else 1) + (if xs.getD k 0 = 0 then 0 else 1)
theorem fK_get (f : Nat → Int) (z : Int) (xs : List Int) : ∀ (k j : Nat), k ≤ j → getF (fK f z xs k) (z + (j : Int)) = getF f (z + (j : Int))
  | 0, _, _ => rfl
  | k + 1, j, h => by
    unfold fK
    rw [getF_setF_other (by omega), fK_get f z xs k j (by omega)]
theorem uK_near (u : Int) (f : Nat → Int) (z : Int) (xs : List Int) : ∀ k : Nat, u - (k : Int) ≤ uK u f z xs k ∧ uK u f z xs k ≤ u + (k : Int)
  | 0 => by simp [uK]
  | k + 1 => by
    have ih := uK_near u f z xs k
    unfold uK
    split <;> split <;> omega
theorem cnt_fK (u : Int) (f : Nat → Int) (z : Int) (xs : List Int) (hz : 0 ≤ z) : ∀ k : Nat, z + (k : Int) ≤ 4096 → (cntV (fK f z xs k) : Int) = cntV f + (uK u f z xs k - u)
  | 0, _ => by simp [fK, uK]
  | k + 1, h => by
    have ih := cnt_fK u f z xs hz k (by omega)
    unfold fK uK
    rw [cnt_set _ _ _ ⟨by omega, by omega⟩, ih, fK_get f z xs k k (Nat.le_refl _)]
    omega
theorem fK_far (f : Nat → Int) (z bl : Int) (xs : List Int) (hz : 0 ≤ z) (hf : ∀ a : Nat, bl ≤ (a : Int) → f a = 0) : ∀ k : Nat, z + (k : Int) ≤ bl → ∀ a : Nat, bl ≤ (a : Int) → fK f z xs k a = 0
  | 0, _, a, ha => hf a ha
  | k + 1, h, a, ha => by
    have ih := fK_far f z bl xs hz hf k (by omega) a ha
    unfold fK setF
    split
    · unfold updF
      rw [if_neg (by omega)]
      exact ih
    · exact ih
theorem getN_succ (f : Nat → Int) (z : Int) (k : Nat) : getN f z (k + 1) = getN f z k ++ [getF f (z + (k : Int))] := by
  unfold getN
  rw [List.range_succ, List.map_append]
  rfl
/-- What went: the numbers that stood there. -/
def goneN (f : Nat → Int) (z : Int) (k : Nat) : List Int := (getN f z k).filter fun y => decide (y ≠ 0)
theorem gone_no {f : Nat → Int} {z : Int} {k : Nat} (h : getF f (z + (k : Int)) = 0) : goneN f z (k + 1) = goneN f z k := by
  unfold goneN
  rw [getN_succ, List.filter_append]
  simp [h]
theorem gone_yes {f : Nat → Int} {z : Int} {k : Nat} (h : getF f (z + (k : Int)) ≠ 0) : goneN f z (k + 1) = goneN f z k ++ [getF f (z + (k : Int))] := by
  unfold goneN
  rw [getN_succ, List.filter_append]
  simp [h]
theorem gone_len (f : Nat → Int) (z : Int) (k : Nat) : (goneN f z k).length ≤ k := by
  unfold goneN
  have := List.length_filter_le (fun y => decide (y ≠ 0)) (getN f z k)
  have e : (getN f z k).length = k := by simp [getN]
  omega
/-- A number that may not be put. -/
def badN (y : Int) : Bool := decide (y < 0) || decide (1099511627776 < y)
end Go.Proofs.Ytnnadhfpkplncaa
