/- Twice the inverse is the matrix, of what is written down as rows. Plain arithmetic, no Go in it. -/
import Derived.Test.YtdeopklgdemnfaaDoorRsSpec
namespace Go.Proofs.YtdeopklgdemnfaaDoor
open Go.RowKit Gf Rs

theorem minv_of_inv {n : Nat} {A C : Mat} (h1 : ∀ i k, i < n → k < n → sm n (fun l => fmul (A i l) (C l k)) = dl i k) (h2 : ∀ i k, i < n → k < n → sm n (fun l => fmul (C i l) (A l k)) = dl i k) :
    ∃ Z, minv n A = some Z ∧ ∀ i k, i < n → k < n → Z i k = C i k := by
  cases hz : minv n A with
  | none =>
    obtain ⟨v, p, h3, h4, h5⟩ := minv_none hz
    have e : v p = sm n (fun l => fmul (C p l) (sm n (fun k => fmul (A l k) (v k)))) := by
      have := mul_assoc3 n C A (fun k _ => v k) p 0
      rw [this, sm_congr (g := fun k => fmul (dl p k) (v k)) fun k hk => by rw [h2 p k h3 hk], sm_dl h3]
    rw [sm_null fun l hl => by rw [h5 l hl, fmul_zero], h4] at e
    exact absurd e fo_ne
  | some Z =>
    obtain ⟨zl, _⟩ := minv_some hz
    refine ⟨Z, rfl, fun i k hi hk => ?_⟩
    have e1 : Z i k = sm n (fun l => fmul (Z i l) (sm n (fun p => fmul (A l p) (C p k)))) := by
      rw [sm_congr (g := fun l => fmul (Z i l) (dl l k)) fun l hl' => by rw [h1 l k hl' hk], sm_dl_right hk]
    rw [e1, mul_assoc3, sm_congr (g := fun p => fmul (dl i p) (C p k)) fun p hp => by rw [zl i p hi hp], sm_dl hi]
theorem mf_sq {n i k : Nat} {X : Mat} (hi : i < n) (hk : k < n) : mf (sq n X) i k = X i k := by
  unfold mf
  have : (sq n X).getD i [] = rowL n (X i) := by simp [sq, hi]
  rw [this, gd_eq (by rw [rowL_length]; exact hk)]
  simp [rowL]
theorem sq_eq {ls : List (List F)} {Z : Mat} (hl : ∀ (i : Nat) (l : List F), ls[i]? = some l → l.length = ls.length) (hz : ∀ i k, i < ls.length → k < ls.length → Z i k = mf ls i k) : sq ls.length Z = ls := by
  apply List.ext_getElem
  · rw [sq_length]
  · intro i h1 h2
    have hr := hl i _ (List.getElem?_eq_getElem h2)
    simp only [sq, List.getElem_map, List.getElem_range]
    apply List.ext_getElem
    · rw [rowL_length, hr]
    · intro k h3 h4
      rw [rowL_length] at h3
      simp only [rowL, List.getElem_map, List.getElem_range]
      rw [hz i k h2 h3]
      unfold mf
      rw [List.getD_eq_getElem?_getD, List.getElem?_eq_getElem h2, Option.getD_some, gd_eq h4]
theorem sq_Sq {n : Nat} {X : Mat} (h1 : 1 ≤ n) (h2 : n ≤ 32) : Sq (sq n X) := by
  refine ⟨by rw [sq_length]; exact h1, by rw [sq_length]; exact h2, fun i l hi => ?_⟩
  have hlt := (List.getElem?_eq_some_iff.1 hi).1
  rw [sq_length] at hlt
  rw [sq, List.getElem?_map, List.getElem?_range hlt] at hi
  cases hi
  rw [rowL_length, sq_length]
/-- The inverse of the inverse. -/
theorem invS_twice {ls : List (List F)} {X : Mat} (h : Sq ls) (hX : minv ls.length (mf ls) = some X) : invS (sq ls.length X) = (ls, 0) := by
  obtain ⟨xl, xr⟩ := minv_some hX
  obtain ⟨Z, hz, hzc⟩ := minv_of_inv (n := ls.length) (A := mf (sq ls.length X)) (C := mf ls)
    (fun i k hi hk => by rw [← xl i k hi hk]; exact sm_congr fun l hl => by rw [mf_sq hi hl])
    (fun i k hi hk => by rw [← xr i k hi hk]; exact sm_congr fun l hl => by rw [mf_sq hl hk])
  unfold invS
  rw [if_pos (sq_Sq h.1 h.2.1), sq_length, hz]
  simp only
  rw [sq_eq h.2.2 hzc]
/-- What Invert answers, in three ways. -/
theorem invS_cases (ls : List (List F)) : (invS ls = ([], 1)) ∨ (invS ls = ([], 14)) ∨ ∃ X, Sq ls ∧ minv ls.length (mf ls) = some X ∧ invS ls = (sq ls.length X, 0) := by
  unfold invS
  by_cases h : Sq ls
  · rw [if_pos h]
    cases hm : minv ls.length (mf ls) with
    | none => exact Or.inr (Or.inl rfl)
    | some X => exact Or.inr (Or.inr ⟨X, h, rfl, rfl⟩)
  · rw [if_neg h]; exact Or.inl rfl
end Go.Proofs.YtdeopklgdemnfaaDoor
