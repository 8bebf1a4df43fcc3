/- The text of all parts of a text is the text. Plain arithmetic, no Go in it. -/
import Derived.Test.YtdeopklgdemnfaaRsThm
namespace Go.Proofs.Ytdeopklgdemnfaa
open Go.RowKit Gf Rs

theorem cat_split {K : Nat} (l : List F) : ∀ j, j ≤ K → catF j (splitF K l) = (List.range (j * partN K l.length)).map (gd l) := by
  intro j
  induction j with
  | zero => intro _; simp [catF]
  | succ j ih =>
    intro hj
    rw [cat_snoc (by rw [splitF_length]; omega), ih (by omega), Nat.succ_mul, List.range_add, List.map_append, List.map_map]
    congr 1
    simp [splitF]
theorem partN_mul {K len : Nat} (hK : 1 ≤ K) : len ≤ K * partN K len ∧ K * partN K len ≤ len + K := by
  unfold partN
  have h1 := Nat.div_add_mod (len + K - 1) K
  have h2 := Nat.mod_lt (len + K - 1) (show 0 < K by omega)
  omega
theorem gd_map {l : List F} {n : Nat} (h : l.length ≤ n) : ((List.range n).map (gd l)).take l.length = l := by
  apply List.ext_getElem
  · simp; omega
  · intro i h1 h2
    simp only [List.getElem_take, List.getElem_map, List.getElem_range]
    exact gd_eq h2
/-- The text comes back. -/
theorem join_split {K : Nat} (hK : 1 ≤ K) (l : List F) : joinS K (splitF K l) (l.length : Int) = (l, 0) ∧ (catF K (splitF K l)).length ≤ l.length + K := by
  obtain ⟨h1, h2⟩ := partN_mul (len := l.length) hK
  have hc := cat_split l K (Nat.le_refl _)
  constructor
  · unfold joinS
    rw [if_neg (by rw [splitF_length]; omega), Int.toNat_natCast, hc, if_neg (by simp; omega), gd_map h1]
  · rw [hc]; simpa using h2
theorem joinS_data {K : Nat} {ls ls' : List (List F)} {m : Int} (hl : K ≤ ls.length) (hl' : K ≤ ls'.length) (h : ∀ i, i < K → ls[i]? = ls'[i]?) : joinS K ls m = joinS K ls' m ∧ catF K ls = catF K ls' := by
  have hc : ls.take K = ls'.take K := by
    apply List.ext_getElem?
    intro i
    rw [List.getElem?_take, List.getElem?_take]
    by_cases hi : i < K
    · rw [if_pos hi, if_pos hi, h i hi]
    · rw [if_neg hi, if_neg hi]
  have hcat : catF K ls = catF K ls' := by unfold catF; rw [hc]
  refine ⟨?_, hcat⟩
  unfold joinS
  rw [hcat]
  by_cases hm : m < 0
  · rw [if_pos (Or.inr hm), if_pos (Or.inr hm)]
  · rw [if_neg (show ¬ (ls.length < K ∨ m < 0) by omega), if_neg (show ¬ (ls'.length < K ∨ m < 0) by omega)]
theorem joinS_short (K : Nat) (ls : List (List F)) (m : Int) : (joinS K ls m).1.length ≤ (catF K ls).length := by
  unfold joinS
  split
  · simp
  · split
    · simp
    · simp only [List.length_take]; omega
theorem cat_all {ls : List (List F)} {K : Nat} : (catF K ls).length ≤ (catF ls.length ls).length := by
  rcases Nat.lt_or_ge K ls.length with h | h
  · exact cat_le (by omega)
  · unfold catF
    rw [List.take_of_length_le h, List.take_of_length_le (Nat.le_refl _)]
    exact Nat.le_refl _
end Go.Proofs.Ytdeopklgdemnfaa
