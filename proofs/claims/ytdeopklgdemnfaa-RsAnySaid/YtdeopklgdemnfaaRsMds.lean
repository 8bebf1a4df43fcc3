/- Any K rows of a code of K parts of data have an inverse; what was made by the rows is made back by it. Plain arithmetic, no Go in it. -/
import Derived.Test.YtdeopklgdemnfaaRsSpl
namespace Go.Proofs.Ytdeopklgdemnfaa
open Go.RowKit Gf Rs

theorem nd_len : ∀ (a b : List Nat), a.Nodup → (∀ x, x ∈ a → x ∈ b) → a.length ≤ b.length := by
  intro a
  induction a with
  | nil => intro b _ _; simp
  | cons x a ih =>
    intro b hn hs
    have hx := hs x (by simp)
    rw [List.nodup_cons] at hn
    have := ih (b.erase x) hn.2 fun y hy => (List.mem_erase_of_ne (fun e => hn.1 (by rw [← e]; exact hy))).2 (hs y (by simp [hy]))
    rw [List.length_erase_of_mem hx] at this
    have hp := List.length_pos_of_mem hx
    simp only [List.length_cons]
    omega
theorem ls_filter (p : Nat → Bool) (f : Nat → F) (l : List Nat) (h : ∀ i, i ∈ l → p i = false → f i = fz) : ls (l.filter p) f = ls l f := by
  induction l with
  | nil => rfl
  | cons i l ih =>
    have hi := ih fun j hj => h j (by simp [hj])
    rw [List.filter_cons]
    cases hp : p i with
    | true => rw [if_pos rfl, ls_cons, ls_cons, hi]
    | false => rw [if_neg (by simp), ls_cons, h i (by simp) hp, fzero_add, hi]
theorem ofN_inj {i j : Nat} (hi : i < 256) (hj : j < 256) (h : ofN i = ofN j) : i = j := by
  have := congrArg Fin.val h
  simp only [ofN] at this
  omega
theorem ofN_xor {i j : Nat} (hi : i < 256) (hj : j < 256) : ofN (i ^^^ j) = fadd (ofN i) (ofN j) := by
  have hx : i ^^^ j < 256 := xor_lt hi hj
  apply Fin.ext
  simp only [ofN, fadd]
  rw [Nat.mod_eq_of_lt hi, Nat.mod_eq_of_lt hj, Nat.mod_eq_of_lt hx]
theorem rowF_at {K i k : Nat} (hk : k < K) : gd (rowF K i) k = if i < K then dl i k else finv (ofN (i ^^^ k)) := by
  rw [gd_eq (by rw [rowF_length]; exact hk)]
  unfold rowF
  by_cases h : i < K
  · simp [h]
  · simp [h]
theorem mf_rows {K q k : Nat} {ps : List Nat} (hq : q < ps.length) (hk : k < K) : mf (ps.map (rowF K)) q k = if ps[q] < K then dl ps[q] k else finv (ofN (ps[q] ^^^ k)) := by
  unfold mf
  rw [List.getD_eq_getElem?_getD, List.getElem?_map, List.getElem?_eq_getElem hq]
  exact rowF_at hk
/-- No row is told by fewer: the rows have an inverse. -/
theorem mds {K N : Nat} (hN : N ≤ 256) {ps : List Nat} (hp : ps.length = K) (hnd : ps.Nodup) (hlt : ∀ i, i ∈ ps → i < N) (hKN : K ≤ N) : ∃ X, minv K (mf (ps.map (rowF K))) = some X := by
  cases hm : minv K (mf (ps.map (rowF K))) with
  | some X => exact ⟨X, rfl⟩
  | none =>
    obtain ⟨v, p, hpK, hvp, hz⟩ := minv_none hm
    exfalso
    have h1 : ∀ i, i ∈ ps → i < K → v i = fz := by
      intro i hi hiK
      obtain ⟨q, hq, rfl⟩ := List.mem_iff_getElem.1 hi
      have := hz q (by omega)
      rw [sm_congr (g := fun k => fmul (dl ps[q] k) (v k)) fun k hk => by rw [mf_rows hq hk, if_pos hiK], sm_dl hiK] at this
      exact this
    have h2 : ∀ k, k ∈ (List.range K).filter (fun k => !ps.contains k) → v k = fz := by
      refine cauchy ofN ofN _ (ps.filter fun i => decide (K ≤ i)) v ?_ ?_ ?_ ?_ ?_
      · have e1 : (ps.filter fun i => decide (K ≤ i)).length + (ps.filter fun i => !decide (K ≤ i)).length = ps.length := by
          rw [← List.countP_eq_length_filter, ← List.countP_eq_length_filter]
          have := List.length_eq_countP_add_countP (fun i => decide (K ≤ i)) (l := ps)
          rw [this]
          congr 1
          exact List.countP_congr fun i _ => by simp
        have e2 : ((List.range K).filter fun k => ps.contains k).length + ((List.range K).filter fun k => !ps.contains k).length = K := by
          have := List.length_eq_countP_add_countP (fun k => ps.contains k) (l := List.range K)
          rw [List.length_range] at this
          rw [← List.countP_eq_length_filter, ← List.countP_eq_length_filter]
          simpa using this.symm
        have e3 : (ps.filter fun i => !decide (K ≤ i)).length ≤ ((List.range K).filter fun k => ps.contains k).length := by
          refine nd_len _ _ (hnd.sublist (List.filter_sublist)) fun x hx => ?_
          simp only [List.mem_filter, Bool.not_eq_true', decide_eq_false_iff_not] at hx
          rw [List.mem_filter]
          exact ⟨List.mem_range.2 (by omega), by simpa using hx.1⟩
        omega
      · intro i j hi hj e
        simp only [List.mem_filter, decide_eq_true_eq] at hi
        have hj := (List.mem_filter.1 hj).1
        rw [List.mem_range] at hj
        have := ofN_inj (by have := hlt i hi.1; omega) (by omega) e
        omega
      · refine List.Pairwise.imp_of_mem ?_ (hnd.sublist (List.filter_sublist))
        intro a b ha hb hab e
        exact hab (ofN_inj (by have := hlt a (List.mem_filter.1 ha).1; omega) (by have := hlt b (List.mem_filter.1 hb).1; omega) e)
      · refine List.Pairwise.imp_of_mem ?_ ((List.nodup_range (n := K)).sublist (List.filter_sublist))
        intro a b ha hb hab e
        have ha := List.mem_range.1 (List.mem_filter.1 ha).1
        have hb := List.mem_range.1 (List.mem_filter.1 hb).1
        exact hab (ofN_inj (by omega) (by omega) e)
      · intro i hi
        simp only [List.mem_filter, decide_eq_true_eq] at hi
        have hiN := hlt i hi.1
        rw [ls_filter]
        · obtain ⟨q, hq, rfl⟩ := List.mem_iff_getElem.1 hi.1
          have := hz q (by omega)
          rw [← this]
          refine sm_congr fun k hk => ?_
          rw [mf_rows hq hk, if_neg (by omega), ofN_xor (by omega) (by omega), fmul_comm]
        · intro k hk hf
          have hk := List.mem_range.1 hk
          rw [h1 k (by simpa using hf) hk, fzero_mul]
    have : v p = fz := by
      by_cases hpp : p ∈ ps
      · exact h1 p hpp hpK
      · exact h2 p (List.mem_filter.2 ⟨List.mem_range.2 hpK, by simpa using hpp⟩)
    rw [hvp] at this
    exact fo_ne this
theorem outF_at {K N i n : Nat} {D : List (List F)} (hi : i < N) : (outF K N D n)[i]? = some (mixL (rowF K i) D n) := by simp [outF, hi]
theorem mixL_at {row : List F} {ls : List (List F)} {n i : Nat} (hi : i < n) : gd (mixL row ls n) i = mixAt row ls row.length i := by
  rw [gd_eq (by rw [mixL_length]; exact hi)]
  simp [mixL]
/-- What the rows made is made back. -/
theorem back {K n : Nat} {ps : List Nat} {X : Mat} {D from_ : List (List F)} (hX : minv K (mf (ps.map (rowF K))) = some X) (hp : ps.length = K) (hD : D.length = K) (hDl : ∀ j, j < K → (D.getD j []).length = n)
    (hf : ∀ q, q < K → from_.getD q [] = mixL (rowF K (ps.getD q 0)) D n) : dataF K (sq K X) from_ n = D := by
  obtain ⟨hl, hr⟩ := minv_some hX
  apply List.ext_getElem
  · rw [dataF_length, hD]
  · intro j h1 h2
    rw [dataF_length] at h1
    have hj : D.getD j [] = D[j] := by rw [List.getD_eq_getElem?_getD, List.getElem?_eq_getElem h2]; rfl
    have hjl := hDl j h1
    rw [hj] at hjl
    have e1 : (sq K X).getD j [] = rowL K (X j) := by simp [sq, h1]
    simp only [dataF, List.getElem_map, List.getElem_range]
    rw [e1]
    apply List.ext_getElem
    · rw [mixL_length, hjl]
    · intro i h3 h4
      rw [mixL_length] at h3
      simp only [mixL, List.getElem_map, List.getElem_range, mixAt, rowL_length]
      have e2 : ∀ l, l < K → fmul ((rowL K (X j)).getD l fz) ((from_.getD l []).getD i fz) = fmul (X j l) (sm K fun k => fmul (mf (ps.map (rowF K)) l k) ((D.getD k []).getD i fz)) := by
        intro l hlK
        have e3 : (rowL K (X j)).getD l fz = X j l := by simp [rowL, hlK]
        have e4 : (from_.getD l []).getD i fz = sm K fun k => fmul (mf (ps.map (rowF K)) l k) ((D.getD k []).getD i fz) := by
          rw [hf l hlK]
          have := mixL_at (row := rowF K (ps.getD l 0)) (ls := D) h3
          unfold gd at this
          rw [this, rowF_length]
          unfold mixAt
          refine sm_congr fun k hk => ?_
          rw [mf_rows (by omega) hk]
          have e5 : ps.getD l 0 = ps[l] := by rw [List.getD_eq_getElem?_getD, List.getElem?_eq_getElem (by omega)]; rfl
          have := rowF_at (i := ps.getD l 0) hk
          unfold gd at this
          rw [this, e5]
        rw [e3, e4]
      rw [sm_congr e2]
      have := mul_assoc3 K X (mf (ps.map (rowF K))) (fun k i => (D.getD k []).getD i fz) j i
      rw [this]
      rw [sm_congr (g := fun p => fmul (dl j p) ((D.getD p []).getD i fz)) fun p hp => by rw [hl j p h1 hp]]
      rw [sm_dl h1 (fun l => (D.getD l []).getD i fz), hj, List.getD_eq_getElem?_getD, List.getElem?_eq_getElem h4]; rfl
/-- The first parts are the data. -/
theorem out_data {K n i : Nat} {D : List (List F)} (hDl : ∀ j, j < K → (D.getD j []).length = n) (hi : i < K) : mixL (rowF K i) D n = D.getD i [] := by
  apply List.ext_getElem
  · rw [mixL_length, hDl i hi]
  · intro k h1 h2
    rw [mixL_length] at h1
    simp only [mixL, List.getElem_map, List.getElem_range, mixAt, rowF_length]
    rw [sm_congr (g := fun l => fmul (dl i l) ((D.getD l []).getD k fz)) fun l hl => by
      have := rowF_at (i := i) hl
      unfold gd at this
      rw [this, if_pos hi]]
    rw [sm_dl hi (fun l => (D.getD l []).getD k fz), List.getD_eq_getElem?_getD (l := D.getD i []), List.getElem?_eq_getElem h2]; rfl
end Go.Proofs.Ytdeopklgdemnfaa
