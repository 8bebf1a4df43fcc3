/- The inverse of a matrix by rows, column by column: what it comes to, and when there is none. Plain arithmetic, no Go in it. -/
import Derived.Test.YtdeopklgdemnfaaRsField
namespace Go.Proofs.Ytdeopklgdemnfaa.Rs
open Gf

abbrev Mat := Nat → Nat → F
/-- A row that the n rows of M make. -/
def InSpan (n : Nat) (M : Mat) (v : Nat → F) : Prop := ∃ c : Nat → F, ∀ k, v k = sm n (fun l => fmul (c l) (M l k))
theorem InSpan.row {n i : Nat} (M : Mat) (h : i < n) : InSpan n M (M i) := ⟨dl i, fun k => (sm_dl h (fun l => M l k)).symm⟩
theorem InSpan.add {n : Nat} {M : Mat} {u v : Nat → F} (hu : InSpan n M u) (hv : InSpan n M v) : InSpan n M (fun k => fadd (u k) (v k)) := by
  obtain ⟨c, hc⟩ := hu
  obtain ⟨d, hd⟩ := hv
  refine ⟨fun l => fadd (c l) (d l), fun k => ?_⟩
  show fadd (u k) (v k) = _
  rw [hc, hd, ← sm_add]
  exact sm_congr fun l _ => (fadd_mul _ _ _).symm
theorem InSpan.mul {n : Nat} {M : Mat} {u : Nat → F} (hu : InSpan n M u) (x : F) : InSpan n M (fun k => fmul (u k) x) := by
  obtain ⟨c, hc⟩ := hu
  refine ⟨fun l => fmul x (c l), fun k => ?_⟩
  show fmul (u k) x = _
  rw [hc, fmul_comm, ← sm_mul]
  exact sm_congr fun l _ => (fmul_assoc _ _ _).symm
theorem InSpan.trans {n : Nat} {M M' : Mat} {v : Nat → F} (h : ∀ i, i < n → InSpan n M' (M i)) (hv : InSpan n M v) : InSpan n M' v := by
  obtain ⟨c, hc⟩ := hv
  have hd : ∀ i, ∃ d : Nat → F, i < n → ∀ k, M i k = sm n (fun l => fmul (d l) (M' l k)) := by
    intro i
    by_cases hi : i < n
    · obtain ⟨d, hd⟩ := h i hi; exact ⟨d, fun _ => hd⟩
    · exact ⟨fun _ => fz, fun h => absurd h hi⟩
  refine ⟨fun p => sm n (fun l => fmul (c l) (Classical.choose (hd l) p)), fun k => ?_⟩
  rw [hc]
  have e1 : sm n (fun l => fmul (c l) (M l k)) = sm n (fun l => sm n (fun p => fmul (fmul (c l) (Classical.choose (hd l) p)) (M' p k))) := by
    refine sm_congr fun l hl => ?_
    rw [Classical.choose_spec (hd l) hl k, ← sm_mul]
    exact sm_congr fun p _ => (fmul_assoc _ _ _).symm
  rw [e1, sm_swap]
  exact sm_congr fun p _ => sm_mul_right _ _ _
theorem InSpan.zero {n : Nat} {M : Mat} {u v : Nat → F} {q : Nat} (hu : InSpan n M u) (h : ∀ i, i < n → sm q (fun k => fmul (M i k) (v k)) = fz) : sm q (fun k => fmul (u k) (v k)) = fz := by
  obtain ⟨c, hc⟩ := hu
  have e1 : sm q (fun k => fmul (u k) (v k)) = sm q (fun k => sm n (fun l => fmul (c l) (fmul (M l k) (v k)))) := by
    refine sm_congr fun k _ => ?_
    rw [hc, ← sm_mul_right]
    exact sm_congr fun l _ => fmul_assoc _ _ _
  rw [e1, sm_swap]
  refine sm_null fun l hl => ?_
  rw [sm_mul, h l hl, fmul_zero]

/-- The place of the first row, from j on, that has something in column j. -/
def pv (n j : Nat) (M : Mat) : Option Nat := (List.range' j (n - j)).find? (fun i => decide (M i j ≠ fz))
theorem pv_none {n j : Nat} {M : Mat} : pv n j M = none ↔ ∀ i, j ≤ i → i < n → M i j = fz := by
  unfold pv
  rw [List.find?_eq_none]
  constructor
  · intro h i h1 h2
    have := h i (by rw [List.mem_range'_1]; omega)
    simpa using this
  · intro h i hi
    rw [List.mem_range'_1] at hi
    have := h i (by omega) (by omega)
    simp [this]
theorem find_range' (p : Nat → Bool) (a : Nat) (h2 : p a = true) : ∀ (q j : Nat), j ≤ a → a < j + q → (∀ i, j ≤ i → i < a → p i = false) → (List.range' j q).find? p = some a := by
  intro q
  induction q with
  | zero => intro j h0 h1; omega
  | succ q ih =>
    intro j h0 h1 h3
    rw [List.range'_succ, List.find?_cons]
    by_cases e : j = a
    · subst e; rw [h2]
    · rw [h3 j (Nat.le_refl _) (by omega)]
      exact ih (j + 1) (by omega) (by omega) fun i hi hia => h3 i (by omega) hia
theorem pv_some {n j a : Nat} {M : Mat} (h0 : j ≤ a) (h1 : a < n) (h2 : M a j ≠ fz) (h3 : ∀ i, j ≤ i → i < a → M i j = fz) : pv n j M = some a := by
  unfold pv
  refine find_range' _ a (by simpa using h2) _ j h0 (by omega) fun i hi hia => ?_
  simp [h3 i hi hia]
theorem pv_spec {n j a : Nat} {M : Mat} (h : pv n j M = some a) : j ≤ a ∧ a < n ∧ M a j ≠ fz := by
  have h1 := List.find?_some h
  have h2 := List.mem_of_find?_eq_some h
  rw [List.mem_range'_1] at h2
  exact ⟨h2.1, by omega, by simpa using h1⟩

/-- Two rows exchanged. -/
def swp (M : Mat) (j a : Nat) : Mat := fun i => if i = j then M a else if i = a then M j else M i
/-- One step: the rows exchanged, row j made one in column j, and taken from each other row. -/
def unit (M : Mat) (j a : Nat) : Nat → F := fun k => fmul (M a k) (finv (M a j))
def stp (M : Mat) (j a : Nat) : Mat := fun i k => if i = j then unit M j a k else fadd (swp M j a i k) (fmul (unit M j a k) (swp M j a i j))
theorem stp_at {M : Mat} {j a : Nat} (k : Nat) : stp M j a j k = unit M j a k := by simp [stp]
theorem stp_ne {M : Mat} {j a i : Nat} (h : i ≠ j) (k : Nat) : stp M j a i k = fadd (swp M j a i k) (fmul (unit M j a k) (swp M j a i j)) := by simp [stp, h]
theorem swp_span {n j a : Nat} (M : Mat) (hj : j < n) (ha : a < n) (i : Nat) (hi : i < n) : InSpan n M (swp M j a i) := by
  unfold swp; split
  · exact InSpan.row M ha
  · split
    · exact InSpan.row M hj
    · exact InSpan.row M hi
theorem swp_back {n j a : Nat} (M : Mat) (hj : j < n) (ha : a < n) (i : Nat) (hi : i < n) : InSpan n (swp M j a) (M i) := by
  by_cases h1 : i = a
  · have e : swp M j a j = M i := by simp [swp, h1]
    rw [← e]; exact InSpan.row _ hj
  · by_cases h2 : i = j
    · subst h2
      have e : swp M i a a = M i := by
        unfold swp; split
        · rename_i h; exact absurd h.symm h1
        · simp
      rw [← e]; exact InSpan.row _ ha
    · have e : swp M j a i = M i := by simp [swp, h1, h2]
      rw [← e]; exact InSpan.row _ hi
theorem unit_span {n j a : Nat} (M : Mat) (ha : a < n) : InSpan n M (unit M j a) := (InSpan.row M ha).mul _
theorem stp_span {n j a : Nat} (M : Mat) (hj : j < n) (ha : a < n) (i : Nat) (hi : i < n) : InSpan n M (stp M j a i) := by
  by_cases h : i = j
  · have e : stp M j a i = unit M j a := by subst h; funext k; exact stp_at k
    rw [e]; exact unit_span M ha
  · have e : stp M j a i = fun k => fadd (swp M j a i k) (fmul (unit M j a k) (swp M j a i j)) := funext fun k => stp_ne h k
    rw [e]; exact (swp_span M hj ha i hi).add ((unit_span M ha).mul _)
theorem stp_back {n j a : Nat} (M : Mat) (hj : j < n) (ha : a < n) (hz : M a j ≠ fz) (i : Nat) (hi : i < n) : InSpan n (stp M j a) (M i) := by
  refine InSpan.trans ?_ (swp_back M hj ha i hi)
  have hu : InSpan n (stp M j a) (unit M j a) := by
    have e : unit M j a = stp M j a j := funext fun k => (stp_at k).symm
    rw [e]; exact InSpan.row _ hj
  intro i hi
  by_cases h : i = j
  · subst h
    have e : swp M i a i = fun k => fmul (unit M i a k) (M a i) := by
      funext k
      simp only [swp, if_true, unit]
      rw [fmul_assoc, finv_mul hz, fmul_one]
    rw [e]; exact hu.mul _
  · have e : swp M j a i = fun k => fadd (stp M j a i k) (fmul (unit M j a k) (swp M j a i j)) := by
      funext k
      rw [stp_ne h, fadd_assoc, fadd_self, fadd_zero]
    rw [e]; exact (InSpan.row _ hi).add (hu.mul _)
/-- The first j columns are ones of the one. -/
def Cols (n j : Nat) (M : Mat) : Prop := ∀ i c, i < n → c < j → M i c = dl i c
theorem stp_cols {n j a : Nat} {M : Mat} (hj : j < n) (h : Cols n j M) (h0 : j ≤ a) (ha : a < n) (hz : M a j ≠ fz) : Cols n (j + 1) (stp M j a) := by
  intro i c hi hc
  have hu : ∀ c, c < j → unit M j a c = fz := by
    intro c hc
    have : M a c = fz := by rw [h a c ha hc]; unfold dl; rw [if_neg (by omega)]
    simp only [unit]; rw [this, fzero_mul]
  have huj : unit M j a j = fo := fmul_inv hz
  by_cases e : i = j
  · subst e
    rw [stp_at]
    by_cases e2 : c = i
    · subst e2; rw [huj]; simp [dl]
    · rw [hu c (by omega)]; unfold dl; rw [if_neg (Ne.symm e2)]
  · rw [stp_ne e]
    by_cases e2 : c = j
    · subst e2
      rw [huj, fone_mul, fadd_self]
      unfold dl; rw [if_neg e]
    · rw [hu c (by omega), fzero_mul, fadd_zero]
      have hc2 : c < j := by omega
      unfold swp; rw [if_neg e]; split
      · rename_i e3; subst e3
        rw [h j c hj hc2]; unfold dl; rw [if_neg (by omega), if_neg (by omega)]
      · exact h i c hi hc2
/-- All steps from column j on. -/
def run (n : Nat) : Nat → Nat → Mat → Option Mat
  | 0, _, M => some M
  | d + 1, j, M => match pv n j M with
    | none => none
    | some a => run n d (j + 1) (stp M j a)
/-- What the first j columns tell when there is no row for the next one. -/
theorem stuck_null {n j : Nat} {M : Mat} (hj : j < n) (h : Cols n j M) (hp : pv n j M = none) :
    ∃ v : Nat → F, v j = fo ∧ ∀ i, i < n → sm n (fun k => fmul (M i k) (v k)) = fz := by
  refine ⟨fun k => if k = j then fo else if k < j then M k j else fz, by simp, fun i hi => ?_⟩
  have hz := pv_none.1 hp
  by_cases hij : i < j
  · -- two terms: column i and column j
    have hT : ∀ q, q < n → fmul (M i q) (if q = j then fo else if q < j then M q j else fz) = if q = i ∨ q = j then M i j else fz := by
      intro q hq
      by_cases h4 : q = j
      · subst h4; simp [fmul_one]
      · by_cases h3 : q < j
        · simp only [if_neg h4, if_pos h3]
          rw [h i q hi h3]
          by_cases h2 : q = i
          · subst h2; simp [dl, fone_mul]
          · rw [if_neg (by omega)]; unfold dl; rw [if_neg (Ne.symm h2), fzero_mul]
        · simp only [if_neg h4, if_neg h3]
          rw [fmul_zero, if_neg (by omega)]
    have key : ∀ q, q ≤ n → sm q (fun k => fmul (M i k) (if k = j then fo else if k < j then M k j else fz)) = if q ≤ i then fz else if q ≤ j then M i j else fz := by
      intro q
      induction q with
      | zero => intro _; rw [sm_zero, if_pos (by omega)]
      | succ q ih =>
        intro hq
        rw [sm_succ, ih (by omega), hT q (by omega)]
        by_cases h1 : q < i
        · rw [if_pos (by omega), if_neg (by omega), if_pos (by omega), fadd_zero]
        · by_cases h2 : q = i
          · rw [if_pos (by omega), if_pos (by omega), if_neg (by omega), if_pos (by omega), fzero_add]
          · by_cases h3 : q < j
            · rw [if_neg (by omega), if_pos (by omega), if_neg (by omega), if_neg (by omega), if_pos (by omega), fadd_zero]
            · by_cases h4 : q = j
              · rw [if_neg (by omega), if_pos (by omega), if_pos (by omega), if_neg (by omega), if_neg (by omega), fadd_self]
              · rw [if_neg (by omega), if_neg (by omega), if_neg (by omega), if_neg (by omega), if_neg (by omega), fadd_zero]
    rw [key n (Nat.le_refl _), if_neg (by omega), if_neg (by omega)]
  · refine sm_null fun k hk => ?_
    by_cases e : k = j
    · subst e; rw [hz i (by omega) hi, fzero_mul]
    · simp only [if_neg e]
      by_cases e2 : k < j
      · rw [if_pos e2, h i k hi e2]; unfold dl; rw [if_neg (by omega), fzero_mul]
      · rw [if_neg e2, fmul_zero]
theorem run_some {n : Nat} : ∀ (d j : Nat) (M M' : Mat), j + d = n → Cols n j M → run n d j M = some M' →
    Cols n n M' ∧ (∀ i, i < n → InSpan n M (M' i)) ∧ (∀ i, i < n → InSpan n M' (M i)) := by
  intro d
  induction d with
  | zero =>
    intro j M M' hj h e
    simp only [run, Option.some.injEq] at e
    subst e
    rw [Nat.add_zero] at hj; subst hj
    exact ⟨h, fun i hi => InSpan.row M hi, fun i hi => InSpan.row M hi⟩
  | succ d ih =>
    intro j M M' hj h e
    simp only [run] at e
    cases hp : pv n j M with
    | none => rw [hp] at e; simp at e
    | some a =>
      rw [hp] at e
      obtain ⟨h0, h1, h2⟩ := pv_spec hp
      obtain ⟨r1, r2, r3⟩ := ih (j + 1) (stp M j a) M' (by omega) (stp_cols (by omega) h h0 h1 h2) e
      refine ⟨r1, fun i hi => InSpan.trans (fun i hi => stp_span M (by omega) h1 i hi) (r2 i hi), fun i hi => InSpan.trans r3 (stp_back M (by omega) h1 h2 i hi)⟩
theorem run_none {n : Nat} : ∀ (d j : Nat) (M : Mat), j + d = n → Cols n j M → run n d j M = none →
    ∃ (v : Nat → F) (p : Nat), p < n ∧ v p = fo ∧ ∀ i, i < n → sm n (fun k => fmul (M i k) (v k)) = fz := by
  intro d
  induction d with
  | zero => intro j M hj h e; simp [run] at e
  | succ d ih =>
    intro j M hj h e
    simp only [run] at e
    cases hp : pv n j M with
    | none =>
      obtain ⟨v, h1, h2⟩ := stuck_null (by omega) h hp
      exact ⟨v, j, by omega, h1, h2⟩
    | some a =>
      rw [hp] at e
      obtain ⟨h0, h1, h2⟩ := pv_spec hp
      obtain ⟨v, p, hp1, hp2, hp3⟩ := ih (j + 1) (stp M j a) (by omega) (stp_cols (by omega) h h0 h1 h2) e
      exact ⟨v, p, hp1, hp2, fun i hi => InSpan.zero (stp_back M (by omega) h1 h2 i hi) hp3⟩
/-- The matrix, and one beside it. -/
def aug (n : Nat) (m : Mat) : Mat := fun i k => if k < n then m i k else dl (n + i) k
def minv (n : Nat) (m : Mat) : Option Mat := (run n n 0 (aug n m)).map fun M i k => M i (n + k)
theorem aug_left {n : Nat} {m : Mat} {i k : Nat} (h : k < n) : aug n m i k = m i k := by simp [aug, h]
theorem aug_right {n : Nat} {m : Mat} {i k : Nat} : aug n m i (n + k) = dl i k := by
  unfold aug; rw [if_neg (by omega)]
  unfold dl
  by_cases e : i = k
  · rw [if_pos e, if_pos (by omega)]
  · rw [if_neg e, if_neg (by omega)]
theorem cols0 (n : Nat) (M : Mat) : Cols n 0 M := fun _ c _ hc => absurd hc (Nat.not_lt_zero c)
theorem minv_some {n : Nat} {m X : Mat} (h : minv n m = some X) :
    (∀ i k, i < n → k < n → sm n (fun l => fmul (X i l) (m l k)) = dl i k) ∧ (∀ i k, i < n → k < n → sm n (fun l => fmul (m i l) (X l k)) = dl i k) := by
  unfold minv at h
  cases hr : run n n 0 (aug n m) with
  | none => rw [hr] at h; simp at h
  | some M =>
    rw [hr] at h
    simp only [Option.map_some, Option.some.injEq] at h
    subst h
    obtain ⟨r1, r2, r3⟩ := run_some n 0 _ _ (by omega) (cols0 _ _) hr
    constructor
    · intro i k hi hk
      obtain ⟨c, hc⟩ := r2 i hi
      have e1 : ∀ l, l < n → M i (n + l) = c l := by
        intro l hl
        rw [hc]
        rw [sm_congr (g := fun p => fmul (c p) (dl p l)) fun p _ => by rw [aug_right]]
        exact sm_dl_right hl c
      rw [sm_congr (g := fun l => fmul (c l) (aug n m l k)) fun l hl => by show fmul (M i (n + l)) _ = _; rw [e1 l hl, aug_left hk], ← hc, r1 i k hi hk]
    · intro i k hi hk
      obtain ⟨c, hc⟩ := r3 i hi
      have e1 : ∀ l, l < n → m i l = c l := by
        intro l hl
        rw [← aug_left (n := n) (m := m) (i := i) hl, hc]
        rw [sm_congr (g := fun p => fmul (c p) (dl p l)) fun p hp => by rw [r1 p l hp hl]]
        exact sm_dl_right hl c
      rw [sm_congr (g := fun l => fmul (c l) (M l (n + k))) fun l hl => by rw [e1 l hl], ← hc, aug_right]
theorem minv_none {n : Nat} {m : Mat} (h : minv n m = none) :
    ∃ (v : Nat → F) (p : Nat), p < n ∧ v p = fo ∧ ∀ i, i < n → sm n (fun k => fmul (m i k) (v k)) = fz := by
  unfold minv at h
  cases hr : run n n 0 (aug n m) with
  | some M => rw [hr] at h; simp at h
  | none =>
    obtain ⟨v, p, h1, h2, h3⟩ := run_none n 0 _ (by omega) (cols0 _ _) hr
    exact ⟨v, p, h1, h2, fun i hi => by rw [← h3 i hi]; exact sm_congr fun k hk => by rw [aug_left hk]⟩
/-- Products go in any brackets. -/
theorem mul_assoc3 (n : Nat) (A B C : Mat) (i k : Nat) : sm n (fun l => fmul (A i l) (sm n (fun p => fmul (B l p) (C p k)))) = sm n (fun p => fmul (sm n (fun l => fmul (A i l) (B l p))) (C p k)) := by
  rw [sm_congr (g := fun l => sm n (fun p => fmul (fmul (A i l) (B l p)) (C p k))) fun l _ => by rw [← sm_mul]; exact sm_congr fun p _ => (fmul_assoc _ _ _).symm]
  rw [sm_swap]
  exact sm_congr fun p _ => sm_mul_right _ _ _
/-- Twice the inverse is the matrix. -/
theorem minv_twice {n : Nat} {m X : Mat} (h : minv n m = some X) : ∃ Z, minv n X = some Z ∧ ∀ i k, i < n → k < n → Z i k = m i k := by
  obtain ⟨hl, hr⟩ := minv_some h
  cases hz : minv n X with
  | none =>
    obtain ⟨v, p, h1, h2, h3⟩ := minv_none hz
    have e : v p = sm n (fun l => fmul (m p l) (sm n (fun k => fmul (X l k) (v k)))) := by
      have := mul_assoc3 n m X (fun k _ => v k) p 0
      rw [this, sm_congr (g := fun k => fmul (dl p k) (v k)) fun k hk => by rw [hr p k h1 hk], sm_dl h1]
    rw [sm_null fun l hl => by rw [h3 l hl, fmul_zero], h2] at e
    exact absurd e fo_ne
  | some Z =>
    obtain ⟨zl, _⟩ := minv_some hz
    refine ⟨Z, rfl, fun i k hi hk => ?_⟩
    have e1 : Z i k = sm n (fun l => fmul (Z i l) (sm n (fun p => fmul (X l p) (m p k)))) := by
      rw [sm_congr (g := fun l => fmul (Z i l) (dl l k)) fun l hl' => by rw [hl l k hl' hk], sm_dl_right hk]
    rw [e1, mul_assoc3, sm_congr (g := fun p => fmul (dl i p) (m p k)) fun p hp => by rw [zl i p hi hp], sm_dl hi]
end Go.Proofs.Ytdeopklgdemnfaa.Rs
