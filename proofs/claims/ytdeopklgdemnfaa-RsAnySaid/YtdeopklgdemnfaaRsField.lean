/- The field of 256 numbers as a type, sums over it, Cauchy's matrix: plain arithmetic, no Go in it. -/
import Derived.Test.YtdeopklgdemnfaaGfPlain
namespace Go.Proofs.Ytdeopklgdemnfaa.Rs
open Gf

abbrev F := Fin 256
def fz : F := ⟨0, by decide⟩
def fo : F := ⟨1, by decide⟩
def fadd (a b : F) : F := ⟨a.1 ^^^ b.1, xor_lt a.2 b.2⟩
def fmul (a b : F) : F := ⟨gm a.1 b.1, gm_lt _ _⟩
def finv (a : F) : F := ⟨gi a.1, gi_lt _⟩
theorem fadd_comm (a b : F) : fadd a b = fadd b a := Fin.ext (Nat.xor_comm _ _)
theorem fadd_assoc (a b c : F) : fadd (fadd a b) c = fadd a (fadd b c) := Fin.ext (Nat.xor_assoc _ _ _)
theorem fadd_zero (a : F) : fadd a fz = a := Fin.ext (Nat.xor_zero _)
theorem fzero_add (a : F) : fadd fz a = a := Fin.ext (Nat.zero_xor _)
theorem fadd_self (a : F) : fadd a a = fz := Fin.ext (Nat.xor_self _)
theorem fmul_comm (a b : F) : fmul a b = fmul b a := Fin.ext (gm_comm _ _)
theorem fmul_assoc (a b c : F) : fmul (fmul a b) c = fmul a (fmul b c) := Fin.ext (gm_assoc _ _ _).symm
theorem fmul_one (a : F) : fmul a fo = a := Fin.ext (gm_one _ a.2)
theorem fone_mul (a : F) : fmul fo a = a := Fin.ext (one_gm _ a.2)
theorem fmul_zero (a : F) : fmul a fz = fz := Fin.ext (gm_zero_right a.1)
theorem fzero_mul (a : F) : fmul fz a = fz := Fin.ext (gm_zero_left a.1)
theorem fmul_add (a b c : F) : fmul a (fadd b c) = fadd (fmul a b) (fmul a c) := Fin.ext (gm_xor a.2 b.2 c.2)
theorem fadd_mul (a b c : F) : fmul (fadd a b) c = fadd (fmul a c) (fmul b c) := by rw [fmul_comm, fmul_add, fmul_comm c a, fmul_comm c b]
theorem fpos {a : F} (h : a ≠ fz) : 0 < a.1 := by
  rcases Nat.eq_zero_or_pos a.1 with h0 | h0
  · exact absurd (Fin.ext h0) h
  · exact h0
theorem fmul_inv {a : F} (h : a ≠ fz) : fmul a (finv a) = fo := Fin.ext (gm_gi (fpos h) a.2)
theorem finv_mul {a : F} (h : a ≠ fz) : fmul (finv a) a = fo := by rw [fmul_comm, fmul_inv h]
theorem fo_ne : fo ≠ fz := by decide
theorem fmul_ne {a b : F} (ha : a ≠ fz) (hb : b ≠ fz) : fmul a b ≠ fz := by
  intro h
  have : fmul (finv a) (fmul a b) = fz := by rw [h, fmul_zero]
  rw [← fmul_assoc, finv_mul ha, fone_mul] at this
  exact hb this
theorem finv_ne {a : F} (ha : a ≠ fz) : finv a ≠ fz := by
  intro h
  have := fmul_inv ha
  rw [h, fmul_zero] at this
  exact fo_ne this.symm
theorem fadd_ne {a b : F} (h : a ≠ b) : fadd a b ≠ fz := by
  intro e
  apply h
  calc a = fadd a (fadd b b) := by rw [fadd_self, fadd_zero]
    _ = fadd (fadd a b) b := (fadd_assoc _ _ _).symm
    _ = b := by rw [e, fzero_add]
theorem fadd_cancel {a b : F} (h : fadd a b = fz) : a = b := by
  by_cases e : a = b
  · exact e
  · exact absurd h (fadd_ne e)
theorem fmul_cancel {a b : F} (ha : a ≠ fz) (h : fmul a b = fz) : b = fz := by
  by_cases e : b = fz
  · exact e
  · exact absurd h (fmul_ne ha e)
instance : Std.Commutative fadd := ⟨fadd_comm⟩
instance : Std.Associative fadd := ⟨fadd_assoc⟩
instance : Std.Commutative fmul := ⟨fmul_comm⟩
instance : Std.Associative fmul := ⟨fmul_assoc⟩

/-- The sum over a list. -/
def ls (l : List Nat) (f : Nat → F) : F := l.foldr (fun i s => fadd (f i) s) fz
theorem ls_nil (f : Nat → F) : ls [] f = fz := rfl
theorem ls_cons (i : Nat) (l : List Nat) (f : Nat → F) : ls (i :: l) f = fadd (f i) (ls l f) := rfl
theorem ls_add (l : List Nat) (f g : Nat → F) : ls l (fun i => fadd (f i) (g i)) = fadd (ls l f) (ls l g) := by
  induction l with
  | nil => exact (fadd_zero fz).symm
  | cons i l ih => simp only [ls_cons, ih]; ac_rfl
theorem ls_mul (l : List Nat) (c : F) (f : Nat → F) : ls l (fun i => fmul c (f i)) = fmul c (ls l f) := by
  induction l with
  | nil => exact (fmul_zero c).symm
  | cons i l ih => simp only [ls_cons, ih, fmul_add]
theorem ls_congr {l : List Nat} {f g : Nat → F} (h : ∀ i, i ∈ l → f i = g i) : ls l f = ls l g := by
  induction l with
  | nil => rfl
  | cons i l ih => rw [ls_cons, ls_cons, h i (by simp), ih fun j hj => h j (by simp [hj])]
theorem ls_zero {l : List Nat} {f : Nat → F} (h : ∀ i, i ∈ l → f i = fz) : ls l f = fz := by
  induction l with
  | nil => rfl
  | cons i l ih => rw [ls_cons, h i (by simp), ih fun j hj => h j (by simp [hj]), fadd_zero]
theorem ls_append (l m : List Nat) (f : Nat → F) : ls (l ++ m) f = fadd (ls l f) (ls m f) := by
  induction l with
  | nil => exact (fzero_add _).symm
  | cons i l ih => simp only [List.cons_append, ls_cons, ih, fadd_assoc]
/-- The sum over the numbers below n. -/
def sm (n : Nat) (f : Nat → F) : F := ls (List.range n) f
theorem sm_zero (f : Nat → F) : sm 0 f = fz := rfl
theorem sm_succ (n : Nat) (f : Nat → F) : sm (n + 1) f = fadd (sm n f) (f n) := by
  unfold sm; rw [List.range_succ, ls_append, ls_cons, ls_nil, fadd_zero]
theorem sm_add (n : Nat) (f g : Nat → F) : sm n (fun i => fadd (f i) (g i)) = fadd (sm n f) (sm n g) := ls_add _ _ _
theorem sm_mul (n : Nat) (c : F) (f : Nat → F) : sm n (fun i => fmul c (f i)) = fmul c (sm n f) := ls_mul _ _ _
theorem sm_mul_right (n : Nat) (c : F) (f : Nat → F) : sm n (fun i => fmul (f i) c) = fmul (sm n f) c := by
  rw [fmul_comm, ← sm_mul]; exact ls_congr fun i _ => fmul_comm _ _
theorem sm_congr {n : Nat} {f g : Nat → F} (h : ∀ i, i < n → f i = g i) : sm n f = sm n g := ls_congr fun i hi => h i (List.mem_range.1 hi)
theorem sm_null {n : Nat} {f : Nat → F} (h : ∀ i, i < n → f i = fz) : sm n f = fz := ls_zero fun i hi => h i (List.mem_range.1 hi)
theorem sm_swap (n m : Nat) (f : Nat → Nat → F) : sm n (fun i => sm m (fun j => f i j)) = sm m (fun j => sm n (fun i => f i j)) := by
  induction n with
  | zero => exact (sm_null fun _ _ => rfl).symm
  | succ n ih =>
    rw [sm_succ, ih, ← sm_add]
    exact sm_congr fun j _ => (sm_succ _ _).symm
/-- One is picked out. -/
def dl (i j : Nat) : F := if i = j then fo else fz
theorem sm_pick {n k : Nat} (hk : k < n) (f : Nat → F) (g : Nat → F) (h1 : g k = f k) (h : ∀ i, i < n → i ≠ k → g i = fz) : sm n g = f k := by
  induction n with
  | zero => omega
  | succ n ih =>
    rw [sm_succ]
    by_cases e : k = n
    · subst e
      rw [sm_null fun i hi => h i (by omega) (by omega), fzero_add, h1]
    · rw [ih (by omega) fun i hi hne => h i (by omega) hne, h n (by omega) (by omega), fadd_zero]
theorem sm_dl {n k : Nat} (hk : k < n) (f : Nat → F) : sm n (fun i => fmul (dl k i) (f i)) = f k :=
  sm_pick hk f _ (by simp [dl, fone_mul]) fun i _ hne => by unfold dl; rw [if_neg (Ne.symm hne), fzero_mul]
theorem sm_dl_right {n k : Nat} (hk : k < n) (f : Nat → F) : sm n (fun i => fmul (f i) (dl i k)) = f k :=
  sm_pick hk f _ (by simp [dl, fmul_one]) fun i _ hne => by unfold dl; rw [if_neg hne, fmul_zero]

/-! ### Cauchy's matrix: no row of it is told by fewer of them -/
theorem cauchy_step {x y x0 y0 : F} (hxy : fadd x y ≠ fz) (h0y : fadd x0 y ≠ fz) (hx0 : fadd x y0 ≠ fz) :
    fadd (finv (fadd x y)) (fmul (fmul (fadd x0 y0) (finv (fadd x0 y))) (finv (fadd x y0)))
      = fmul (fmul (fadd x0 x) (finv (fadd x y0))) (fmul (fmul (fadd y0 y) (finv (fadd x0 y))) (finv (fadd x y))) := by
  have num : fadd (fmul (fadd x0 y) (fadd x y0)) (fmul (fadd x0 y0) (fadd x y)) = fmul (fadd x0 x) (fadd y0 y) := by
    simp only [fmul_add, fadd_mul]
    have e : ∀ p q r s t u v : F, fadd (fadd (fadd p q) (fadd r s)) (fadd (fadd p t) (fadd u s)) = fadd (fadd q t) (fadd r u) := by
      intro p q r s t u v
      calc fadd (fadd (fadd p q) (fadd r s)) (fadd (fadd p t) (fadd u s)) = fadd (fadd (fadd p p) (fadd s s)) (fadd (fadd q t) (fadd r u)) := by ac_rfl
        _ = _ := by rw [fadd_self, fadd_self, fadd_zero, fzero_add]
    have := e (fmul x0 x) (fmul y x) (fmul x0 y0) (fmul y y0) (fmul y0 x) (fmul x0 y) fz
    calc _ = fadd (fadd (fadd (fmul x0 x) (fmul y x)) (fadd (fmul x0 y0) (fmul y y0))) (fadd (fadd (fmul x0 x) (fmul y0 x)) (fadd (fmul x0 y) (fmul y y0))) := by ac_rfl
      _ = fadd (fadd (fmul y x) (fmul y0 x)) (fadd (fmul x0 y0) (fmul x0 y)) := this
      _ = _ := by ac_rfl
  have A := fmul_inv hxy
  have B := fmul_inv h0y
  have C := fmul_inv hx0
  generalize finv (fadd x y) = a at *
  generalize finv (fadd x0 y) = b at *
  generalize finv (fadd x y0) = c at *
  calc fadd a (fmul (fmul (fadd x0 y0) b) c)
      = fadd (fmul a (fmul (fmul (fadd x0 y) b) (fmul (fadd x y0) c))) (fmul (fmul (fmul (fadd x0 y0) b) c) (fmul (fadd x y) a)) := by rw [A, B, C, fmul_one, fmul_one, fmul_one]
    _ = fmul (fmul a (fmul b c)) (fadd (fmul (fadd x0 y) (fadd x y0)) (fmul (fadd x0 y0) (fadd x y))) := by rw [fmul_add]; ac_rfl
    _ = fmul (fmul a (fmul b c)) (fmul (fadd x0 x) (fadd y0 y)) := by rw [num]
    _ = _ := by ac_rfl
/-- If as many sums of parts by unlike numbers are nothing as there are parts, each part is nothing. -/
theorem cauchy (X Y : Nat → F) (ys : List Nat) : ∀ (xs : List Nat) (v : Nat → F), ys.length ≤ xs.length →
    (∀ i j, i ∈ xs → j ∈ ys → X i ≠ Y j) → xs.Pairwise (fun i j => X i ≠ X j) → ys.Pairwise (fun i j => Y i ≠ Y j) →
    (∀ i, i ∈ xs → ls ys (fun j => fmul (v j) (finv (fadd (X i) (Y j)))) = fz) → ∀ j, j ∈ ys → v j = fz := by
  induction ys with
  | nil => intro xs v _ _ _ _ _ j hj; cases hj
  | cons y0 ys ih =>
    intro xs v hlen hne hx hy hs
    cases xs with
    | nil => simp at hlen
    | cons x0 xs =>
      have hd : ∀ i j, i ∈ x0 :: xs → j ∈ y0 :: ys → fadd (X i) (Y j) ≠ fz := fun i j hi hj => fadd_ne (hne i j hi hj)
      have h00 := hs x0 (by simp)
      rw [ls_cons] at h00
      have v0 : v y0 = fmul (fadd (X x0) (Y y0)) (ls ys (fun j => fmul (v j) (finv (fadd (X x0) (Y j))))) := by
        have e := fadd_cancel h00
        have := congrArg (fmul (fadd (X x0) (Y y0))) e
        rw [← this, fmul_comm (v y0), ← fmul_assoc, fmul_inv (hd x0 y0 (by simp) (by simp)), fone_mul]
      have hys : ∀ j, j ∈ ys → v j = fz := by
        intro j hj
        have hv := ih xs (fun j => fmul (v j) (fmul (fadd (Y y0) (Y j)) (finv (fadd (X x0) (Y j))))) (by simpa using hlen)
          (fun i j hi hj => hne i j (by simp [hi]) (by simp [hj])) (List.pairwise_cons.1 hx).2 (List.pairwise_cons.1 hy).2 ?_ j hj
        · have h1 : fadd (Y y0) (Y j) ≠ fz := fadd_ne ((List.pairwise_cons.1 hy).1 j hj)
          have h2 := finv_ne (hd x0 j (by simp) (by simp [hj]))
          rw [fmul_comm] at hv
          exact fmul_cancel (fmul_ne h1 h2) hv
        · intro i hi
          have hi0 := hs i (by simp [hi])
          rw [ls_cons, v0] at hi0
          have hx0 : fadd (X x0) (X i) ≠ fz := fadd_ne ((List.pairwise_cons.1 hx).1 i hi)
          have hiy := finv_ne (hd i y0 (by simp [hi]) (by simp))
          apply fmul_cancel (fmul_ne hx0 hiy)
          rw [← ls_mul]
          rw [← hi0]
          have e1 : fmul (fmul (fadd (X x0) (Y y0)) (ls ys fun j => fmul (v j) (finv (fadd (X x0) (Y j))))) (finv (fadd (X i) (Y y0)))
              = ls ys (fun j => fmul (fmul (fadd (X x0) (Y y0)) (finv (fadd (X i) (Y y0)))) (fmul (v j) (finv (fadd (X x0) (Y j))))) := by
            rw [ls_mul]; ac_rfl
          rw [e1, ← ls_add]
          refine ls_congr fun j hj => ?_
          have st := cauchy_step (hd i j (by simp [hi]) (by simp [hj])) (hd x0 j (by simp) (by simp [hj])) (hd i y0 (by simp [hi]) (by simp))
          calc _ = fmul (v j) (fmul (fmul (fadd (X x0) (X i)) (finv (fadd (X i) (Y y0)))) (fmul (fmul (fadd (Y y0) (Y j)) (finv (fadd (X x0) (Y j)))) (finv (fadd (X i) (Y j))))) := by ac_rfl
            _ = fmul (v j) (fadd (finv (fadd (X i) (Y j))) (fmul (fmul (fadd (X x0) (Y y0)) (finv (fadd (X x0) (Y j)))) (finv (fadd (X i) (Y y0))))) := by rw [st]
            _ = fadd (fmul (v j) (fmul (fmul (fadd (X x0) (Y y0)) (finv (fadd (X x0) (Y j)))) (finv (fadd (X i) (Y y0))))) (fmul (v j) (finv (fadd (X i) (Y j)))) := by rw [fmul_add, fadd_comm]
            _ = _ := by congr 1; ac_rfl
      intro j hj
      rcases List.mem_cons.1 hj with rfl | hj
      · rw [v0, ls_zero fun j hj => by rw [hys j hj, fzero_mul], fmul_zero]
      · exact hys j hj
end Go.Proofs.Ytdeopklgdemnfaa.Rs
