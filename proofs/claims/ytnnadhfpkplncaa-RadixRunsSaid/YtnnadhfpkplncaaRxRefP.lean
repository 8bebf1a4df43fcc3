/- The reference's lists, in plain Lean. No condition of its own. -/
import Derived.Test.YtnnadhfpkplncaaRxBackP
namespace Go.Proofs.Ytnnadhfpkplncaa
open Go.RowKit

/-- The items of the k last places. -/
def seg (f : Nat → Int) : Nat → List (Int × Int)
  | 0 => []
  | k + 1 => if f (4095 - k) ≠ 0 then (((4095 - k : Nat) : Int), f (4095 - k)) :: seg f k else seg f k
/-- The items in order. -/
def lstF (f : Nat → Int) : List (Int × Int) := seg f 4096
theorem seg_eq (f : Nat → Int) : ∀ k, k ≤ 4096 → seg f k = ((List.range' (4096 - k) k).filter fun a => decide (f a ≠ 0)).map fun a : Nat => ((a : Int), f a)
  | 0, _ => rfl
  | k + 1, h => by
    have e : 4096 - (k + 1) = 4095 - k := by omega
    have e2 : 4095 - k + 1 = 4096 - k := by omega
    rw [e, List.range'_succ, e2]
    unfold seg
    rw [seg_eq f k (by omega), List.filter_cons]
    by_cases hf : f (4095 - k) ≠ 0
    · rw [if_pos hf, if_pos (by simpa using hf)]; rfl
    · rw [if_neg hf, if_neg (by simpa using hf)]
theorem lst_eq (f : Nat → Int) : lstF f = (itemsL f 2 0).map fun a : Nat => ((a : Int), f a) := by
  unfold lstF
  rw [seg_eq f 4096 (Nat.le_refl _), items_eq, List.range_eq_range']
theorem lst_len (f : Nat → Int) : (lstF f).length = (itemsL f 2 0).length := by rw [lst_eq]; simp
theorem lst_le (f : Nat → Int) : (lstF f).length ≤ 4096 := by rw [lst_len]; exact items_le f
theorem lst_nil : lstF (fun _ => 0) = [] := by
  have : ∀ k, seg (fun _ => 0) k = [] := fun k => by
    induction k with
    | zero => rfl
    | succ k ih => unfold seg; rw [if_neg (by simp)]; exact ih
  exact this _
theorem seg_mem {f : Nat → Int} : ∀ {k : Nat} {x : Int × Int}, k ≤ 4096 → x ∈ seg f k → ∃ a : Nat, x = ((a : Int), f a) ∧ 4096 - k ≤ a ∧ a < 4096
  | 0, x, _, h => by cases h
  | k + 1, x, hk, h => by
    unfold seg at h
    split at h
    · rcases List.mem_cons.1 h with h | h
      · exact ⟨4095 - k, h, by omega, by omega⟩
      · obtain ⟨a, h1, h2, h3⟩ := seg_mem (by omega) h
        exact ⟨a, h1, by omega, h3⟩
    · obtain ⟨a, h1, h2, h3⟩ := seg_mem (by omega) h
      exact ⟨a, h1, by omega, h3⟩
/-- Get. -/
def getL : List (Int × Int) → Int → Int
  | [], _ => 0
  | x :: l, z => if x.1 = z then x.2 else getL l z
theorem getL_out {z : Int} : ∀ {l : List (Int × Int)}, (∀ x ∈ l, x.1 ≠ z) → getL l z = 0
  | [], _ => rfl
  | x :: l, h => by
    unfold getL
    rw [if_neg (h x List.mem_cons_self)]
    exact getL_out fun y hy => h y (List.mem_cons_of_mem _ hy)
theorem seg_get (f : Nat → Int) (z : Int) : ∀ k, k ≤ 4096 → getL (seg f k) z = if (4096 - k : Nat) ≤ z ∧ z ≤ 4095 then f z.toNat else 0
  | 0, _ => by rw [if_neg (by omega)]; rfl
  | k + 1, h => by
    have ih := seg_get f z k (by omega)
    unfold seg
    by_cases hf : f (4095 - k) ≠ 0
    · rw [if_pos hf]
      unfold getL
      by_cases hz : ((4095 - k : Nat) : Int) = z
      · rw [if_pos hz, if_pos (by omega)]
        show f (4095 - k) = _
        rw [← hz]; rfl
      · rw [if_neg hz, ih]
        by_cases hc : ((4096 - k : Nat) : Int) ≤ z ∧ z ≤ 4095
        · rw [if_pos hc, if_pos (by omega)]
        · rw [if_neg hc, if_neg (by omega)]
    · rw [if_neg hf, ih]
      by_cases hc : ((4096 - k : Nat) : Int) ≤ z ∧ z ≤ 4095
      · rw [if_pos hc, if_pos (by omega)]
      · rw [if_neg hc]
        by_cases hz : ((4095 - k : Nat) : Int) = z
        · rw [if_pos (by omega), ← hz]
          simp only [Decidable.not_not] at hf
          simpa using hf.symm
        · rw [if_neg (by omega)]
theorem lst_get (f : Nat → Int) (z : Int) : getL (lstF f) z = getF f z := by
  unfold lstF getF
  rw [seg_get f z 4096 (Nat.le_refl _)]
  rfl
/-- Set, within the places. -/
def setL (n : Int) : List (Int × Int) → Int → List (Int × Int)
  | [], z => if n ≠ 0 then [(z, n)] else []
  | x :: l, z => if x.1 < z then x :: setL n l z else (if n ≠ 0 then [(z, n)] else []) ++ (if x.1 = z then l else x :: l)
theorem setL_far {n z : Int} {l : List (Int × Int)} (h : ∀ x ∈ l, z < x.1) : setL n l z = (if n ≠ 0 then [(z, n)] else []) ++ l := by
  cases l with
  | nil => unfold setL; simp
  | cons x l =>
    have := h x List.mem_cons_self
    have h1 : ¬ x.1 < z := by omega
    have h2 : ¬ x.1 = z := by omega
    unfold setL
    rw [if_neg h1, if_neg h2]
theorem seg_set (f : Nat → Int) (a : Nat) (n : Int) (ha : a < 4096) : ∀ k, k ≤ 4096 → seg (setF f (a : Int) n) k = if 4096 - k ≤ a then setL n (seg f k) (a : Int) else seg f k
  | 0, _ => by rw [if_neg (by omega)]; rfl
  | k + 1, h => by
    have ih := seg_set f a n ha k (by omega)
    have hp : setF f (a : Int) n (4095 - k) = if a = 4095 - k then n else f (4095 - k) := by
      rw [setF_eq]
      by_cases e : a = 4095 - k
      · rw [if_pos ⟨by omega, by omega⟩, if_pos e]
      · rw [if_neg (by omega), if_neg e]
    rw [seg, seg, hp, ih]
    by_cases e : a = 4095 - k
    · have hfar : ∀ x ∈ seg f k, (a : Int) < x.1 := fun x hx => by
        obtain ⟨b, rfl, h1, h2⟩ := seg_mem (by omega) hx
        show (a : Int) < (b : Int)
        omega
      have e1 : ¬ 4096 - k ≤ a := by omega
      have e2 : 4096 - (k + 1) ≤ a := by omega
      simp only [if_neg e1, if_pos e2, ← e, if_true]
      by_cases hf : f a ≠ 0
      · rw [if_pos hf]
        show _ = setL n ((((a : Nat) : Int), f a) :: seg f k) (a : Int)
        unfold setL
        simp only [Int.lt_irrefl, if_false, if_true]
        by_cases hn : n ≠ 0
        · rw [if_pos hn, if_pos hn]; rfl
        · rw [if_neg hn, if_neg hn]; rfl
      · rw [if_neg hf, setL_far hfar]
        by_cases hn : n ≠ 0
        · rw [if_pos hn, if_pos hn]; rfl
        · rw [if_neg hn, if_neg hn]; rfl
    · simp only [if_neg e]
      by_cases hle : 4096 - k ≤ a
      · have e2 : 4096 - (k + 1) ≤ a := by omega
        rw [if_pos hle, if_pos e2]
        split
        · show _ = setL n ((((4095 - k : Nat) : Int), f (4095 - k)) :: seg f k) (a : Int)
          rw [setL, if_pos (by show ((4095 - k : Nat) : Int) < (a : Int); omega)]
        · rfl
      · have e3 : ¬ 4096 - (k + 1) ≤ a := by omega
        rw [if_neg hle, if_neg e3]
theorem lst_set (f : Nat → Int) (z n : Int) (h : 0 ≤ z ∧ z ≤ 4095) : setL n (lstF f) z = lstF (setF f z n) := by
  obtain ⟨a, rfl⟩ := Int.eq_ofNat_of_zero_le h.1
  unfold lstF
  rw [seg_set f a n (by omega) 4096 (Nat.le_refl _), if_pos (by omega)]
theorem lst_out (f : Nat → Int) (z n : Int) (h : ¬ (0 ≤ z ∧ z ≤ 4095)) : lstF f = lstF (setF f z n) := by
  unfold setF; rw [if_neg h]
/-- Where an item's place is reached. -/
def pos : List (Int × Int) → Int → Nat
  | [], _ => 0
  | x :: l, z => if x.1 < z then pos l z + 1 else 0
theorem pos_le : ∀ (l : List (Int × Int)) (z : Int), pos l z ≤ l.length
  | [], _ => Nat.le_refl _
  | x :: l, z => by
    unfold pos
    have := pos_le l z
    split <;> simp <;> omega
theorem pos_lt : ∀ {l : List (Int × Int)} {z : Int} {i : Nat} {x : Int × Int}, l[i]? = some x → i ≤ pos l z → (i < pos l z ↔ x.1 < z)
  | [], _, i, x, h, _ => by simp at h
  | y :: l, z, 0, x, h, _ => by
    simp only [List.getElem?_cons_zero, Option.some.injEq] at h
    subst h
    unfold pos
    split <;> simp_all
  | y :: l, z, i + 1, x, h, hi => by
    unfold pos at hi ⊢
    split
    · rename_i hy
      rw [if_pos hy] at hi
      have := pos_lt (l := l) (z := z) (i := i) (x := x) (by simpa using h) (by omega)
      omega
    · rename_i hy
      rw [if_neg hy] at hi
      exact absurd hi (by omega)
def setAt (l : List (Int × Int)) (z n : Int) (i j : Nat) : List (Int × Int) := l.take i ++ (if n ≠ 0 then [(z, n)] else []) ++ l.drop j
theorem setL_pos (n : Int) : ∀ (l : List (Int × Int)) (z : Int), setL n l z = setAt l z n (pos l z) (if (l[pos l z]?).any (fun x => decide (x.1 = z)) then pos l z + 1 else pos l z)
  | [], z => by simp [setL, setAt]
  | x :: l, z => by
    unfold setL pos
    by_cases h : x.1 < z
    · rw [if_pos h, if_pos h, setL_pos n l z]
      have e : (x :: l)[pos l z + 1]? = l[pos l z]? := by simp
      rw [e]
      unfold setAt
      by_cases hc : (l[pos l z]?).any (fun x => decide (x.1 = z)) = true
      · rw [if_pos hc, if_pos hc]; rfl
      · rw [if_neg hc, if_neg hc]; rfl
    · rw [if_neg h, if_neg h]
      by_cases h2 : x.1 = z
      · simp [setAt, h2]
      · simp [setAt, h2]
/-- Nodes. -/
def chL (q : Nat) : List Nat → Nat
  | a :: b :: l => (if a / q ≠ b / q then 1 else 0) + chL q (b :: l)
  | _ => 0
def cD (q : Nat) (l : List Nat) : Nat := if l = [] then 0 else 1 + chL q l
theorem cD_append {q : Nat} {m : List Nat} : ∀ {l : List Nat}, (∀ x ∈ l, ∀ y ∈ m, x / q ≠ y / q) → cD q (l ++ m) = cD q l + cD q m
  | [], _ => by simp [cD]
  | [a], h => by
    cases m with
    | nil => simp [cD]
    | cons b m =>
      have := h a (by simp) b (by simp)
      simp [cD, chL, this]
  | a :: b :: l, h => by
    have ih := cD_append (q := q) (m := m) (l := b :: l) fun x hx => h x (List.mem_cons_of_mem _ hx)
    simp only [List.cons_append, cD, List.cons_ne_nil, if_false, chL] at ih ⊢
    omega
theorem cD_one {q c : Nat} : ∀ {l : List Nat}, (∀ x ∈ l, x / q = c) → cD q l = if l = [] then 0 else 1
  | [], _ => rfl
  | [a], _ => by simp [cD, chL]
  | a :: b :: l, h => by
    have ih := cD_one (q := q) (c := c) (l := b :: l) fun x hx => h x (List.mem_cons_of_mem _ hx)
    have h1 := h a (by simp)
    have h2 := h b (by simp)
    simp only [cD, List.cons_ne_nil, if_false, chL] at ih ⊢
    rw [h1, h2]
    simp only [ne_eq, not_true_eq_false, if_false]
    omega
theorem cD_flat {q : Nat} {F : Nat → List Nat} (h : ∀ i j, i < j → ∀ x ∈ F i, ∀ y ∈ F j, x / q ≠ y / q) : ∀ k, cD q ((List.range k).flatMap F) = ((List.range k).map fun i => cD q (F i)).sum
  | 0 => rfl
  | k + 1 => by
    rw [List.range_succ, List.flatMap_append, List.map_append, List.sum_append, cD_append, cD_flat h k]
    · simp
    · intro x hx y hy
      obtain ⟨i, hi, hx⟩ := List.mem_flatMap.1 hx
      simp only [List.flatMap_cons, List.flatMap_nil, List.append_nil] at hy
      exact h i k (List.mem_range.1 hi) x hx y hy
theorem items_in {f : Nat → Int} : ∀ {D g x : Nat}, x ∈ itemsL f D g → x / 16 ^ (D + 1) = g
  | 0, g, x, h => by
    unfold itemsL at h
    obtain ⟨i, hi, hx⟩ := List.mem_flatMap.1 h
    have := List.mem_range.1 hi
    split at hx
    · cases hx
    · rw [List.mem_singleton.1 hx]; omega
  | D + 1, g, x, h => by
    unfold itemsL at h
    obtain ⟨i, hi, hx⟩ := List.mem_flatMap.1 h
    have := List.mem_range.1 hi
    have e := items_in hx
    rw [Nat.pow_succ, ← Nat.div_div_eq_div_mul, e]; omega
theorem items_bareB {f : Nat → Int} {D g : Nat} : bareB D g f = true ↔ itemsL f D g = [] := by
  rw [bareB_iff]
  refine ⟨items_bare D g, fun h i hi => ?_⟩
  rw [flat_filter] at h
  have := (List.filter_eq_nil_iff.1 h) (g * span D + i) (List.mem_map.2 ⟨i, List.mem_range.2 hi, rfl⟩)
  simpa using this
/-- One for each group of each rank. -/
def ns : Nat → List Nat → Nat
  | 0, l => cD (16 ^ 1) l
  | d + 1, l => cD (16 ^ (d + 2)) l + ns d l
theorem ns_nil : ∀ d, ns d [] = 0
  | 0 => rfl
  | d + 1 => by unfold ns; rw [ns_nil d]; rfl
theorem sum_add {F G : Nat → Nat} : ∀ l : List Nat, (l.map fun i => F i + G i).sum = (l.map F).sum + (l.map G).sum
  | [] => rfl
  | a :: l => by simp only [List.map_cons, List.sum_cons, sum_add l]; omega
theorem items_far {f : Nat → Int} {D g d : Nat} (hd : d ≤ D) : ∀ i j, i < j → ∀ x ∈ itemsL f D (g * 16 + i), ∀ y ∈ itemsL f D (g * 16 + j), x / 16 ^ (d + 1) ≠ y / 16 ^ (d + 1) := fun i j hij x hx y hy e => by
  have h1 := items_in hx
  have h2 := items_in hy
  have e3 : 16 ^ (D + 1) = 16 ^ (d + 1) * 16 ^ (D - d) := by rw [← Nat.pow_add]; congr 1; omega
  rw [e3, ← Nat.div_div_eq_div_mul] at h1 h2
  rw [e] at h1
  omega
theorem ns_flat {f : Nat → Int} {D g : Nat} : ∀ d, d ≤ D → ns d ((List.range 16).flatMap fun i => itemsL f D (g * 16 + i)) = ((List.range 16).map fun i => ns d (itemsL f D (g * 16 + i))).sum
  | 0, h => by unfold ns; exact cD_flat (items_far h) 16
  | d + 1, h => by
    unfold ns
    rw [sum_add, cD_flat (items_far h) 16, ns_flat d (by omega)]
theorem nn_ns (f : Nat → Int) : ∀ D g, nn f D g = ns D (itemsL f D g)
  | 0, g => by
    unfold nn ns
    rw [cD_one (c := g) fun x hx => items_in hx]
    by_cases hb : bareB 0 g f = true
    · rw [if_pos hb, if_pos (items_bareB.1 hb)]
    · rw [if_neg hb, if_neg fun e => hb (items_bareB.2 e)]
  | D + 1, g => by
    unfold nn
    by_cases hb : bareB (D + 1) g f = true
    · rw [if_pos hb, items_bareB.1 hb, ns_nil]
    · have hne : ¬ itemsL f (D + 1) g = [] := fun e => hb (items_bareB.2 e)
      rw [if_neg hb]
      unfold ns
      rw [cD_one (c := g) fun x hx => items_in hx, if_neg hne]
      have : itemsL f (D + 1) g = (List.range 16).flatMap fun i => itemsL f D (g * 16 + i) := rfl
      rw [this, ns_flat D (Nat.le_refl _)]
      congr 2
      exact List.map_congr_left fun i _ => nn_ns f D _
theorem nn_eq (f : Nat → Int) : nn f 2 0 = if itemsL f 2 0 = [] then 0 else 3 + chL 16 (itemsL f 2 0) + chL 256 (itemsL f 2 0) := by
  rw [nn_ns]
  show cD 4096 _ + (cD 256 _ + cD 16 _) = _
  rw [cD_one (q := 4096) (c := 0) fun x hx => (items_in hx : x / 16 ^ 3 = 0)]
  unfold cD
  split <;> omega
/-- Diff. -/
def diffR : List (Int × Int) → List (Int × Int) → List Int
  | [], [] => []
  | x :: l, [] => x.1 :: diffR l []
  | [], y :: m => y.1 :: diffR [] m
  | x :: l, y :: m => if x.1 < y.1 then x.1 :: diffR l (y :: m) else if y.1 < x.1 then y.1 :: diffR (x :: l) m else (if x.2 ≠ y.2 then [x.1] else []) ++ diffR l m
termination_by l m => l.length + m.length
theorem diffR_l {x : Int × Int} {l m : List (Int × Int)} (h : ∀ y ∈ m, x.1 < y.1) : diffR (x :: l) m = x.1 :: diffR l m := by
  cases m with
  | nil => rw [diffR]
  | cons y m => rw [diffR, if_pos (h y List.mem_cons_self)]
theorem diffR_r {y : Int × Int} {l m : List (Int × Int)} (h : ∀ x ∈ l, y.1 < x.1) : diffR l (y :: m) = y.1 :: diffR l m := by
  cases l with
  | nil => rw [diffR]
  | cons x l =>
    have := h x List.mem_cons_self
    have h1 : ¬ x.1 < y.1 := by omega
    rw [diffR, if_neg h1, if_pos this]
theorem seg_diff (f g : Nat → Int) : ∀ k, k ≤ 4096 → diffR (seg f k) (seg g k) = ((List.range' (4096 - k) k).filter fun a => decide (f a ≠ g a)).map fun a : Nat => (a : Int)
  | 0, _ => by unfold seg; rw [diffR]; rfl
  | k + 1, h => by
    have ih := seg_diff f g k (by omega)
    have e : 4096 - (k + 1) = 4095 - k := by omega
    have e2 : 4095 - k + 1 = 4096 - k := by omega
    have hfar : ∀ (f : Nat → Int) (n : Int), ∀ y ∈ seg f k, (((4095 - k : Nat) : Int), n).1 < y.1 := fun f n x hx => by
      obtain ⟨b, rfl, h1, h2⟩ := seg_mem (by omega) hx
      show ((4095 - k : Nat) : Int) < (b : Int)
      omega
    rw [e, List.range'_succ, e2, List.filter_cons]
    unfold seg
    by_cases hf : f (4095 - k) = 0
    · have hf1 : ¬ f (4095 - k) ≠ 0 := fun c => c hf
      rw [if_neg hf1]
      by_cases hg : g (4095 - k) = 0
      · have hg1 : ¬ g (4095 - k) ≠ 0 := fun c => c hg
        rw [if_neg hg1, if_neg (by simp [hf, hg]), ih]
      · rw [if_pos hg, diffR_r (hfar f _), if_pos (by simp [hf]; exact fun c => hg c.symm), ih]; rfl
    · rw [if_pos hf]
      by_cases hg : g (4095 - k) = 0
      · have hg1 : ¬ g (4095 - k) ≠ 0 := fun c => c hg
        rw [if_neg hg1, diffR_l (hfar g _), if_pos (by simp [hg]; exact hf), ih]; rfl
      · rw [if_pos hg, diffR, if_neg (Int.lt_irrefl _), if_neg (Int.lt_irrefl _), ih]
        by_cases hfg : f (4095 - k) = g (4095 - k)
        · rw [if_neg (by simp [hfg])]
          simp [hfg]
        · rw [if_pos (by simpa using hfg)]
          simp [hfg]
theorem lst_diff (f g : Nat → Int) : diffR (lstF f) (lstF g) = ints (diffL f g) := by
  unfold lstF diffL ints
  rw [seg_diff f g 4096 (Nat.le_refl _), List.range_eq_range']
end Go.Proofs.Ytnnadhfpkplncaa
