/- Volumes in the order of their names, in plain words. No condition. -/
import Derived.Lib.Bytealg
namespace Go.Proofs.Ytnnadhfpkplncaa

theorem u8_tri (a b : UInt8) : a < b ∨ a = b ∨ b < a := by
  rcases Nat.lt_trichotomy a.toNat b.toNat with h | h | h
  · exact Or.inl (UInt8.lt_iff_toNat_lt.2 h)
  · exact Or.inr (Or.inl (UInt8.toNat_inj.1 h))
  · exact Or.inr (Or.inr (UInt8.lt_iff_toNat_lt.2 h))
abbrev cmpB := Go.Lib.compareBytes
theorem cmp_zero : ∀ {a b : List UInt8}, cmpB a b = 0 ↔ a = b
  | [], [] => by simp [cmpB, Go.Lib.compareBytes]
  | [], _ :: _ => by simp [cmpB, Go.Lib.compareBytes]
  | _ :: _, [] => by simp [cmpB, Go.Lib.compareBytes]
  | a :: l, b :: r => by
    have ih := @cmp_zero l r
    unfold cmpB Go.Lib.compareBytes
    rcases u8_tri a b with h | h | h
    · rw [if_pos h]
      constructor
      · intro h; omega
      · intro e
        cases e
        exact absurd h (UInt8.lt_irrefl a)
    · subst h
      rw [if_neg (UInt8.lt_irrefl a), if_neg (UInt8.lt_irrefl a)]
      rw [show Go.Lib.compareBytes l r = cmpB l r from rfl, ih]
      simp
    · rw [if_neg (UInt8.lt_asymm h), if_pos h]
      constructor
      · intro h; omega
      · intro e
        cases e
        exact absurd h (UInt8.lt_irrefl a)
theorem cmp_trans : ∀ {a b c : List UInt8}, cmpB a b < 0 → cmpB b c < 0 → cmpB a c < 0
  | [], [], _, h, _ => by simp [cmpB, Go.Lib.compareBytes] at h
  | [], _ :: _, [], _, h => by simp [cmpB, Go.Lib.compareBytes] at h
  | [], _ :: _, _ :: _, _, _ => by simp [cmpB, Go.Lib.compareBytes]
  | _ :: _, [], _, h, _ => by simp [cmpB, Go.Lib.compareBytes] at h
  | _ :: _, _ :: _, [], _, h => by simp [cmpB, Go.Lib.compareBytes] at h
  | a :: l, b :: r, c :: s, h, k => by
    have ih := @cmp_trans l r s
    unfold cmpB Go.Lib.compareBytes at h k ⊢
    rcases u8_tri a b with h1 | h1 | h1
    · rcases u8_tri b c with h2 | h2 | h2
      · rw [if_pos (UInt8.lt_trans h1 h2)]; omega
      · subst h2
        rw [if_pos h1]; omega
      · rw [if_neg (UInt8.lt_asymm h2), if_pos h2] at k
        omega
    · subst h1
      rw [if_neg (UInt8.lt_irrefl a), if_neg (UInt8.lt_irrefl a)] at h
      rcases u8_tri a c with h2 | h2 | h2
      · rw [if_pos h2]; omega
      · subst h2
        rw [if_neg (UInt8.lt_irrefl a), if_neg (UInt8.lt_irrefl a)] at k ⊢
        exact ih h k
      · rw [if_neg (UInt8.lt_asymm h2), if_pos h2] at k
        omega
    · rw [if_neg (UInt8.lt_asymm h1), if_pos h1] at h
      omega
theorem cmp_flip : ∀ {a b : List UInt8}, cmpB a b < 0 ∨ cmpB a b = 0 ∨ cmpB b a < 0
  | [], [] => by simp [cmpB, Go.Lib.compareBytes]
  | [], _ :: _ => by simp [cmpB, Go.Lib.compareBytes]
  | _ :: _, [] => by simp [cmpB, Go.Lib.compareBytes]
  | a :: l, b :: r => by
    have ih := @cmp_flip l r
    unfold cmpB Go.Lib.compareBytes
    rcases u8_tri a b with h | h | h
    · refine Or.inl ?_
      rw [if_pos h]; omega
    · subst h
      rw [if_neg (UInt8.lt_irrefl a), if_neg (UInt8.lt_irrefl a), if_neg (UInt8.lt_irrefl a), if_neg (UInt8.lt_irrefl a)]
      exact ih
    · refine Or.inr (Or.inr ?_)
      rw [if_pos h]; omega
theorem cmp_self (a : List UInt8) : cmpB a a = 0 := cmp_zero.2 rfl
theorem cmp_not {a b : List UInt8} (h : ¬ cmpB a b < 0) (hn : a ≠ b) : cmpB b a < 0 := by
  rcases @cmp_flip a b with h1 | h1 | h1
  · exact absurd h1 h
  · exact absurd (cmp_zero.1 h1) hn
  · exact h1

/-- A volume: what is told of it, its tree's place, its numbers. -/
structure Vol where
  name : List UInt8
  blocks : Int
  quota : Int
  used : Int
  frozen : Bool
  A : Option Addr
  f : Nat → Int
def Up (l : List Vol) : Prop := l.Pairwise fun x y => cmpB x.name y.name < 0
theorem Up.at {l : List Vol} (h : Up l) {i j : Nat} {x y : Vol} (hi : l[i]? = some x) (hj : l[j]? = some y) (hij : i < j) : cmpB x.name y.name < 0 := by
  obtain ⟨h1, e1⟩ := List.getElem?_eq_some_iff.1 hi
  obtain ⟨h2, e2⟩ := List.getElem?_eq_some_iff.1 hj
  have := List.pairwise_iff_getElem.1 h i j h1 h2 hij
  rw [e1, e2] at this
  exact this
/-- The place of a name: what stands ahead of it is less, what stands from it on is not. -/
structure Cut (l : List Vol) (t : List UInt8) (i : Nat) : Prop where
  le : i ≤ l.length
  lo : ∀ k x, k < i → l[k]? = some x → cmpB x.name t < 0
  hi : ∀ k x, i ≤ k → l[k]? = some x → ¬ cmpB x.name t < 0
def hasAt (l : List Vol) (i : Nat) (t : List UInt8) : Bool := match l[i]? with | some x => decide (x.name = t) | none => false
theorem hasAt_some {l : List Vol} {i : Nat} {t : List UInt8} (h : hasAt l i t = true) : ∃ x, l[i]? = some x ∧ x.name = t := by
  unfold hasAt at h
  split at h
  · rename_i x e
    exact ⟨x, e, of_decide_eq_true h⟩
  · cases h
theorem Cut.one {l : List Vol} {t : List UInt8} {i j : Nat} (h : Cut l t i) (k : Cut l t j) : i = j := by
  rcases Nat.lt_trichotomy i j with h1 | h1 | h1
  · obtain ⟨x, hx⟩ : ∃ x, l[i]? = some x := ⟨_, List.getElem?_eq_getElem (by have := k.le; omega)⟩
    exact absurd (k.lo i x h1 hx) (h.hi i x (Nat.le_refl _) hx)
  · exact h1
  · obtain ⟨x, hx⟩ : ∃ x, l[j]? = some x := ⟨_, List.getElem?_eq_getElem (by have := h.le; omega)⟩
    exact absurd (h.lo j x h1 hx) (k.hi j x (Nat.le_refl _) hx)
theorem Cut.own {l : List Vol} (hu : Up l) {j : Nat} {x : Vol} (hx : l[j]? = some x) : Cut l x.name j :=
  ⟨by have := (List.getElem?_eq_some_iff.1 hx).1; omega, fun k y hk hy => hu.at hy hx hk, fun k y hk hy => by
    rcases Nat.lt_or_ge j k with h | h
    · intro c
      have := cmp_trans (hu.at hx hy h) c
      rw [cmp_self] at this
      omega
    · obtain rfl : k = j := by omega
      rw [hx] at hy
      cases hy
      rw [cmp_self]
      omega⟩
theorem Cut.has {l : List Vol} (hu : Up l) {j i : Nat} {x : Vol} (hx : l[j]? = some x) (h : Cut l x.name i) : i = j ∧ hasAt l i x.name = true := by
  obtain rfl := h.one (Cut.own hu hx)
  exact ⟨rfl, by unfold hasAt; rw [hx]; simp⟩
theorem Cut.none {l : List Vol} (hu : Up l) {i : Nat} {t : List UInt8} (h : Cut l t i) (hn : hasAt l i t = false) : ∀ x ∈ l, x.name ≠ t := fun x hx e => by
  obtain ⟨j, hj⟩ := List.getElem?_of_mem hx
  subst e
  have := (h.has hu hj).2
  rw [hn] at this
  cases this
/-- A volume put in: in place of the one of its name, or at its place. -/
def putV (l : List Vol) (i : Nat) (v : Vol) : List Vol := if hasAt l i v.name = true then l.set i v else l.take i ++ v :: l.drop i
theorem up_set {l : List Vol} (hu : Up l) {i : Nat} {x v : Vol} (hx : l[i]? = some x) (hn : v.name = x.name) : Up (l.set i v) := by
  unfold Up
  rw [List.pairwise_iff_getElem]
  intro a b ha hb hab
  rw [List.length_set] at ha hb
  have h1 : l[i]? = some x := hx
  rw [List.getElem_set, List.getElem_set]
  have key := fun (p q : Nat) (hp : p < l.length) (hq : q < l.length) (h : p < q) => List.pairwise_iff_getElem.1 hu p q hp hq h
  obtain ⟨hi, ei⟩ := List.getElem?_eq_some_iff.1 hx
  split
  · split
    · omega
    · rename_i e1 e2
      rw [hn, ← ei]
      subst e1
      exact key _ _ hi hb hab
  · split
    · rename_i e1 e2
      rw [hn, ← ei]
      subst e2
      exact key _ _ ha hi hab
    · exact key _ _ ha hb hab
theorem up_insert {l : List Vol} (hu : Up l) {i : Nat} {v : Vol} (h : Cut l v.name i) (hn : hasAt l i v.name = false) : Up (l.take i ++ v :: l.drop i) := by
  have hne := h.none hu hn
  unfold Up
  rw [List.pairwise_append]
  refine ⟨List.Pairwise.sublist (List.take_sublist _ _) hu, ?_, ?_⟩
  · rw [List.pairwise_cons]
    refine ⟨fun y hy => ?_, List.Pairwise.sublist (List.drop_sublist _ _) hu⟩
    obtain ⟨k, hk⟩ := List.getElem?_of_mem hy
    rw [List.getElem?_drop] at hk
    exact cmp_not (h.hi _ y (by omega) hk) (hne y (List.mem_of_getElem? hk))
  · intro x hx y hy
    obtain ⟨k, hk⟩ := List.getElem?_of_mem hx
    have hki : k < i := by
      have := (List.getElem?_eq_some_iff.1 hk).1
      rw [List.length_take] at this
      omega
    rw [List.getElem?_take, if_pos hki] at hk
    rcases List.mem_cons.1 hy with rfl | hy
    · exact h.lo k x hki hk
    · obtain ⟨j, hj⟩ := List.getElem?_of_mem hy
      rw [List.getElem?_drop] at hj
      exact hu.at hk hj (by omega)
theorem up_put {l : List Vol} (hu : Up l) {i : Nat} {v : Vol} (h : Cut l v.name i) : Up (putV l i v) := by
  unfold putV
  split
  · rename_i hh
    obtain ⟨x, hx, e⟩ := hasAt_some hh
    exact up_set hu hx e.symm
  · rename_i hh
    exact up_insert hu h (by simpa using hh)
theorem put_mem {l : List Vol} {i : Nat} {v x : Vol} (h : x ∈ putV l i v) : x = v ∨ x ∈ l := by
  unfold putV at h
  split at h
  · exact (List.mem_or_eq_of_mem_set h).symm
  · rcases List.mem_append.1 h with h | h
    · exact Or.inr (List.mem_of_mem_take h)
    · rcases List.mem_cons.1 h with h | h
      · exact Or.inl h
      · exact Or.inr (List.mem_of_mem_drop h)
theorem put_len {l : List Vol} {i : Nat} {v : Vol} (hi : i ≤ l.length) : (putV l i v).length = if hasAt l i v.name = true then l.length else l.length + 1 := by
  unfold putV
  split
  · exact List.length_set
  · simp
    omega
end Go.Proofs.Ytnnadhfpkplncaa
