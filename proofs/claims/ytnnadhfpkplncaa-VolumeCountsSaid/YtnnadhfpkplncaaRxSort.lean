/- slices.Sort of a list of one's own; which list comes of it. No condition of its own. -/
import Derived.Test.YtnnadhfpkplncaaRxShelf
import Derived.Test.YtnnadhfpkplncaaRxAll
import Derived.Sort.OwnSortedInts
namespace Go.Proofs.Ytnnadhfpkplncaa
open Go.RowKit Go.Shelf Go.Sort

def ints (L : List Nat) : List Int := L.map fun x : Nat => (x : Int)
theorem ints_map (L : List Nat) : (ints L).map (Value.int .i64) = L.map fun x : Nat => .int .i64 (x : Int) := by
  unfold ints
  rw [List.map_map]
  rfl
def SortPost (base : Nat) (v : Value) (n : Nat) (L : List Int) (w : World) (e : Ending) (w' : World) : Prop :=
  e = .returned (.tuple #[]) ∧ w'.ownsRow base 3 1 v n ((L.mergeSort fun x y => decide (x ≤ y)).map (Value.int .i64)) ∧ w.grownBy w' v.ownBlock
theorem sort_any (base : Nat) (v : Value) (L : List Int) (w : World) (h : w.ownsRow base 3 1 v L.length (L.map (Value.int .i64))) (hl : L.length ≤ 1048576) :
    Calls Try.prog 41 #[v] w (SortPost base v L.length L w) := by
  rcases h.2 with ⟨rfl, h2⟩ | ⟨g, c, cur, rfl, hb, hg, hc, hm, hs, ht⟩
  · have hL : L = [] := by simpa using h2
    subst hL
    refine (Try.slices_Sort_int_none none 0 w).mono ?_
    rintro e w' ⟨rfl, rfl⟩
    exact ⟨rfl, by simpa using World.ownsRow_nil w' base 3 1, World.grownBy.refl _ _⟩
  · rw [Nat.mul_one] at ht
    refine (Try.slices_Sort_int g 0 c L w (holds_of_blockI hg ht) (block_lt hg) (by omega)).mono ?_
    rintro e w' ⟨rfl, n, os, rfl⟩
    exact ⟨rfl, ownsRow_sortedI (by rw [List.length_mergeSort]) hb hg hc hm hs, grownBy_sortedI _⟩
/-- The places at which two trees differ, in order. -/
def diffL (f g : Nat → Int) : List Nat := (List.range 4096).filter fun a => decide (f a ≠ g a)
theorem perm_sort {L M : List Nat} (hp : L.Perm M) (hs : M.Pairwise (· < ·)) : (ints L).mergeSort (fun x y => decide (x ≤ y)) = ints M := by
  have h1 : ((ints L).mergeSort fun x y => decide (x ≤ y)).Perm (ints M) := (List.mergeSort_perm _ _).trans (hp.map _)
  have h2 : ((ints L).mergeSort fun x y => decide (x ≤ y)).Pairwise (fun x y => x ≤ y) := by
    have := List.pairwise_mergeSort (le := fun x y : Int => decide (x ≤ y)) (fun a b c h1 h2 => by simp at *; omega) (fun a b => by simp; omega) (ints L)
    exact this.imp fun h => by simpa using h
  have h3 : (ints M).Pairwise (fun x y => x ≤ y) := by
    unfold ints
    rw [List.pairwise_map]
    exact hs.imp fun h => by omega
  exact h1.eq_of_pairwise (fun a b _ _ h1 h2 => Int.le_antisymm h1 h2) h2 h3
theorem range_sorted (n : Nat) : (List.range n).Pairwise (· < ·) := List.pairwise_lt_range
theorem diff_list (f g : Nat → Int) : (ints ((itemsL f 2 0).filter (fun x : Nat => decide (getF g (x : Int) ≠ f x)) ++ (itemsL g 2 0).filter (fun x : Nat => decide (getF f (x : Int) = 0)))).mergeSort (fun x y => decide (x ≤ y)) = ints (diffL f g) := by
  have hget : ∀ (h : Nat → Int) (x : Nat), x < 4096 → getF h (x : Int) = h x := fun h x hx => by unfold getF; rw [if_pos ⟨by omega, by omega⟩]; rfl
  refine perm_sort ?_ ((range_sorted 4096).filter _)
  have hnd : ∀ p : Nat → Bool, ((List.range 4096).filter p).Nodup := fun p => List.Pairwise.imp (fun h => Nat.ne_of_lt h) ((range_sorted 4096).filter p)
  rw [items_eq, items_eq]
  refine (List.perm_ext_iff_of_nodup ?_ (hnd _)).2 ?_
  · refine List.nodup_append.2 ⟨(hnd _).filter _, (hnd _).filter _, fun a ha b hb e => ?_⟩
    subst e
    simp only [List.mem_filter, List.mem_range, decide_eq_true_eq] at ha hb
    rw [hget f a ha.1.1] at hb
    exact ha.1.2 hb.2
  · intro x
    simp only [List.mem_append, List.mem_filter, List.mem_range, decide_eq_true_eq]
    constructor
    · rintro (⟨⟨h1, h2⟩, h3⟩ | ⟨⟨h1, h2⟩, h3⟩)
      · rw [hget g x h1] at h3; exact ⟨h1, fun e => h3 e.symm⟩
      · rw [hget f x h1] at h3; exact ⟨h1, fun e => h2 (by rw [← e]; exact h3)⟩
    · rintro ⟨h1, h2⟩
      rw [hget g x h1, hget f x h1]
      by_cases h : f x = 0
      · exact Or.inr ⟨⟨h1, fun e => h2 (by rw [h, e])⟩, h⟩
      · exact Or.inl ⟨⟨h1, h⟩, fun e => h2 e.symm⟩
end Go.Proofs.Ytnnadhfpkplncaa
