/- Texts of the proof of VolumeAlone, part 1 of 9. Conditions stand ahead of each. -/
import Derived.Lib.Bytealg
import Derived.Ground.GgzProg
import Derived.Ground.SlgmProg
import Derived.Shelf.Small.Strs
import Derived.Shelf.GgClosure.StringsIndexFuncTop
import Derived.Shelf.SlIterI.Nil
import Derived.Shelf.SortM.Plain
import Derived.Shelf.SortM.SortNone
import Derived.Test.YtnnadhfpkplncaaProg
import Derived.Shelf.Sort.Plain
import Derived.Shelf.Slices.In.SortNone
import Derived.WalkKit
import Derived.Tactics
import Derived.Tactics2
import Derived.Defers
import Derived.Laws.Pointers
import Derived.RegionTactic
import Derived.RegionCalls
import Derived.ChangeAlike
import Derived.LoopTactic
import Derived.Outline
import Derived.OwnWalk
import Derived.Lib.Hide
import Derived.IntWalk
import Derived.Laws.Rows
import Derived.Deep.QuietTactic
import Derived.Deep.RegionLaw
import Derived.BigQuiet
import Derived.Laws.StructEq
import Derived.ChangeKeysEq
import Derived.Deep.RegionHeld3

/- Volumes in the order of their names, in plain words. No condition. -/
namespace Go.Proofs.Ytnnadhfpkplncaa

theorem u8_tri (a b : UInt8) : a < b ∨ a = b ∨ b < a := by
  rcases Nat.lt_trichotomy a.toNat b.toNat with h | h | h
  · exact Or.inl (UInt8.lt_iff_toNat_lt.2 h)
  · exact Or.inr (Or.inl (UInt8.toNat_inj.1 h))
  · exact Or.inr (Or.inr (UInt8.lt_iff_toNat_lt.2 h))
abbrev cmpB := Go.Lib.compareBytes
theorem cmp_zero : ∀ {a b : List UInt8}, cmpB a b = 0 ↔ a = b
  | [], [] => by simp [cmpB, Go.Lib.compareBytes]
  | [], _ :: _ => by simp [cmpB, Go.Lib.compareBytes]
  | _ :: _, [] => by simp [cmpB, Go.Lib.compareBytes]
  | a :: l, b :: r => by
    have ih := @cmp_zero l r
    unfold cmpB Go.Lib.compareBytes
    rcases u8_tri a b with h | h | h
    · rw [if_pos h]
      constructor
      · intro h; omega
      · intro e
        cases e
        exact absurd h (UInt8.lt_irrefl a)
    · subst h
      rw [if_neg (UInt8.lt_irrefl a), if_neg (UInt8.lt_irrefl a)]
      rw [show Go.Lib.compareBytes l r = cmpB l r from rfl, ih]
      simp
    · rw [if_neg (UInt8.lt_asymm h), if_pos h]
      constructor
      · intro h; omega
      · intro e
        cases e
        exact absurd h (UInt8.lt_irrefl a)
theorem cmp_trans : ∀ {a b c : List UInt8}, cmpB a b < 0 → cmpB b c < 0 → cmpB a c < 0
  | [], [], _, h, _ => by simp [cmpB, Go.Lib.compareBytes] at h
  | [], _ :: _, [], _, h => by simp [cmpB, Go.Lib.compareBytes] at h
  | [], _ :: _, _ :: _, _, _ => by simp [cmpB, Go.Lib.compareBytes]
  | _ :: _, [], _, h, _ => by simp [cmpB, Go.Lib.compareBytes] at h
  | _ :: _, _ :: _, [], _, h => by simp [cmpB, Go.Lib.compareBytes] at h
  | a :: l, b :: r, c :: s, h, k => by
    have ih := @cmp_trans l r s
    unfold cmpB Go.Lib.compareBytes at h k ⊢
    rcases u8_tri a b with h1 | h1 | h1
    · rcases u8_tri b c with h2 | h2 | h2
      · rw [if_pos (UInt8.lt_trans h1 h2)]; omega
      · subst h2
        rw [if_pos h1]; omega
      · rw [if_neg (UInt8.lt_asymm h2), if_pos h2] at k
        omega
    · subst h1
      rw [if_neg (UInt8.lt_irrefl a), if_neg (UInt8.lt_irrefl a)] at h
      rcases u8_tri a c with h2 | h2 | h2
      · rw [if_pos h2]; omega
      · subst h2
        rw [if_neg (UInt8.lt_irrefl a), if_neg (UInt8.lt_irrefl a)] at k ⊢
        exact ih h k
      · rw [if_neg (UInt8.lt_asymm h2), if_pos h2] at k
        omega
    · rw [if_neg (UInt8.lt_asymm h1), if_pos h1] at h
      omega
theorem cmp_flip : ∀ {a b : List UInt8}, cmpB a b < 0 ∨ cmpB a b = 0 ∨ cmpB b a < 0
  | [], [] => by simp [cmpB, Go.Lib.compareBytes]
  | [], _ :: _ => by simp [cmpB, Go.Lib.compareBytes]
  | _ :: _, [] => by simp [cmpB, Go.Lib.compareBytes]
  | a :: l, b :: r => by
    have ih := @cmp_flip l r
    unfold cmpB Go.Lib.compareBytes
    rcases u8_tri a b with h | h | h
    · refine Or.inl ?_
      rw [if_pos h]; omega
    · subst h
      rw [if_neg (UInt8.lt_irrefl a), if_neg (UInt8.lt_irrefl a), if_neg (UInt8.lt_irrefl a), if_neg (UInt8.lt_irrefl a)]
      exact ih
    · refine Or.inr (Or.inr ?_)
      rw [if_pos h]; omega
theorem cmp_self (a : List UInt8) : cmpB a a = 0 := cmp_zero.2 rfl
theorem cmp_not {a b : List UInt8} (h : ¬ cmpB a b < 0) (hn : a ≠ b) : cmpB b a < 0 := by
  rcases @cmp_flip a b with h1 | h1 | h1
  · exact absurd h1 h
  · exact absurd (cmp_zero.1 h1) hn
  · exact h1

/-- A volume: what is told of it, its tree's place, its numbers. -/
structure Vol where
  name : List UInt8
  blocks : Int
  quota : Int
  used : Int
  frozen : Bool
  A : Option Addr
  f : Nat → Int
def Up (l : List Vol) : Prop := l.Pairwise fun x y => cmpB x.name y.name < 0
theorem Up.at {l : List Vol} (h : Up l) {i j : Nat} {x y : Vol} (hi : l[i]? = some x) (hj : l[j]? = some y) (hij : i < j) : cmpB x.name y.name < 0 := by
  obtain ⟨h1, e1⟩ := List.getElem?_eq_some_iff.1 hi
  obtain ⟨h2, e2⟩ := List.getElem?_eq_some_iff.1 hj
  have := List.pairwise_iff_getElem.1 h i j h1 h2 hij
  rw [e1, e2] at this
  exact this
/-- The place of a name: what stands ahead of it is less, what stands from it on is not. -/
structure Cut (l : List Vol) (t : List UInt8) (i : Nat) : Prop where
  le : i ≤ l.length
  lo : ∀ k x, k < i → l[k]? = some x → cmpB x.name t < 0
  hi : ∀ k x, i ≤ k → l[k]? = some x → ¬ cmpB x.name t < 0
def hasAt (l : List Vol) (i : Nat) (t : List UInt8) : Bool := match l[i]? with | some x => decide (x.name = t) | none => false
theorem hasAt_some {l : List Vol} {i : Nat} {t : List UInt8} (h : hasAt l i t = true) : ∃ x, l[i]? = some x ∧ x.name = t := by
  unfold hasAt at h
  split at h
  · rename_i x e
    exact ⟨x, e, of_decide_eq_true h⟩
  · cases h
theorem Cut.one {l : List Vol} {t : List UInt8} {i j : Nat} (h : Cut l t i) (k : Cut l t j) : i = j := by
  rcases Nat.lt_trichotomy i j with h1 | h1 | h1
  · obtain ⟨x, hx⟩ : ∃ x, l[i]? = some x := ⟨_, List.getElem?_eq_getElem (by have := k.le; omega)⟩
    exact absurd (k.lo i x h1 hx) (h.hi i x (Nat.le_refl _) hx)
  · exact h1
  · obtain ⟨x, hx⟩ : ∃ x, l[j]? = some x := ⟨_, List.getElem?_eq_getElem (by have := h.le; omega)⟩
    exact absurd (h.lo j x h1 hx) (k.hi j x (Nat.le_refl _) hx)
theorem Cut.own {l : List Vol} (hu : Up l) {j : Nat} {x : Vol} (hx : l[j]? = some x) : Cut l x.name j :=
  ⟨by have := (List.getElem?_eq_some_iff.1 hx).1; omega, fun k y hk hy => hu.at hy hx hk, fun k y hk hy => by
    rcases Nat.lt_or_ge j k with h | h
    · intro c
      have := cmp_trans (hu.at hx hy h) c
      rw [cmp_self] at this
      omega
    · obtain rfl : k = j := by omega
      rw [hx] at hy
      cases hy
      rw [cmp_self]
      omega⟩
theorem Cut.has {l : List Vol} (hu : Up l) {j i : Nat} {x : Vol} (hx : l[j]? = some x) (h : Cut l x.name i) : i = j ∧ hasAt l i x.name = true := by
  obtain rfl := h.one (Cut.own hu hx)
  exact ⟨rfl, by unfold hasAt; rw [hx]; simp⟩
theorem Cut.none {l : List Vol} (hu : Up l) {i : Nat} {t : List UInt8} (h : Cut l t i) (hn : hasAt l i t = false) : ∀ x ∈ l, x.name ≠ t := fun x hx e => by
  obtain ⟨j, hj⟩ := List.getElem?_of_mem hx
  subst e
  have := (h.has hu hj).2
  rw [hn] at this
  cases this
/-- A volume put in: in place of the one of its name, or at its place. -/
def putV (l : List Vol) (i : Nat) (v : Vol) : List Vol := if hasAt l i v.name = true then l.set i v else l.take i ++ v :: l.drop i
theorem up_set {l : List Vol} (hu : Up l) {i : Nat} {x v : Vol} (hx : l[i]? = some x) (hn : v.name = x.name) : Up (l.set i v) := by
  unfold Up
  rw [List.pairwise_iff_getElem]
  intro a b ha hb hab
  rw [List.length_set] at ha hb
  have h1 : l[i]? = some x := hx
  rw [List.getElem_set, List.getElem_set]
  have key := fun (p q : Nat) (hp : p < l.length) (hq : q < l.length) (h : p < q) => List.pairwise_iff_getElem.1 hu p q hp hq h
  obtain ⟨hi, ei⟩ := List.getElem?_eq_some_iff.1 hx
  split
  · split
    · omega
    · rename_i e1 e2
      rw [hn, ← ei]
      subst e1
      exact key _ _ hi hb hab
  · split
    · rename_i e1 e2
      rw [hn, ← ei]
      subst e2
      exact key _ _ ha hi hab
    · exact key _ _ ha hb hab
theorem up_insert {l : List Vol} (hu : Up l) {i : Nat} {v : Vol} (h : Cut l v.name i) (hn : hasAt l i v.name = false) : Up (l.take i ++ v :: l.drop i) := by
  have hne := h.none hu hn
  unfold Up
  rw [List.pairwise_append]
  refine ⟨List.Pairwise.sublist (List.take_sublist _ _) hu, ?_, ?_⟩
  · rw [List.pairwise_cons]
    refine ⟨fun y hy => ?_, List.Pairwise.sublist (List.drop_sublist _ _) hu⟩
    obtain ⟨k, hk⟩ := List.getElem?_of_mem hy
    rw [List.getElem?_drop] at hk
    exact cmp_not (h.hi _ y (by omega) hk) (hne y (List.mem_of_getElem? hk))
  · intro x hx y hy
    obtain ⟨k, hk⟩ := List.getElem?_of_mem hx
    have hki : k < i := by
      have := (List.getElem?_eq_some_iff.1 hk).1
      rw [List.length_take] at this
      omega
    rw [List.getElem?_take, if_pos hki] at hk
    rcases List.mem_cons.1 hy with rfl | hy
    · exact h.lo k x hki hk
    · obtain ⟨j, hj⟩ := List.getElem?_of_mem hy
      rw [List.getElem?_drop] at hj
      exact hu.at hk hj (by omega)
theorem up_put {l : List Vol} (hu : Up l) {i : Nat} {v : Vol} (h : Cut l v.name i) : Up (putV l i v) := by
  unfold putV
  split
  · rename_i hh
    obtain ⟨x, hx, e⟩ := hasAt_some hh
    exact up_set hu hx e.symm
  · rename_i hh
    exact up_insert hu h (by simpa using hh)
theorem put_mem {l : List Vol} {i : Nat} {v x : Vol} (h : x ∈ putV l i v) : x = v ∨ x ∈ l := by
  unfold putV at h
  split at h
  · exact (List.mem_or_eq_of_mem_set h).symm
  · rcases List.mem_append.1 h with h | h
    · exact Or.inr (List.mem_of_mem_take h)
    · rcases List.mem_cons.1 h with h | h
      · exact Or.inl h
      · exact Or.inr (List.mem_of_mem_drop h)
theorem put_len {l : List Vol} {i : Nat} {v : Vol} (hi : i ≤ l.length) : (putV l i v).length = if hasAt l i v.name = true then l.length else l.length + 1 := by
  unfold putV
  split
  · exact List.length_set
  · simp
    omega
end Go.Proofs.Ytnnadhfpkplncaa


/- strings.Compare, strings.IndexFunc, maps.Keys, slices.Sorted and slices.Sort at this translation, by the library's contracts (written by the shelf's lay-plain). Condition: what the map and the slice's cells hold. -/
namespace Go.Proofs
open Go.Shelf
def Try.lays106_ren : Go.Shelf.Ren := ⟨fun | 106 => 71 | 213 => 96 | 265 => 107 | n => n, fun | 9 => 9 | 3 => 3 | n => n, fun | n => n⟩
theorem Try.lays106 : Go.Proofs.Lays.n106 Try.prog Try.lays106_ren := {
  mixed := by kernel_rfl
  f106 := Try.func71.trans (congrArg some (by kernel_rfl))
  f213 := Try.func96.trans (congrArg some (by kernel_rfl))
  f265 := Try.func107.trans (congrArg some (by kernel_rfl))
  t3 := Try.underlying3
  a3 := Try.isAgg3
  z3 := Try.sizeOf3
  v3 := Try.zeroValue3
  t9 := Try.underlying9
  a9 := Try.isAgg9
  z9 := Try.sizeOf9
  v9 := Try.zeroValue9 }
def Try.laysGw15_ren : Go.Shelf.Ren := ⟨fun | 15 => 72 | 20 => 97 | n => n, fun | 9 => 9 | 23 => 131 | 3 => 3 | 4 => 4 | 0 => 0 | 21 => 21 | n => n, fun | n => n⟩
theorem Try.laysGw15 : Go.Proofs.LaysGw.n15 Try.prog Try.laysGw15_ren := {
  mixed := by kernel_rfl
  f15 := Try.func72.trans (congrArg some (by kernel_rfl))
  f20 := Try.func97.trans (congrArg some (by kernel_rfl))
  t0 := Try.underlying0
  a0 := Try.isAgg0
  z0 := Try.sizeOf0
  v0 := Try.zeroValue0
  i0 := by kernel_rfl
  t3 := Try.underlying3
  a3 := Try.isAgg3
  z3 := Try.sizeOf3
  v3 := Try.zeroValue3
  i3 := by kernel_rfl
  t4 := Try.underlying4
  a4 := Try.isAgg4
  z4 := Try.sizeOf4
  v4 := Try.zeroValue4
  i4 := by kernel_rfl
  t9 := Try.underlying9
  a9 := Try.isAgg9
  z9 := Try.sizeOf9
  v9 := Try.zeroValue9
  i9 := by kernel_rfl
  t21 := Try.underlying21
  a21 := Try.isAgg21
  z21 := Try.sizeOf21
  v21 := Try.zeroValue21
  i21 := by kernel_rfl
  t23 := Try.underlying131
  a23 := Try.isAgg131
  z23 := Try.sizeOf131
  v23 := Try.zeroValue131
  i23 := by kernel_rfl }
def Try.keys57_ren : Go.Shelf.Ren := ⟨fun | 7 => 57 | 10 => 76 | n => n, fun | 23 => 109 | 26 => 3 | 3 => 3 | 28 => 113 | 0 => 0 | 27 => 112 | 33 => 75 | 4 => 4 | n => n, fun | n => n⟩
theorem Try.keys57 : Go.Proofs.SlLaysZI.n7 Try.prog Try.keys57_ren := {
  mixed := by kernel_rfl
  f7 := ⟨Try.f57.name, by decide, Try.func57.trans (congrArg some (by kernel_rfl))⟩
  f10 := ⟨Try.f76.name, by decide, Try.func76.trans (congrArg some (by kernel_rfl))⟩
  t0 := Try.underlying0
  a0 := Try.isAgg0
  z0 := Try.sizeOf0
  v0 := Try.zeroValue0
  t4 := Try.underlying4
  a4 := Try.isAgg4
  z4 := Try.sizeOf4
  v4 := Try.zeroValue4
  t23 := Try.underlying109
  a23 := Try.isAgg109
  z23 := Try.sizeOf109
  v23 := Try.zeroValue109
  t26 := Try.underlying3
  a26 := Try.isAgg3
  z26 := Try.sizeOf3
  v26 := Try.zeroValue3
  t27 := Try.underlying112
  a27 := Try.isAgg112
  z27 := Try.sizeOf112
  v27 := Try.zeroValue112
  t28 := Try.underlying113
  a28 := Try.isAgg113
  z28 := Try.sizeOf113
  v28 := Try.zeroValue113
  t33 := Try.underlying75
  a33 := Try.isAgg75
  z33 := Try.sizeOf75
  v33 := Try.zeroValue75 }
def Try.sorted56_ren : Go.Shelf.Ren := ⟨fun | 6 => 56 | 8 => 75 | 9 => 41 | 11 => 98 | 13 => 67 | 12 => 66 | 23 => 92 | 24 => 93 | 14 => 83 | 15 => 84 | 16 => 85 | 17 => 86 | 18 => 87 | 19 => 88 | 20 => 89 | 21 => 90 | 22 => 91 | 25 => 100 | 26 => 101 | 27 => 102 | 28 => 103 | 29 => 104 | 30 => 105 | 31 => 108 | n => n, fun | 26 => 3 | 28 => 113 | 24 => 32 | 0 => 0 | 3 => 3 | 37 => 54 | 48 => 140 | 50 => 118 | 4 => 4 | 40 => 144 | 39 => 143 | 45 => 98 | 5 => 5 | 9 => 9 | 51 => 155 | 55 => 159 | 57 => 161 | 58 => 162 | 33 => 75 | n => n, fun | n => n⟩
theorem Try.sorted56 : Go.Proofs.SlLaysZI.n6 Try.prog Try.sorted56_ren := {
  mixed := by kernel_rfl
  f6 := ⟨Try.f56.name, by decide, Try.func56.trans (congrArg some (by kernel_rfl))⟩
  f8 := ⟨Try.f75.name, by decide, Try.func75.trans (congrArg some (by kernel_rfl))⟩
  f11 := ⟨Try.f98.name, by decide, Try.func98.trans (congrArg some (by kernel_rfl))⟩
  t0 := Try.underlying0
  a0 := Try.isAgg0
  z0 := Try.sizeOf0
  v0 := Try.zeroValue0
  t24 := Try.underlying32
  a24 := Try.isAgg32
  z24 := Try.sizeOf32
  v24 := Try.zeroValue32
  t26 := Try.underlying3
  a26 := Try.isAgg3
  z26 := Try.sizeOf3
  v26 := Try.zeroValue3
  t28 := Try.underlying113
  a28 := Try.isAgg113
  z28 := Try.sizeOf113
  v28 := Try.zeroValue113
  i26 := by kernel_rfl }
def Try.sort41_ren : Go.Shelf.Ren := ⟨fun | 5 => 41 | 8 => 67 | 7 => 66 | 19 => 92 | 20 => 93 | 10 => 83 | 11 => 84 | 12 => 85 | 13 => 86 | 14 => 87 | 15 => 88 | 16 => 89 | 17 => 90 | 18 => 91 | 30 => 100 | 31 => 101 | 32 => 102 | 33 => 103 | 34 => 104 | 35 => 105 | 40 => 108 | n => n, fun | 23 => 32 | 25 => 3 | 3 => 3 | 32 => 54 | 22 => 32 | 0 => 0 | 44 => 140 | 46 => 118 | 4 => 4 | 36 => 144 | 35 => 143 | 41 => 98 | 5 => 5 | 9 => 9 | 53 => 155 | 57 => 159 | 63 => 161 | 64 => 162 | n => n, fun | n => n⟩
theorem Try.sort41 : Go.Proofs.SlLaysM.n5 Try.prog Try.sort41_ren := {
  mixed := by kernel_rfl
  f5 := ⟨Try.f41.name, by decide, Try.func41.trans (congrArg some (by kernel_rfl))⟩
  f7 := ⟨Try.f66.name, by decide, Try.func66.trans (congrArg some (by kernel_rfl))⟩
  f8 := Try.func67.trans (congrArg some (by kernel_rfl))
  f10 := ⟨Try.f83.name, by decide, Try.func83.trans (congrArg some (by kernel_rfl))⟩
  f11 := ⟨Try.f84.name, by decide, Try.func84.trans (congrArg some (by kernel_rfl))⟩
  f12 := ⟨Try.f85.name, by decide, Try.func85.trans (congrArg some (by kernel_rfl))⟩
  f13 := ⟨Try.f86.name, by decide, Try.func86.trans (congrArg some (by kernel_rfl))⟩
  f14 := ⟨Try.f87.name, by decide, Try.func87.trans (congrArg some (by kernel_rfl))⟩
  f15 := ⟨Try.f88.name, by decide, Try.func88.trans (congrArg some (by kernel_rfl))⟩
  f16 := ⟨Try.f89.name, by decide, Try.func89.trans (congrArg some (by kernel_rfl))⟩
  f17 := ⟨Try.f90.name, by decide, Try.func90.trans (congrArg some (by kernel_rfl))⟩
  f18 := ⟨Try.f91.name, by decide, Try.func91.trans (congrArg some (by kernel_rfl))⟩
  f19 := Try.func92.trans (congrArg some (by kernel_rfl))
  f20 := Try.func93.trans (congrArg some (by kernel_rfl))
  f30 := ⟨Try.f100.name, by decide, Try.func100.trans (congrArg some (by kernel_rfl))⟩
  f31 := Try.func101.trans (congrArg some (by kernel_rfl))
  f32 := Try.func102.trans (congrArg some (by kernel_rfl))
  f33 := ⟨Try.f103.name, by decide, Try.func103.trans (congrArg some (by kernel_rfl))⟩
  f34 := ⟨Try.f104.name, by decide, Try.func104.trans (congrArg some (by kernel_rfl))⟩
  f35 := ⟨Try.f105.name, by decide, Try.func105.trans (congrArg some (by kernel_rfl))⟩
  f40 := ⟨Try.f108.name, by decide, Try.func108.trans (congrArg some (by kernel_rfl))⟩
  t0 := Try.underlying0
  a0 := Try.isAgg0
  z0 := Try.sizeOf0
  v0 := Try.zeroValue0
  t3 := Try.underlying3
  a3 := Try.isAgg3
  z3 := Try.sizeOf3
  v3 := Try.zeroValue3
  t4 := Try.underlying4
  a4 := Try.isAgg4
  z4 := Try.sizeOf4
  v4 := Try.zeroValue4
  t5 := Try.underlying5
  a5 := Try.isAgg5
  z5 := Try.sizeOf5
  v5 := Try.zeroValue5
  t9 := Try.underlying9
  a9 := Try.isAgg9
  z9 := Try.sizeOf9
  v9 := Try.zeroValue9
  t22 := Try.underlying32
  a22 := Try.isAgg32
  z22 := Try.sizeOf32
  v22 := Try.zeroValue32
  t23 := Try.underlying32
  a23 := Try.isAgg32
  z23 := Try.sizeOf32
  v23 := Try.zeroValue32
  t25 := Try.underlying3
  a25 := Try.isAgg3
  z25 := Try.sizeOf3
  v25 := Try.zeroValue3
  t32 := Try.underlying54
  a32 := Try.isAgg54
  z32 := Try.sizeOf54
  v32 := Try.zeroValue54
  t35 := Try.underlying143
  a35 := Try.isAgg143
  z35 := Try.sizeOf143
  v35 := Try.zeroValue143
  t36 := Try.underlying144
  a36 := Try.isAgg144
  z36 := Try.sizeOf144
  v36 := Try.zeroValue144
  t41 := Try.underlying98
  a41 := Try.isAgg98
  z41 := Try.sizeOf98
  v41 := Try.zeroValue98
  t44 := Try.underlying140
  a44 := Try.isAgg140
  z44 := Try.sizeOf140
  v44 := Try.zeroValue140
  t46 := Try.underlying118
  a46 := Try.isAgg118
  z46 := Try.sizeOf118
  v46 := Try.zeroValue118
  t53 := Try.underlying155
  a53 := Try.isAgg155
  z53 := Try.sizeOf155
  v53 := Try.zeroValue155
  t57 := Try.underlying159
  a57 := Try.isAgg159
  z57 := Try.sizeOf159
  v57 := Try.zeroValue159
  t63 := Try.underlying161
  a63 := Try.isAgg161
  z63 := Try.sizeOf161
  v63 := Try.zeroValue161
  t64 := Try.underlying162
  a64 := Try.isAgg162
  z64 := Try.sizeOf162
  v64 := Try.zeroValue162 }
end Go.Proofs


/- slices.Sort of whole numbers at this translation, by the library's contract (written by the shelf's lay-plain, cut to this one). Condition: what the slice's cells hold. -/
namespace Go.Proofs
open Go.Shelf
def Try.lays189_ren : Go.Shelf.Ren := ⟨fun | 189 => 41 | 125 => 67 | 257 => 66 | 128 => 92 | 129 => 93 | 294 => 83 | 295 => 84 | 296 => 85 | 297 => 86 | 298 => 87 | 299 => 88 | 216 => 89 | 300 => 90 | 301 => 91 | 328 => 100 | 329 => 101 | 330 => 102 | 331 => 103 | 332 => 104 | 215 => 105 | 343 => 108 | n => n, fun | 28 => 32 | 3 => 3 | 46 => 54 | 0 => 0 | 51 => 140 | 53 => 118 | 4 => 4 | 183 => 144 | 182 => 143 | 131 => 98 | 5 => 5 | 9 => 9 | 218 => 155 | 222 => 159 | 228 => 161 | 229 => 162 | n => n, fun | n => n⟩
theorem Try.lays189 : Go.Proofs.Lays.n189 Try.prog Try.lays189_ren := {
  mixed := by kernel_rfl
  f125 := Try.func67.trans (congrArg some (by kernel_rfl))
  f128 := Try.func92.trans (congrArg some (by kernel_rfl))
  f129 := Try.func93.trans (congrArg some (by kernel_rfl))
  f189 := Try.func41.trans (congrArg some (by kernel_rfl))
  f215 := Try.func105.trans (congrArg some (by kernel_rfl))
  f216 := Try.func89.trans (congrArg some (by kernel_rfl))
  f257 := Try.func66.trans (congrArg some (by kernel_rfl))
  f294 := Try.func83.trans (congrArg some (by kernel_rfl))
  f295 := Try.func84.trans (congrArg some (by kernel_rfl))
  f296 := Try.func85.trans (congrArg some (by kernel_rfl))
  f297 := Try.func86.trans (congrArg some (by kernel_rfl))
  f298 := Try.func87.trans (congrArg some (by kernel_rfl))
  f299 := Try.func88.trans (congrArg some (by kernel_rfl))
  f300 := Try.func90.trans (congrArg some (by kernel_rfl))
  f301 := Try.func91.trans (congrArg some (by kernel_rfl))
  f328 := Try.func100.trans (congrArg some (by kernel_rfl))
  f329 := Try.func101.trans (congrArg some (by kernel_rfl))
  f330 := Try.func102.trans (congrArg some (by kernel_rfl))
  f331 := Try.func103.trans (congrArg some (by kernel_rfl))
  f332 := Try.func104.trans (congrArg some (by kernel_rfl))
  f343 := Try.func108.trans (congrArg some (by kernel_rfl))
  t0 := Try.underlying0
  a0 := Try.isAgg0
  z0 := Try.sizeOf0
  v0 := Try.zeroValue0
  t3 := Try.underlying3
  a3 := Try.isAgg3
  z3 := Try.sizeOf3
  v3 := Try.zeroValue3
  t4 := Try.underlying4
  a4 := Try.isAgg4
  z4 := Try.sizeOf4
  v4 := Try.zeroValue4
  t5 := Try.underlying5
  a5 := Try.isAgg5
  z5 := Try.sizeOf5
  v5 := Try.zeroValue5
  t9 := Try.underlying9
  a9 := Try.isAgg9
  z9 := Try.sizeOf9
  v9 := Try.zeroValue9
  t28 := Try.underlying32
  a28 := Try.isAgg32
  z28 := Try.sizeOf32
  v28 := Try.zeroValue32
  t46 := Try.underlying54
  a46 := Try.isAgg54
  z46 := Try.sizeOf54
  v46 := Try.zeroValue54
  t51 := Try.underlying140
  a51 := Try.isAgg140
  z51 := Try.sizeOf140
  v51 := Try.zeroValue140
  t53 := Try.underlying118
  a53 := Try.isAgg118
  z53 := Try.sizeOf118
  v53 := Try.zeroValue118
  t131 := Try.underlying98
  a131 := Try.isAgg98
  z131 := Try.sizeOf98
  v131 := Try.zeroValue98
  t182 := Try.underlying143
  a182 := Try.isAgg143
  z182 := Try.sizeOf143
  v182 := Try.zeroValue143
  t183 := Try.underlying144
  a183 := Try.isAgg144
  z183 := Try.sizeOf144
  v183 := Try.zeroValue144
  t218 := Try.underlying155
  a218 := Try.isAgg155
  z218 := Try.sizeOf155
  v218 := Try.zeroValue155
  t222 := Try.underlying159
  a222 := Try.isAgg159
  z222 := Try.sizeOf159
  v222 := Try.zeroValue159
  t228 := Try.underlying161
  a228 := Try.isAgg161
  z228 := Try.sizeOf161
  v228 := Try.zeroValue161
  t229 := Try.underlying162
  a229 := Try.isAgg162
  z229 := Try.sizeOf162
  v229 := Try.zeroValue162 }
open Go.Sort Go.RowKit in
theorem Try.slices_Sort_int (blk off cap : Nat) (zs : List Int) (w : World) (hH : Holds (Value.int .i64) w blk off zs.toArray) (hblk : blk < w.heap.size) (hsz : zs.length < 4611686018427387904) :
    Calls Try.prog 41 #[.slice (some ⟨blk, off, none⟩) zs.length cap] w fun e w' =>
      e = .returned (.tuple #[]) ∧ ∃ n os, w' = grow (putRow (Value.int .i64) (Sort.ahead w n) blk off (zs.mergeSort fun x y => decide (x ≤ y)).toArray) os := Any.slices_Sort_int Try.lays189 blk off cap zs w hH hblk hsz
open Go.RowKit Go.Sort in
/-- .. and plain. (LAID: no walk: one application.) -/
theorem Try.slices_Sort_int_none (p : Option Addr) (cap : Nat) (w : World) :
    Calls Try.prog 41 #[.slice p 0 cap] w fun e w' => e = .returned (.tuple #[]) ∧ w' = w := Any.slices_Sort_int_none Try.lays189 p cap w
end Go.Proofs


/- Trees as they lie: a node is there just where a number is. No condition of its own. -/
namespace Go.Proofs.Ytnnadhfpkplncaa
open Go.RowKit

theorem cell_lt {w : World} {b o : Nat} {v : Value} (h : w.cell? ⟨b, o, none⟩ = some v) : b < w.heap.size := by
  rcases Nat.lt_or_ge b w.heap.size with hlt | hge
  · exact hlt
  · simp [World.cell?, Array.getElem?_eq_none hge] at h
theorem block_cell {g o : Nat} {w : World} {cs : Array Value} {T : TypeId} (hg : w.heap[g]? = some (.cells cs T (0, 0))) : w.cell? ⟨g, o, none⟩ = cs[o]? := by simp [World.cell?, hg]
theorem block_free {g o : Nat} {w : World} {cs : Array Value} {T : TypeId} (hg : w.heap[g]? = some (.cells cs T (0, 0))) : w.frozen? ⟨g, o, none⟩ = false := by simp [World.frozen?, hg]
theorem block_lt {g : Nat} {w : World} {o : Obj} (hg : w.heap[g]? = some o) : g < w.heap.size := (Array.getElem?_eq_some_iff.1 hg).1
/-- A node's cells: sixteen arms, sixteen numbers. -/
def nodeC (ps : List (Option Addr)) (ns : List Int) : Array Value := (ps.map Value.pointer ++ ns.map (Value.int .i64)).toArray
theorem nodeC_arm {ps : List (Option Addr)} {ns : List Int} {i : Nat} {p : Option Addr} (h : ps[i]? = some p) : (nodeC ps ns)[i]? = some (.pointer p) := by
  have hi := (List.getElem?_eq_some_iff.1 h).1
  simp only [nodeC, List.getElem?_toArray]
  rw [List.getElem?_append_left (by simpa using hi), List.getElem?_map, h]; rfl
theorem nodeC_num {ps : List (Option Addr)} {ns : List Int} {i : Nat} {n : Int} (hl : ps.length = 16) (h : ns[i]? = some n) : (nodeC ps ns)[16 + i]? = some (.int .i64 n) := by
  simp only [nodeC, List.getElem?_toArray]
  rw [List.getElem?_append_right (by simp [hl]), List.length_map, hl, Nat.add_sub_cancel_left, List.getElem?_map, h]; rfl
/-- How many places a node of depth d has (0: the last rank). -/
def span : Nat → Nat
  | 0 => 16
  | d + 1 => 16 * span d
/-- Has the group g of depth d no number? -/
def Bare (d g : Nat) (f : Nat → Int) : Prop := ∀ i, i < span d → f (g * span d + i) = 0
/-- A node's address. -/
def ptr (o : Option Nat) : Option Addr := o.map fun b => ⟨b, 0, none⟩
/-- The arms of the group g of depth d + 1; the numbers of the group g of depth 0. -/
def armC (S : Nat → Nat → Option Nat) (d g : Nat) : List (Option Addr) := (List.range 16).map fun i => ptr (S d (g * 16 + i))
def numC (f : Nat → Int) (g : Nat) : List Int := (List.range 16).map fun i => f (g * 16 + i)
/-- The nodes of the depths up to D are those of f: S tells which block is whose, and none where there is no number. -/
structure RdD (D : Nat) (f : Nat → Int) (S : Nat → Nat → Option Nat) (w : World) : Prop where
  far : ∀ a, 4096 ≤ a → f a = 0
  can : ∀ d g, d ≤ D → (S d g = none ↔ Bare d g f)
  leaf : ∀ g b, S 0 g = some b → w.heap[b]? = some (.cells (nodeC (List.replicate 16 none) (numC f g)) 87 (0, 0))
  node : ∀ d g b, d + 1 ≤ D → S (d + 1) g = some b → w.heap[b]? = some (.cells (nodeC (armC S d g) (List.replicate 16 0)) 87 (0, 0))
theorem RdD.below {D : Nat} {f : Nat → Int} {S : Nat → Nat → Option Nat} {w w' : World} (h : RdD D f S w) (k : Below w.heap.size w w') : RdD D f S w' :=
  ⟨h.far, h.can, fun g b e => (k.block b (block_lt (h.leaf g b e))).trans (h.leaf g b e), fun d g b hd e => (k.block b (block_lt (h.node d g b hd e))).trans (h.node d g b hd e)⟩
theorem RdD.le {D E : Nat} {f : Nat → Int} {S : Nat → Nat → Option Nat} {w : World} (h : RdD D f S w) (he : E ≤ D) : RdD E f S w :=
  ⟨h.far, fun d g hd => h.can d g (by omega), h.leaf, fun d g b hd => h.node d g b (by omega)⟩
/-- A tree: nil, or its root. -/
def RdR (f : Nat → Int) (S : Nat → Nat → Option Nat) (w : World) (A : Option Addr) : Prop :=
  RdD 2 f S w ∧ ((S 2 0 = none ∧ A = none) ∨ ∃ b r, S 2 0 = some b ∧ A = some ⟨r, 0, none⟩ ∧ w.heap[r]? = some (.cells #[.pointer (some ⟨b, 0, none⟩)] 80 (0, 0)))
theorem RdR.below {f : Nat → Int} {S : Nat → Nat → Option Nat} {w w' : World} {A : Option Addr} (h : RdR f S w A) (k : Below w.heap.size w w') : RdR f S w' A := by
  obtain ⟨h0, h⟩ := h
  refine ⟨h0.below k, ?_⟩
  rcases h with h | ⟨b, r, e, ea, hb⟩
  · exact Or.inl h
  · exact Or.inr ⟨b, r, e, ea, (k.block r (block_lt hb)).trans hb⟩
end Go.Proofs.Ytnnadhfpkplncaa


/- Which arm leads to a place; is a place one; a tree's root. No condition but that the place is one, that the tree reads. -/
namespace Go.Proofs.Ytnnadhfpkplncaa
open Go.RowKit

set_option maxRecDepth 100000 in
theorem arm_any (r a : Nat) (hr : r ≤ 2) (ha : a ≤ 4095) (w : World) : Calls Try.prog 39 #[.int .i64 r, .int .i64 a] w fun e w' => e = .returned (.int .i64 ((a / 16 ^ (2 - r) % 16 : Nat) : Int)) ∧ w = w' := by
  obtain ⟨q, hq⟩ : ∃ q, a / 16 ^ (2 - r) % 16 = q := ⟨_, rfl⟩
  rw [hq]
  have HQ := Lib.hid hq
  clear hq
  go_enter Try.func39, Try.ntmps39
  go_wp2
  go_loop [1, 7] (fun x i => ∃ k : Nat, k ≤ 2 - r ∧ i = .int .i64 k ∧ x = .int .i64 ((a / 16 ^ k : Nat) : Int)) (fun _ i => 2 - r - (intOf i).toNat)
  case atStart => exact ⟨0, by omega, rfl, by simp⟩
  case round =>
    obtain ⟨k, hk, rfl, rfl⟩ := hrel
    have hle : a / 16 ^ k ≤ 4095 := Nat.le_trans (Nat.div_le_self _ _) ha
    by_cases hlt : k < 2 - r
    · have hs : a / 16 ^ (k + 1) = a / 16 ^ k / 16 := by rw [Nat.pow_succ, Nat.div_div_eq_div_mul]
      have HS := Lib.hid hs
      clear hs
      generalize a / 16 ^ k = x at *
      have hki : (k : Int) < 2 - (r : Int) := by omega
      go_wp2
      refine ⟨⟨k + 1, by omega, by go_num, ?_⟩, by simp [intOf]; omega⟩
      rw [HS.out]
      go_num
    · have hki : ¬ (k : Int) < 2 - (r : Int) := by omega
      obtain rfl : k = 2 - r := by omega
      have hq := HQ.out
      generalize a / 16 ^ (2 - r) = x at *
      have HQ2 := Lib.hid hq
      clear hq HQ
      go_wp2
      go_ret
      refine ⟨?_, rfl⟩
      rw [← HQ2.out]
      go_num
theorem has_any (z : Int) (w : World) : Calls Try.prog 35 #[.int .i64 z] w fun e w' => e = .returned (.bool (decide (0 ≤ z ∧ z ≤ 4095))) ∧ w = w' := by
  go_enter Try.func35, Try.ntmps35
  by_cases h1 : 0 ≤ z
  · by_cases h2 : z < 4096
    · have e : decide (0 ≤ z ∧ z ≤ 4095) = true := decide_eq_true ⟨h1, by omega⟩
      rw [e]
      go_wp2
      go_ret
      exact ⟨rfl, rfl⟩
    · have e : decide (0 ≤ z ∧ z ≤ 4095) = false := decide_eq_false (by omega)
      rw [e]
      go_wp2
      go_ret
      exact ⟨rfl, rfl⟩
  · have e : decide (0 ≤ z ∧ z ≤ 4095) = false := decide_eq_false (by omega)
    rw [e]
    go_wp2
    go_ret
    exact ⟨rfl, rfl⟩
theorem of_any (f : Nat → Int) (S : Nat → Nat → Option Nat) (A : Option Addr) (w : World) (h : RdR f S w A) : Calls Try.prog 36 #[.pointer A] w fun e w' => e = .returned (.pointer (ptr (S 2 0))) ∧ w = w' := by
  obtain ⟨h0, h⟩ := h
  clear h0
  rcases h with ⟨hb, rfl⟩ | ⟨b, r, hs, rfl, hc⟩
  · rw [hb]
    clear hb
    go_enter Try.func36, Try.ntmps36
    go_wp2
    go_ret
    exact ⟨rfl, rfl⟩
  · rw [hs]
    have hc0 : w.cell? ⟨r, 0, none⟩ = some (.pointer (some ⟨b, 0, none⟩)) := block_cell hc
    clear hs hc
    go_enter Try.func36, Try.ntmps36
    go_wp2
    go_ret
    exact ⟨rfl, rfl⟩
end Go.Proofs.Ytnnadhfpkplncaa


/- The number at a place of a tree. No condition but that the tree reads. -/
namespace Go.Proofs.Ytnnadhfpkplncaa
open Go.RowKit

theorem span_eq (d : Nat) : span d = 16 ^ (d + 1) := by
  induction d with
  | zero => rfl
  | succ d ih => rw [span, ih, Nat.pow_succ 16 (d + 1), Nat.mul_comm]
theorem Bare.get {d a : Nat} {f : Nat → Int} (h : Bare d (a / 16 ^ (d + 1)) f) : f a = 0 := by
  have h1 := h (a % 16 ^ (d + 1)) (by rw [span_eq]; exact Nat.mod_lt _ (Nat.pow_pos (by decide)))
  rw [span_eq, Nat.mul_comm, Nat.div_add_mod] at h1
  exact h1
theorem arm_group (a d : Nat) : a / 16 ^ (d + 1) * 16 + a / 16 ^ d % 16 = a / 16 ^ d := by
  rw [Nat.pow_succ, ← Nat.div_div_eq_div_mul, Nat.mul_comm]
  exact Nat.div_add_mod _ _
theorem armC_at {S : Nat → Nat → Option Nat} {d g i : Nat} (hi : i < 16) : (armC S d g)[i]? = some (ptr (S d (g * 16 + i))) := by
  unfold armC
  rw [List.getElem?_map, List.getElem?_range hi]; rfl
theorem numC_at {f : Nat → Int} {g i : Nat} (hi : i < 16) : (numC f g)[i]? = some (f (g * 16 + i)) := by
  unfold numC
  rw [List.getElem?_map, List.getElem?_range hi]; rfl
@[simp] theorem armC_len {S : Nat → Nat → Option Nat} {d g : Nat} : (armC S d g).length = 16 := by simp [armC]
@[simp] theorem numC_len {f : Nat → Int} {g : Nat} : (numC f g).length = 16 := by simp [numC]
/-- A node of a rank ahead of the last: its arm to a place. -/
theorem RdD.arm {D d a : Nat} {f : Nat → Int} {S : Nat → Nat → Option Nat} {w : World} (h : RdD D f S w) (hd : d + 1 ≤ D) :
    (ptr (S (d + 1) (a / 16 ^ (d + 2))) = none ∧ f a = 0) ∨ ∃ b, ptr (S (d + 1) (a / 16 ^ (d + 2))) = some ⟨b, 0, none⟩ ∧ w.cell? ⟨b, a / 16 ^ (d + 1) % 16, none⟩ = some (.pointer (ptr (S d (a / 16 ^ (d + 1))))) := by
  cases hs : S (d + 1) (a / 16 ^ (d + 2)) with
  | none => exact Or.inl ⟨rfl, ((h.can _ _ hd).1 hs).get⟩
  | some b =>
    refine Or.inr ⟨b, rfl, (block_cell (h.node _ _ _ hd hs)).trans (nodeC_arm ?_)⟩
    rw [armC_at (Nat.mod_lt _ (by decide)), arm_group a (d + 1)]
theorem RdD.num {D a : Nat} {f : Nat → Int} {S : Nat → Nat → Option Nat} {w : World} (h : RdD D f S w) :
    (ptr (S 0 (a / 16)) = none ∧ f a = 0) ∨ ∃ b, ptr (S 0 (a / 16)) = some ⟨b, 0, none⟩ ∧ w.cell? ⟨b, 16 + a % 16, none⟩ = some (.int .i64 (f a)) := by
  cases hs : S 0 (a / 16) with
  | none => exact Or.inl ⟨rfl, Bare.get (d := 0) (by simpa using (h.can 0 _ (Nat.zero_le _)).1 hs)⟩
  | some b =>
    refine Or.inr ⟨b, rfl, (block_cell (h.leaf _ _ hs)).trans (nodeC_num (by simp) ?_)⟩
    rw [numC_at (Nat.mod_lt _ (by decide)), Nat.mul_comm, Nat.div_add_mod]
/-- What Get answers. -/
def getF (f : Nat → Int) (z : Int) : Int := if 0 ≤ z ∧ z ≤ 4095 then f z.toNat else 0
set_option maxRecDepth 100000 in
set_option maxHeartbeats 1600000 in
theorem get_any (f : Nat → Int) (S : Nat → Nat → Option Nat) (A : Option Addr) (z : Int) (w : World) (h : RdR f S w A) : Calls Try.prog 13 #[.pointer A, .int .i64 z] w fun e w' => e = .returned (.int .i64 (getF f z)) ∧ Below w.heap.size w w' := by
  by_cases hz : 0 ≤ z ∧ z ≤ 4095
  · obtain ⟨a, rfl⟩ := Int.eq_ofNat_of_zero_le hz.1
    have ha : a ≤ 4095 := by omega
    have hget : getF f (a : Int) = f a := by unfold getF; rw [if_pos hz]; rfl
    rw [hget]
    have HH := Lib.hid (has_any (a : Int) w)
    rw [decide_eq_true hz] at HH
    clear hget hz
    go_enter Try.func13, Try.ntmps13
    go_wp2_with fail
    refine (of_any f S A w h).mono ?_
    rintro e w' ⟨rfl, rfl⟩
    have HR := Lib.hid h.1
    clear h
    obtain ⟨R, hR⟩ : ∃ R, R = ptr (S 2 0) := ⟨_, rfl⟩
    rw [← hR]
    have HR0 := Lib.hid hR
    clear hR
    go_wp2_with fail
    refine HH.out.mono ?_
    rintro e w' ⟨rfl, rfl⟩
    clear HH
    go_wp2
    go_loopw [5, 6, 12] (fun x _ i wr => ∃ (k : Nat) (X : Option Addr), k ≤ 2 ∧ i = .int .i64 k ∧ x = .pointer X ∧ Below w.heap.size w wr ∧ Hid (X = ptr (S (2 - k) (a / 16 ^ (3 - k))))) (fun _ _ i _ => 2 - (intOf i).toNat)
    case atStart =>
      refine ⟨0, R, by omega, rfl, rfl, Below.refl _ _, ?_⟩
      have := HR0.out
      rw [show (0 : Nat) = a / 16 ^ (3 - 0) by omega] at this
      exact this
    case round =>
      obtain ⟨k, X, hk, rfl, rfl, hb, hx⟩ := hrel
      by_cases hlt : k < 2
      · have hki : (k : Int) < 2 := by omega
        obtain ⟨d, hd⟩ : ∃ d, d = 1 - k := ⟨_, rfl⟩
        have e2 : 2 - k = d + 1 := by omega
        have e3 : 3 - k = d + 2 := by omega
        have hx' := hx.out
        rw [e2, e3] at hx'
        have harm : ∀ w, Calls Try.prog 39 #[.int .i64 k, .int .i64 a] w fun e w' => e = .returned (.int .i64 ((a / 16 ^ (d + 1) % 16 : Nat) : Int)) ∧ w = w' := fun w => by
          have := arm_any k a hk ha w
          rwa [e2] at this
        have hr := (HR.out.below hb).arm (a := a) (d := d) (by omega)
        rw [← hx'] at hr
        rcases hr with ⟨rfl, h0⟩ | ⟨b, rfl, hcp⟩
        · have HZ := Lib.hid h0
          clear h0 hx' harm hx e2 e3 hd
          go_wp2
          go_ret
          exact ⟨by rw [HZ.out]; rfl, hb⟩
        · have hq : a / 16 ^ (d + 1) % 16 < 16 := Nat.mod_lt _ (by decide)
          obtain ⟨p, hp⟩ : ∃ p, p = ptr (S d (a / 16 ^ (d + 1))) := ⟨_, rfl⟩
          rw [← hp] at hcp
          generalize a / 16 ^ (d + 1) % 16 = q at *
          have HR' := Lib.hid hp
          have HA := Lib.hid harm
          have hqi : (q : Int) < 16 := by omega
          have HD := Lib.hid hd
          clear hx' hx hp harm e2 e3 HR HR0 hd
          go_wp2
          go_region_law (first | (go_simp; go_at_call 39; refine (HA.out _).mono ?_; rintro e w5 ⟨rfl, rfl⟩))
          all_goals
            go_wp2
            have hd := HD.out
            refine ⟨⟨k + 1, p, by omega, by go_num, rfl, hb.drew, ?_⟩, by simp [intOf]; omega⟩
            rw [show 2 - (k + 1) = d by omega, show 3 - (k + 1) = d + 1 by omega]
            exact HR'.out
      · have hki : ¬ (k : Int) < 2 := by omega
        obtain rfl : k = 2 := by omega
        have hx' : X = ptr (S 0 (a / 16)) := by simpa using hx.out
        have harm : ∀ w, Calls Try.prog 39 #[.int .i64 2, .int .i64 a] w fun e w' => e = .returned (.int .i64 ((a % 16 : Nat) : Int)) ∧ w = w' := fun w => by
          have := arm_any 2 a (by omega) ha w
          simpa using this
        have hr := (HR.out.below hb).num (a := a)
        rw [← hx'] at hr
        rcases hr with ⟨rfl, h0⟩ | ⟨b, rfl, hcp⟩
        · have HZ := Lib.hid h0
          clear h0 hx' harm hx
          go_wp2
          go_ret
          exact ⟨by rw [HZ.out]; rfl, hb⟩
        · have hq : a % 16 < 16 := Nat.mod_lt _ (by decide)
          generalize a % 16 = q at *
          have HA := Lib.hid harm
          have hqi : (q : Int) < 16 := by omega
          clear hx' hx harm HR HR0
          go_wp2
          go_region_law (first | (go_simp; go_at_call 39; refine (HA.out _).mono ?_; rintro e w5 ⟨rfl, rfl⟩))
          all_goals
            go_wp2
            go_ret
            exact ⟨rfl, hb.drew⟩
  · have hget : getF f z = 0 := by unfold getF; rw [if_neg hz]
    rw [hget]
    have HH := Lib.hid (has_any z w)
    rw [decide_eq_false hz] at HH
    clear hget hz
    go_enter Try.func13, Try.ntmps13
    go_wp2_with fail
    refine (of_any f S A w h).mono ?_
    rintro e w' ⟨rfl, rfl⟩
    clear h
    go_wp2_with fail
    refine HH.out.mono ?_
    rintro e w' ⟨rfl, rfl⟩
    go_wp2
    go_ret
    exact ⟨rfl, Below.refl _ _⟩
end Go.Proofs.Ytnnadhfpkplncaa


/- Is a node without anything? No condition but how many arms and numbers there are. -/
namespace Go.Proofs.Ytnnadhfpkplncaa
open Go.RowKit

section
variable {P : Program} (w : World)
theorem eqItems_one (d : Nat) {e : TypeId} (hg : (isAgg e).run P w = .ok false w) (xs ys : Array Value) (b : Nat → Bool) : ∀ is : List Nat, (∀ i ∈ is, ∃ x y, xs[i]? = some x ∧ ys[i]? = some y ∧ (Op.equalIn d e x y).run P w = .ok (b i) w) →
    (Op.eqItems d e 1 xs ys is).run P w = .ok (is.all b) w
  | [], _ => by simp [Op.eqItems]
  | i :: is, h => by
    obtain ⟨x, y, hx, hy, hr⟩ := h i (by simp)
    have ih := eqItems_one d hg xs ys b is fun j hj => h j (by simp [hj])
    have px : (part e xs (i * 1)).run P w = .ok x w := by simp [part, hg, hx]
    have py : (part e ys (i * 1)).run P w = .ok y w := by simp [part, hg, hy]
    simp only [Op.eqItems, Sem.run_bind, px, py, hr, Result.andThen_ok]
    cases hb : b i
    · simp [hb]
    · simp [hb, ih]
end
theorem rep_at {α : Type} {x : α} {n i : Nat} (h : i < n) : (List.replicate n x)[i]? = some x := by simp [h]
theorem rep_map {α β : Type} (g : α → β) {x : α} {n i : Nat} (h : i < n) : ((List.replicate n x).map g).toArray[i]? = some (g x) := by
  rw [List.getElem?_toArray, List.getElem?_map, rep_at h]; rfl
theorem infoNP : (Try.prog.info? 76).isSome = true := by kernel_rfl
theorem infoInt : (Try.prog.info? 3).isSome = true := by kernel_rfl
def nodeZ : Array Value := nodeC (List.replicate 16 none) (List.replicate 16 0)
theorem zeroN (w : World) : (zeroValue 87).run Try.prog w = .ok (.agg nodeZ) w := by kernel_rfl
theorem all_none {ps : List (Option Addr)} (h : ps.length = 16) : ((List.range 16).all fun i => (ps.getD i none).isNone) = decide (ps = List.replicate 16 none) := by
  rw [Bool.eq_iff_iff]
  simp only [List.all_eq_true, List.mem_range, decide_eq_true_eq]
  constructor
  · intro k
    refine List.eq_replicate_iff.2 ⟨h, fun x hx => ?_⟩
    obtain ⟨i, hi, rfl⟩ := List.mem_iff_getElem.1 hx
    have := k i (by omega)
    rw [List.getD_eq_getElem?_getD, List.getElem?_eq_getElem hi] at this
    simpa using this
  · intro k i hi
    rw [k, List.getD_eq_getElem?_getD, rep_at hi]
    rfl
theorem all_zero {ns : List Int} (h : ns.length = 16) : ((List.range 16).all fun i => ns.getD i 0 == 0) = decide (ns = List.replicate 16 0) := by
  rw [Bool.eq_iff_iff]
  simp only [List.all_eq_true, List.mem_range, decide_eq_true_eq]
  constructor
  · intro k
    refine List.eq_replicate_iff.2 ⟨h, fun x hx => ?_⟩
    obtain ⟨i, hi, rfl⟩ := List.mem_iff_getElem.1 hx
    have := k i (by omega)
    rw [List.getD_eq_getElem?_getD, List.getElem?_eq_getElem hi] at this
    simpa using this
  · intro k i hi
    rw [k, List.getD_eq_getElem?_getD, rep_at hi]
    rfl
theorem eq_arms (d : Nat) (ps : List (Option Addr)) (h : ps.length = 16) (w : World) : (Op.equalIn (d + 2) 84 (.agg (ps.map Value.pointer).toArray) (.agg ((List.replicate 16 none).map Value.pointer).toArray)).run Try.prog w = .ok (decide (ps = List.replicate 16 none)) w := by
  obtain ⟨j, hj⟩ := Option.isSome_iff_exists.1 infoNP
  rw [run_equalIn_array w (d + 1) _ _ Try.underlying84 hj, show Try.prog.cellsOf 76 = 1 by kernel_rfl, ← all_none h]
  refine eqItems_one w (d + 1) (by simp [isAgg, run_underlying Try.underlying76]) _ _ _ _ fun i hi => ?_
  have hi := List.mem_range.1 hi
  refine ⟨.pointer (ps.getD i none), .pointer none, ?_, ?_, ?_⟩
  · simp [List.getD_eq_getElem?_getD, List.getElem?_eq_getElem (show i < ps.length by omega)]
  · exact rep_map _ hi
  · exact run_equalIn_pointer_nil w d 76 _ (by kernel_rfl)
theorem eq_nums (d : Nat) (ns : List Int) (h : ns.length = 16) (w : World) : (Op.equalIn (d + 2) 85 (.agg (ns.map (Value.int .i64)).toArray) (.agg ((List.replicate 16 (0 : Int)).map (Value.int .i64)).toArray)).run Try.prog w = .ok (decide (ns = List.replicate 16 0)) w := by
  obtain ⟨j, hj⟩ := Option.isSome_iff_exists.1 infoInt
  rw [run_equalIn_array w (d + 1) _ _ Try.underlying85 hj, show Try.prog.cellsOf 3 = 1 by kernel_rfl, ← all_zero h]
  refine eqItems_one w (d + 1) (by simp [isAgg, run_underlying Try.underlying3]) _ _ _ _ fun i hi => ?_
  have hi := List.mem_range.1 hi
  refine ⟨.int .i64 (ns.getD i 0), .int .i64 0, ?_, ?_, ?_⟩
  · simp [List.getD_eq_getElem?_getD, List.getElem?_eq_getElem (show i < ns.length by omega)]
  · exact rep_map _ hi
  · exact run_equalIn_int w d 3 .i64 .i64 _ _ Try.underlying3
theorem part_arms (ps : List (Option Addr)) (ns : List Int) (h : ps.length = 16) (w : World) : (part 84 (nodeC ps ns) 0).run Try.prog w = .ok (.agg (ps.map Value.pointer).toArray) w := by
  have hs : ∀ w, (sizeOf 84).run Try.prog w = .ok 16 w := fun w => by kernel_rfl
  have hx : (nodeC ps ns).extract 0 (0 + 16) = (ps.map Value.pointer).toArray := by
    apply Array.toList_inj.1
    simp [nodeC, h]
  simp [part, isAgg, run_underlying Try.underlying84, hs, hx]
theorem part_nums (ps : List (Option Addr)) (ns : List Int) (h : ps.length = 16) (h2 : ns.length = 16) (w : World) : (part 85 (nodeC ps ns) 16).run Try.prog w = .ok (.agg (ns.map (Value.int .i64)).toArray) w := by
  have hs : ∀ w, (sizeOf 85).run Try.prog w = .ok 16 w := fun w => by kernel_rfl
  have hx : (nodeC ps ns).extract 16 (16 + 16) = (ns.map (Value.int .i64)).toArray := by
    apply Array.toList_inj.1
    simp [nodeC, h]
    exact List.take_of_length_le (by simp [h2])
  simp [part, isAgg, run_underlying Try.underlying85, hs, hx]
end Go.Proofs.Ytnnadhfpkplncaa


/- Is a node the node without anything? Condition: how many arms and numbers there are. -/
namespace Go.Proofs.Ytnnadhfpkplncaa
open Go.RowKit

theorem nodeFields : (Try.prog.fieldsOf 87).toList.map (fun f => (f.name, f.type, f.offset)) = [("arms", 84, 0), ("numbers", 85, 16)] := by kernel_rfl
theorem nodeStruct : Try.prog.underlying 87 = some (.struct (Try.prog.fieldsOf 87)) := by kernel_rfl
theorem nodeHeld : Try.prog.stoodInHeld 87 = false := by kernel_rfl
theorem eqFields_two {P : Program} (w : World) (d : Nat) (f0 f1 : Field) (xs ys : Array Value) (x0 y0 x1 y1 : Value) (b0 b1 : Bool) (n0 : f0.name ≠ "_") (n1 : f1.name ≠ "_")
    (p0 : (part f0.type xs f0.offset).run P w = .ok x0 w) (q0 : (part f0.type ys f0.offset).run P w = .ok y0 w) (p1 : (part f1.type xs f1.offset).run P w = .ok x1 w) (q1 : (part f1.type ys f1.offset).run P w = .ok y1 w)
    (e0 : (Op.equalIn d f0.type x0 y0).run P w = .ok b0 w) (e1 : (Op.equalIn d f1.type x1 y1).run P w = .ok b1 w) : (Op.eqFields d xs ys [f0, f1]).run P w = .ok (b0 && b1) w := by
  cases b0 <;> cases b1 <;> simp [Op.eqFields, n0, n1, p0, q0, p1, q1, e0, e1]
/-- Is a node the node without anything? -/
theorem eq_node (d : Nat) (ps : List (Option Addr)) (ns : List Int) (h : ps.length = 16) (h2 : ns.length = 16) (w : World) : (Op.equalIn (d + 2 + 1) 87 (.agg (nodeC ps ns)) (.agg nodeZ)).run Try.prog w = .ok (decide (ps = List.replicate 16 none) && decide (ns = List.replicate 16 0)) w := by
  have hf := nodeFields
  rw [run_equalIn_struct w (d + 2) 87 _ _ nodeStruct nodeHeld]
  generalize (Try.prog.fieldsOf 87).toList = fs at hf
  have hl : fs.length = 2 := by simpa using congrArg List.length hf
  match fs, hl with
  | [f0, f1], _ =>
    simp only [List.map_cons, List.map_nil, List.cons.injEq, Prod.mk.injEq, and_true] at hf
    obtain ⟨⟨n0, t0, o0⟩, n1, t1, o1⟩ := hf
    refine eqFields_two w (d + 2) f0 f1 _ _ (.agg (ps.map Value.pointer).toArray) (.agg ((List.replicate 16 (none : Option Addr)).map Value.pointer).toArray) (.agg (ns.map (Value.int .i64)).toArray) (.agg ((List.replicate 16 (0 : Int)).map (Value.int .i64)).toArray) _ _ (by rw [n0]; decide) (by rw [n1]; decide) ?_ ?_ ?_ ?_ ?_ ?_
    · rw [t0, o0]; exact part_arms ps ns h w
    · rw [t0, o0]; exact part_arms _ _ (by simp) w
    · rw [t1, o1]; exact part_nums ps ns h h2 w
    · rw [t1, o1]; exact part_nums _ _ (by simp) (by simp) w
    · rw [t0]; exact eq_arms d ps h w
    · rw [t1]; exact eq_nums d ns h2 w
end Go.Proofs.Ytnnadhfpkplncaa


/- A node with a number at a place. No condition but that the node reads. The walks of the last rank and of the others. -/
namespace Go.Proofs.Ytnnadhfpkplncaa
open Go.RowKit

def updF (f : Nat → Int) (a : Nat) (n : Int) : Nat → Int := fun p => if p = a then n else f p
theorem stop_load {P : Program} {ops : Array Oper} {rest : List Oper} {o : Oper} {a : Act} {w : World} {Q : Exit → Act → World → Prop} (x : Operand) (_ : o.op = .load 87 x) (h : Hid (wpList P ops Q (o :: rest) a w)) : wpList P ops Q (o :: rest) a w := h.out
theorem infoNode : (Try.prog.info? 87).map (·.size) = some 32 := by kernel_rfl
theorem nodeC_size {ps : List (Option Addr)} {ns : List Int} (h1 : ps.length = 16) (h2 : ns.length = 16) : (nodeC ps ns).size = 32 := by simp [nodeC, h1, h2]
theorem infoNodeC {ps : List (Option Addr)} {ns : List Int} (h1 : ps.length = 16) (h2 : ns.length = 16) : (Try.prog.info? 87).map (·.size) = some (nodeC ps ns).size := by rw [infoNode, nodeC_size h1 h2]
theorem nodeC_one (ps : List (Option Addr)) (ns : List Int) : (nodeC ps ns).all (·.oneCell') = true := by
  simp [nodeC, Value.oneCell']
theorem setRow_alloc (w : World) (t : TypeId) (old cs : Array Value) : (w.alloc (.cells old t)).setRow w.heap.size cs = w.alloc (.cells cs t) := by
  unfold World.setRow World.alloc
  congr 1
  apply Array.ext_getElem?
  intro i
  simp only [Array.getElem?_modify, Array.getElem?_push]
  by_cases h : w.heap.size = i
  · subst h; simp
  · have h' : ¬ i = w.heap.size := fun e => h e.symm
    simp [h, h']
theorem nodeC_setNum {ps : List (Option Addr)} {ns : List Int} {q : Nat} (n : Int) (h1 : ps.length = 16) : (nodeC ps ns).setIfInBounds (16 + q) (.int .i64 n) = nodeC ps (ns.set q n) := by
  unfold nodeC
  rw [List.setIfInBounds_toArray, List.set_append_right _ _ (by simp [h1])]
  simp [h1, List.map_set]
theorem nodeC_setArm {ps : List (Option Addr)} {ns : List Int} {q : Nat} (p : Option Addr) (h1 : ps.length = 16) (hq : q < 16) : (nodeC ps ns).setIfInBounds q (.pointer p) = nodeC (ps.set q p) ns := by
  unfold nodeC
  rw [List.setIfInBounds_toArray, List.set_append_left _ _ (by simp [h1, hq])]
  simp [List.map_set]
/-- What a node is known by: its cells, or nothing. -/
def NodeAt (w : World) (X : Option Addr) (ps : List (Option Addr)) (ns : List Int) : Prop :=
  (X = none ∧ ps = List.replicate 16 none ∧ ns = List.replicate 16 0) ∨ ∃ b, X = some ⟨b, 0, none⟩ ∧ w.heap[b]? = some (.cells (nodeC ps ns) 87 (0, 0))
/-- What set hands back: nil where nothing is left, else a new block. -/
def NodeOut (B : Nat) (w' : World) (ps : List (Option Addr)) (ns : List Int) (e : Ending) : Prop :=
  (e = .returned (.pointer none) ∧ ps = List.replicate 16 none ∧ ns = List.replicate 16 0) ∨ (e = .returned (.pointer (some ⟨B, 0, none⟩)) ∧ ¬ (ps = List.replicate 16 none ∧ ns = List.replicate 16 0) ∧ w'.heap[B]? = some (.cells (nodeC ps ns) 87 (0, 0)))
set_option maxRecDepth 100000 in
set_option maxHeartbeats 1600000 in
theorem nset_leaf (X : Option Addr) (ps : List (Option Addr)) (ns : List Int) (hps : ps.length = 16) (hns : ns.length = 16) (a : Nat) (n : Int) (ha : a ≤ 4095) (w : World) (hX : NodeAt w X ps ns) :
    Calls Try.prog 37 #[.pointer X, .int .i64 2, .int .i64 a, .int .i64 n] w fun e w' => NodeOut w.heap.size w' ps (ns.set (a % 16) n) e ∧ Below w.heap.size w w' := by
  have harm : ∀ w, Calls Try.prog 39 #[.int .i64 2, .int .i64 a] w fun e w' => e = .returned (.int .i64 ((a % 16 : Nat) : Int)) ∧ w = w' := fun w => by
    have := arm_any 2 a (by omega) ha w
    simpa using this
  have hq : a % 16 < 16 := Nat.mod_lt _ (by decide)
  generalize a % 16 = q at *
  have hz := zeroN
  have hqi : (q : Int) < 16 := by omega
  obtain ⟨u, hu⟩ : ∃ u, ns[q]? = some u := ⟨_, List.getElem?_eq_getElem (by omega)⟩
  have hcz : (nodeC ps ns)[16 + q]? = some (.int .i64 u) := nodeC_num hps hu
  obtain ⟨ms, hms⟩ : ∃ ms, ms = ns.set q n := ⟨_, rfl⟩
  have HS := Lib.hid (show (nodeC ps ns).setIfInBounds (16 + q) (.int .i64 n) = nodeC ps ms by rw [hms]; exact nodeC_setNum n hps)
  rw [← hms]
  have hml : ms.length = 16 := by rw [hms]; simp [hns]
  obtain ⟨B, hB⟩ : ∃ B, (decide (ps = List.replicate 16 none) && decide (ms = List.replicate 16 0)) = B := ⟨_, rfl⟩
  have heq : ∀ w, (Op.equalIn 10000 87 (.agg (nodeC ps ms)) (.agg nodeZ)).run Try.prog w = .ok B w := fun w => by
    rw [← hB]; exact eq_node 9997 ps ms hps hml w
  have HP := Lib.hid hps
  have HN := Lib.hid hns
  have HM := Lib.hid hml
  have HB := Lib.hid hB
  clear hps hns hu hms hml hB
  cases B
  all_goals
    rcases hX with ⟨rfl, h1, h2⟩ | ⟨b, rfl, hb⟩
    · have HE := Lib.hid (show nodeZ = nodeC ps ns by rw [h1, h2]; rfl)
      clear h1 h2
      go_enter Try.func37, Try.ntmps37
      go_wp2_with ((with_reducible refine stop_load _ rfl ?_))
      rw [HE.out]
      refine (harm _).mono ?_
      rintro e w' ⟨rfl, rfl⟩
      clear harm
      go_wp2_with ((with_reducible refine stop_load _ rfl ?_))
      unfold Hid
      rw [HS.out]
      refine wpList_load_row rfl 87 _ rfl w.heap.size rfl 87 (nodeC ps ms) (0, 0) _ (heap_alloc_new _ _) Try.underlying87 rfl (infoNodeC HP.out HM.out) ?_
      go_wp2
      go_ret
      have hb := HB.out
      simp only [Bool.and_eq_true, Bool.and_eq_false_iff, decide_eq_true_eq, decide_eq_false_iff_not] at hb
      first
        | exact ⟨Or.inl ⟨rfl, hb.1, hb.2⟩, (Below.refl _ _).alloc (Nat.le_refl _) _⟩
        | exact ⟨Or.inr ⟨rfl, fun h => hb.elim (fun k => k h.1) (fun k => k h.2), heap_alloc_new _ _⟩, (Below.refl _ _).alloc (Nat.le_refl _) _⟩
    · go_enter Try.func37, Try.ntmps37
      go_wp2_with ((with_reducible refine stop_load _ rfl ?_))
      unfold Hid
      refine wpList_load_row rfl 87 _ rfl b rfl 87 (nodeC ps ns) (0, 0) _ ((heap_alloc_old _ _ (block_lt hb)).trans hb) Try.underlying87 rfl (infoNodeC HP.out HN.out) ?_
      refine wpList_store_row rfl 87 _ _ rfl w.heap.size (nodeC ps ns) rfl rfl 87 _ (heap_alloc_new _ _) (infoNodeC HP.out HN.out) (by rw [nodeC_size HP.out HN.out]; rfl) (nodeC_one _ _) ?_
      rw [setRow_alloc]
      clear hb
      go_wp2_with ((with_reducible refine stop_load _ rfl ?_))
      refine (harm _).mono ?_
      rintro e w' ⟨rfl, rfl⟩
      clear harm
      go_wp2_with ((with_reducible refine stop_load _ rfl ?_))
      unfold Hid
      rw [HS.out]
      refine wpList_load_row rfl 87 _ rfl w.heap.size rfl 87 (nodeC ps ms) (0, 0) _ (heap_alloc_new _ _) Try.underlying87 rfl (infoNodeC HP.out HM.out) ?_
      go_wp2
      go_ret
      have hb := HB.out
      simp only [Bool.and_eq_true, Bool.and_eq_false_iff, decide_eq_true_eq, decide_eq_false_iff_not] at hb
      first
        | exact ⟨Or.inl ⟨rfl, hb.1, hb.2⟩, (Below.refl _ _).alloc (Nat.le_refl _) _⟩
        | exact ⟨Or.inr ⟨rfl, fun h => hb.elim (fun k => k h.1) (fun k => k h.2), heap_alloc_new _ _⟩, (Below.refl _ _).alloc (Nat.le_refl _) _⟩
end Go.Proofs.Ytnnadhfpkplncaa


/- A node with a number at a place, in the ranks ahead of the last. Condition: how the arm is set. -/
namespace Go.Proofs.Ytnnadhfpkplncaa
open Go.RowKit

/-- The world behind set: the node's block has the arm, all else is as the call for the arm left it. -/
def NodeBack (w w1 w' : World) (ps : List (Option Addr)) (ns : List Int) : Prop :=
  w'.heap[w.heap.size]? = some (.cells (nodeC ps ns) 87 (0, 0)) ∧ (∀ b, b ≠ w.heap.size → w'.heap[b]? = w1.heap[b]?) ∧ w'.heap.size = w1.heap.size ∧ Below w.heap.size w w'
theorem nodeBack (w w1 : World) (ps : List (Option Addr)) (ns : List Int) (q : Nat) (Y : Option Addr) (hps : ps.length = 16) (hq : q < 16) (h : Below (w.heap.size + 1) (w.alloc (.cells (nodeC ps ns) 87)) w1) :
    NodeBack w w1 (w1.setCell ⟨w.heap.size, q, none⟩ (.pointer Y)) (ps.set q Y) ns := by
  have h0 : w1.heap[w.heap.size]? = some (.cells (nodeC ps ns) 87 (0, 0)) := (h.block _ (by omega)).trans (heap_alloc_new _ _)
  refine ⟨?_, fun b hb => heap_setCell_other _ _ _ _ hb, by simp [World.setCell], ?_⟩
  · rw [heap_setCell_same _ _ _ _ _ _ h0, nodeC_setArm Y hps hq]
  · exact (((Below.refl _ w).alloc (Nat.le_refl _) _).trans (h.mono (by omega))).setCell (p := ⟨w.heap.size, q, none⟩) (Nat.le_refl _) _
theorem cell_of_below {w w1 : World} {cs : Array Value} (h : Below (w.heap.size + 1) (w.alloc (.cells cs 87)) w1) : w1.heap[w.heap.size]? = some (.cells cs 87 (0, 0)) := (h.block _ (by omega)).trans (heap_alloc_new _ _)
set_option maxRecDepth 100000 in
set_option maxHeartbeats 1600000 in
theorem nset_node (r : Nat) (hr : r ≤ 1) (X : Option Addr) (ps : List (Option Addr)) (ns : List Int) (hps : ps.length = 16) (hns : ns.length = 16) (a : Nat) (n : Int) (ha : a ≤ 4095) (w : World) (hX : NodeAt w X ps ns)
    (p : Option Addr) (hp : ps[a / 16 ^ (2 - r) % 16]? = some p) (R : Option Addr → World → Prop)
    (hsub : Calls Try.prog 37 #[.pointer p, .int .i64 ((r : Int) + 1), .int .i64 a, .int .i64 n] (w.alloc (.cells (nodeC ps ns) 87)) fun e w1 => ∃ Y, e = .returned (.pointer Y) ∧ R Y w1 ∧ Below (w.heap.size + 1) (w.alloc (.cells (nodeC ps ns) 87)) w1) :
    Calls Try.prog 37 #[.pointer X, .int .i64 r, .int .i64 a, .int .i64 n] w fun e w' => ∃ Y w1, R Y w1 ∧ Below (w.heap.size + 1) (w.alloc (.cells (nodeC ps ns) 87)) w1 ∧ NodeBack w w1 w' (ps.set (a / 16 ^ (2 - r) % 16) Y) ns ∧ NodeOut w.heap.size w' (ps.set (a / 16 ^ (2 - r) % 16) Y) ns e := by
  have harm : ∀ w, Calls Try.prog 39 #[.int .i64 r, .int .i64 a] w fun e w' => e = .returned (.int .i64 ((a / 16 ^ (2 - r) % 16 : Nat) : Int)) ∧ w = w' := fun w => arm_any r a (by omega) ha w
  have hq : a / 16 ^ (2 - r) % 16 < 16 := Nat.mod_lt _ (by decide)
  generalize a / 16 ^ (2 - r) % 16 = q at *
  have hz := zeroN
  have hqi : (q : Int) < 16 := by omega
  have hri : (r : Int) < 2 := by omega
  have hcz : (nodeC ps ns)[q]? = some (.pointer p) := nodeC_arm hp
  have HP := Lib.hid hps
  have HN := Lib.hid hns
  have HU := Lib.hid hsub
  clear hps hns hp hsub
  rcases hX with ⟨rfl, h1, h2⟩ | ⟨b, rfl, hb⟩
  · have HE := Lib.hid (show nodeZ = nodeC ps ns by rw [h1, h2]; rfl)
    clear h1 h2
    go_enter Try.func37, Try.ntmps37
    go_wp2_with ((with_reducible refine stop_load _ rfl ?_))
    rw [HE.out]
    refine (harm _).mono ?_
    rintro e w' ⟨rfl, rfl⟩
    clear harm
    go_wp2_with ((with_reducible refine stop_load _ rfl ?_))
    refine HU.out.mono ?_
    rintro e w1 ⟨Y, rfl, hR, hb1⟩
    have HR := Lib.hid hR
    have HB1 := Lib.hid hb1
    clear HU hR
    have hy := cell_of_below hb1
    have hc1 : w1.cell? ⟨w.heap.size, q, none⟩ = some (.pointer p) := (block_cell hy).trans hcz
    have hf1 : w1.frozen? ⟨w.heap.size, q, none⟩ = false := block_free hy
    have HBack := Lib.hid (nodeBack w w1 ps ns q Y HP.out hq hb1)
    have hms : (ps.set q Y).length = 16 := by simp [HP.out]
    have heq : ∀ w, (Op.equalIn 10000 87 (.agg (nodeC (ps.set q Y) ns)) (.agg nodeZ)).run Try.prog w = .ok (decide (ps.set q Y = List.replicate 16 none) && decide (ns = List.replicate 16 0)) w := fun w => eq_node 9997 (ps.set q Y) ns hms HN.out w
    have HM := Lib.hid hms
    clear hy hb1 hms
    go_wp2_with ((with_reducible refine stop_load _ rfl ?_))
    unfold Hid
    refine wpList_load_row rfl 87 _ rfl w.heap.size rfl 87 (nodeC (ps.set q Y) ns) (0, 0) _ HBack.out.1 Try.underlying87 rfl (infoNodeC HM.out HN.out) ?_
    obtain ⟨ms, hms⟩ : ∃ ms, ms = ps.set q Y := ⟨_, rfl⟩
    rw [← hms] at heq HBack ⊢
    have HMS := Lib.hid hms
    clear hms HM
    obtain ⟨B, hB⟩ : ∃ B, (decide (ms = List.replicate 16 none) && decide (ns = List.replicate 16 0)) = B := ⟨_, rfl⟩
    rw [hB] at heq
    have HB := Lib.hid hB
    clear hB
    cases B
    all_goals
      go_wp2
      go_ret
      have hb := HB.out
      simp only [Bool.and_eq_true, Bool.and_eq_false_iff, decide_eq_true_eq, decide_eq_false_iff_not] at hb
      rw [HMS.out] at hb
      have hk := HBack.out
      rw [HMS.out] at hk
      first
        | exact ⟨Y, w1, HR.out, HB1.out, hk, Or.inl ⟨rfl, hb.1, hb.2⟩⟩
        | exact ⟨Y, w1, HR.out, HB1.out, hk, Or.inr ⟨rfl, fun h => hb.elim (fun k => k h.1) (fun k => k h.2), hk.1⟩⟩
  · go_enter Try.func37, Try.ntmps37
    go_wp2_with ((with_reducible refine stop_load _ rfl ?_))
    unfold Hid
    refine wpList_load_row rfl 87 _ rfl b rfl 87 (nodeC ps ns) (0, 0) _ ((heap_alloc_old _ _ (block_lt hb)).trans hb) Try.underlying87 rfl (infoNodeC HP.out HN.out) ?_
    refine wpList_store_row rfl 87 _ _ rfl w.heap.size (nodeC ps ns) rfl rfl 87 _ (heap_alloc_new _ _) (infoNodeC HP.out HN.out) (by rw [nodeC_size HP.out HN.out]; rfl) (nodeC_one _ _) ?_
    rw [setRow_alloc]
    clear hb
    go_wp2_with ((with_reducible refine stop_load _ rfl ?_))
    refine (harm _).mono ?_
    rintro e w' ⟨rfl, rfl⟩
    clear harm
    go_wp2_with ((with_reducible refine stop_load _ rfl ?_))
    refine HU.out.mono ?_
    rintro e w1 ⟨Y, rfl, hR, hb1⟩
    have HR := Lib.hid hR
    have HB1 := Lib.hid hb1
    clear HU hR
    have hy := cell_of_below hb1
    have hc1 : w1.cell? ⟨w.heap.size, q, none⟩ = some (.pointer p) := (block_cell hy).trans hcz
    have hf1 : w1.frozen? ⟨w.heap.size, q, none⟩ = false := block_free hy
    have HBack := Lib.hid (nodeBack w w1 ps ns q Y HP.out hq hb1)
    have hms : (ps.set q Y).length = 16 := by simp [HP.out]
    have heq : ∀ w, (Op.equalIn 10000 87 (.agg (nodeC (ps.set q Y) ns)) (.agg nodeZ)).run Try.prog w = .ok (decide (ps.set q Y = List.replicate 16 none) && decide (ns = List.replicate 16 0)) w := fun w => eq_node 9997 (ps.set q Y) ns hms HN.out w
    have HM := Lib.hid hms
    clear hy hb1 hms
    go_wp2_with ((with_reducible refine stop_load _ rfl ?_))
    unfold Hid
    refine wpList_load_row rfl 87 _ rfl w.heap.size rfl 87 (nodeC (ps.set q Y) ns) (0, 0) _ HBack.out.1 Try.underlying87 rfl (infoNodeC HM.out HN.out) ?_
    obtain ⟨ms, hms⟩ : ∃ ms, ms = ps.set q Y := ⟨_, rfl⟩
    rw [← hms] at heq HBack ⊢
    have HMS := Lib.hid hms
    clear hms HM
    obtain ⟨B, hB⟩ : ∃ B, (decide (ms = List.replicate 16 none) && decide (ns = List.replicate 16 0)) = B := ⟨_, rfl⟩
    rw [hB] at heq
    have HB := Lib.hid hB
    clear hB
    cases B
    all_goals
      go_wp2
      go_ret
      have hb := HB.out
      simp only [Bool.and_eq_true, Bool.and_eq_false_iff, decide_eq_true_eq, decide_eq_false_iff_not] at hb
      rw [HMS.out] at hb
      have hk := HBack.out
      rw [HMS.out] at hk
      first
        | exact ⟨Y, w1, HR.out, HB1.out, hk, Or.inl ⟨rfl, hb.1, hb.2⟩⟩
        | exact ⟨Y, w1, HR.out, HB1.out, hk, Or.inr ⟨rfl, fun h => hb.elim (fun k => k h.1) (fun k => k h.2), hk.1⟩⟩
end Go.Proofs.Ytnnadhfpkplncaa


/- A number at a place of a tree. Condition: the tree reads; the place is one. -/
namespace Go.Proofs.Ytnnadhfpkplncaa
open Go.RowKit

theorem bare_zero {g : Nat} {f : Nat → Int} : Bare 0 g f ↔ numC f g = List.replicate 16 0 := by
  unfold Bare numC span
  constructor
  · intro h
    rw [List.eq_replicate_iff]
    refine ⟨by simp, fun x hx => ?_⟩
    obtain ⟨i, hi, rfl⟩ := List.mem_map.1 hx
    exact h i (List.mem_range.1 hi)
  · intro h i hi
    have := (List.eq_replicate_iff.1 h).2 (f (g * 16 + i)) (List.mem_map.2 ⟨i, List.mem_range.2 hi, rfl⟩)
    exact this
theorem bare_succ {d g : Nat} {f : Nat → Int} : Bare (d + 1) g f ↔ ∀ i, i < 16 → Bare d (g * 16 + i) f := by
  unfold Bare
  constructor
  · intro h i hi j hj
    have hm : i * span d + j < 16 * span d := by
      have h2 : (i + 1) * span d ≤ 16 * span d := Nat.mul_le_mul_right _ (by omega)
      rw [Nat.add_mul, Nat.one_mul] at h2
      omega
    have := h (i * span d + j) hm
    rwa [span, ← Nat.add_assoc, ← Nat.mul_assoc, ← Nat.add_mul] at this
  · intro h j hj
    have hp : 0 < span d := by rw [span_eq]; exact Nat.pow_pos (by decide)
    have h1 := h (j / span d) (by rw [Nat.div_lt_iff_lt_mul hp]; exact hj) (j % span d) (Nat.mod_lt _ hp)
    rw [Nat.add_mul, Nat.add_assoc, Nat.mul_comm (j / span d), Nat.div_add_mod, Nat.mul_assoc] at h1
    exact h1
theorem bare_other {d g a : Nat} {f : Nat → Int} {n : Int} (h : g ≠ a / 16 ^ (d + 1)) : Bare d g (updF f a n) ↔ Bare d g f := by
  have key : ∀ i, i < span d → g * span d + i ≠ a := by
    intro i hi e
    apply h
    rw [← e, ← span_eq, Nat.mul_comm, Nat.mul_add_div (by omega), Nat.div_eq_of_lt hi, Nat.add_zero]
  unfold Bare updF
  constructor
  · intro k i hi; have := k i hi; rwa [if_neg (key i hi)] at this
  · intro k i hi; rw [if_neg (key i hi)]; exact k i hi
theorem armC_none {S : Nat → Nat → Option Nat} {d g : Nat} : armC S d g = List.replicate 16 none ↔ ∀ i, i < 16 → S d (g * 16 + i) = none := by
  unfold armC
  constructor
  · intro h i hi
    have := (List.eq_replicate_iff.1 h).2 (ptr (S d (g * 16 + i))) (List.mem_map.2 ⟨i, List.mem_range.2 hi, rfl⟩)
    cases hs : S d (g * 16 + i) with
    | none => rfl
    | some b => rw [hs] at this; cases this
  · intro h
    rw [List.eq_replicate_iff]
    refine ⟨by simp, fun x hx => ?_⟩
    obtain ⟨i, hi, rfl⟩ := List.mem_map.1 hx
    rw [h i (List.mem_range.1 hi)]; rfl
theorem RdD.nodeAt0 {f : Nat → Int} {S : Nat → Nat → Option Nat} {w : World} (h : RdD 0 f S w) (g : Nat) : NodeAt w (ptr (S 0 g)) (List.replicate 16 none) (numC f g) := by
  cases hs : S 0 g with
  | none => exact Or.inl ⟨rfl, rfl, bare_zero.1 ((h.can 0 g (Nat.le_refl _)).1 hs)⟩
  | some b => exact Or.inr ⟨b, rfl, h.leaf g b hs⟩
theorem RdD.nodeAtS {D : Nat} {f : Nat → Int} {S : Nat → Nat → Option Nat} {w : World} (h : RdD (D + 1) f S w) (g : Nat) : NodeAt w (ptr (S (D + 1) g)) (armC S D g) (List.replicate 16 0) := by
  cases hs : S (D + 1) g with
  | none => exact Or.inl ⟨rfl, armC_none.2 fun i hi => (h.can D _ (by omega)).2 (bare_succ.1 ((h.can (D + 1) g (Nat.le_refl _)).1 hs) i hi), rfl⟩
  | some b => exact Or.inr ⟨b, rfl, h.node D g b (Nat.le_refl _) hs⟩
open Classical in
/-- Which block is whose behind a set: the nodes on the way to the place are new, or none. -/
noncomputable def updS (f : Nat → Int) (S : Nat → Nat → Option Nat) (a D : Nat) (nb : Nat → Nat) : Nat → Nat → Option Nat :=
  fun e h => if e ≤ D ∧ h = a / 16 ^ (e + 1) then (if Bare e h f then none else some (nb e)) else S e h
theorem updS_on {f : Nat → Int} {S : Nat → Nat → Option Nat} {a D e : Nat} {nb : Nat → Nat} (he : e ≤ D) : (updS f S a D nb e (a / 16 ^ (e + 1)) = none ∧ Bare e (a / 16 ^ (e + 1)) f) ∨ (updS f S a D nb e (a / 16 ^ (e + 1)) = some (nb e) ∧ ¬ Bare e (a / 16 ^ (e + 1)) f) := by
  unfold updS
  rw [if_pos ⟨he, rfl⟩]
  by_cases hb : Bare e (a / 16 ^ (e + 1)) f
  · exact Or.inl ⟨if_pos hb, hb⟩
  · exact Or.inr ⟨if_neg hb, hb⟩
theorem updS_off {f : Nat → Int} {S : Nat → Nat → Option Nat} {a D e h : Nat} {nb : Nat → Nat} (he : ¬ (e ≤ D ∧ h = a / 16 ^ (e + 1))) : updS f S a D nb e h = S e h := by
  unfold updS
  rw [if_neg he]
theorem numC_upd {f : Nat → Int} {a : Nat} {n : Int} : (numC f (a / 16)).set (a % 16) n = numC (updF f a n) (a / 16) := by
  apply List.ext_getElem?
  intro i
  rw [List.getElem?_set]
  by_cases hi : i < 16
  · rw [numC_at hi, numC_at hi]
    by_cases h : a % 16 = i
    · subst h
      rw [if_pos rfl, if_pos (by simp; omega)]
      have : a / 16 * 16 + a % 16 = a := by omega
      rw [updF, if_pos this]
    · rw [if_neg h, updF, if_neg (by omega)]
  · rw [if_neg (by omega), List.getElem?_eq_none (by simp; omega), List.getElem?_eq_none (by simp; omega)]
theorem numC_other {f : Nat → Int} {a g : Nat} {n : Int} (h : g ≠ a / 16) : numC (updF f a n) g = numC f g := by
  unfold numC
  refine List.map_congr_left fun i hi => ?_
  have := List.mem_range.1 hi
  rw [updF, if_neg (by omega)]
/-- Blocks that are new, each for one rank. -/
def New (B : Nat) (nb : Nat → Nat) (D : Nat) : Prop := (∀ e, e ≤ D → B ≤ nb e) ∧ ∀ e e', e ≤ D → e' ≤ D → nb e = nb e' → e = e'
theorem can_upd {D : Nat} {f : Nat → Int} {S : Nat → Nat → Option Nat} {a : Nat} {n : Int} {nb : Nat → Nat} (h : ∀ d g, d ≤ D → (S d g = none ↔ Bare d g f)) : ∀ d g, d ≤ D → (updS (updF f a n) S a D nb d g = none ↔ Bare d g (updF f a n)) := by
  intro d g hd
  by_cases hg : g = a / 16 ^ (d + 1)
  · subst hg
    rcases updS_on (f := updF f a n) (S := S) (a := a) (nb := nb) hd with ⟨h1, h2⟩ | ⟨h1, h2⟩
    · exact ⟨fun _ => h2, fun _ => h1⟩
    · exact ⟨fun e => (by rw [h1] at e; cases e), fun e => absurd e h2⟩
  · rw [updS_off (fun k => hg k.2), bare_other hg]
    exact h d g hd
theorem far_upd {f : Nat → Int} {a : Nat} {n : Int} (h : ∀ a, 4096 ≤ a → f a = 0) (ha : a ≤ 4095) : ∀ b, 4096 ≤ b → updF f a n b = 0 := by
  intro b hb
  rw [updF, if_neg (by omega)]
  exact h b hb
/-- What a set of depth D does. -/
def SetPost (D : Nat) (f : Nat → Int) (S : Nat → Nat → Option Nat) (a : Nat) (n : Int) (w : World) (e : Ending) (w' : World) : Prop :=
  ∃ nb, New w.heap.size nb D ∧ e = .returned (.pointer (ptr (updS (updF f a n) S a D nb D (a / 16 ^ (D + 1))))) ∧ RdD D (updF f a n) (updS (updF f a n) S a D nb) w' ∧ Below w.heap.size w w'
theorem nset_0 (f : Nat → Int) (S : Nat → Nat → Option Nat) (a : Nat) (n : Int) (ha : a ≤ 4095) (w : World) (h : RdD 0 f S w) :
    Calls Try.prog 37 #[.pointer (ptr (S 0 (a / 16))), .int .i64 2, .int .i64 a, .int .i64 n] w (SetPost 0 f S a n w) := by
  refine (nset_leaf _ _ _ (by simp) (by simp) a n ha w (h.nodeAt0 _)).mono ?_
  rintro e w' ⟨hout, hb⟩
  rw [numC_upd] at hout
  have e1 : a / 16 ^ (0 + 1) = a / 16 := by simp
  have hcan := can_upd (a := a) (n := n) (nb := fun _ => w.heap.size) h.can
  refine ⟨fun _ => w.heap.size, ⟨fun _ _ => Nat.le_refl _, fun e e' h1 h2 _ => by omega⟩, ?_, ⟨far_upd h.far ha, hcan, ?_, fun d g b hd => absurd hd (by omega)⟩, hb⟩
  · rw [e1]
    have hc := hcan 0 (a / 16) (Nat.le_refl _)
    have hon := updS_on (f := updF f a n) (S := S) (a := a) (D := 0) (e := 0) (nb := fun _ => w.heap.size) (Nat.le_refl _)
    rw [e1] at hon
    rcases hout with ⟨rfl, _, hz⟩ | ⟨rfl, hn, _⟩
    · rw [hc.2 (bare_zero.2 hz)]; rfl
    · rcases hon with ⟨k, k2⟩ | ⟨k, _⟩
      · exact absurd ⟨rfl, bare_zero.1 k2⟩ hn
      · rw [k]; rfl
  · intro g b hs
    by_cases hg : g = a / 16
    · subst hg
      have hon := updS_on (f := updF f a n) (S := S) (a := a) (D := 0) (e := 0) (nb := fun _ => w.heap.size) (Nat.le_refl _)
      rw [e1, hs] at hon
      rcases hon with ⟨k, _⟩ | ⟨k, k2⟩
      · cases k
      · cases k
        rcases hout with ⟨_, _, hz⟩ | ⟨_, _, hh⟩
        · exact absurd (bare_zero.2 hz) k2
        · exact hh
    · rw [updS_off (fun k => hg (by rw [k.2, e1]))] at hs
      rw [numC_other hg]
      exact (hb.block b (block_lt (h.leaf g b hs))).trans (h.leaf g b hs)
theorem updS_agree {f : Nat → Int} {S : Nat → Nat → Option Nat} {a D e h : Nat} {nb nb' : Nat → Nat} (he : e ≤ D) (hn : nb' e = nb e) : updS f S a (D + 1) nb' e h = updS f S a D nb e h := by
  unfold updS
  rw [hn]
  by_cases hh : h = a / 16 ^ (e + 1)
  · have h1 : e ≤ D + 1 ∧ h = a / 16 ^ (e + 1) := ⟨by omega, hh⟩
    have h2 : e ≤ D ∧ h = a / 16 ^ (e + 1) := ⟨he, hh⟩
    simp only [if_pos h1, if_pos h2]
  · rw [if_neg (fun k => hh k.2), if_neg (fun k => hh k.2)]
theorem armC_congr {S S' : Nat → Nat → Option Nat} {d g : Nat} (h : ∀ i, i < 16 → S d (g * 16 + i) = S' d (g * 16 + i)) : armC S d g = armC S' d g :=
  List.map_congr_left fun i hi => by rw [h i (List.mem_range.1 hi)]
theorem armC_set {S S' : Nat → Nat → Option Nat} {d g q : Nat} (hq : q < 16) (h : ∀ i, i < 16 → i ≠ q → S d (g * 16 + i) = S' d (g * 16 + i)) : (armC S d g).set q (ptr (S' d (g * 16 + q))) = armC S' d g := by
  apply List.ext_getElem?
  intro i
  rw [List.getElem?_set]
  by_cases hi : i < 16
  · rw [armC_at hi, armC_at hi]
    by_cases k : q = i
    · subst k
      rw [if_pos rfl, if_pos (by simp; omega)]
    · rw [if_neg k, h i hi (fun e => k e.symm)]
  · rw [if_neg (by omega), List.getElem?_eq_none (by simp; omega), List.getElem?_eq_none (by simp; omega)]
theorem nset_S (D : Nat) (hD : D ≤ 1) (f : Nat → Int) (S : Nat → Nat → Option Nat) (a : Nat) (n : Int) (ha : a ≤ 4095) (w : World) (h : RdD (D + 1) f S w)
    (ih : ∀ w, RdD D f S w → Calls Try.prog 37 #[.pointer (ptr (S D (a / 16 ^ (D + 1)))), .int .i64 ((2 - D : Nat) : Int), .int .i64 a, .int .i64 n] w (SetPost D f S a n w)) :
    Calls Try.prog 37 #[.pointer (ptr (S (D + 1) (a / 16 ^ (D + 2)))), .int .i64 ((2 - (D + 1) : Nat) : Int), .int .i64 a, .int .i64 n] w (SetPost (D + 1) f S a n w) := by
  have hq : a / 16 ^ (D + 1) % 16 < 16 := Nat.mod_lt _ (by decide)
  have hag := arm_group a (D + 1)
  have hp := armC_at (S := S) (d := D) (g := a / 16 ^ (D + 2)) hq
  rw [hag] at hp
  have er : 2 - (2 - (D + 1)) = D + 1 := by omega
  have hb0 : Below w.heap.size w (w.alloc (.cells (nodeC (armC S D (a / 16 ^ (D + 2))) (List.replicate 16 0)) 87)) := (Below.refl _ _).alloc (Nat.le_refl _) _
  have hih := ih _ ((h.le (Nat.le_succ D)).below hb0)
  have ecast : ((2 - D : Nat) : Int) = ((2 - (D + 1) : Nat) : Int) + 1 := by omega
  rw [ecast] at hih
  have key := nset_node (2 - (D + 1)) (by omega) _ _ _ (by simp) (by simp) a n ha w (h.nodeAtS (a / 16 ^ (D + 2))) (ptr (S D (a / 16 ^ (D + 1)))) (by rw [er]; exact hp)
    (fun Y w1 => ∃ nb, New (w.heap.size + 1) nb D ∧ Y = ptr (updS (updF f a n) S a D nb D (a / 16 ^ (D + 1))) ∧ RdD D (updF f a n) (updS (updF f a n) S a D nb) w1)
    (hih.mono fun e w1 ⟨nb, h1, h2, h3, h4⟩ => ⟨_, h2, ⟨nb, by simpa using h1, rfl, h3⟩, by simpa using h4⟩)
  rw [er] at key
  refine key.mono ?_
  rintro e w' ⟨Y, w1, ⟨nb, ⟨hn1, hn2⟩, rfl, hr1⟩, hb1, ⟨hk1, hk2, hk3, hk4⟩, hout⟩
  clear key hih
  obtain ⟨nb', hnb'⟩ : ∃ nb' : Nat → Nat, nb' = fun e => if e = D + 1 then w.heap.size else nb e := ⟨_, rfl⟩
  have hnlow : ∀ e, e ≤ D → nb' e = nb e := fun e he => by rw [hnb']; exact if_neg (by omega)
  have hntop : nb' (D + 1) = w.heap.size := by rw [hnb']; exact if_pos rfl
  have hcan := can_upd (a := a) (n := n) (nb := nb') h.can
  have harms : (armC S D (a / 16 ^ (D + 2))).set (a / 16 ^ (D + 1) % 16) (ptr (updS (updF f a n) S a D nb D (a / 16 ^ (D + 1)))) = armC (updS (updF f a n) S a (D + 1) nb') D (a / 16 ^ (D + 2)) := by
    have := armC_set (S := S) (S' := updS (updF f a n) S a (D + 1) nb') (d := D) (g := a / 16 ^ (D + 2)) hq (fun i hi hne => by
      rw [updS_off]
      intro k
      have := k.2
      omega)
    rw [hag, updS_agree (Nat.le_refl D) (hnlow D (Nat.le_refl _))] at this
    exact this
  rw [harms] at hk1 hout
  have hold : ∀ b o, w.heap[b]? = some o → w'.heap[b]? = some o := fun b o hb => (hk4.block b (block_lt hb)).trans hb
  have hnotown : ∀ d g b, d ≤ D → updS (updF f a n) S a D nb d g = some b → w.heap[b]? ≠ none ∨ w.heap.size + 1 ≤ b := by
    intro d g b hd hs
    by_cases hg : g = a / 16 ^ (d + 1)
    · subst hg
      rcases updS_on (f := updF f a n) (S := S) (a := a) (nb := nb) hd with ⟨k, _⟩ | ⟨k, _⟩
      · rw [hs] at k; cases k
      · rw [hs] at k; cases k; exact Or.inr (hn1 d hd)
    · rw [updS_off (fun k => hg k.2)] at hs
      left
      cases d with
      | zero => rw [h.leaf g b hs]; simp
      | succ d => rw [h.node d g b (by omega) hs]; simp
  have hother : ∀ d g b, d ≤ D → updS (updF f a n) S a D nb d g = some b → w'.heap[b]? = w1.heap[b]? := by
    intro d g b hd hs
    refine hk2 b ?_
    rcases hnotown d g b hd hs with k | k
    · intro e1; subst e1; exact k (by simp)
    · omega
  have hon := updS_on (f := updF f a n) (S := S) (a := a) (D := D + 1) (e := D + 1) (nb := nb') (Nat.le_refl _)
  rw [hntop] at hon
  refine ⟨nb', ⟨fun e he => ?_, fun e e' he he' hee => ?_⟩, ?_, ⟨far_upd h.far ha, hcan, ?_, ?_⟩, hk4⟩
  · by_cases k : e = D + 1
    · rw [k, hntop]; exact Nat.le_refl _
    · rw [hnlow e (by omega)]; have := hn1 e (by omega); omega
  · by_cases k : e = D + 1 <;> by_cases k' : e' = D + 1
    · omega
    · rw [k, hntop, hnlow e' (by omega)] at hee; have := hn1 e' (by omega); omega
    · rw [k', hntop, hnlow e (by omega)] at hee; have := hn1 e (by omega); omega
    · rw [hnlow e (by omega), hnlow e' (by omega)] at hee; exact hn2 e e' (by omega) (by omega) hee
  · rcases hout with ⟨rfl, hz, _⟩ | ⟨rfl, hz, _⟩
    · rw [(hcan (D + 1) (a / 16 ^ (D + 2)) (Nat.le_refl _)).2 (bare_succ.2 fun i hi => (hcan D _ (by omega)).1 (armC_none.1 hz i hi))]; rfl
    · rcases hon with ⟨k, k2⟩ | ⟨k, _⟩
      · exact absurd ⟨armC_none.2 fun i hi => (hcan D _ (by omega)).2 (bare_succ.1 k2 i hi), rfl⟩ hz
      · rw [k]; rfl
  · intro g b hs
    rw [updS_agree (Nat.zero_le D) (hnlow 0 (Nat.zero_le _))] at hs
    rw [hother 0 g b (Nat.zero_le _) hs]
    exact hr1.leaf g b hs
  · intro d g b hd hs
    by_cases hdD : d + 1 ≤ D
    · rw [updS_agree hdD (hnlow _ hdD)] at hs
      rw [hother (d + 1) g b hdD hs, hr1.node d g b hdD hs, armC_congr fun i _ => updS_agree (by omega) (hnlow d (by omega))]
    · obtain rfl : d = D := by omega
      by_cases hg : g = a / 16 ^ (d + 2)
      · subst hg
        rw [hs] at hon
        rcases hon with ⟨k, _⟩ | ⟨k, _⟩
        · cases k
        · cases k; exact hk1
      · rw [updS_off (fun k => hg k.2)] at hs
        rw [hold b _ (h.node d g b hd hs), armC_congr fun i hi => updS_off ?_]
        intro k
        apply hg
        have := k.2
        rw [Nat.pow_succ, ← Nat.div_div_eq_div_mul, ← this]
        omega
theorem nset_any (f : Nat → Int) (S : Nat → Nat → Option Nat) (a : Nat) (n : Int) (ha : a ≤ 4095) (w : World) (h : RdD 2 f S w) :
    Calls Try.prog 37 #[.pointer (ptr (S 2 0)), .int .i64 0, .int .i64 a, .int .i64 n] w (SetPost 2 f S a n w) := by
  have h0 : a / 16 ^ (1 + 2) = 0 := by omega
  have := nset_S 1 (Nat.le_refl _) f S a n ha w h fun w1 h1 => nset_S 0 (by omega) f S a n ha w1 h1 fun w0 hw0 => by
    have := nset_0 f S a n ha w0 hw0
    simpa using this
  rw [h0] at this
  exact this
end Go.Proofs.Ytnnadhfpkplncaa


/- A number at a place of a tree, as the program sets it. Condition: the tree reads. -/
namespace Go.Proofs.Ytnnadhfpkplncaa
open Go.RowKit

def setF (f : Nat → Int) (z n : Int) : Nat → Int := if 0 ≤ z ∧ z ≤ 4095 then updF f z.toNat n else f
theorem setF_in {f : Nat → Int} {a : Nat} {n : Int} (h : a ≤ 4095) : setF f (a : Int) n = updF f a n := by
  unfold setF
  rw [if_pos ⟨by omega, by omega⟩]; rfl
theorem updF_same {f : Nat → Int} {a : Nat} : updF f a (f a) = f := by
  funext b
  unfold updF
  by_cases h : b = a
  · rw [if_pos h, h]
  · rw [if_neg h]
/-- What has become of a tree: it is the one that it was, or the nodes on the way are new. -/
def SetSame (f : Nat → Int) (S S' : Nat → Nat → Option Nat) (A A' : Option Addr) (z n : Int) (B : Nat) : Prop :=
  (setF f z n = f ∧ S' = S ∧ A' = A) ∨ (0 ≤ z ∧ z ≤ 4095 ∧ f z.toNat ≠ n ∧ ∃ nb, New B nb 2 ∧ S' = updS (setF f z n) S z.toNat 2 nb)
def SetTree (f : Nat → Int) (S : Nat → Nat → Option Nat) (A : Option Addr) (z n : Int) (w : World) (e : Ending) (w' : World) : Prop :=
  ∃ A' S', e = .returned (.pointer A') ∧ RdR (setF f z n) S' w' A' ∧ SetSame f S S' A A' z n w.heap.size ∧ Below w.heap.size w w'
set_option maxRecDepth 100000 in
set_option maxHeartbeats 1600000 in
theorem set_out (f : Nat → Int) (S : Nat → Nat → Option Nat) (A : Option Addr) (z n : Int) (w : World) (h : RdR f S w A) (hz : ¬ (0 ≤ z ∧ z ≤ 4095)) :
    Calls Try.prog 10 #[.pointer A, .int .i64 z, .int .i64 n] w (SetTree f S A z n w) := by
  have HF := Lib.hid (show setF f z n = f by unfold setF; rw [if_neg hz])
  have HH := Lib.hid (has_any z w)
  rw [decide_eq_false hz] at HH
  have H := Lib.hid h
  clear hz h
  go_enter Try.func10, Try.ntmps10
  go_wp2_with fail
  refine HH.out.mono ?_
  rintro e w' ⟨rfl, rfl⟩
  go_wp2
  go_ret
  exact ⟨A, S, rfl, by rw [HF.out]; exact H.out, Or.inl ⟨HF.out, rfl, rfl⟩, Below.refl _ _⟩
set_option maxRecDepth 100000 in
set_option maxHeartbeats 1600000 in
theorem set_same (f : Nat → Int) (S : Nat → Nat → Option Nat) (A : Option Addr) (a : Nat) (n : Int) (w : World) (h : RdR f S w A) (ha : a ≤ 4095) (hn : f a = n) :
    Calls Try.prog 10 #[.pointer A, .int .i64 a, .int .i64 n] w (SetTree f S A a n w) := by
  have HF := Lib.hid (show setF f a n = f by rw [setF_in ha, ← hn, updF_same])
  have HH := Lib.hid (has_any a w)
  rw [decide_eq_true ⟨by omega, by omega⟩] at HH
  have HG := Lib.hid (get_any f S A a w h)
  rw [show getF f a = n by unfold getF; rw [if_pos ⟨by omega, by omega⟩]; exact hn] at HG
  have H := Lib.hid h
  clear ha hn h
  go_enter Try.func10, Try.ntmps10
  go_wp2_with fail
  refine HH.out.mono ?_
  rintro e w' ⟨rfl, rfl⟩
  go_wp2_with fail
  refine HG.out.mono ?_
  rintro e w' ⟨rfl, hb⟩
  go_wp2
  go_ret
  exact ⟨A, S, rfl, by rw [HF.out]; exact H.out.below hb, Or.inl ⟨HF.out, rfl, rfl⟩, hb⟩
set_option maxRecDepth 100000 in
set_option maxHeartbeats 1600000 in
theorem set_new (f : Nat → Int) (S : Nat → Nat → Option Nat) (A : Option Addr) (a : Nat) (n : Int) (w : World) (h : RdR f S w A) (ha : a ≤ 4095) (hn : f a ≠ n) :
    Calls Try.prog 10 #[.pointer A, .int .i64 a, .int .i64 n] w (SetTree f S A a n w) := by
  have HF := Lib.hid (setF_in (f := f) (n := n) ha)
  have HH := Lib.hid (has_any a w)
  rw [decide_eq_true ⟨by omega, by omega⟩] at HH
  have HG := Lib.hid (get_any f S A a w h)
  rw [show getF f a = f a by unfold getF; rw [if_pos ⟨by omega, by omega⟩]; rfl] at HG
  have H := Lib.hid h
  have HA := Lib.hid ha
  have HN := Lib.hid hn
  have hnb : (f a == n) = false := by simp [hn]
  obtain ⟨v, hv⟩ : ∃ v, v = f a := ⟨_, rfl⟩
  rw [← hv] at HG hnb
  clear ha hn h hv
  go_enter Try.func10, Try.ntmps10
  go_wp2_with fail
  refine HH.out.mono ?_
  rintro e w' ⟨rfl, rfl⟩
  go_wp2_with fail
  refine HG.out.mono ?_
  rintro e w1 ⟨rfl, hb1⟩
  have HB1 := Lib.hid hb1
  clear hb1
  go_wp2_with fail
  refine (of_any f S A _ (H.out.below HB1.out)).mono ?_
  rintro e w' ⟨rfl, rfl⟩
  go_wp2_with fail
  refine (nset_any f S a n HA.out _ (H.out.below HB1.out).1).mono ?_
  rintro e w2 ⟨nb, hnew, rfl, hr, hb2⟩
  have e0 : a / 16 ^ (2 + 1) = 0 := by have := HA.out; omega
  rw [e0]
  have hnew' : New w.heap.size nb 2 := ⟨fun e he => Nat.le_trans HB1.out.size (hnew.1 e he), hnew.2⟩
  have hb : Below w.heap.size w w2 := HB1.out.trans (hb2.mono HB1.out.size)
  have HR := Lib.hid hr
  have HB := Lib.hid hb
  have HW := Lib.hid hnew'
  clear hr hb hb2 hnew hnew' hnb
  cases hs : updS (updF f a n) S a 2 nb 2 0 with
  | none =>
    have HS := Lib.hid hs
    clear hs e0
    go_wp2
    go_ret
    refine ⟨none, updS (updF f a n) S a 2 nb, rfl, ?_, Or.inr ⟨by omega, by have := HA.out; omega, HN.out, nb, HW.out, by rw [HF.out]; rfl⟩, HB.out⟩
    rw [HF.out]
    exact ⟨HR.out, Or.inl ⟨HS.out, rfl⟩⟩
  | some b =>
    have HS := Lib.hid hs
    clear hs e0
    go_wp2
    go_ret
    refine ⟨_, updS (updF f a n) S a 2 nb, rfl, ?_, Or.inr ⟨by omega, by have := HA.out; omega, HN.out, nb, HW.out, by rw [HF.out]; rfl⟩, HB.out.alloc HB.out.size _⟩
    rw [HF.out]
    exact ⟨HR.out.below ((Below.refl _ _).alloc (Nat.le_refl _) _), Or.inr ⟨b, _, HS.out, rfl, heap_alloc_new _ _⟩⟩
theorem set_any (f : Nat → Int) (S : Nat → Nat → Option Nat) (A : Option Addr) (z n : Int) (w : World) (h : RdR f S w A) :
    Calls Try.prog 10 #[.pointer A, .int .i64 z, .int .i64 n] w (SetTree f S A z n w) := by
  by_cases hz : 0 ≤ z ∧ z ≤ 4095
  · obtain ⟨a, rfl⟩ := Int.eq_ofNat_of_zero_le hz.1
    by_cases hn : f a = n
    · exact set_same f S A a n w h (by omega) hn
    · exact set_new f S A a n w h (by omega) hn
  · exact set_out f S A z n w h hz
end Go.Proofs.Ytnnadhfpkplncaa

