/- Trees as they lie: a node is there just where a number is. No condition of its own. -/
import Derived.Test.YtnnadhfpkplncaaProg
import Derived.WalkKit
import Derived.Tactics
import Derived.Tactics2
import Derived.Defers
import Derived.Laws.Pointers
import Derived.RegionTactic
import Derived.RegionCalls
import Derived.ChangeAlike
import Derived.LoopTactic
import Derived.Outline
import Derived.OwnWalk
import Derived.Lib.Hide
import Derived.IntWalk
import Derived.Laws.Rows
namespace Go.Proofs.Ytnnadhfpkplncaa
open Go.RowKit

theorem cell_lt {w : World} {b o : Nat} {v : Value} (h : w.cell? ⟨b, o, none⟩ = some v) : b < w.heap.size := by
  rcases Nat.lt_or_ge b w.heap.size with hlt | hge
  · exact hlt
  · simp [World.cell?, Array.getElem?_eq_none hge] at h
theorem block_cell {g o : Nat} {w : World} {cs : Array Value} {T : TypeId} (hg : w.heap[g]? = some (.cells cs T (0, 0))) : w.cell? ⟨g, o, none⟩ = cs[o]? := by simp [World.cell?, hg]
theorem block_free {g o : Nat} {w : World} {cs : Array Value} {T : TypeId} (hg : w.heap[g]? = some (.cells cs T (0, 0))) : w.frozen? ⟨g, o, none⟩ = false := by simp [World.frozen?, hg]
theorem block_lt {g : Nat} {w : World} {o : Obj} (hg : w.heap[g]? = some o) : g < w.heap.size := (Array.getElem?_eq_some_iff.1 hg).1
/-- A node's cells: sixteen arms, sixteen numbers. -/
def nodeC (ps : List (Option Addr)) (ns : List Int) : Array Value := (ps.map Value.pointer ++ ns.map (Value.int .i64)).toArray
theorem nodeC_arm {ps : List (Option Addr)} {ns : List Int} {i : Nat} {p : Option Addr} (h : ps[i]? = some p) : (nodeC ps ns)[i]? = some (.pointer p) := by
  have hi := (List.getElem?_eq_some_iff.1 h).1
  simp only [nodeC, List.getElem?_toArray]
  rw [List.getElem?_append_left (by simpa using hi), List.getElem?_map, h]; rfl
theorem nodeC_num {ps : List (Option Addr)} {ns : List Int} {i : Nat} {n : Int} (hl : ps.length = 16) (h : ns[i]? = some n) : (nodeC ps ns)[16 + i]? = some (.int .i64 n) := by
  simp only [nodeC, List.getElem?_toArray]
  rw [List.getElem?_append_right (by simp [hl]), List.length_map, hl, Nat.add_sub_cancel_left, List.getElem?_map, h]; rfl
/-- How many places a node of depth d has (0: the last rank). -/
def span : Nat → Nat
  | 0 => 16
  | d + 1 => 16 * span d
/-- Has the group g of depth d no number? -/
def Bare (d g : Nat) (f : Nat → Int) : Prop := ∀ i, i < span d → f (g * span d + i) = 0
/-- A node's address. -/
def ptr (o : Option Nat) : Option Addr := o.map fun b => ⟨b, 0, none⟩
/-- The arms of the group g of depth d + 1; the numbers of the group g of depth 0. -/
def armC (S : Nat → Nat → Option Nat) (d g : Nat) : List (Option Addr) := (List.range 16).map fun i => ptr (S d (g * 16 + i))
def numC (f : Nat → Int) (g : Nat) : List Int := (List.range 16).map fun i => f (g * 16 + i)
/-- The nodes of the depths up to D are those of f: S tells which block is whose, and none where there is no number. -/
structure RdD (D : Nat) (f : Nat → Int) (S : Nat → Nat → Option Nat) (w : World) : Prop where
  far : ∀ a, 4096 ≤ a → f a = 0
  can : ∀ d g, d ≤ D → (S d g = none ↔ Bare d g f)
  leaf : ∀ g b, S 0 g = some b → w.heap[b]? = some (.cells (nodeC (List.replicate 16 none) (numC f g)) 87 (0, 0))
  node : ∀ d g b, d + 1 ≤ D → S (d + 1) g = some b → w.heap[b]? = some (.cells (nodeC (armC S d g) (List.replicate 16 0)) 87 (0, 0))
theorem RdD.below {D : Nat} {f : Nat → Int} {S : Nat → Nat → Option Nat} {w w' : World} (h : RdD D f S w) (k : Below w.heap.size w w') : RdD D f S w' :=
  ⟨h.far, h.can, fun g b e => (k.block b (block_lt (h.leaf g b e))).trans (h.leaf g b e), fun d g b hd e => (k.block b (block_lt (h.node d g b hd e))).trans (h.node d g b hd e)⟩
theorem RdD.le {D E : Nat} {f : Nat → Int} {S : Nat → Nat → Option Nat} {w : World} (h : RdD D f S w) (he : E ≤ D) : RdD E f S w :=
  ⟨h.far, fun d g hd => h.can d g (by omega), h.leaf, fun d g b hd => h.node d g b (by omega)⟩
/-- A tree: nil, or its root. -/
def RdR (f : Nat → Int) (S : Nat → Nat → Option Nat) (w : World) (A : Option Addr) : Prop :=
  RdD 2 f S w ∧ ((S 2 0 = none ∧ A = none) ∨ ∃ b r, S 2 0 = some b ∧ A = some ⟨r, 0, none⟩ ∧ w.heap[r]? = some (.cells #[.pointer (some ⟨b, 0, none⟩)] 80 (0, 0)))
theorem RdR.below {f : Nat → Int} {S : Nat → Nat → Option Nat} {w w' : World} {A : Option Addr} (h : RdR f S w A) (k : Below w.heap.size w w') : RdR f S w' A := by
  obtain ⟨h0, h⟩ := h
  refine ⟨h0.below k, ?_⟩
  rcases h with h | ⟨b, r, e, ea, hb⟩
  · exact Or.inl h
  · exact Or.inr ⟨b, r, e, ea, (k.block r (block_lt hb)).trans hb⟩
end Go.Proofs.Ytnnadhfpkplncaa
