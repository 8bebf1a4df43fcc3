/- Who holds what, as it lies: a map of maps. No condition of its own. -/
import Derived.Test.YtnnadhfpkplncaaDoorLkNum
import Derived.WalkKit
import Derived.Tactics
import Derived.Tactics2
import Derived.Defers
import Derived.Laws.Pointers
import Derived.RegionTactic
import Derived.RegionCalls
import Derived.ChangeAlike
import Derived.LoopTactic
import Derived.Outline
import Derived.OwnWalk
import Derived.Lib.Hide
import Derived.IntWalk
import Derived.Laws.Rows
import Derived.Maps.OwnOps
import Derived.Maps.OwnSet
import Derived.Maps.RangeWalk
import Derived.Sort.KeysCollected
namespace Go.Proofs.YtnnadhfpkplncaaDoor
open Go.RowKit Go.Maps

theorem cell_lt {w : World} {b o : Nat} {v : Value} (h : w.cell? ⟨b, o, none⟩ = some v) : b < w.heap.size := by
  rcases Nat.lt_or_ge b w.heap.size with hlt | hge
  · exact hlt
  · simp [World.cell?, Array.getElem?_eq_none hge] at h
theorem block_cell {g o : Nat} {w : World} {cs : Array Value} {T : TypeId} (hg : w.heap[g]? = some (.cells cs T (0, 0))) : w.cell? ⟨g, o, none⟩ = cs[o]? := by simp [World.cell?, hg]
theorem block_free {g o : Nat} {w : World} {cs : Array Value} {T : TypeId} (hg : w.heap[g]? = some (.cells cs T (0, 0))) : w.frozen? ⟨g, o, none⟩ = false := by simp [World.frozen?, hg]
theorem block_lt {w : World} {b : Nat} {o : Obj} (h : w.heap[b]? = some o) : b < w.heap.size := (Array.getElem?_eq_some_iff.1 h).1
theorem alloc_new (w : World) (o : Obj) : (w.alloc o).heap[w.heap.size]? = some o := by
  show (w.heap.push o)[w.heap.size]? = some o
  rw [Array.getElem?_push_size]
theorem keyI : Keyed Tryd.prog 3 := int_keyed Tryd.underlying3
theorem keyS : Keyed Tryd.prog 9 := string_keyed Tryd.underlying9
theorem zeroI (w : World) : (zeroValue 3).run Tryd.prog w = .ok (.int .i64 0) w := by kernel_rfl
theorem zeroM (w : World) : (zeroValue 77).run Tryd.prog w = .ok (.map none) w := by kernel_rfl
def wfI (x : Int) : Prop := (Lit.int .i64 x).wf = true
def okS (l : List UInt8) : Prop := l.length ≤ maxLen
theorem kI {x : Int} (h : wfI x) : keyOf Tryd.prog 3 (.int .i64 x) = some (.int .i64 x) := keyOf_int_mk Tryd.underlying3 h
theorem kS {l : List UInt8} (h : okS l) : keyOf Tryd.prog 9 (.string ⟨l.toArray⟩) = some (.string l) := Go.WideMaps.keyOf_string_mk Tryd.underlying9 h
/-- An inner map, by its block. -/
def elemM : Value → Option (DataW Unit × List MemPlace)
  | .map (some b) => some (.lit (.int .i64 (b : Nat)), [])
  | .map none => some (.nil, [])
  | _ => none
theorem elemM_inv {v : Value} {y : DataW Unit × List MemPlace} (h : elemM v = some y) : ∃ c, v = .map c := by
  unfold elemM at h
  split at h
  · exact ⟨_, rfl⟩
  · exact ⟨_, rfl⟩
  · cases h
noncomputable abbrev plI : Value → Option (DataW Unit × List MemPlace) := plainElem Tryd.prog 3
/-- What one holds. -/
def InM (N : Nat) (w : World) (b : Nat) (g : List UInt8 → Int) : Prop :=
  ∃ n D, w.ownsMap Tryd.prog 9 plI b n D ∧ n ≤ N ∧ ∀ l, okS l → D.atKey (.string l) (.lit (.int .i64 0)) = .lit (.int .i64 (g l)) ∧ Maps.has D (.string l) = decide (g l ≠ 0)
def spotD : Option Nat → DataW Unit
  | some b => .lit (.int .i64 (b : Nat))
  | none => .nil
/-- The table: B: the block of each one's map. -/
structure TabB (L N : Nat) (w : World) (t m : Nat) (B : Int → Option Nat) (F : Int → List UInt8 → Int) : Prop where
  cell : w.heap[t]? = some (.cells #[.map (some m)] 76 (0, 0))
  map : ∃ n D, w.ownsMap Tryd.prog 3 elemM m n D ∧ n ≤ N ∧ ∀ i, wfI i → D.atKey (.int .i64 i) .nil = spotD (B i) ∧ Maps.has D (.int .i64 i) = (B i).isSome
  free : ∀ i, B i = none → ∀ l, F i l = 0
  held : ∀ i b, B i = some b → InM N w b (F i) ∧ b ≠ m
  lo : L ≤ m ∧ ∀ i b, B i = some b → L ≤ b
  inj : ∀ i j b, B i = some b → B j = some b → i = j
def Tab (L N : Nat) (w : World) (t : Nat) (F : Int → List UInt8 → Int) : Prop := ∃ m B, TabB L N w t m B F ∧ ∀ i b, B i = some b → ∃ l, okS l ∧ F i l ≠ 0
theorem own_kept {k : TypeId} {R : Value → Option (DataW Unit × List MemPlace)} {w w' : World} {b n : Nat} {D : DataW Unit} (h : w.ownsMap Tryd.prog k R b n D) (g : Below w.heap.size w w') : w'.ownsMap Tryd.prog k R b n D :=
  h.kept (row := Option.none) ⟨g.os, g.tape, g.output, g.size, fun i hi _ => g.block i hi⟩ (by simp)
theorem InM.below {N b : Nat} {w w' : World} {g : List UInt8 → Int} (h : InM N w b g) (k : Below w.heap.size w w') : InM N w' b g := by
  obtain ⟨n, D, h1, h2, h3⟩ := h
  exact ⟨n, D, own_kept h1 k, h2, h3⟩
theorem TabB.below {L N t m : Nat} {w w' : World} {B : Int → Option Nat} {F : Int → List UInt8 → Int} (h : TabB L N w t m B F) (k : Below w.heap.size w w') : TabB L N w' t m B F := by
  obtain ⟨n, D, h1, h2, h3⟩ := h.map
  exact ⟨(k.block t (block_lt h.cell)).trans h.cell, ⟨n, D, own_kept h1 k, h2, h3⟩, h.free, fun i b e => ⟨(h.held i b e).1.below k, (h.held i b e).2⟩, h.lo, h.inj⟩
theorem Tab.below {L N t : Nat} {w w' : World} {F : Int → List UInt8 → Int} (h : Tab L N w t F) (k : Below w.heap.size w w') : Tab L N w' t F := by
  obtain ⟨m, B, h, hne⟩ := h
  exact ⟨m, B, h.below k, hne⟩
theorem InM.mono {N N' b : Nat} {w : World} {g : List UInt8 → Int} (h : InM N w b g) (hn : N ≤ N') : InM N' w b g := by
  obtain ⟨n, D, h1, h2, h3⟩ := h
  exact ⟨n, D, h1, by omega, h3⟩
theorem Tab.mono {L N N' t : Nat} {w : World} {F : Int → List UInt8 → Int} (h : Tab L N w t F) (hn : N ≤ N') : Tab L N' w t F := by
  obtain ⟨m, B, h, hne⟩ := h
  obtain ⟨n, D, h1, h2, h3⟩ := h.map
  exact ⟨m, B, ⟨h.cell, ⟨n, D, h1, by omega, h3⟩, h.free, fun i b e => ⟨(h.held i b e).1.mono hn, (h.held i b e).2⟩, h.lo, h.inj⟩, hne⟩
/-- Nobody holds anything. -/
theorem tab_made (w : World) : Tab w.heap.size 0 ((w.alloc (.map #[] 0)).alloc (.cells #[.map (some w.heap.size)] 76)) (w.heap.size + 1) (fun _ _ => 0) := by
  refine ⟨w.heap.size, fun _ => Option.none, ⟨?_, ⟨0, .map [], ?_, Nat.le_refl _, fun i _ => ⟨rfl, rfl⟩⟩, fun _ _ _ => rfl, fun _ _ e => by simp at e, ⟨Nat.le_refl _, fun _ _ e => by simp at e⟩, fun _ _ _ e => by simp at e⟩, fun _ _ e => by simp at e⟩
  · have := alloc_new (w.alloc (.map #[] 0)) (.cells #[.map (some w.heap.size)] 76)
    rw [World.size_alloc] at this
    exact this
  · exact (World.ownsMap_made w Tryd.prog 3 elemM).alloc _
set_option maxRecDepth 100000 in
/-- 'm[who]'. -/
theorem look_out {L N t m : Nat} {w : World} {B : Int → Option Nat} {F : Int → List UInt8 → Int} (h : TabB L N w t m B F) {i : Int} (hi : wfI i) : (Instr.lookup 74 (.map (some m)) (.int .i64 i) false).run Tryd.prog w = .ok (.map (B i)) w := by
  obtain ⟨n, D, h1, _, h3⟩ := h.map
  obtain ⟨v, ps, hrun, hv⟩ := h1.lookup keyI Tryd.underlying74 (zeroM w) (zd := .nil) (zp := []) rfl (kI hi)
  rw [(h3 i hi).1] at hv
  obtain ⟨c, rfl⟩ := elemM_inv hv
  have : c = B i := by
    cases c with
    | none =>
      cases hB : B i with
      | none => rfl
      | some b => rw [hB] at hv; simp [elemM, spotD] at hv
    | some b =>
      cases hB : B i with
      | none => rw [hB] at hv; simp [elemM, spotD] at hv
      | some b' =>
        rw [hB] at hv
        simp [elemM, spotD] at hv
        have := hv.1
        congr 1
        omega
  rw [hrun, this]
set_option maxRecDepth 100000 in
/-- 'm[who][name]'. -/
theorem look_in {N b : Nat} {w : World} {g : List UInt8 → Int} (h : InM N w b g) {l : List UInt8} (hl : okS l) : (Instr.lookup 77 (.map (some b)) (.string ⟨l.toArray⟩) false).run Tryd.prog w = .ok (.int .i64 (g l)) w := by
  obtain ⟨n, D, h1, _, h3⟩ := h
  obtain ⟨c, hrun, hat, _⟩ := h1.lookup_int keyS Tryd.underlying77 Tryd.underlying3 (zeroI w) (kS hl)
  rw [(h3 l hl).1] at hat
  injection hat with hat
  injection hat with _ hat
  rw [hrun, hat]
set_option maxRecDepth 100000 in
theorem look_nil {w : World} {l : List UInt8} (hl : okS l) : (Instr.lookup 77 (.map Option.none) (.string ⟨l.toArray⟩) false).run Tryd.prog w = .ok (.int .i64 0) w := by
  have h := Maps.look_nil (w := w) false keyS Tryd.underlying77 (zeroI w) (kS hl)
  rw [if_neg (by decide)] at h
  exact h
theorem look_both {L N t m : Nat} {w : World} {B : Int → Option Nat} {F : Int → List UInt8 → Int} (h : TabB L N w t m B F) {i : Int} {l : List UInt8} (hl : okS l) : (Instr.lookup 77 (.map (B i)) (.string ⟨l.toArray⟩) false).run Tryd.prog w = .ok (.int .i64 (F i l)) w := by
  cases hB : B i with
  | none => rw [look_nil hl, h.free i hB l]
  | some b => exact look_in (h.held i b hB).1 hl
end Go.Proofs.YtnnadhfpkplncaaDoor
