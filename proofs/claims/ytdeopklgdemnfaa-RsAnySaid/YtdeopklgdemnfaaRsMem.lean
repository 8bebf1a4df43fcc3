/- Slices in memory that read as lists, beside a field's block that may still turn; worlds in which nothing old has turned but that block. No condition of its own. -/
import Derived.Test.YtdeopklgdemnfaaGfFW
import Derived.Test.YtdeopklgdemnfaaRsInv
import Derived.Laws.MakeOwn
import Derived.Laws.OwnMore
namespace Go.Proofs.Ytdeopklgdemnfaa
open Go.RowKit Gf Rs

def B (x : F) : Value := .int .u8 (x.1 : Int)
/-- A list of bytes as cells. -/
def arrB (l : List F) : Array Value := (l.map B).toArray
/-- The cells from A on hold these values; they lie outside block fb. -/
def RdV (fb : Nat) (w : World) (A : Option Addr) (vs : List Value) : Prop :=
  ∀ i v, vs[i]? = some v → ∃ b o, A = some ⟨b, o, none⟩ ∧ b ≠ fb ∧ w.cell? ⟨b, o + i, none⟩ = some v
def RdB (fb : Nat) (w : World) (A : Option Addr) (l : List F) : Prop := RdV fb w A (l.map B)
/-- A slice's value that reads as a list of bytes. -/
def Hd (fb : Nat) (w : World) (h : Value) (l : List F) : Prop := ∃ A c, h = .slice A l.length c ∧ l.length ≤ c ∧ RdB fb w A l
def RdM (fb : Nat) (w : World) (A : Option Addr) (ls : List (List F)) : Prop :=
  ∃ hs : List Value, hs.length = ls.length ∧ RdV fb w A hs ∧ ∀ (i : Nat) (h : Value) (l : List F), hs[i]? = some h → ls[i]? = some l → Hd fb w h l
def HdM (fb : Nat) (w : World) (h : Value) (ls : List (List F)) : Prop := ∃ A c, h = .slice A ls.length c ∧ ls.length ≤ c ∧ RdM fb w A ls
/-- Of what was there in w nothing has turned in w' but the field's block, which still holds a field. -/
structure Keep (fb : Nat) (w w' : World) : Prop where
  os : w'.os = w.os
  tape : w'.tape = w.tape
  output : w'.output = w.output
  size : w.heap.size ≤ w'.heap.size
  block : ∀ k, k < w.heap.size → k ≠ fb → w'.heap[k]? = w.heap[k]?
  field : FieldIn fb w → FieldIn fb w'
theorem FieldIn.lt {b : Nat} {w : World} (h : FieldIn b w) : b < w.heap.size := by
  rcases h with h | h <;> exact (Array.getElem?_eq_some_iff.1 h).1
theorem Keep.refl (fb : Nat) (w : World) : Keep fb w w := ⟨rfl, rfl, rfl, Nat.le_refl _, fun _ _ _ => rfl, id⟩
theorem Keep.trans {fb : Nat} {a b c : World} (h : Keep fb a b) (k : Keep fb b c) : Keep fb a c :=
  ⟨k.os.trans h.os, k.tape.trans h.tape, k.output.trans h.output, Nat.le_trans h.size k.size, fun i hi hne => (k.block i (Nat.lt_of_lt_of_le hi h.size) hne).trans (h.block i hi hne), fun f => k.field (h.field f)⟩
theorem Keep.of_at {fb : Nat} {w w' : World} (h : At fb madeF 66 w w') : Keep fb w w' :=
  ⟨h.os, h.tape, h.output, Nat.le_of_eq h.size.symm, fun k _ hne => h.other k hne, fun _ => Or.inr h.here⟩
theorem Keep.of_below {fb : Nat} {w w' : World} (h : Below w.heap.size w w') : Keep fb w w' :=
  ⟨h.os, h.tape, h.output, h.size, fun k hk _ => h.block k hk, fun f => by have e := h.block fb f.lt; unfold FieldIn at *; rw [e]; exact f⟩
theorem Keep.alloc {fb : Nat} {a w : World} (h : Keep fb a w) (o : Obj) : Keep fb a (w.alloc o) := h.trans (Keep.of_below ((Below.refl _ _).alloc (Nat.le_refl _) o))
theorem Keep.drew {fb : Nat} {a w : World} (h : Keep fb a w) : Keep fb a w.drew := ⟨h.os, h.tape, h.output, h.size, h.block, h.field⟩
theorem Keep.drewN {fb : Nat} {a w : World} (h : Keep fb a w) (n : Nat) : Keep fb a (w.drewN n) := ⟨h.os, h.tape, h.output, h.size, h.block, h.field⟩
theorem Keep.set {fb : Nat} {a w : World} (h : Keep fb a w) {g o : Nat} (hg : a.heap.size ≤ g) (hne : g ≠ fb) (u : Value) : Keep fb a (w.setCell ⟨g, o, none⟩ u) := by
  refine ⟨h.os, h.tape, h.output, by simpa [World.setCell] using h.size, fun k hk hn => ?_, fun f => ?_⟩
  · rw [Below.heap_setCell _ _ _ _ (show k ≠ g by omega)]; exact h.block k hk hn
  · have e := Below.heap_setCell w ⟨g, o, none⟩ u fb (show fb ≠ g from Ne.symm hne)
    have := h.field f
    unfold FieldIn at *; rw [e]; exact this
theorem Keep.grown {fb : Nat} {a w w' : World} {row : Option Nat} (h : Keep fb a w) (hf : fb < w.heap.size) (hg : w.grownBy w' row) (hr : ∀ k, row = some k → a.heap.size ≤ k ∧ k ≠ fb) : Keep fb a w' := by
  refine ⟨hg.os.trans h.os, hg.tape.trans h.tape, hg.output.trans h.output, Nat.le_trans h.size hg.size, fun k hk hn => ?_, fun f => ?_⟩
  · rw [hg.block k (Nat.lt_of_lt_of_le hk h.size) fun e => by have := (hr k e.symm).1; omega]; exact h.block k hk hn
  · have e := hg.block fb hf fun e => (hr fb e.symm).2 rfl
    have := h.field f
    unfold FieldIn at *; rw [e]; exact this
theorem Keep.below {fb : Nat} {w w' : World} (h : Keep fb w w') {b : Nat} (hb : b ≤ fb) (hl : b ≤ w.heap.size) : Below b w w' :=
  ⟨h.os, h.tape, h.output, h.size, fun k hk => h.block k (by omega) (by omega)⟩
theorem cell_lt {w : World} {b o : Nat} {v : Value} (h : w.cell? ⟨b, o, none⟩ = some v) : b < w.heap.size := by
  rcases Nat.lt_or_ge b w.heap.size with h0 | h0
  · exact h0
  · simp [World.cell?, Array.getElem?_eq_none h0] at h
theorem Keep.cell {fb : Nat} {w w' : World} (h : Keep fb w w') {b o : Nat} {v : Value} (hb : b ≠ fb) (hc : w.cell? ⟨b, o, none⟩ = some v) : w'.cell? ⟨b, o, none⟩ = some v := by
  rw [← hc]; exact World.cell?_of_block (h.block b (cell_lt hc) hb)
theorem RdV.keep {fb : Nat} {w w' : World} {A : Option Addr} {vs : List Value} (h : RdV fb w A vs) (k : Keep fb w w') : RdV fb w' A vs := by
  intro i v hi
  obtain ⟨b, o, hA, hne, hc⟩ := h i v hi
  exact ⟨b, o, hA, hne, k.cell hne hc⟩
theorem RdB.keep {fb : Nat} {w w' : World} {A : Option Addr} {l : List F} (h : RdB fb w A l) (k : Keep fb w w') : RdB fb w' A l := RdV.keep h k
theorem Hd.keep {fb : Nat} {w w' : World} {v : Value} {l : List F} (h : Hd fb w v l) (k : Keep fb w w') : Hd fb w' v l := by
  obtain ⟨A, c, e, hc, hr⟩ := h
  exact ⟨A, c, e, hc, hr.keep k⟩
theorem RdM.keep {fb : Nat} {w w' : World} {A : Option Addr} {ls : List (List F)} (h : RdM fb w A ls) (k : Keep fb w w') : RdM fb w' A ls := by
  obtain ⟨hs, hl, hv, hh⟩ := h
  exact ⟨hs, hl, hv.keep k, fun i u l h1 h2 => (hh i u l h1 h2).keep k⟩
theorem HdM.keep {fb : Nat} {w w' : World} {v : Value} {ls : List (List F)} (h : HdM fb w v ls) (k : Keep fb w w') : HdM fb w' v ls := by
  obtain ⟨A, c, e, hc, hr⟩ := h
  exact ⟨A, c, e, hc, hr.keep k⟩
/-- One cell of a slice. -/
theorem RdV.at {fb : Nat} {w : World} {A : Option Addr} {vs : List Value} (h : RdV fb w A vs) {i : Nat} (hi : i < vs.length) : ∃ b o, A = some ⟨b, o, none⟩ ∧ b ≠ fb ∧ w.cell? ⟨b, o + i, none⟩ = some vs[i] :=
  h i _ (List.getElem?_eq_getElem hi)
theorem RdB.at {fb : Nat} {w : World} {A : Option Addr} {l : List F} (h : RdB fb w A l) {i : Nat} (hi : i < l.length) : ∃ b o, A = some ⟨b, o, none⟩ ∧ b ≠ fb ∧ w.cell? ⟨b, o + i, none⟩ = some (B l[i]) := by
  have := RdV.at h (i := i) (by simpa using hi)
  simpa using this
theorem RdM.at {fb : Nat} {w : World} {A : Option Addr} {ls : List (List F)} (h : RdM fb w A ls) {i : Nat} (hi : i < ls.length) :
    ∃ b o A' c', A = some ⟨b, o, none⟩ ∧ b ≠ fb ∧ w.cell? ⟨b, o + i, none⟩ = some (.slice A' ls[i].length c') ∧ ls[i].length ≤ c' ∧ RdB fb w A' ls[i] := by
  obtain ⟨hs, hl, hv, hh⟩ := h
  obtain ⟨b, o, hA, hne, hc⟩ := hv.at (i := i) (by omega)
  obtain ⟨A', c', e, hc', hr⟩ := hh i _ _ (List.getElem?_eq_getElem (by omega)) (List.getElem?_eq_getElem hi)
  exact ⟨b, o, A', c', hA, hne, by rw [hc, e], hc', hr⟩
/-- A block of one's own reads as its cells. -/
theorem RdV.block {fb g : Nat} {w : World} {cs : Array Value} {T : TypeId} (hg : w.heap[g]? = some (.cells cs T (0, 0))) (hne : g ≠ fb) {vs : List Value} (h : ∀ (i : Nat) (v : Value), vs[i]? = some v → cs[i]? = some v) : RdV fb w (some ⟨g, 0, none⟩) vs := by
  intro i v hi
  exact ⟨g, 0, rfl, hne, by simp [World.cell?, hg, h i v hi]⟩
theorem RdV.whole {fb g : Nat} {w : World} {vs : List Value} {T : TypeId} (hg : w.heap[g]? = some (.cells vs.toArray T (0, 0))) (hne : g ≠ fb) : RdV fb w (some ⟨g, 0, none⟩) vs :=
  RdV.block hg hne fun i v hi => by simpa using hi
theorem RdB.whole {fb g : Nat} {w : World} {l : List F} {T : TypeId} (hg : w.heap[g]? = some (.cells (arrB l) T (0, 0))) (hne : g ≠ fb) : RdB fb w (some ⟨g, 0, none⟩) l := RdV.whole hg hne
theorem block_cell {g o : Nat} {w : World} {cs : Array Value} {T : TypeId} (hg : w.heap[g]? = some (.cells cs T (0, 0))) : w.cell? ⟨g, o, none⟩ = cs[o]? := by simp [World.cell?, hg]
theorem block_free {g o : Nat} {w : World} {cs : Array Value} {T : TypeId} (hg : w.heap[g]? = some (.cells cs T (0, 0))) : w.frozen? ⟨g, o, none⟩ = false := by simp [World.frozen?, hg]
theorem block_set {g o : Nat} {w : World} {cs : Array Value} {T : TypeId} (hg : w.heap[g]? = some (.cells cs T (0, 0))) (u : Value) : (w.setCell ⟨g, o, none⟩ u).heap[g]? = some (.cells (cs.setIfInBounds o u) T (0, 0)) := by
  simp only [World.setCell, Array.getElem?_modify, if_true, hg, Option.map_some]; simp
theorem block_lt {g : Nat} {w : World} {o : Obj} (hg : w.heap[g]? = some o) : g < w.heap.size := (Array.getElem?_eq_some_iff.1 hg).1
theorem heap_new (w : World) (o : Obj) (n : Nat) (h : n = w.heap.size) : (w.alloc o).heap[n]? = some o := by
  subst h; exact Array.getElem?_push_size
theorem arrB_at (l : List F) (i : Nat) : (arrB l)[i]? = (l[i]?).map B := by simp [arrB]
theorem arrB_set (l : List F) (i : Nat) (x : F) : (arrB l).setIfInBounds i (B x) = arrB (l.set i x) := by
  unfold arrB
  apply Array.ext
  · simp
  · intro k h1 h2
    simp only [List.getElem_toArray, List.getElem_map, List.getElem_set]
    split <;> simp_all

theorem infoB : (Try.prog.info? 5).map (fun i => (i.zero, i.size, i.bytes)) = some (some (.int .u8 0), 1, 1) := by kernel_rfl
theorem made_zeros (n : Nat) : madeCells #[.int .u8 0] n = arrB (List.replicate n fz) := by
  unfold arrB
  apply Array.toList_inj.1
  rw [toList_madeCells_one]
  simp [B, fz]
/-- make([]byte, n). -/
theorem run_makeB (n : Nat) (hn : n ≤ 1048576) (w : World) : (Instr.makeSlice 37 (.int .i64 (n : Int)) (.int .i64 (n : Int))).run Try.prog w
    = .ok (.slice (some ⟨w.heap.size, 0, none⟩) n n) (w.alloc (.cells (arrB (List.replicate n fz)) 5)) := by
  obtain ⟨i0, hi, hz0, hz1, hz2⟩ := info_parts infoB
  have h := run_make (P := Try.prog) w 37 5 i0 (.int .u8 0) Try.underlying37 hi hz0 .i64 .i64 n n (by omega) (by omega) (by rw [hz2]; omega) (by omega)
  rw [hz1] at h
  simpa [Value.cells, made_zeros] using h
end Go.Proofs.Ytdeopklgdemnfaa
