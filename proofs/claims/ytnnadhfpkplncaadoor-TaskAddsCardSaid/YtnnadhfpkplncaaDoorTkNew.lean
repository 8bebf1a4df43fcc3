/- A machine, as it lies; New. No condition of its own. -/
import Derived.Test.YtnnadhfpkplncaaDoorLkLRuns
import Derived.Laws.LoneSync
namespace Go.Proofs.YtnnadhfpkplncaaDoor
open Go.RowKit Go.Maps

/-- A task, by its block. -/
def elemP : Value → Option (DataW Unit × List MemPlace)
  | .pointer (some ⟨b, 0, none⟩) => some (.lit (.int .i64 (b : Nat)), [])
  | .pointer none => some (.nil, [])
  | _ => none
theorem elemP_inv {v : Value} {y : DataW Unit × List MemPlace} (h : elemP v = some y) : (∃ b : Nat, v = .pointer (some ⟨b, 0, none⟩) ∧ y = (.lit (.int .i64 (b : Nat)), [])) ∨ (v = .pointer none ∧ y = (.nil, [])) := by
  unfold elemP at h
  split at h
  · exact Or.inl ⟨_, rfl, by cases h; rfl⟩
  · exact Or.inr ⟨rfl, by cases h; rfl⟩
  · cases h
theorem own_ents {k : TypeId} {R : Value → Option (DataW Unit × List MemPlace)} {w : World} {b n : Nat} {D : DataW Unit} (h : w.ownsMap Tryd.prog k R b n D) : ∃ es clock, w.heap[b]? = some (.map es clock) ∧ es.size = Maps.size D := by
  obtain ⟨es, clock, hb, F, _, rfl⟩ := h
  exact ⟨es, clock, hb, by simp [Maps.size, length_sorted]⟩
theorem own_tight {k : TypeId} {R : Value → Option (DataW Unit × List MemPlace)} {w : World} {b n : Nat} {D : DataW Unit} (h : w.ownsMap Tryd.prog k R b n D) : w.ownsMap Tryd.prog k R b (Maps.size D) D := by
  obtain ⟨es, clock, hb, F, hs, rfl⟩ := h
  exact ⟨es, clock, hb, F, Nat.le_of_eq (by simp [Maps.size, length_sorted]), rfl⟩
structure Mach (L : Nat) (w : World) (M m t : Nat) (lim last : Int) (hist : Value) (n : Nat) (T : Int → Option Nat) : Prop where
  cell : w.heap[M]? = some (.cells #[.int .i64 lim, .int .i64 last, .map (some m), .pointer (some ⟨t, 0, none⟩), hist] 97 (0, 0))
  map : ∃ D, w.ownsMap Tryd.prog 3 elemP m n D ∧ Maps.size D = n ∧ ∀ i, wfI i → D.atKey (.int .i64 i) .nil = spotD (T i) ∧ Maps.has D (.int .i64 i) = (T i).isSome
  lo : L ≤ M ∧ L ≤ m
theorem block_own {k : TypeId} {R : Value → Option (DataW Unit × List MemPlace)} {w w' : World} {b n : Nat} {D : DataW Unit} (h : w.ownsMap Tryd.prog k R b n D) (g : w'.heap[b]? = w.heap[b]?) : w'.ownsMap Tryd.prog k R b n D := by
  obtain ⟨es, clock, hb, Ft, hs, hD⟩ := h
  exact ⟨es, clock, g.trans hb, Ft, hs, hD⟩
theorem Mach.same {L : Nat} {w w' : World} {M m t : Nat} {lim last : Int} {hist : Value} {n : Nat} {T : Int → Option Nat} (h : Mach L w M m t lim last hist n T) (h1 : w'.heap[M]? = w.heap[M]?) (h2 : w'.heap[m]? = w.heap[m]?) : Mach L w' M m t lim last hist n T := by
  obtain ⟨D, a, b⟩ := h.map
  exact ⟨h1.trans h.cell, ⟨D, block_own a h2, b⟩, h.lo⟩
theorem Mach.mlt {L : Nat} {w : World} {M m t : Nat} {lim last : Int} {hist : Value} {n : Nat} {T : Int → Option Nat} (h : Mach L w M m t lim last hist n T) : m < w.heap.size := by
  obtain ⟨D, a, b⟩ := h.map
  exact a.lt
theorem Mach.below {L : Nat} {w w' : World} {M m t : Nat} {lim last : Int} {hist : Value} {n : Nat} {T : Int → Option Nat} (h : Mach L w M m t lim last hist n T) (k : Below w.heap.size w w') : Mach L w' M m t lim last hist n T :=
  h.same (k.block M (block_lt h.cell)) (k.block m h.mlt)
def TNewPost (lim : Int) (w : World) (e : Ending) (w' : World) : Prop :=
  ((lim < 1 ∨ 64 < lim) ∧ e = .returned (.tuple #[.pointer none, errV 1]) ∧ w' = w) ∨
  (1 ≤ lim ∧ lim ≤ 64 ∧ ∃ M t, e = .returned (.tuple #[.pointer (some ⟨M, 0, none⟩), .nilIface]) ∧ Mach w.heap.size w' M w.heap.size t lim 0 (.slice none 0 0) 0 (fun _ => none) ∧ Tab (w.heap.size + 1) 0 w' t (fun _ _ => 0) ∧ Below w.heap.size w w')
set_option maxRecDepth 100000 in
set_option maxHeartbeats 1600000 in
theorem tnew_any (lim : Int) (w : World) : Calls Tryd.prog 23 #[.int .i64 lim] w (TNewPost lim w) := by
  have hmm := @run_makeMap Tryd.prog
  by_cases h1 : lim < 1
  · have HL := Lib.hid (show lim < 1 ∨ 64 < lim from Or.inl h1)
    go_enter Tryd.func23, Tryd.ntmps23
    go_wp2_with fail
    go_ret2
    exact Or.inl ⟨HL.out, rfl, rfl⟩
  · by_cases h2 : 64 < lim
    · have HL := Lib.hid (show lim < 1 ∨ 64 < lim from Or.inr h2)
      go_enter Tryd.func23, Tryd.ntmps23
      go_wp2_with fail
      go_ret2
      exact Or.inl ⟨HL.out, rfl, rfl⟩
    · have HL := Lib.hid (show 1 ≤ lim ∧ lim ≤ 64 by omega)
      go_enter Tryd.func23, Tryd.ntmps23
      go_wp2_with fail
      refine (new_any _).mono ?_
      rintro e w1 ⟨t, rfl, ht, hlt, hb1⟩
      rw [World.size_alloc] at ht hb1
      have hsz1 := hb1.size
      rw [World.size_alloc] at hsz1
      have HT := Lib.hid ht
      have HB := Lib.hid hb1
      have HS := Lib.hid hsz1
      clear ht hb1 hlt hsz1
      go_wp2_with fail
      go_ret2
      have hs := HS.out
      have hb : Below w1.heap.size w1 (w1.alloc (.cells #[.int .i64 lim, .int .i64 0, .map (some w.heap.size), .pointer (some ⟨t, 0, none⟩), .slice none 0 0] 97)) := (Below.refl _ _).alloc (Nat.le_refl _) _
      refine Or.inr ⟨HL.out.1, HL.out.2, w1.heap.size, t, rfl, ⟨alloc_new _ _, ⟨.map [], ?_, rfl, fun i _ => ⟨rfl, rfl⟩⟩, by omega, Nat.le_refl _⟩, HT.out.below hb, ?_⟩
      · exact block_own (World.ownsMap_made w Tryd.prog 3 elemP) ((hb.block _ (by omega)).trans (HB.out.block _ (by omega)))
      · exact ((Below.refl _ w).alloc (Nat.le_refl _) _).trans ((HB.out.mono (by omega)).trans (hb.mono (by omega)))
/-- Blocks M and m alone may have turned. -/
structure KeepM (M m : Nat) (w w' : World) : Prop where
  os : w'.os = w.os
  tape : w'.tape = w.tape
  output : w'.output = w.output
  size : w.heap.size ≤ w'.heap.size
  block : ∀ i, i < w.heap.size → i ≠ M → i ≠ m → w'.heap[i]? = w.heap[i]?
theorem KeepM.of {M m : Nat} {w w' : World} (h : Below w.heap.size w w') : KeepM M m w w' := ⟨h.os, h.tape, h.output, h.size, fun i hi _ _ => h.block i hi⟩
theorem KeepM.trans {M m : Nat} {a b c : World} (h : KeepM M m a b) (k : KeepM M m b c) : KeepM M m a c :=
  ⟨k.os.trans h.os, k.tape.trans h.tape, k.output.trans h.output, Nat.le_trans h.size k.size, fun i hi h1 h2 => (k.block i (Nat.lt_of_lt_of_le hi h.size) h1 h2).trans (h.block i hi h1 h2)⟩
theorem KeepM.below {L M m : Nat} {w w' : World} (h : KeepM M m w w') (h1 : L ≤ M) (h2 : L ≤ m) (h3 : L ≤ w.heap.size) : Below L w w' := ⟨h.os, h.tape, h.output, h.size, fun i hi => h.block i (by omega) (by omega) (by omega)⟩
theorem Tab.keepM {N M m t : Nat} {w w' : World} {F : Int → List UInt8 → Int} {lim last : Int} {hist : Value} {n L t' : Nat} {T : Int → Option Nat} (h : Tab (m + 1) N w t F) (hM : Mach L w M m t' lim last hist n T) (k : KeepM M m w w') : Tab (m + 1) N w' t F := by
  obtain ⟨mt, B, h, hne⟩ := h
  obtain ⟨n0, D0, o1, o2, o3⟩ := h.map
  have hcM := hM.cell
  have nomap : ∀ {b : Nat} {kk : TypeId} {R : Value → Option (DataW Unit × List MemPlace)} {nn : Nat} {D : DataW Unit}, w.ownsMap Tryd.prog kk R b nn D → b ≠ M := fun ho e => by
    obtain ⟨es, clock, hb, _⟩ := ho
    rw [e, hcM] at hb
    cases hb
  have ht1 : t ≠ M := fun e => by
    have := h.cell
    rw [e, hcM] at this
    cases this
  have ht2 : t ≠ m := fun e => by
    obtain ⟨D, ⟨es, clock, hb, _⟩, _⟩ := hM.map
    have := h.cell
    rw [e, hb] at this
    cases this
  refine ⟨mt, B, ⟨(k.block t (block_lt h.cell) ht1 ht2).trans h.cell, ⟨n0, D0, block_own o1 (k.block mt o1.lt (nomap o1) (by have := h.lo.1; omega)), o2, o3⟩, h.free, fun i b e => ⟨?_, (h.held i b e).2⟩, h.lo, h.inj⟩, hne⟩
  obtain ⟨n1, D1, a1, a2, a3⟩ := (h.held i b e).1
  exact ⟨n1, D1, block_own a1 (k.block b a1.lt (nomap a1) (by have := h.lo.2 i b e; omega)), a2, a3⟩
end Go.Proofs.YtnnadhfpkplncaaDoor
