/- may; Run: a name taken, the last step done. Condition: the machine and its tasks read. -/
import Derived.Test.YtnnadhfpkplncaaDoorTkFind
namespace Go.Proofs.YtnnadhfpkplncaaDoor
open Go.RowKit Go.Maps

set_option maxRecDepth 100000 in
set_option maxHeartbeats 1600000 in
theorem tmay_any {L N : Nat} {w : World} {M m t b : Nat} {lim last : Int} {hist : Value} {n : Nat} {T : Int → Option Nat} {F : Int → List UInt8 → Int} {r : List Held} (h : Mach L w M m t lim last hist n T) {i : Int} (hi : wfI i) (ht : Tab (m + 1) N w t F) (ha : Agr F r)
    {g o c nl : Nat} {taken done steps : Int} {x : Want} {l : List Want} (hb : w.heap[b]? = some (.cells #[.slice (some ⟨g, o, none⟩) nl c, .int .i64 taken, .int .i64 done, .int .i64 steps] 108 (0, 0))) (hnl : nl = l.length + 1) (hr : RdA w (some ⟨g, o, none⟩) (wants2 (x :: l))) (hx : okS x.1) (hl : l.length ≤ 1000) :
    Calls Tryd.prog 56 #[.pointer (some ⟨M, 0, none⟩), .int .i64 i, .pointer (some ⟨b, 0, none⟩)] w fun e w' => e = .returned (errV (refMay r i x.1 x.2)) ∧ Below w.heap.size w w' := by
  have d3 : w.cell? ⟨M, 3, none⟩ = some (.pointer (some ⟨t, 0, none⟩)) := block_cell h.cell
  have e0 : w.cell? ⟨b, 0, none⟩ = some (.slice (some ⟨g, o, none⟩) nl c) := block_cell hb
  obtain ⟨b', o', eA, f1, f2⟩ := want_at hr (i := 0) (x := x) rfl
  cases eA
  simp only [Nat.zero_mul, Nat.add_zero] at f1 f2
  have hn0 : ¬ (nl : Int) = 0 := by omega
  have hn0b : ((nl : Int) == 0) = false := by simp; omega
  have hn1 : (0 : Int) < (nl : Int) := by omega
  have hn2 : 0 < nl := by omega
  obtain ⟨x1, x2⟩ := x
  obtain ⟨ev, hev⟩ : ∃ ev, ev = errV (refMay r i x1 x2) := ⟨_, rfl⟩
  have HM : ∀ w', Cl w w' → Calls Tryd.prog 11 #[.pointer (some ⟨t, 0, none⟩), .int .i64 i, .string ⟨x1.toArray⟩, .bool x2] w' fun e w'' => e = .returned ev ∧ Cl w w'' := fun w' hc => (may_both i x1 x2 w' (ht.below hc) ha hi hx).mono fun e w'' ⟨he, hb⟩ => ⟨by rw [he, hev], hc.next hb⟩
  have HEV := Lib.hid (show errV (refMay r i x1 x2) = ev from hev.symm)
  show Calls _ _ _ _ fun e w' => e = .returned (errV (refMay r i x1 x2)) ∧ _
  rw [HEV.out]
  clear h hr hb ha ht hnl hev
  go_enter Tryd.func56, Tryd.ntmps56
  go_wp2
  refine region_class (C := fun w' => Cl w w') (by kernel_rfl) (by kernel_rfl) (Cl.refl w).drew ?_
  repeat (go_big_quiet_step (first | exact HM _ | (intro hw5; have z1 := hw5.cell d3; have z2 := hw5.cell e0; have z3 := hw5.cell f1; have z4 := hw5.cell f2; go_simp; try rfl)))
  refine wpQuiet_nil ?_
  intro w2 hc2
  have HC2 := Lib.hid hc2
  clear hc2 HM
  go_wp2
  go_ret
  exact ⟨rfl, HC2.out⟩
/-- Only blocks of cells that are no table have turned. -/
structure Soft (w w' : World) : Prop where
  os : w'.os = w.os
  tape : w'.tape = w.tape
  output : w'.output = w.output
  size : w.heap.size ≤ w'.heap.size
  block : ∀ i, i < w.heap.size → w'.heap[i]? = w.heap[i]? ∨ ∃ cs Tp f, w.heap[i]? = some (.cells cs Tp f) ∧ Tp ≠ 76
theorem Soft.of {w w' : World} (h : Below w.heap.size w w') : Soft w w' := ⟨h.os, h.tape, h.output, h.size, fun i hi => Or.inl (h.block i hi)⟩
theorem Soft.set {w : World} {g o : Nat} {v : Value} {cs : Array Value} {Tp : TypeId} {f : Nat × Nat} (h : w.heap[g]? = some (.cells cs Tp f)) (hT : Tp ≠ 76) : Soft w (w.setCell ⟨g, o, none⟩ v) :=
  ⟨rfl, rfl, rfl, by rw [World.size_setCell]; exact Nat.le_refl _, fun i _ => by
    by_cases e : i = g
    · exact Or.inr ⟨cs, Tp, f, by rw [e]; exact h, hT⟩
    · exact Or.inl (Below.heap_setCell _ _ _ _ e)⟩
theorem Soft.grown {w w' : World} {g : Option Nat} (hg : w.grownBy w' g) (h : ∀ q, g = some q → ∃ cs Tp f, w.heap[q]? = some (.cells cs Tp f) ∧ Tp ≠ 76) : Soft w w' :=
  ⟨hg.os, hg.tape, hg.output, hg.size, fun i hi => by
    by_cases e : some i = g
    · exact Or.inr (h i e.symm)
    · exact Or.inl (hg.block i hi e)⟩
theorem Soft.map {w w' : World} (h : Soft w w') {b : Nat} {es : Array MapEntry} {c : Nat} (hb : w.heap[b]? = some (.map es c)) : w'.heap[b]? = w.heap[b]? := by
  rcases h.block b (block_lt hb) with e | ⟨cs, Tp, f, e, _⟩
  · exact e
  · rw [hb] at e; cases e
theorem Soft.own {k : TypeId} {R : Value → Option (DataW Unit × List MemPlace)} {w w' : World} {b n : Nat} {D : DataW Unit} (s : Soft w w') (h : w.ownsMap Tryd.prog k R b n D) : w'.ownsMap Tryd.prog k R b n D := by
  obtain ⟨es, clock, hb, _⟩ := id h
  exact block_own h (s.map hb)
theorem Tab.soft {L N t : Nat} {w w' : World} {F : Int → List UInt8 → Int} (h : Tab L N w t F) (s : Soft w w') : Tab L N w' t F := by
  obtain ⟨mt, B, h, hne⟩ := h
  obtain ⟨n0, D0, o1, o2, o3⟩ := h.map
  refine ⟨mt, B, ⟨?_, ⟨n0, D0, s.own o1, o2, o3⟩, h.free, fun i b e => ⟨?_, (h.held i b e).2⟩, h.lo, h.inj⟩, hne⟩
  · rcases s.block t (block_lt h.cell) with e | ⟨cs, Tp, f, e, hT⟩
    · exact e.trans h.cell
    · rw [h.cell] at e
      cases e
      exact absurd rfl hT
  · obtain ⟨n1, D1, a1, a2, a3⟩ := (h.held i b e).1
    exact ⟨n1, D1, s.own a1, a2, a3⟩
/-- A run on its way: W: where it began; p: the box of what comes back; q: the box of what was done. -/
structure Mid (h0 : Value) (L N : Nat) (W w : World) (M m t b : Nat) (lim last : Int) (hist : Value) (n : Nat) (T : Int → Option Nat) (r : List Held) (bc : Array Value) (p q : Nat) (ec : Array Value) : Prop where
  mach : Mach L w M m t lim last hist n T
  tab : ∃ F, Tab (m + 1) N w t F ∧ Agr F r
  task : w.heap[b]? = some (.cells bc 108 (0, 0))
  ev : w.heap[q]? = some (.cells ec 101 (0, 0))
  res : ∃ c0 c1 c2, w.heap[p]? = some (.cells #[c0, c1, c2] 101 (0, 0))
  cells : ∀ (g : Nat) (cs : Array Value) (Tp : TypeId), g ≠ b → g ≠ M → some g ≠ h0.ownBlock → W.heap[g]? = some (.cells cs Tp (0, 0)) → w.heap[g]? = some (.cells cs Tp (0, 0))
  low : Below L W w
theorem Mid.next {h0 : Value} {L N : Nat} {W w w' : World} {M m t b : Nat} {lim last : Int} {hist hist' : Value} {n : Nat} {T : Int → Option Nat} {r : List Held} {bc bc' : Array Value} {p q : Nat} {ec ec' : Array Value} (h : Mid h0 L N W w M m t b lim last hist n T r bc p q ec)
    (s : Soft w w') (hM : w'.heap[M]? = some (.cells #[.int .i64 lim, .int .i64 last, .map (some m), .pointer (some ⟨t, 0, none⟩), hist'] 97 (0, 0))) (hb : w'.heap[b]? = some (.cells bc' 108 (0, 0))) (he : w'.heap[q]? = some (.cells ec' 101 (0, 0)))
    (hr : ∃ c0 c1 c2, w'.heap[p]? = some (.cells #[c0, c1, c2] 101 (0, 0))) (ho : ∀ (g : Nat) (cs : Array Value) (Tp : TypeId), g ≠ b → g ≠ M → some g ≠ h0.ownBlock → g < W.heap.size → w.heap[g]? = some (.cells cs Tp (0, 0)) → w'.heap[g]? = some (.cells cs Tp (0, 0))) (hl : Below L W w') :
    Mid h0 L N W w' M m t b lim last hist' n T r bc' p q ec' := by
  obtain ⟨D, a, c⟩ := h.mach.map
  obtain ⟨F, t1, t2⟩ := h.tab
  exact ⟨⟨hM, ⟨D, s.own a, c⟩, h.mach.lo⟩, ⟨F, t1.soft s, t2⟩, hb, he, hr, fun g cs Tp h1 h2 h3 e => ho g cs Tp h1 h2 h3 (block_lt e) (h.cells g cs Tp h1 h2 h3 e), hl⟩
theorem Mid.cl {h0 : Value} {L N : Nat} {W w w' : World} {M m t b : Nat} {lim last : Int} {hist : Value} {n : Nat} {T : Int → Option Nat} {r : List Held} {bc : Array Value} {p q : Nat} {ec : Array Value} (h : Mid h0 L N W w M m t b lim last hist n T r bc p q ec)
    (k : Below w.heap.size w w') (hL : L ≤ w.heap.size) : Mid h0 L N W w' M m t b lim last hist n T r bc p q ec := by
  obtain ⟨c0, c1, c2, hr⟩ := h.res
  exact h.next (Soft.of k) ((k.block _ (block_lt h.mach.cell)).trans h.mach.cell) ((k.block _ (block_lt h.task)).trans h.task) ((k.block _ (block_lt h.ev)).trans h.ev) ⟨c0, c1, c2, (k.block _ (block_lt hr)).trans hr⟩
    (fun g cs Tp _ _ _ _ e => (k.block g (block_lt e)).trans e) (h.low.trans (k.mono hL))
theorem below_set {L g o : Nat} {W w : World} {v : Value} (h : Below L W w) (hg : L ≤ g) : Below L W (w.setCell ⟨g, o, none⟩ v) :=
  ⟨h.os, h.tape, h.output, by rw [World.size_setCell]; exact h.size, fun k hk => (Below.heap_setCell w ⟨g, o, none⟩ v k (by show k ≠ g; omega)).trans (h.block k hk)⟩
/-- A cell of the task is stored. -/
theorem Mid.setB {h0 : Value} {L N : Nat} {W w : World} {M m t b : Nat} {lim last : Int} {hist : Value} {n : Nat} {T : Int → Option Nat} {r : List Held} {bc : Array Value} {p q : Nat} {ec : Array Value} (h : Mid h0 L N W w M m t b lim last hist n T r bc p q ec) (o : Nat) (v : Value) (hL : L ≤ b) :
    Mid h0 L N W (w.setCell ⟨b, o, none⟩ v) M m t b lim last hist n T r (bc.setIfInBounds o v) p q ec := by
  obtain ⟨c0, c1, c2, hr⟩ := h.res
  have n1 : M ≠ b := fun e => by have := h.mach.cell; rw [e, h.task] at this; injection this with this; injection this with _ this _; cases this
  have n2 : q ≠ b := fun e => by have := h.ev; rw [e, h.task] at this; injection this with this; injection this with _ this _; cases this
  have n3 : p ≠ b := fun e => by rw [e, h.task] at hr; injection hr with hr; injection hr with _ hr _; cases hr
  have keep : ∀ k, k ≠ b → (w.setCell ⟨b, o, none⟩ v).heap[k]? = w.heap[k]? := fun k hk => Below.heap_setCell _ _ _ _ hk
  exact h.next (Soft.set h.task (by decide)) ((keep M n1).trans h.mach.cell) (heap_setCell_same w b o bc 108 v h.task) ((keep q n2).trans h.ev) ⟨c0, c1, c2, (keep p n3).trans hr⟩ (fun g cs Tp h1 _ _ _ e => (keep g h1).trans e) (below_set h.low hL)
/-- A cell of what was done is stored. -/
theorem Mid.setE {h0 : Value} {L N : Nat} {W w : World} {M m t b : Nat} {lim last : Int} {hist : Value} {n : Nat} {T : Int → Option Nat} {r : List Held} {bc : Array Value} {p q : Nat} {ec : Array Value} (h : Mid h0 L N W w M m t b lim last hist n T r bc p q ec) (o : Nat) (v : Value) (hL : L ≤ W.heap.size) (hq : W.heap.size ≤ q) (hpq : p ≠ q) :
    Mid h0 L N W (w.setCell ⟨q, o, none⟩ v) M m t b lim last hist n T r bc p q (ec.setIfInBounds o v) := by
  obtain ⟨c0, c1, c2, hr⟩ := h.res
  have n1 : M ≠ q := fun e => by have := h.mach.cell; rw [e, h.ev] at this; injection this with this; injection this with _ this _; cases this
  have n2 : b ≠ q := fun e => by have := h.ev; rw [← e, h.task] at this; injection this with this; injection this with _ this _; cases this
  have keep : ∀ k, k ≠ q → (w.setCell ⟨q, o, none⟩ v).heap[k]? = w.heap[k]? := fun k hk => Below.heap_setCell _ _ _ _ hk
  exact h.next (Soft.set h.ev (by decide)) ((keep M n1).trans h.mach.cell) ((keep b n2).trans h.task) (heap_setCell_same w q o ec 101 v h.ev) ⟨c0, c1, c2, (keep p hpq).trans hr⟩ (fun g cs Tp _ _ _ hg e => (keep g (by omega)).trans e) (below_set h.low (by omega))
end Go.Proofs.YtnnadhfpkplncaaDoor
