/- Two lists grow by one each in one statement, in whatever order. Condition: they are lists of one's own, apart from each other. -/
import Derived.Test.YtnnadhfpkplncaaRxLen
import Derived.Great.Frames
import Derived.Great.BuildSlice
namespace Go.Proofs.Ytnnadhfpkplncaa
open Go.RowKit

/-- What an operation does. -/
def Does (P : Program) (o : Oper) (a : Act) (w : World) (v : Value) (w' : World) : Prop :=
  (execOp a.eval o).run P w = .ok (.value v) w' ∨ ((execOp a.eval o).run P w = .ok .skip w' ∧ v = undef)
theorem Does.round {P : Program} {ops : Array Oper} {Q : Exit → Act → World → Prop} {l n i : Nat} {o : Oper} {a : Act} {w w' : World} {v : Value} {K : Act → World → Prop} (hi : ops[i]? = some o) (hg : o.guard = none) (hd : ∀ c, o.op ≠ .defer c)
    (h : Does P o a w v w') (hK : K (a.put o.dst v) w') : wpOpIn (Fence.wide.inRound l) n P ops Q i K a w := by
  unfold wpOpIn
  rw [hi]
  have hw : Region.wanted o (yielded ops a.tmps) = true := by simp [Region.wanted, hg]
  simp only [hw, if_true]
  refine ⟨fun _ _ => trivial, ?_⟩
  rw [Oper.semAt_eq _ _ _ hd]
  rcases h with h | ⟨h, rfl⟩ <;> rw [h] <;> exact hK
/-- Whatever order is drawn: an invariant that each operation keeps. -/
theorem any_inv {F : Fence} {n : Nat} {P : Program} {md : Region.Mode} {ops : Array Oper} {Q : Exit → Act → World → Prop} (Inv : Nat → Array Bool → Act → World → Prop)
    (hstep : ∀ fuel listed a w i, Inv (fuel + 1) listed a w → i ∈ Region.ready md ops listed → wpOpIn F n P ops Q i (Inv fuel (listed.setIfInBounds i true)) a w)
    (hdone : ∀ fuel listed a w, Inv fuel listed a w → Region.ready md ops listed = [] → Q .normal a w) (hz : ∀ listed a w, Inv 0 listed a w → Region.ready md ops listed = []) :
    ∀ fuel listed a w, Inv fuel listed a w → wpAnyIn F n P md ops Q fuel listed a w
  | 0, listed, a, w, h => ⟨hz listed a w h, hdone _ _ _ _ h (hz listed a w h)⟩
  | fuel + 1, listed, a, w, h => ⟨fun hr => hdone _ _ _ _ h hr, fun i hi => wpOpIn_mono (fun a' w' h' => any_inv Inv hstep hdone hz fuel _ a' w' h') (hstep fuel listed a w i h hi)⟩
/-- One of the two lists on its way: loaded, its number moved, that boxed, appended, stored. -/
structure Ch (base : Nat) (E T : TypeId) (tb tx t0 t1 t2 t3 : Nat) (B : Nat) (v : Value) (n : Nat) (xs : List Value) (x : Value) (p q r s z : Bool) (K : Nat → Prop) (a : Act) (w : World) : Prop where
  hb : a.eval (.tmp tb) = .pointer (some ⟨B, 0, none⟩)
  hx : a.eval (.tmp tx) = x
  h0 : p = true → a.eval (.tmp t0) = v
  h1 : q = true → a.eval (.tmp t1) = x
  h2 : r = true → s = false → ∃ g, a.eval (.tmp t2) = .slice (some ⟨g, 0, none⟩) 1 1 ∧ w.heap[g]? = some (.cells #[x] E (0, 0)) ∧ K g
  h3 : s = false → w.ownsRow base E 1 v n xs ∧ ∀ k, v.ownBlock = some k → K k
  h4 : s = true → w.ownsRow base E 1 (a.eval (.tmp t3)) (n + 1) (xs ++ [x]) ∧ ∀ k, (a.eval (.tmp t3)).ownBlock = some k → K k
  hbox : Boxed w B T (if z = true then a.eval (.tmp t3) else v)
  hKB : K B
  hKlt : ∀ k, K k → base ≤ k ∧ k < w.heap.size
  o1 : s = true → p = true ∧ r = true
  o2 : r = true → q = true
  o3 : z = true → s = true
section
variable {base : Nat} {E T : TypeId} {tb tx t0 t1 t2 t3 : Nat} {B : Nat} {v : Value} {n : Nat} {xs : List Value} {x : Value} {p q r s z : Bool} {K : Nat → Prop} {a : Act} {w : World}
theorem Ch.keep (h : Ch base E T tb tx t0 t1 t2 t3 B v n xs x p q r s z K a w) {a' : Act} {w' : World} {row : Option Nat} (he : ∀ t, t = tb ∨ t = tx ∨ t = t0 ∨ t = t1 ∨ t = t2 ∨ t = t3 → a'.eval (.tmp t) = a.eval (.tmp t))
    (hg : w.grownBy w' row) (hr : ∀ k, row = some k → ¬ K k) : Ch base E T tb tx t0 t1 t2 t3 B v n xs x p q r s z K a' w' := by
  have hblk : ∀ k, K k → w'.heap[k]? = w.heap[k]? := fun k hk => hg.block k (h.hKlt k hk).2 fun e => hr k e.symm hk
  have hrow : ∀ (u : Value) (m : Nat) (ys : List Value), w.ownsRow base E 1 u m ys → (∀ k, u.ownBlock = some k → K k) → w'.ownsRow base E 1 u m ys := fun u m ys hu hk => hu.kept hg (by
    cases hub : u.ownBlock with
    | none => exact Or.inl rfl
    | some k => exact Or.inr fun e => hr k e.symm (hk k hub))
  refine ⟨by rw [he _ (by simp)]; exact h.hb, by rw [he _ (by simp)]; exact h.hx, fun e => by rw [he _ (by simp)]; exact h.h0 e, fun e => by rw [he _ (by simp)]; exact h.h1 e, fun e e' => ?_, fun e => ⟨hrow _ _ _ (h.h3 e).1 (h.h3 e).2, (h.h3 e).2⟩, fun e => ?_, ?_, h.hKB, fun k hk => ⟨(h.hKlt k hk).1, Nat.lt_of_lt_of_le (h.hKlt k hk).2 hg.size⟩, h.o1, h.o2, h.o3⟩
  · obtain ⟨g, g1, g2, g3⟩ := h.h2 e e'
    exact ⟨g, by rw [he _ (by simp)]; exact g1, (hblk g g3).trans g2, g3⟩
  · rw [he _ (by simp)]; exact ⟨hrow _ _ _ (h.h4 e).1 (h.h4 e).2, (h.h4 e).2⟩
  · rw [he _ (by simp)]; exact (hblk B h.hKB).trans h.hbox
theorem Ch.wider (h : Ch base E T tb tx t0 t1 t2 t3 B v n xs x p q r s z K a w) {K' : Nat → Prop} (hK : ∀ k, K k → K' k) (hK' : ∀ k, K' k → base ≤ k ∧ k < w.heap.size) : Ch base E T tb tx t0 t1 t2 t3 B v n xs x p q r s z K' a w :=
  ⟨h.hb, h.hx, h.h0, h.h1, fun e e' => (h.h2 e e').imp fun _ ⟨g1, g2, g3⟩ => ⟨g1, g2, hK _ g3⟩, fun e => ⟨(h.h3 e).1, fun k hk => hK k ((h.h3 e).2 k hk)⟩, fun e => ⟨(h.h4 e).1, fun k hk => hK k ((h.h4 e).2 k hk)⟩, h.hbox, hK _ h.hKB, hK', h.o1, h.o2, h.o3⟩
/-- A step of a chain: what it yields; which block it writes; which blocks it takes. -/
def StepsTo (P : Program) (o : Oper) (a : Act) (w : World) (K : Nat → Prop) (C : (Nat → Prop) → Act → World → Prop) : Prop :=
  ∃ u w' row K', Does P o a w u w' ∧ w.grownBy w' row ∧ (∀ k, row = some k → K k ∧ ∃ cs t, w.heap[k]? = some (.cells cs t (0, 0))) ∧ (∀ k, K' k → K k ∨ w.heap.size ≤ k) ∧ C K' (a.put o.dst u) w'
variable {P : Program} {o : Oper}
theorem eval_ne {a : Act} {t d : Nat} {u : Value} (h : t ≠ d) : (a.put (some d) u).eval (.tmp t) = a.eval (.tmp t) := Act.eval_put fun d' hd => by cases hd; intro e; cases e; exact h rfl
theorem Ch.flags (h : Ch base E T tb tx t0 t1 t2 t3 B v n xs x p q r s z K a w) (hs : s = false) : z = false := by
  cases z with
  | false => rfl
  | true => rw [h.o3 rfl] at hs; cases hs
theorem Ch.load (h : Ch base E T tb tx t0 t1 t2 t3 B v n xs x false q r s z K a w) (ho : o.op = .load T (.tmp tb)) (hd : o.dst = some t0) (hsz : t0 < a.tmps.size) (hagg : ∀ w, (isAgg T).run P w = .ok false w)
    (hne : t0 ≠ tb ∧ t0 ≠ tx ∧ t0 ≠ t1 ∧ t0 ≠ t2 ∧ t0 ≠ t3) : StepsTo P o a w K fun K' a' w' => Ch base E T tb tx t0 t1 t2 t3 B v n xs x true q r s z K' a' w' := by
  have hs : s = false := by cases s with
    | false => rfl
    | true => exact absurd (h.o1 rfl).1 (by simp)
  have hz := h.flags hs
  subst hs hz
  have hbox := h.hbox
  simp only [Bool.false_eq_true, if_false] at hbox
  refine ⟨v, w, none, K, Or.inl ?_, World.grownBy.refl w none, fun k e => (by cases e), fun k hk => Or.inl hk, ?_⟩
  · have hc := hbox.cell
    have hl : (Instr.loadAt T (.pointer (some ⟨B, 0, none⟩))).run P w = .ok v w := by
      simp [Instr.loadAt, Instr.sureAddr, loadVar, hagg, hc, go_sem]
    unfold execOp
    simp only [ho, h.hb, Sem.run_bind, hl, Result.andThen_ok, Sem.run_pure]
  · rw [hd]
    obtain ⟨n1, n2, n3, n4, n5⟩ := hne
    exact ⟨by rw [eval_ne n1.symm]; exact h.hb, by rw [eval_ne n2.symm]; exact h.hx, fun _ => Act.eval_put_same _ _ _ hsz, fun e => by rw [eval_ne n3.symm]; exact h.h1 e, fun e e' => by rw [eval_ne n4.symm]; exact h.h2 e e', h.h3, fun e => (by cases e), by simpa using hbox, h.hKB, h.hKlt, fun e => (by cases e), h.o2, fun e => (by cases e)⟩
theorem Ch.move (h : Ch base E T tb tx t0 t1 t2 t3 B v n xs x p false r s z K a w) (ho : o.op = .move (.tmp tx)) (hd : o.dst = some t1) (hsz : t1 < a.tmps.size)
    (hne : t1 ≠ tb ∧ t1 ≠ tx ∧ t1 ≠ t0 ∧ t1 ≠ t2 ∧ t1 ≠ t3) : StepsTo P o a w K fun K' a' w' => Ch base E T tb tx t0 t1 t2 t3 B v n xs x p true r s z K' a' w' := by
  refine ⟨x, w, none, K, Or.inl ?_, World.grownBy.refl w none, fun k e => (by cases e), fun k hk => Or.inl hk, ?_⟩
  · unfold execOp
    simp only [ho, h.hx, Sem.run_pure]
  · rw [hd]
    obtain ⟨n1, n2, n3, n4, n5⟩ := hne
    exact ⟨by rw [eval_ne n1.symm]; exact h.hb, by rw [eval_ne n2.symm]; exact h.hx, fun e => by rw [eval_ne n3.symm]; exact h.h0 e, fun _ => Act.eval_put_same _ _ _ hsz, fun e e' => by rw [eval_ne n4.symm]; exact h.h2 e e', h.h3, fun e => by rw [eval_ne n5.symm]; exact h.h4 e, by rw [eval_ne n5.symm]; exact h.hbox, h.hKB, h.hKlt, h.o1, fun _ => rfl, h.o3⟩
theorem Ch.build (h : Ch base E T tb tx t0 t1 t2 t3 B v n xs x p true false s z K a w) (ho : o.op = .buildSlice T 1 #[(0, .tmp t1)]) (hd : o.dst = some t2) (hsz : t2 < a.tmps.size)
    (hrun : (Instr.buildSlice T 1 #[(0, x)]).run P w = .ok (.slice (some ⟨w.heap.size, 0, none⟩) 1 1) (w.alloc (.cells #[x] E))) (hbase : base ≤ w.heap.size)
    (hne : t2 ≠ tb ∧ t2 ≠ tx ∧ t2 ≠ t0 ∧ t2 ≠ t1 ∧ t2 ≠ t3) : StepsTo P o a w K fun K' a' w' => Ch base E T tb tx t0 t1 t2 t3 B v n xs x p true true s z K' a' w' := by
  have hs : s = false := by cases s with
    | false => rfl
    | true => exact absurd (h.o1 rfl).2 (by simp)
  have hz := h.flags hs
  subst hs hz
  have hg := World.grownBy_alloc w (.cells #[x] E) none
  refine ⟨.slice (some ⟨w.heap.size, 0, none⟩) 1 1, w.alloc (.cells #[x] E), none, fun k => K k ∨ k = w.heap.size, Or.inl ?_, hg, fun k e => (by cases e), fun k hk => hk.imp id fun e => Nat.le_of_eq e.symm, ?_⟩
  · unfold execOp
    simp only [ho, List.map_toArray, List.map_cons, List.map_nil, h.h1 rfl, Sem.run_bind, hrun, Result.andThen_ok, Sem.run_pure]
  · rw [hd]
    obtain ⟨n1, n2, n3, n4, n5⟩ := hne
    have hk := (h.keep (a' := a) (fun _ _ => rfl) hg (fun k e => by cases e)).wider (K' := fun k => K k ∨ k = w.heap.size) (fun k hk => Or.inl hk) (fun k hk => by
      have hsz1 : (w.alloc (.cells #[x] E)).heap.size = w.heap.size + 1 := by simp
      rw [hsz1]
      rcases hk with hk | hk
      · have := h.hKlt k hk; omega
      · omega)
    exact ⟨by rw [eval_ne n1.symm]; exact h.hb, by rw [eval_ne n2.symm]; exact h.hx, fun e => by rw [eval_ne n3.symm]; exact h.h0 e, fun e => by rw [eval_ne n4.symm]; exact h.h1 e, fun _ _ => ⟨w.heap.size, Act.eval_put_same _ _ _ hsz, heap_alloc_new _ _, Or.inr rfl⟩, hk.h3, fun e => (by cases e), by rw [eval_ne n5.symm]; exact hk.hbox, hk.hKB, hk.hKlt, fun e => (by cases e), fun _ => rfl, h.o3⟩
theorem own_plain {m : Nat} {ys : List Value} {u : Value} {k : Nat} (h : w.ownsRow base E 1 u m ys) (hk : u.ownBlock = some k) : ∃ cs, w.heap[k]? = some (.cells cs E (0, 0)) := by
  rcases h.2 with ⟨rfl, _⟩ | ⟨g, c, cur, rfl, _, hg, _⟩
  · cases hk
  · cases hk; exact ⟨cur, hg⟩
theorem Ch.app (h : Ch base E T tb tx t0 t1 t2 t3 B v n xs x true q true false z K a w) (ho : o.op = .call { callee := .builtin .append, args := #[.tmp t0, .tmp t2], argTypes := #[T, T] }) (hd : o.dst = some t3) (hsz : t3 < a.tmps.size)
    (i : TypeInfo) (zv : Value) (ht : P.underlying T = some (.slice E)) (hi : P.info? E = some i) (hzv : i.zero = some zv) (hi1 : i.size = 1) (hi8 : i.bytes = 8) (hzs : zv.cells.size = 1) (hx1 : x.oneCell' = true) (hn : n ≤ 1048576) (hbase : base ≤ w.heap.size) (hET : T ≠ E)
    (hne : t3 ≠ tb ∧ t3 ≠ tx ∧ t3 ≠ t0 ∧ t3 ≠ t1 ∧ t3 ≠ t2) : StepsTo P o a w K fun K' a' w' => Ch base E T tb tx t0 t1 t2 t3 B v n xs x true q true true z K' a' w' := by
  have hz := h.flags rfl
  subst hz
  obtain ⟨g, g1, g2, g3⟩ := h.h2 rfl rfl
  obtain ⟨hrow, hrK⟩ := h.h3 rfl
  have hbox := h.hbox
  simp only [Bool.false_eq_true, if_false] at hbox
  obtain ⟨u, w', hrun, hown, hgr, _, hat⟩ := run_append_own_at (P := P) w base T o.type E i zv 1 8 ht hi hzv hi1 hi8 hzs (by decide) v n xs hrow ⟨g, 0, none⟩ 1 1 [x] rfl (fun j y hj => by
    match j, hj with
    | 0, hj => cases hj; rw [show (⟨g, 0, none⟩ : Addr).add 0 = ⟨g, 0, none⟩ from rfl, block_cell g2]; rfl) (fun y hy => by rw [List.mem_singleton.1 hy]; exact hx1) (by unfold maxLen; omega) (by omega) hbase
  have hB' : Boxed w' B T v := hbox.kept hgr (hbox.not_row hET hrow)
  refine ⟨u, w', v.ownBlock, fun k => K k ∨ u.ownBlock = some k, Or.inl ?_, hgr, fun k e => ⟨hrK k e, ?_⟩, fun k hk => ?_, ?_⟩
  · unfold execOp
    simp only [ho, resolve, invoke, builtin, Sem.run_bind, Sem.run_pure, Result.andThen_ok, List.map_toArray, List.map_cons, List.map_nil, h.h0 rfl, g1, hrun]
  · obtain ⟨cs, hcs⟩ := own_plain hrow e
    exact ⟨cs, E, hcs⟩
  · rcases hk with hk | hk
    · exact Or.inl hk
    · rcases hat with e | e
      · rw [e] at hk; exact Or.inl (hrK k hk)
      · rw [e] at hk; cases hk; exact Or.inr (Nat.le_refl _)
  · rw [hd]
    obtain ⟨n1, n2, n3, n4, n5⟩ := hne
    refine ⟨by rw [eval_ne n1.symm]; exact h.hb, by rw [eval_ne n2.symm]; exact h.hx, fun e => by rw [eval_ne n3.symm]; exact h.h0 e, fun e => by rw [eval_ne n4.symm]; exact h.h1 e, fun _ e => (by cases e), fun e => (by cases e), fun _ => ?_, by simpa using hB', Or.inl h.hKB, fun k hk => ?_, fun _ => ⟨rfl, rfl⟩, h.o2, fun _ => rfl⟩
    · rw [Act.eval_put_same _ _ _ hsz]
      exact ⟨hown, fun k hk => Or.inr hk⟩
    · rcases hk with hk | hk
      · exact ⟨(h.hKlt k hk).1, Nat.lt_of_lt_of_le (h.hKlt k hk).2 hgr.size⟩
      · exact hown.lt k hk
theorem Ch.store (h : Ch base E T tb tx t0 t1 t2 t3 B v n xs x p q r true false K a w) (ho : o.op = .store T (.tmp tb) (.tmp t3)) (hd : o.dst = none) (hi : (P.info? T).map (·.size) = some 1) (hET : T ≠ E) :
    StepsTo P o a w K fun K' a' w' => Ch base E T tb tx t0 t1 t2 t3 B v n xs x p q r true true K' a' w' := by
  have hbox := h.hbox
  simp only [Bool.false_eq_true, if_false] at hbox
  obtain ⟨hrow, hrK⟩ := h.h4 rfl
  obtain ⟨g, c, hu⟩ := ownsRow_succ hrow
  have h1 : (a.eval (.tmp t3)).oneCell' = true := by rw [hu]; rfl
  have hst := run_storeVar_one (P := P) w B T T v _ hbox hi h1
  have hg : w.grownBy (w.setRow B #[a.eval (.tmp t3)]) (some B) := ⟨rfl, rfl, rfl, by simp, fun k _ hk => setRow_other w B k _ (fun e => hk (by rw [e]))⟩
  refine ⟨undef, _, some B, K, Or.inr ⟨?_, rfl⟩, hg, fun k e => ?_, fun k hk => Or.inl hk, ?_⟩
  · unfold execOp
    simp only [ho, h.hb, Instr.storeAt, Instr.sureAddr, Sem.run_bind, Sem.run_pure, Result.andThen_ok, hst]
  · cases e; exact ⟨h.hKB, _, _, hbox⟩
  · rw [hd]
    have hkeep : ∀ (y : Value) (m : Nat) (ys : List Value), w.ownsRow base E 1 y m ys → (w.setRow B #[a.eval (.tmp t3)]).ownsRow base E 1 y m ys := fun y m ys hy => hy.kept hg (by
      cases hub : y.ownBlock with
      | none => exact Or.inl rfl
      | some k => exact Or.inr fun e => hbox.not_row hET hy (by rw [hub]; exact e.symm))
    exact ⟨h.hb, h.hx, h.h0, h.h1, fun _ e => (by cases e), fun e => (by cases e), fun _ => ⟨hkeep _ _ _ hrow, hrK⟩, setRow_heap w B _ _ T _ hbox, h.hKB, fun k hk => ⟨(h.hKlt k hk).1, by simpa using (h.hKlt k hk).2⟩, h.o1, h.o2, fun _ => rfl⟩
end
end Go.Proofs.Ytnnadhfpkplncaa
