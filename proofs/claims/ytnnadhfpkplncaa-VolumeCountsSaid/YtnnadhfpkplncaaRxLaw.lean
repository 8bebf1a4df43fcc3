/- What is kept while a list of another kind grows; items as they lie. No condition of its own. -/
import Derived.Test.YtnnadhfpkplncaaRxSure
import Derived.Deep.RegionHeld3
namespace Go.Proofs.Ytnnadhfpkplncaa
open Go.RowKit

/-- Blocks of cells of another kind than T lie as they lay. -/
def KeepT (T : TypeId) (w w' : World) : Prop := w.heap.size ≤ w'.heap.size ∧ ∀ (b : Nat) (cs : Array Value) (t : TypeId), t ≠ T → w.heap[b]? = some (.cells cs t (0, 0)) → w'.heap[b]? = some (.cells cs t (0, 0))
theorem KeepT.of_below {T : TypeId} {w w' : World} (h : Below w.heap.size w w') : KeepT T w w' := ⟨h.size, fun b _ _ _ hb => (h.block b (block_lt hb)).trans hb⟩
theorem KeepT.trans {T : TypeId} {a b c : World} (h : KeepT T a b) (k : KeepT T b c) : KeepT T a c := ⟨Nat.le_trans h.1 k.1, fun g cs t ht hg => k.2 g cs t ht (h.2 g cs t ht hg)⟩
theorem KeepT.alloc (T : TypeId) (w : World) (o : Obj) : KeepT T w (w.alloc o) := of_below ((Below.refl _ _).alloc (Nat.le_refl _) _)
theorem KeepT.app {T : TypeId} {w w' : World} {base s n : Nat} {v : Value} {xs : List Value} (h : w.ownsRow base T s v n xs) (hg : w.grownBy w' v.ownBlock) : KeepT T w w' := by
  refine ⟨hg.size, fun b cs t ht hb => (hg.block b (block_lt hb) fun e => ?_).trans hb⟩
  rcases h.2 with ⟨rfl, _⟩ | ⟨g, c, cur, rfl, _, hh, _⟩
  · cases e
  · cases e
    rw [hb] at hh
    cases hh
    exact ht rfl
theorem RdR.keepT {T : TypeId} {f : Nat → Int} {S : Nat → Nat → Option Nat} {w w' : World} {A : Option Addr} (h : RdR f S w A) (k : KeepT T w w') (h1 : 87 ≠ T) (h2 : 80 ≠ T) : RdR f S w' A := by
  obtain ⟨h0, h⟩ := h
  refine ⟨⟨h0.far, h0.can, fun g b e => k.2 _ _ _ h1 (h0.leaf g b e), fun d g b hd e => k.2 _ _ _ h1 (h0.node d g b hd e)⟩, ?_⟩
  rcases h with h | ⟨b, r, e, ea, hb⟩
  · exact Or.inl h
  · exact Or.inr ⟨b, r, e, ea, k.2 _ _ _ h2 hb⟩
theorem own_keepT {T E : TypeId} {w w' : World} {base s n : Nat} {v : Value} {xs : List Value} (h : w.ownsRow base E s v n xs) (k : KeepT T w w') (h1 : E ≠ T) : w'.ownsRow base E s v n xs := by
  refine ⟨h.1, ?_⟩
  rcases h.2 with h2 | ⟨g, c, cur, e, hb, hg, r⟩
  · exact Or.inl h2
  · exact Or.inr ⟨g, c, cur, e, hb, k.2 _ _ _ h1 hg, r⟩
theorem own_base {b b' n s : Nat} {w : World} {v : Value} {T : TypeId} {xs : List Value} (h : w.ownsRow b T s v n xs) (hb : b' ≤ b) : w.ownsRow b' T s v n xs := by
  refine ⟨h.1, ?_⟩
  rcases h.2 with h2 | ⟨g, cap, cur, e, hbg, r⟩
  · exact Or.inl h2
  · exact Or.inr ⟨g, cap, cur, e, Nat.le_trans hb hbg, r⟩
/-- Items' cells. -/
def its (l : List (Int × Int)) : List Value := l.flatMap fun x => [.int .i64 x.1, .int .i64 x.2]
theorem its_at {l : List (Int × Int)} {i : Nat} {x : Int × Int} (h : l[i]? = some x) : (its l)[i * 2]? = some (.int .i64 x.1) ∧ (its l)[i * 2 + 1]? = some (.int .i64 x.2) := by
  induction l generalizing i with
  | nil => simp at h
  | cons y l ih =>
    cases i with
    | zero =>
      simp only [List.getElem?_cons_zero, Option.some.injEq] at h
      subst h
      exact ⟨rfl, rfl⟩
    | succ i =>
      have := ih (i := i) (by simpa using h)
      have e : its (y :: l) = .int .i64 y.1 :: .int .i64 y.2 :: its l := rfl
      rw [e, show (i + 1) * 2 = i * 2 + 1 + 1 by omega]
      exact this
/-- Items as they lie. -/
def RdItems (w : World) (A : Option Addr) (l : List (Int × Int)) : Prop := RdA w A (its l)
theorem RdItems.below {w w' : World} {A : Option Addr} {l : List (Int × Int)} (h : RdItems w A l) (k : Below w.heap.size w w') : RdItems w' A l := RdA.below h k
theorem RdItems.at {w : World} {A : Option Addr} {l : List (Int × Int)} (h : RdItems w A l) {i : Nat} {x : Int × Int} (hx : l[i]? = some x) :
    ∃ b o, A = some ⟨b, o, none⟩ ∧ w.cell? ⟨b, o + i * 2, none⟩ = some (.int .i64 x.1) ∧ w.cell? ⟨b, o + i * 2 + 1, none⟩ = some (.int .i64 x.2) := by
  obtain ⟨h1, h2⟩ := its_at hx
  obtain ⟨b, o, e, c1⟩ := h _ _ h1
  obtain ⟨b2, o2, e2, c2⟩ := h _ _ h2
  rw [e] at e2
  cases e2
  exact ⟨b, o, e, c1, by rw [Nat.add_assoc]; exact c2⟩
def ItemsIn (W : World) (v : Value) : Prop := ∃ (A : Option Addr) (c : Nat) (l : List (Int × Int)), v = .slice A l.length c ∧ l.length ≤ c ∧ l.length ≤ 140737488355328 ∧ RdItems W A l
theorem infoTTP : (Try.prog.info? 23).map (fun i => (i.zero, i.size, i.bytes)) = some (some (.pointer none), 1, 8) := by kernel_rfl
theorem infoTINTSf : (Try.prog.info? 32).map (fun i => (i.zero, i.size, i.bytes)) = some (some (.slice none 0 0), 1, 24) := by kernel_rfl
/-- append(l, x) of one cell onto one's own, and where it lies then. -/
theorem app_one {w : World} {ops : Array Oper} {rest : List Oper} {o : Oper} {a : Act} {Q : Exit → Act → World → Prop} (hgd : o.guard = none) (s x : Operand) (t e : TypeId)
    (ho : o.op = .call { callee := .builtin .append, args := #[s, x], argTypes := #[t, t] }) (i : TypeInfo) (z : Value) (bytes : Nat) (ht : Try.prog.underlying t = some (.slice e)) (hi : Try.prog.info? e = some i) (hz : i.zero = some z) (hs1 : i.size = 1) (hby : i.bytes = bytes) (hzs : z.cells.size = 1) (hb24 : bytes ≤ 64)
    (base : Nat) (v : Value) (n : Nat) (xs : List Value) (hs : a.eval s = v) (hown : w.ownsRow base e 1 v n xs) (g : Nat) (y : Value) (hx : a.eval x = .slice (some ⟨g, 0, none⟩) 1 1) (hc : w.cell? ⟨g, 0, none⟩ = some y) (hy : y.oneCell' = true) (hn : n ≤ 1048576) (hbase : base ≤ w.heap.size)
    (h : ∀ v' w', w'.ownsRow base e 1 v' (n + 1) (xs ++ [y]) → w.grownBy w' v.ownBlock → (v'.ownBlock = v.ownBlock ∨ v'.ownBlock = some w.heap.size) → wpList Try.prog ops Q rest (a.put o.dst v') w') : wpList Try.prog ops Q (o :: rest) a w := by
  obtain ⟨u, w', hrun, h1, h2, _, h4⟩ := run_append_own_at (P := Try.prog) w base t o.type e i z 1 bytes ht hi hz hs1 hby hzs (by decide) v n xs hown ⟨g, 0, none⟩ 1 1 [y] rfl (fun j u hj => by
    match j, hj with
    | 0, hj => cases hj; rw [show (⟨g, 0, none⟩ : Addr).add 0 = ⟨g, 0, none⟩ from rfl]; exact hc) (fun u hu => by rw [List.mem_singleton.1 hu]; exact hy) (by unfold maxLen; omega) (by
      have : (n + 1) * bytes ≤ 1048577 * 64 := Nat.mul_le_mul (by omega) hb24
      omega) hbase
  refine wpList_plain hgd fun K hK => ?_
  unfold Oper.wp
  simp [execOp, ho, resolve, invoke, builtin, hs, hx, hrun, Result.andThen]
  exact hK _ _ (h u w' h1 h2 h4)
/-- An operation out of a region's list. -/
def nth : List Oper → Nat → Option Oper
  | [], _ => none
  | o :: _, 0 => some o
  | _ :: l, i + 1 => nth l i
theorem nth_eq : ∀ (l : List Oper) (i : Nat), l.toArray[i]? = nth l i
  | [], i => by simp [nth]
  | o :: l, 0 => by simp [nth]
  | o :: l, i + 1 => by
    have := nth_eq l i
    rw [List.getElem?_toArray] at this ⊢
    simpa [nth] using this
section
variable {P : Program} {l : List Oper} {Q : Exit → Act → World → Prop} {md : Region.Mode} {S : World → Prop}
/-- An operation that waits for nothing is taken first. -/
theorem takeH (i : Nat) {oi : Oper} {v : Value} {fuel : Nat} {listed : Array Bool} {a : Act} {w : World} (hi : nth l i = some oi) (hs : Region.noSelect l.toArray = true) (hf : Region.free md l.toArray listed i = true) (hr : (Region.ready md l.toArray listed).contains i = true)
    (hQ : ∀ c a w, Q (.panic c) (a.put oi.dst v) w → Q (.panic c) a w) (hy : YieldsIf P l.toArray S oi v a) (hS : S w) (h : wpAnyH P md l.toArray Q S fuel (listed.setIfInBounds i true) (a.put oi.dst v) w) : wpAnyH P md l.toArray Q S (fuel + 1) listed a w :=
  wpAnyH_take ((nth_eq l i).trans hi) hs hf hr hQ hy hS h
theorem oneH (i : Nat) {o : Oper} {fuel : Nat} {listed : Array Bool} {a : Act} {w : World} (hr : Region.ready md l.toArray listed = [i]) (ho : nth l i = some o)
    (h : ∀ K' : Act → World → Prop, Shut (∀ a w, S w → (S w → wpAnyH P md l.toArray Q S fuel (listed.setIfInBounds i true) a w) → K' a w) → if Region.wanted o (yielded l.toArray a.tmps) = true then Oper.wp P o a w K' Q else K' (a.put o.dst undef) w) :
    wpAnyH P md l.toArray Q S (fuel + 1) listed a w := wpAnyH_ready hr (by simp) (AllReadyH.cons ((nth_eq l i).trans ho) h AllReadyH.nil)
end
end Go.Proofs.Ytnnadhfpkplncaa
