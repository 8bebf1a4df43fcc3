/- Own lists of items: read, grown. No condition of its own. -/
import Derived.Test.YtnnadhfpkplncaaRxLBack
import Derived.Test.YtnnadhfpkplncaaRxRefP
namespace Go.Proofs.Ytnnadhfpkplncaa
open Go.RowKit

theorem infoTITEM : (Try.prog.info? 28).map (fun i => (i.zero, i.size, i.bytes)) = some (some (.agg #[.int .i64 0, .int .i64 0]), 2, 16) := by kernel_rfl
/-- One's own list of items. -/
def OwnI (B : Nat) (w : World) (v : Value) (l : List (Int × Int)) : Prop := w.ownsRow B 28 2 v l.length (its l)
theorem OwnI.nil (B : Nat) (w : World) : OwnI B w (.slice none 0 0) [] := World.ownsRow_nil _ _ _ _
theorem OwnI.base {B B' : Nat} {w : World} {v : Value} {l : List (Int × Int)} (h : OwnI B w v l) (hb : B' ≤ B) : OwnI B' w v l := own_base h hb
theorem OwnI.below {B : Nat} {w w' : World} {v : Value} {l : List (Int × Int)} (h : OwnI B w v l) (k : Below w.heap.size w w') : OwnI B w' v l := by
  refine ⟨h.1, ?_⟩
  rcases h.2 with h2 | ⟨g, c, cur, e, hb, hg, r⟩
  · exact Or.inl h2
  · exact Or.inr ⟨g, c, cur, e, hb, (k.block g (block_lt hg)).trans hg, r⟩
theorem OwnI.read {B : Nat} {w : World} {v : Value} {l : List (Int × Int)} (h : OwnI B w v l) : ∃ A c, v = .slice A l.length c ∧ l.length ≤ c ∧ RdItems w A l := by
  obtain ⟨A, c, h1, h2, h3, _⟩ := own_rdA h
  exact ⟨A, c, h1, h2, h3⟩
theorem its_append (l m : List (Int × Int)) : its (l ++ m) = its l ++ its m := List.flatMap_append
theorem its_len : ∀ l : List (Int × Int), (its l).length = l.length * 2
  | [] => rfl
  | x :: l => by
    have e : its (x :: l) = .int .i64 x.1 :: .int .i64 x.2 :: its l := rfl
    rw [e]
    simp only [List.length_cons, its_len l]
    omega
theorem its_one : ∀ {l : List (Int × Int)}, ∀ u ∈ its l, u.oneCell' = true
  | [], u, h => by cases h
  | x :: l, u, h => by
    have e : its (x :: l) = .int .i64 x.1 :: .int .i64 x.2 :: its l := rfl
    rw [e] at h
    rcases List.mem_cons.1 h with h | h
    · subst h; rfl
    · rcases List.mem_cons.1 h with h | h
      · subst h; rfl
      · exact its_one u h
theorem RdItems.take {w : World} {A : Option Addr} {l : List (Int × Int)} (h : RdItems w A l) (k : Nat) : RdItems w A (l.take k) := fun i u hi => by
  refine h i u ?_
  have e : its l = its (l.take k) ++ its (l.drop k) := by rw [← its_append, List.take_append_drop]
  rw [e, List.getElem?_append_left (List.getElem?_eq_some_iff.1 hi).1]
  exact hi
theorem RdItems.drop {w : World} {A : Option Addr} {l : List (Int × Int)} (h : RdItems w A l) {k : Nat} (hk : k ≤ l.length) : RdItems w (A.map (·.add (k * 2))) (l.drop k) := fun i u hi => by
  have e : its l = its (l.take k) ++ its (l.drop k) := by rw [← its_append, List.take_append_drop]
  have hl : (its (l.take k)).length = k * 2 := by rw [its_len, List.length_take, Nat.min_eq_left hk]
  have hi2 : (its l)[k * 2 + i]? = some u := by
    rw [e, List.getElem?_append_right (by omega), hl, Nat.add_sub_cancel_left]
    exact hi
  obtain ⟨b, o, ea, hc⟩ := h _ u hi2
  subst ea
  exact ⟨b, o + k * 2, by simp [Addr.add], by rw [Nat.add_assoc]; exact hc⟩
theorem RdItems.nil (w : World) (A : Option Addr) : RdItems w A [] := fun i u hi => by simp [its] at hi
/-- What 'l[k:]' is, with the spot of an empty one behind the last cell left as it was. -/
theorem RdItems.dropIf {w : World} {A : Option Addr} {l : List (Int × Int)} (h : RdItems w A l) {k c : Nat} (hk : k ≤ l.length) (hc : l.length ≤ c) : RdItems w (if c = k then A else A.map (·.add (k * 2))) (l.drop k) := by
  by_cases e : c = k
  · have : l.drop k = [] := List.drop_eq_nil_iff.2 (by omega)
    rw [this]; exact RdItems.nil _ _
  · rw [if_neg e]; exact h.drop hk
/-- append(own, x...) where x reads as a list of items, nil or not. -/
theorem app_items {w : World} {ops : Array Oper} {rest : List Oper} {o : Oper} {a : Act} {Q : Exit → Act → World → Prop} (hgd : o.guard = none) (s x : Operand)
    (ho : o.op = .call { callee := .builtin .append, args := #[s, x], argTypes := #[22, 22] })
    (B : Nat) (v : Value) (l : List (Int × Int)) (hs : a.eval s = v) (hown : OwnI B w v l) (A : Option Addr) (m c : Nat) (news : List (Int × Int)) (hx : a.eval x = .slice A m c) (hl : news.length = m) (hrd : RdItems w A news)
    (hn : l.length + m ≤ 10000) (hbase : B ≤ w.heap.size)
    (h : ∀ v' w', OwnI B w' v' (l ++ news) → Below B w w' → wpList Try.prog ops Q rest (a.put o.dst v') w') : wpList Try.prog ops Q (o :: rest) a w := by
  obtain ⟨i, hi, hz0, hz1, hz2⟩ := info_parts infoTITEM
  have hvb : ∀ k, v.ownBlock = some k → B ≤ k := fun k e => by
    rcases hown.2 with ⟨rfl, _⟩ | ⟨g, cap, cur, rfl, hg, _⟩
    · cases e
    · cases e; exact hg
  cases A with
  | none =>
    have hn : news = [] := by
      cases news with
      | nil => rfl
      | cons u us =>
        obtain ⟨b, o', e1, _⟩ := hrd 0 _ rfl
        cases e1
    subst hn
    simp only [List.length_nil] at hl
    subst hl
    refine wpList_plain hgd fun K hK => ?_
    have hrun : (Builtin.append_ #[22, 22] o.type #[v, .slice none 0 c]).run Try.prog w = .ok v w := by
      rcases hown.2 with ⟨rfl, hl0⟩ | ⟨g, cap, cur, rfl, _, _, hnc, _⟩
      · simp [Builtin.append_, run_underlying Try.underlying22, sizeOf, typeInfo, hi, Builtin.lenOf, Builtin.firstCells]
      · simp [Builtin.append_, run_underlying Try.underlying22, sizeOf, typeInfo, hi, Builtin.lenOf, Builtin.firstCells, hnc, storeCells]
    unfold Oper.wp
    simp [execOp, ho, resolve, invoke, builtin, hs, hx, hrun, Result.andThen]
    refine hK _ _ (h _ _ ?_ (Below.refl _ _))
    simpa using hown
  | some ad =>
    have e8 : (its news).length = m * 2 := by rw [its_len, hl]
    refine wpList_append_own w hgd s x 22 ho B 28 i (.agg #[.int .i64 0, .int .i64 0]) 2 16 Try.underlying22 hi hz0 hz1 hz2 rfl (by decide) v l.length (its l) hs hown ad m c (its news) hx e8 (fun j u hj => ?_) its_one (by unfold maxLen; omega) (by omega) hbase fun v' w' h2 h3 _ => h v' w' ?_ ((Below.refl _ _).grown h3 hbase hvb)
    · obtain ⟨b, o', e1, e2⟩ := hrd j u hj
      cases e1
      rw [WideShapes.add_plain]; exact e2
    · unfold OwnI
      rw [List.length_append, its_append, hl]; exact h2
end Go.Proofs.Ytnnadhfpkplncaa
