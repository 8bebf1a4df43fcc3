/- The text of all parts; the append of what reads as a list. Condition: the numbers are such as a code can have. -/
import Derived.Test.YtdeopklgdemnfaaRsMds
namespace Go.Proofs.Ytdeopklgdemnfaa
open Go.RowKit Gf Rs

/-- append(own, x...) where x reads as a list, nil or not. -/
theorem wpList_append_rd {P : Program} {w : World} {ops : Array Oper} {rest : List Oper} {o : Oper} {a : Act} {Q : Exit → Act → World → Prop} (hgd : o.guard = none) (s x : Operand) (t : TypeId)
    (ho : o.op = .call { callee := .builtin .append, args := #[s, x], argTypes := #[t, t] })
    (base : Nat) (e : TypeId) (i : TypeInfo) (z : Value) (bytes : Nat) (ht : P.underlying t = some (.slice e)) (hi : P.info? e = some i) (hz : i.zero = some z)
    (hsize : i.size = 1) (hby : i.bytes = bytes) (hzs : z.cells.size = 1)
    (v : Value) (n : Nat) (xs : List Value) (hs : a.eval s = v) (hown : w.ownsRow base e 1 v n xs)
    (fb : Nat) (A : Option Addr) (m c : Nat) (news : List Value) (hx : a.eval x = .slice A m c) (hl : news.length = m) (hrd : RdV fb w A news) (h1 : ∀ u ∈ news, u.oneCell' = true)
    (h63 : n + m ≤ maxLen) (hbytes : (n + m) * bytes ≤ 140737488355328) (hbase : base ≤ w.heap.size)
    (h : ∀ v' w', w'.ownsRow base e 1 v' (n + m) (xs ++ news) → w.grownBy w' v.ownBlock → wpList P ops Q rest (a.put o.dst v') w') : wpList P ops Q (o :: rest) a w := by
  cases A with
  | none =>
    have hn : news = [] := by
      cases news with
      | nil => rfl
      | cons u us =>
        obtain ⟨b, o', e1, _⟩ := hrd 0 u rfl
        cases e1
    subst hn
    simp only [List.length_nil] at hl
    subst hl
    refine wpList_plain hgd fun K hK => ?_
    have hrun : (Builtin.append_ #[t, t] o.type #[v, .slice none 0 c]).run P w = .ok v w := by
      rcases hown.2 with ⟨rfl, rfl⟩ | ⟨g, cap, cur, rfl, _, _, hnc, _⟩
      · simp [Builtin.append_, run_underlying ht, sizeOf, typeInfo, hi, Builtin.lenOf, Builtin.firstCells]
      · simp [Builtin.append_, run_underlying ht, sizeOf, typeInfo, hi, Builtin.lenOf, Builtin.firstCells, hnc, storeCells]
    unfold Oper.wp
    simp [execOp, ho, resolve, invoke, builtin, hs, hx, hrun, Result.andThen]
    refine hK _ _ (h _ _ ?_ ⟨rfl, rfl, rfl, Nat.le_refl _, fun _ _ _ => rfl⟩)
    simpa using hown
  | some ad =>
    refine wpList_append_own w hgd s x t ho base e i z 1 bytes ht hi hz hsize hby hzs (by decide) v n xs hs hown ad m c news hx (by omega) (fun j u hj => ?_) h1 h63 hbytes hbase fun v' w' h2 h3 _ => h v' w' h2 h3
    obtain ⟨b, o', e1, _, e2⟩ := hrd j u hj
    cases e1
    rw [WideShapes.add_plain]; exact e2
theorem B_one {l : List F} : ∀ u ∈ l.map B, u.oneCell' = true := fun u hu => by
  obtain ⟨x, _, rfl⟩ := List.mem_map.1 hu; rfl
/-- What is one's own reads as a list, beside each block that lay there before. -/
theorem ownsRow_hd {fb base n : Nat} {w : World} {v : Value} {l : List F} (h : w.ownsRow base 5 1 v n (l.map B)) (hb : fb < base) : Hd fb w v l := by
  have hn : l.length = n := by simpa using h.1
  subst hn
  rcases h.2 with ⟨rfl, h0⟩ | ⟨g, cap, cur, rfl, hbg, hg, hnc, _, _, ht⟩
  · have : l = [] := List.length_eq_zero_iff.1 h0
    subst this
    exact ⟨none, 0, rfl, Nat.le_refl _, fun i v hi => by simp at hi⟩
  · refine ⟨some ⟨g, 0, none⟩, cap, rfl, hnc, RdV.block hg (by omega) fun i v hi => ?_⟩
    rw [← ht] at hi
    rw [List.getElem?_take] at hi
    split at hi
    · simpa using hi
    · cases hi
theorem RdV.take {fb k : Nat} {w : World} {A : Option Addr} {vs : List Value} (h : RdV fb w A vs) : RdV fb w A (vs.take k) := fun i v hi => by
  rw [List.getElem?_take] at hi
  split at hi
  · exact h i v hi
  · cases hi
/-- The first K parts, one behind the other. -/
def catF (K : Nat) (ls : List (List F)) : List F := (ls.take K).flatten
theorem cat_snoc {ls : List (List F)} {j : Nat} (h : j < ls.length) : catF (j + 1) ls = catF j ls ++ ls[j] := by
  unfold catF
  rw [List.take_succ_eq_append_getElem h, List.flatten_append]
  simp
theorem cat_le {ls : List (List F)} {i j : Nat} (h : i ≤ j) : (catF i ls).length ≤ (catF j ls).length := by
  induction j with
  | zero => obtain rfl : i = 0 := by omega
            exact Nat.le_refl _
  | succ j ih =>
    rcases Nat.lt_or_ge j ls.length with h2 | h2
    · rcases Nat.lt_or_ge i (j + 1) with h3 | h3
      · have := ih (by omega)
        rw [cat_snoc h2, List.length_append]
        omega
      · obtain rfl : i = j + 1 := by omega
        exact Nat.le_refl _
    · rcases Nat.lt_or_ge i (j + 1) with h3 | h3
      · have := ih (by omega)
        have e : catF (j + 1) ls = catF j ls := by unfold catF; rw [List.take_of_length_le (by omega), List.take_of_length_le h2]
        rw [e]; exact this
      · obtain rfl : i = j + 1 := by omega
        exact Nat.le_refl _
def JoinPost (fb : Nat) (w : World) (c : List F) (m : Nat) (e : Ending) (w' : World) : Prop :=
  if c.length < m then e = .returned (.tuple #[.slice none 0 0, errN 2]) ∧ Keep fb w w'
  else ∃ h, e = .returned (.tuple #[h, .nilIface]) ∧ Hd fb w' h (c.take m) ∧ Keep fb w w'
end Go.Proofs.Ytdeopklgdemnfaa
