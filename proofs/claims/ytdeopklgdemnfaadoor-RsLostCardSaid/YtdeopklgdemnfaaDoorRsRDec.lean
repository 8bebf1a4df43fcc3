/- The reference's Decode. Condition: the numbers are such as a code can have, no part is too long. -/
import Derived.Test.YtdeopklgdemnfaaDoorRsRInvw
namespace Go.Proofs.YtdeopklgdemnfaaDoor
open Go.RowKit Gf Rs

/-- append onto a row of one's own: it grows in place, or in a new block. -/
theorem wpList_append_at {P : Program} {w : World} {ops : Array Oper} {rest : List Oper} {o : Oper} {a : Act} {Q : Exit → Act → World → Prop}
    (hgd : o.guard = none) (s x : Operand) (t : TypeId) (hop : o.op = Op.call { callee := Callee.builtin Builtin.append, args := #[s, x], argTypes := #[t, t] })
    (base : Nat) (e : TypeId) (i : TypeInfo) (z : Value) (size bytes : Nat) (ht : P.underlying t = some (.slice e)) (hi : P.info? e = some i) (hz : i.zero = some z)
    (hsize : i.size = size) (hby : i.bytes = bytes) (hzs : z.cells.size = size) (hsz : 0 < size)
    (v : Value) (n : Nat) (xs : List Value) (hs : a.eval s = v) (hown : w.ownsRow base e size v n xs)
    (ad : Addr) (m c : Nat) (news : List Value) (hx : a.eval x = .slice (some ad) m c) (hl : news.length = m * size) (hnews : ∀ j u, news[j]? = some u → w.cell? (ad.add j) = some u) (h1 : ∀ u ∈ news, u.oneCell' = true)
    (h63 : n + m ≤ maxLen) (hbytes : (n + m) * bytes ≤ 140737488355328) (hbase : base ≤ w.heap.size)
    (h : ∀ v' w', w'.ownsRow base e size v' (n + m) (xs ++ news) → w.grownBy w' v.ownBlock → (v'.ownBlock = v.ownBlock ∨ v'.ownBlock = some w.heap.size) → wpList P ops Q rest (a.put o.dst v') w') :
    wpList P ops Q (o :: rest) a w := by
  obtain ⟨v', w', hr, h2, h3, _, h5⟩ := run_append_own_at (P := P) w base t o.type e i z size bytes ht hi hz hsize hby hzs hsz v n xs hown ad m c news hl hnews h1 h63 hbytes hbase
  refine wpList_plain hgd fun K hK => ?_
  unfold Oper.wp
  simp [execOp, hop, resolve, invoke, builtin, hs, hx, hr, Result.andThen]
  exact hK _ _ (h v' w' h2 h3 h5)
/-- The rows and the parts that were picked, at entry world w. -/
structure Rows3 (fb : Nat) (w wr : World) (K : Nat) (ls : List (List F)) (ps : List Nat) (v1 v2 : Value) : Prop where
  rows : OutR (w.heap.size + 1) wr v1 (ps.map (rowF K))
  parts : ∃ hs2 : List Value, wr.ownsRow (w.heap.size + 1) 54 1 v2 ps.length hs2 ∧ ∀ p i : Nat, ps[p]? = some i → ∃ l A c, ls[i]? = some l ∧ hs2[p]? = some (.slice A l.length c) ∧ l.length ≤ c ∧ RdB fb w A l
  apart : v1.ownBlock = none ∨ v1.ownBlock ≠ v2.ownBlock
theorem Rows3.below {fb K : Nat} {w wr w' : World} {ls : List (List F)} {ps : List Nat} {v1 v2 : Value} (h : Rows3 fb w wr K ls ps v1 v2) (k : Below wr.heap.size wr w') : Rows3 fb w w' K ls ps v1 v2 := by
  obtain ⟨hs2, h1, h2⟩ := h.parts
  exact ⟨h.rows.below k, ⟨hs2, own_of_below h1 k fun g e => (World.ownsRow.lt h1 g e).2, h2⟩, h.apart⟩
/-- A row more. -/
theorem app_rowX {w : World} {ops : Array Oper} {rest : List Oper} {o : Oper} {a : Act} {Q : Exit → Act → World → Prop} (hgd : o.guard = none) (s x : Operand)
    (ho : o.op = .call { callee := .builtin .append, args := #[s, x], argTypes := #[61, 61] }) (base : Nat) (v : Value) (ls : List (List F)) (hs : a.eval s = v) (hown : OutR base w v ls)
    (g : Nat) (h : Value) (l : List F) (hx : a.eval x = .slice (some ⟨g, 0, none⟩) 1 1) (hc : w.cell? ⟨g, 0, none⟩ = some h) (hh : OwnV base w h l) (hn : ls.length ≤ 1048576) (hbase : base ≤ w.heap.size)
    (hK : ∀ v' w', OutR base w' v' (ls ++ [l]) → w.grownBy w' v.ownBlock → (v'.ownBlock = v.ownBlock ∨ v'.ownBlock = some w.heap.size) → wpList Tryd.prog ops Q rest (a.put o.dst v') w') : wpList Tryd.prog ops Q (o :: rest) a w := by
  obtain ⟨iB, h1, h2, h3, h4⟩ := infoTBS
  obtain ⟨hs', e1, e2⟩ := hown
  obtain ⟨Ah, ch, rfl⟩ := hh.shape
  refine wpList_append_at hgd s x 61 ho base 54 iB (.slice none 0 0) 1 24 Tryd.underlying61 h1 h2 h3 h4 rfl (by decide) v ls.length _ hs e1 ⟨g, 0, none⟩ 1 1 [.slice Ah l.length ch] hx rfl (fun j u hj => ?_) (fun u hu => by rw [List.mem_singleton.1 hu]; rfl) (by unfold maxLen; omega) (by omega) hbase (fun v' w' q1 q2 q3 => hK v' w' ⟨hs' ++ [.slice Ah l.length ch], ?_, ?_⟩ q2 q3)
  · match j, hj with
    | 0, hj => cases hj; simpa [Addr.add] using hc
  · rw [List.length_append]; exact q1
  · have hl1 : hs'.length = ls.length := by simpa using e1.1
    have keep : ∀ (u : Value) (q : List F), OwnV base w u q → OwnV base w' u q := fun u q hq => hq.kept e1 q2
    intro i u q hi hq
    rcases Nat.lt_or_ge i ls.length with hlt | hge
    · rw [List.getElem?_append_left (by omega)] at hi
      rw [List.getElem?_append_left hlt] at hq
      exact keep u q (e2 i u q hi hq)
    · rw [List.getElem?_append_right (by omega)] at hi
      rw [List.getElem?_append_right hge] at hq
      have e : i = ls.length := by
        have := (List.getElem?_eq_some_iff.1 hq).1
        simp at this
        omega
      subst e
      simp [hl1] at hi
      simp at hq
      subst hi
      subst hq
      exact keep _ _ hh
theorem OutR.kept {base b2 n : Nat} {w w' : World} {v v2 : Value} {ls : List (List F)} {xs : List Value} (h : OutR base w v ls) (h2 : w.ownsRow b2 54 1 v2 n xs) (ha : v.ownBlock = none ∨ v.ownBlock ≠ v2.ownBlock) (k : w.grownBy w' v2.ownBlock) : OutR base w' v ls := by
  obtain ⟨hs, h1, h3⟩ := h
  exact ⟨hs, h1.kept k ha, fun i u l hi hl => (h3 i u l hi hl).kept h2 k⟩
/-- What is picked, with one more: first the row, then the part. -/
theorem Rows3.step {fb K j c5 : Nat} {w w1 w2 wb w3 : World} {ls : List (List F)} {ps : List Nat} {v1 v2 v1' v2' : Value} {l : List F} {A5 : Option Addr}
    (h : Rows3 fb w w1 K ls ps v1 v2) (o1 : OutR (w.heap.size + 1) w2 v1' (ps.map (rowF K) ++ [rowF K j])) (g1 : w1.grownBy w2 v1.ownBlock) (a1 : v1'.ownBlock = v1.ownBlock ∨ v1'.ownBlock = some w1.heap.size)
    (gb : Below w2.heap.size w2 wb) (hs2 : List Value) (q1 : wb.ownsRow (w.heap.size + 1) 54 1 v2 ps.length hs2) (q2 : ∀ p i : Nat, ps[p]? = some i → ∃ l A c, ls[i]? = some l ∧ hs2[p]? = some (.slice A l.length c) ∧ l.length ≤ c ∧ RdB fb w A l)
    (o2 : w3.ownsRow (w.heap.size + 1) 54 1 v2' (ps.length + 1) (hs2 ++ [.slice A5 l.length c5])) (g2 : wb.grownBy w3 v2.ownBlock) (a2 : v2'.ownBlock = v2.ownBlock ∨ v2'.ownBlock = some wb.heap.size)
    (hlj : ls[j]? = some l) (hc5 : l.length ≤ c5) (hA5 : RdB fb w A5 l) : Rows3 fb w w3 K ls (ps ++ [j]) v1' v2' := by
  have b2 : ∀ k, v2.ownBlock = some k → k < w1.heap.size := by
    obtain ⟨_, e, _⟩ := h.parts
    exact fun k hk => (World.ownsRow.lt e k hk).2
  have b1' : ∀ k, v1'.ownBlock = some k → k < w2.heap.size := fun k e => (o1.lt k e).2
  have hg1 := g1.size
  have hgb := gb.size
  have ap1 : v1'.ownBlock = none ∨ v1'.ownBlock ≠ v2.ownBlock := by
    rcases a1 with e | e
    · rw [e]; exact h.apart
    · right
      intro e2
      rw [e] at e2
      have := b2 _ e2.symm
      omega
  refine ⟨?_, ⟨hs2 ++ [.slice A5 l.length c5], by rw [List.length_append]; exact o2, fun p i hp => ?_⟩, ?_⟩
  · rw [List.map_append]
    exact (o1.below gb).kept q1 ap1 g2
  · have hl2 : hs2.length = ps.length := by simpa using q1.1
    rcases Nat.lt_or_ge p ps.length with hlt | hge
    · rw [List.getElem?_append_left hlt] at hp
      obtain ⟨q, A, c, e1, e2, e3⟩ := q2 p i hp
      exact ⟨q, A, c, e1, by rw [List.getElem?_append_left (by omega)]; exact e2, e3⟩
    · rw [List.getElem?_append_right hge] at hp
      have e : p = ps.length := by
        have := (List.getElem?_eq_some_iff.1 hp).1
        simp at this
        omega
      subst e
      simp at hp
      subst hp
      exact ⟨l, A5, c5, hlj, by rw [List.getElem?_append_right (by omega), hl2, Nat.sub_self]; rfl, hc5, hA5⟩
  · rcases a2 with e | e
    · rw [e]; exact ap1
    · rw [e]
      cases e1 : v1'.ownBlock with
      | none => exact Or.inl rfl
      | some k =>
        right
        intro e2
        have := b1' k e1
        cases e2
        omega
/-- What has been picked reads as the parts. -/
theorem Rows3.mat2 {fb c4 K : Nat} {w wr : World} {ls : List (List F)} {ps : List Nat} {v1 : Value} {A4 : Option Addr} (h : Rows3 fb w wr K ls ps v1 (.slice A4 ps.length c4)) (hf : fb < w.heap.size) (k : Below w.heap.size w wr) :
    RdM fb wr A4 (ps.map fun i => ls.getD i []) := by
  obtain ⟨hs2, o2, q2⟩ := h.parts
  refine ⟨hs2, by have := o2.1; simpa using this, own_rdv o2 (by omega), fun i v l h1 h2 => ?_⟩
  rw [List.getElem?_map] at h2
  cases hp : ps[i]? with
  | none => rw [hp] at h2; cases h2
  | some p =>
    rw [hp] at h2
    obtain ⟨q, A, c, e1, e2, e3, e4⟩ := q2 i p hp
    simp only [Option.map_some, Option.some.injEq, List.getD_eq_getElem?_getD, e1, Option.getD_some] at h2
    subst h2
    rw [h1] at e2
    cases e2
    exact ⟨A, c, rfl, e3, RdB.below e4 k⟩
end Go.Proofs.YtdeopklgdemnfaaDoor
