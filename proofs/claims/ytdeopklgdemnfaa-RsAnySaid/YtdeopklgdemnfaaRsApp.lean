/- The built-in append where there is room: of a slice's cells, of so many noughts; as one step of a region that draws its order. No condition of its own. -/
import Derived.Test.YtdeopklgdemnfaaRsRow
import Derived.Laws.AppendOwn
import Derived.Laws.CopyRow
namespace Go.Proofs.Ytdeopklgdemnfaa
open Go.RowKit Gf Rs

section
variable {P : Program} (w : World)
/-- append(s, make([]T, m)...) where there is room. -/
theorem run_append_zeros (t tI ty e : TypeId) (i : TypeInfo) (z : Value) (ht : P.underlying t = some (.slice e)) (hI : P.underlying tI = some (.int .i64)) (hi : P.info? e = some i) (hz : i.zero = some z) (hs : i.size = 1) (hzc : z.oneCell' = true) (hzv : z.cells = #[z])
    (g sLen sCap m : Nat) (cur : Array Value) (hg : w.heap[g]? = some (.cells cur e (0, 0))) (hroom : sLen + m ≤ sCap) (hfit : sLen + m ≤ cur.size) (hm : m ≤ 1048576) (hb : i.bytes = 1) (hm0 : 0 < m) :
    (Builtin.append_ #[t, tI] ty #[.slice (some ⟨g, 0, none⟩) sLen sCap, .int .i64 m]).run P w =
      .ok (.slice (some ⟨g, 0, none⟩) (sLen + m) sCap) (w.setRow g (cur.toList.take sLen ++ List.replicate m z ++ cur.toList.drop (sLen + m)).toArray) := by
  have hst := run_storeCells_at P g sLen e (List.replicate m z) 0 cur w hg (by simpa using hfit) (fun v hv => by rw [(List.mem_replicate.1 hv).2]; exact hzc)
  simp only [Nat.add_zero, List.length_replicate] at hst
  have hw : IntKind.i64.wrap (m : Int) = m := IntWalk.i64_in _ (by omega)
  have n1 : ¬ (m : Int) < 0 := by omega
  have n2 : ¬ (281474976710656 < (m : Int) * (i.bytes : Int)) := by rw [hb]; omega
  have hzc2 : Builtin.zeroCells z.cells m = (List.replicate m z).toArray := by
    rw [hzv]
    apply Array.toList_inj.1
    simp only [Builtin.zeroCells]
    apply List.ext_getElem
    · simp
    · intro k h1 h2; simp [Nat.mod_one]
  have hm1 : ¬ m = 0 := by omega
  simp [Builtin.append_, run_underlying ht, run_underlying hI, sizeOf, typeInfo, hi, hs, asInt, asIntOf, hw, n1, n2, hroom, zeroValue, hz, hzc2, Addr.add_lit, hst, hm1]
end
/-- An append whose run is known, as one step of a region. -/
theorem step_append_run {P : Program} {ops : Array Oper} {o : Oper} {a : Act} {w : World} {K : Act → World → Prop} {Q : Exit → Act → World → Prop} {E : Prop}
    (hg : o.guard = none) (s x : Operand) (tys : Array TypeId) (hop : o.op = Op.call { callee := Callee.builtin Builtin.append, args := #[s, x], argTypes := tys })
    (vs vx v : Value) (w' : World) (hs : a.eval s = vs) (hx : a.eval x = vx) (hrun : (Builtin.append_ tys o.type #[vs, vx]).run P w = .ok v w') (hK : K (a.put o.dst v) w') :
    if Region.wanted o (yielded ops a.tmps) = true then Oper.wp P o a w K Q else E := by
  have hw : Region.wanted o (yielded ops a.tmps) = true := by simp [Region.wanted, hg]
  rw [if_pos hw]
  unfold Oper.wp
  simp [execOp, hop, resolve, invoke, builtin, hs, hx, hrun, Result.andThen]
  exact hK
/-- Block g alone may have turned. -/
structure Only (g : Nat) (w w' : World) : Prop where
  os : w'.os = w.os
  tape : w'.tape = w.tape
  output : w'.output = w.output
  size : w'.heap.size = w.heap.size
  block : ∀ k, k ≠ g → w'.heap[k]? = w.heap[k]?
theorem Only.setRow (g : Nat) (w : World) (cs : Array Value) : Only g w (w.setRow g cs) := ⟨rfl, rfl, rfl, by simp, fun k hk => setRow_other _ _ _ _ hk⟩
theorem Only.trans {g : Nat} {a b c : World} (h : Only g a b) (k : Only g b c) : Only g a c :=
  ⟨k.os.trans h.os, k.tape.trans h.tape, k.output.trans h.output, k.size.trans h.size, fun i hi => (k.block i hi).trans (h.block i hi)⟩
theorem Only.cell {g : Nat} {w w' : World} (h : Only g w w') {b o : Nat} (hb : b ≠ g) : w'.cell? ⟨b, o, none⟩ = w.cell? ⟨b, o, none⟩ := World.cell?_of_block (h.block b hb)
theorem Only.frozen {g : Nat} {w w' : World} (h : Only g w w') {b o : Nat} (hb : b ≠ g) : w'.frozen? ⟨b, o, none⟩ = w.frozen? ⟨b, o, none⟩ := World.frozen?_of_block (h.block b hb)
theorem Keep.only {fb g : Nat} {a w w' : World} (h : Keep fb a w) (k : Only g w w') (hg : a.heap.size ≤ g) (hne : g ≠ fb) : Keep fb a w' :=
  ⟨k.os.trans h.os, k.tape.trans h.tape, k.output.trans h.output, by rw [k.size]; exact h.size, fun i hi hn => (k.block i (by omega)).trans (h.block i hi hn), fun f => by
    have e := k.block fb (Ne.symm hne); have := h.field f; unfold FieldIn at *; rw [e]; exact this⟩
/-- append(s, x...) where there is room, behind which block g holds both. -/
theorem step_append_room_k {P : Program} {ops : Array Oper} {o : Oper} {a : Act} {w : World} {K : Act → World → Prop} {Q : Exit → Act → World → Prop} {E : Prop}
    (hgd : o.guard = none) (s x : Operand) (t : TypeId) (hop : o.op = Op.call { callee := Callee.builtin Builtin.append, args := #[s, x], argTypes := #[t, t] })
    (e : TypeId) (i : TypeInfo) (ht : P.underlying t = some (.slice e)) (hi : P.info? e = some i) (hs1 : i.size = 1)
    (g n cap : Nat) (hs : a.eval s = .slice (some ⟨g, 0, none⟩) n cap) (cur : Array Value) (hg : w.heap[g]? = some (.cells cur e (0, 0)))
    (ad : Addr) (m c : Nat) (news : List Value) (hx : a.eval x = .slice (some ad) m c) (hl : news.length = m) (hnews : ∀ j u, news[j]? = some u → w.cell? (ad.add j) = some u) (h1 : ∀ u ∈ news, u.oneCell' = true)
    (hroom : n + m ≤ cap) (hfit : n + m ≤ cur.size)
    (h : ∀ w', Only g w w' → Hid (w'.heap[g]? = some (.cells (cur.toList.take n ++ news ++ cur.toList.drop (n + m)).toArray e (0, 0))) → K (a.put o.dst (.slice (some ⟨g, 0, none⟩) (n + m) cap)) w') :
    if Region.wanted o (yielded ops a.tmps) = true then Oper.wp P o a w K Q else E := by
  have hr := run_append_room (P := P) w t o.type e i ht hi g n cap cur hg ad m c news (by rw [hs1]; omega) hnews h1 hroom (by rw [hs1]; omega)
  rw [hs1, Nat.mul_one, hl] at hr
  exact step_append_run hgd s x #[t, t] hop _ _ _ _ hs hx hr (h _ (Only.setRow _ _ _) (setRow_heap _ _ _ _ _ _ hg))
/-- append(s, make([]T, m)...) where there is room. -/
theorem step_append_zeros_k {P : Program} {ops : Array Oper} {o : Oper} {a : Act} {w : World} {K : Act → World → Prop} {Q : Exit → Act → World → Prop} {E : Prop}
    (hgd : o.guard = none) (s x : Operand) (t tI : TypeId) (hop : o.op = Op.call { callee := Callee.builtin Builtin.append, args := #[s, x], argTypes := #[t, tI] })
    (e : TypeId) (i : TypeInfo) (z : Value) (ht : P.underlying t = some (.slice e)) (hI : P.underlying tI = some (.int .i64)) (hi : P.info? e = some i) (hz : i.zero = some z) (hs1 : i.size = 1) (hzc : z.oneCell' = true) (hzv : z.cells = #[z])
    (g n cap m : Nat) (hs : a.eval s = .slice (some ⟨g, 0, none⟩) n cap) (hx : a.eval x = .int .i64 m) (cur : Array Value) (hg : w.heap[g]? = some (.cells cur e (0, 0)))
    (hroom : n + m ≤ cap) (hfit : n + m ≤ cur.size) (hm : m ≤ 1048576) (hb : i.bytes = 1) (hm0 : 0 < m)
    (h : ∀ w', Only g w w' → Hid (w'.heap[g]? = some (.cells (cur.toList.take n ++ List.replicate m z ++ cur.toList.drop (n + m)).toArray e (0, 0))) → K (a.put o.dst (.slice (some ⟨g, 0, none⟩) (n + m) cap)) w') :
    if Region.wanted o (yielded ops a.tmps) = true then Oper.wp P o a w K Q else E :=
  step_append_run hgd s x #[t, tI] hop _ _ _ _ hs hx (run_append_zeros w t tI o.type e i z ht hI hi hz hs1 hzc hzv g n cap m cur hg hroom hfit hm hb hm0) (h _ (Only.setRow _ _ _) (setRow_heap _ _ _ _ _ _ hg))
/-- The first rows of a matrix whose row of headers is block g. -/
def RowsRd (fb g : Nat) (w : World) (hs : List Value) (ls : List (List F)) : Prop :=
  ∀ (i : Nat) (l : List F), ls[i]? = some l → ∃ A c, hs[i]? = some (.slice A l.length c) ∧ l.length ≤ c ∧ (∀ b, A = some b → b.block ≠ g) ∧ RdB fb w A l
theorem RowsRd.nil (fb g : Nat) (w : World) (hs : List Value) : RowsRd fb g w hs [] := fun i l h => by simp at h
theorem RowsRd.keep {fb g : Nat} {w w' : World} {hs : List Value} {ls : List (List F)} (h : RowsRd fb g w hs ls) (k : Keep fb w w') : RowsRd fb g w' hs ls := fun i l hi => by
  obtain ⟨A, c, h1, h2, h3, h4⟩ := h i l hi
  exact ⟨A, c, h1, h2, h3, h4.keep k⟩
theorem RdV.set {fb g o : Nat} {w : World} {A : Option Addr} {vs : List Value} (h : RdV fb w A vs) (hA : ∀ b, A = some b → b.block ≠ g) (u : Value) : RdV fb (w.setCell ⟨g, o, none⟩ u) A vs := fun i v hi => by
  obtain ⟨b, p, h1, h2, h3⟩ := h i v hi
  refine ⟨b, p, h1, h2, ?_⟩
  rw [← h3]
  exact World.cell?_of_block (Below.heap_setCell _ _ _ _ (show b ≠ g from hA _ h1))
theorem RowsRd.set {fb g o : Nat} {w : World} {hs : List Value} {ls : List (List F)} (h : RowsRd fb g w hs ls) (u : Value) : RowsRd fb g (w.setCell ⟨g, o, none⟩ u) hs ls := fun i l hi => by
  obtain ⟨A, c, h1, h2, h3, h4⟩ := h i l hi
  exact ⟨A, c, h1, h2, h3, RdV.set h4 h3 u⟩
theorem RowsRd.snoc {fb g c : Nat} {w : World} {hs : List Value} {ls : List (List F)} {l : List F} {A : Option Addr} (h : RowsRd fb g w hs ls) (h1 : l.length ≤ c) (h2 : ∀ b, A = some b → b.block ≠ g) (h3 : RdB fb w A l) (h4 : ls.length < hs.length) :
    RowsRd fb g w (hs.set ls.length (.slice A l.length c)) (ls ++ [l]) := fun i m hi => by
  rcases Nat.lt_or_ge i ls.length with hl | hl
  · rw [List.getElem?_append_left hl] at hi
    obtain ⟨A', c', a, b⟩ := h i m hi
    exact ⟨A', c', by rw [List.getElem?_set_ne (by omega)]; exact a, b⟩
  · rw [List.getElem?_append_right hl] at hi
    have e : i = ls.length := by
      rcases Nat.eq_or_lt_of_le hl with e | e
      · exact e.symm
      · rw [List.getElem?_eq_none (by simp; omega)] at hi; cases hi
    subst e
    simp at hi
    subst hi
    exact ⟨A, c, by simp [h4], h1, h2, h3⟩
theorem RowsRd.mat {fb g : Nat} {w : World} {hs : List Value} {ls : List (List F)} {T : TypeId} (h : RowsRd fb g w hs ls) (hl : hs.length = ls.length) (hne : g ≠ fb) (hg : w.heap[g]? = some (.cells (arrV hs) T (0, 0))) : RdM fb w (some ⟨g, 0, none⟩) ls := by
  refine ⟨hs, hl, RdV.whole hg hne, fun i u l h1 h2 => ?_⟩
  obtain ⟨A, c, a, b, _, d⟩ := h i l h2
  rw [h1] at a
  cases a
  exact ⟨A, c, rfl, b, d⟩
/-- A row of one's own reads. -/
theorem own_row {fb base n : Nat} {w : World} {v : Value} {l : List F} (h : w.ownsRow base 5 1 v n (l.map B)) (hn : 0 < n) (hb : fb < base) : ∃ g c, v = .slice (some ⟨g, 0, none⟩) n c ∧ base ≤ g ∧ n ≤ c ∧ RdB fb w (some ⟨g, 0, none⟩) l ∧ l.length = n := by
  obtain ⟨h0, h1⟩ := h
  rcases h1 with ⟨_, rfl⟩ | ⟨g, c, cur, rfl, hg, hh, hc, _, _, ht⟩
  · omega
  · refine ⟨g, c, rfl, hg, hc, ?_, by simpa using h0⟩
    refine RdV.block hh (by omega) fun i v hi => ?_
    rw [← ht, List.getElem?_take] at hi
    split at hi
    · simpa using hi
    · cases hi
end Go.Proofs.Ytdeopklgdemnfaa
