/- Lists of lists of one's own: made, grown, turned; what they read as. No condition of its own. -/
import Derived.Test.YtdeopklgdemnfaaRsLow
namespace Go.Proofs.Ytdeopklgdemnfaa
open Go.RowKit Gf Rs

theorem OwnB.base {b b' : Nat} {w : World} {v : Value} {l : List F} (h : OwnB b w v l) (hb : b' ≤ b) : OwnB b' w v l := own_base h hb
theorem OwnB.hd {fb b : Nat} {w : World} {v : Value} {l : List F} (h : OwnB b w v l) (hb : fb < b) : Hd fb w v l := ownsRow_hd h hb
theorem OwnB.shape {b : Nat} {w : World} {v : Value} {l : List F} (h : OwnB b w v l) : ∃ A c, v = .slice A l.length c := ownsRow_shape h
theorem OwnB.below {b : Nat} {w w' : World} {v : Value} {l : List F} (h : OwnB b w v l) (k : Below w.heap.size w w') : OwnB b w' v l :=
  own_of_below h k fun g e => (World.ownsRow.lt h g e).2
theorem own_apart {b1 b2 n1 n2 : Nat} {w : World} {v1 v2 : Value} {T1 T2 : TypeId} {xs1 xs2 : List Value} (h1 : w.ownsRow b1 T1 1 v1 n1 xs1) (h2 : w.ownsRow b2 T2 1 v2 n2 xs2) (hT : T1 ≠ T2) : v1.ownBlock = none ∨ v1.ownBlock ≠ v2.ownBlock := by
  rcases h1.2 with ⟨rfl, _⟩ | ⟨g, cap, cur, rfl, _, hg, _⟩
  · exact Or.inl rfl
  · exact Or.inr fun e => ownsRow_ne h2 hg hT (by rw [← e]; rfl)
/-- A list of bytes that lies in a block of bytes of one's own. -/
def OwnV (base : Nat) (w : World) (h : Value) (l : List F) : Prop :=
  (h = .slice none 0 0 ∧ l = []) ∨ ∃ s off c cs, h = .slice (some ⟨s, off, none⟩) l.length c ∧ l.length ≤ c ∧ base ≤ s ∧ w.heap[s]? = some (.cells cs 5 (0, 0)) ∧ ∀ (i : Nat) (v : Value), (l.map B)[i]? = some v → cs[off + i]? = some v
theorem OwnB.v {b : Nat} {w : World} {h : Value} {l : List F} (k : OwnB b w h l) : OwnV b w h l := by
  rcases k.2 with ⟨rfl, h0⟩ | ⟨g, cap, cur, rfl, hbg, hg, hnc, _, _, ht⟩
  · exact Or.inl ⟨rfl, List.length_eq_zero_iff.1 h0⟩
  · refine Or.inr ⟨g, 0, cap, cur, rfl, hnc, hbg, hg, fun i v hi => ?_⟩
    rw [← ht, List.getElem?_take] at hi
    split at hi
    · simpa using hi
    · cases hi
theorem OwnV.base {b b' : Nat} {w : World} {v : Value} {l : List F} (h : OwnV b w v l) (hb : b' ≤ b) : OwnV b' w v l := by
  rcases h with h | ⟨s, off, c, cs, h1, h2, h3, h4⟩
  · exact Or.inl h
  · exact Or.inr ⟨s, off, c, cs, h1, h2, Nat.le_trans hb h3, h4⟩
theorem OwnV.shape {b : Nat} {w : World} {v : Value} {l : List F} (h : OwnV b w v l) : ∃ A c, v = .slice A l.length c := by
  rcases h with ⟨rfl, rfl⟩ | ⟨s, off, c, cs, h1, _⟩
  · exact ⟨none, 0, rfl⟩
  · exact ⟨_, _, h1⟩
theorem OwnV.hd {fb b : Nat} {w : World} {v : Value} {l : List F} (h : OwnV b w v l) (hb : fb < b) : Hd fb w v l := by
  rcases h with ⟨rfl, rfl⟩ | ⟨s, off, c, cs, rfl, h2, h3, h4, h5⟩
  · exact ⟨none, 0, rfl, Nat.le_refl _, fun i v hi => by simp at hi⟩
  · exact ⟨_, c, rfl, h2, fun i v hi => ⟨s, off, rfl, by omega, by simp [World.cell?, h4, h5 i v hi]⟩⟩
theorem OwnV.below {b : Nat} {w w' : World} {v : Value} {l : List F} (h : OwnV b w v l) (k : Below w.heap.size w w') : OwnV b w' v l := by
  rcases h with h | ⟨s, off, c, cs, h1, h2, h3, h4, h5⟩
  · exact Or.inl h
  · exact Or.inr ⟨s, off, c, cs, h1, h2, h3, (k.block s (block_lt h4)).trans h4, h5⟩
theorem OwnV.kept {b b2 n : Nat} {w w' : World} {v v2 : Value} {l : List F} {xs : List Value} (h : OwnV b w v l) (h2 : w.ownsRow b2 37 1 v2 n xs) (k : w.grownBy w' v2.ownBlock) : OwnV b w' v l := by
  rcases h with h | ⟨s, off, c, cs, h1, h2', h3, h4, h5⟩
  · exact Or.inl h
  · exact Or.inr ⟨s, off, c, cs, h1, h2', h3, (k.block s (block_lt h4) (ownsRow_ne h2 h4 (by decide))).trans h4, h5⟩
/-- A list of lists of one's own. -/
def OutR (base : Nat) (w : World) (v : Value) (ls : List (List F)) : Prop :=
  ∃ hs : List Value, w.ownsRow base 37 1 v ls.length hs ∧ ∀ (i : Nat) (h : Value) (l : List F), hs[i]? = some h → ls[i]? = some l → OwnV base w h l
theorem OutR.nil (base : Nat) (w : World) : OutR base w (.slice none 0 0) [] := ⟨[], World.ownsRow_nil _ _ _ _, fun i h l hi => by simp at hi⟩
theorem OutR.below {base : Nat} {w w' : World} {v : Value} {ls : List (List F)} (h : OutR base w v ls) (k : Below w.heap.size w w') : OutR base w' v ls := by
  obtain ⟨hs, h1, h2⟩ := h
  exact ⟨hs, own_of_below h1 k fun g e => (World.ownsRow.lt h1 g e).2, fun i u l hi hl => (h2 i u l hi hl).below k⟩
theorem OutR.shape {base : Nat} {w : World} {v : Value} {ls : List (List F)} (h : OutR base w v ls) : ∃ A c, v = .slice A ls.length c := by
  obtain ⟨hs, h1, _⟩ := h
  exact ownsRow_shape h1
theorem OutR.lt {base : Nat} {w : World} {v : Value} {ls : List (List F)} (h : OutR base w v ls) : ∀ k, v.ownBlock = some k → base ≤ k ∧ k < w.heap.size := by
  obtain ⟨hs, h1, _⟩ := h
  exact fun k e => World.ownsRow.lt h1 k e
theorem OutR.base {b b' : Nat} {w : World} {v : Value} {ls : List (List F)} (h : OutR b w v ls) (hb : b' ≤ b) : OutR b' w v ls := by
  obtain ⟨hs, h1, h2⟩ := h
  exact ⟨hs, own_base h1 hb, fun i u l hi hl => (h2 i u l hi hl).base hb⟩
theorem OutR.hdm {fb base : Nat} {w : World} {v : Value} {ls : List (List F)} (h : OutR base w v ls) (hb : fb < base) : HdM fb w v ls := by
  obtain ⟨hs, h1, h2⟩ := h
  have hn : hs.length = ls.length := by simpa using h1.1
  rcases h1.2 with ⟨rfl, h0⟩ | ⟨g, cap, cur, rfl, hbg, hg, hnc, _, _, ht⟩
  · have : ls = [] := List.length_eq_zero_iff.1 h0
    subst this
    exact ⟨none, 0, rfl, Nat.le_refl _, [], rfl, fun i v hi => by simp at hi, fun i h l hi => by simp at hi⟩
  · refine ⟨some ⟨g, 0, none⟩, cap, rfl, hnc, hs, hn, RdV.block hg (by omega) fun i v hi => ?_, fun i u l hi hl => (h2 i u l hi hl).hd hb⟩
    rw [← ht] at hi
    rw [List.getElem?_take] at hi
    split at hi
    · simpa using hi
    · cases hi
theorem infoTBS : ∃ i : TypeInfo, Try.prog.info? 37 = some i ∧ i.zero = some (.slice none 0 0) ∧ i.size = 1 ∧ i.bytes = 24 := by
  obtain ⟨iB, h1, h2, h3, h4⟩ := info_parts infoBS
  exact ⟨iB, h1, h2, h3, h4⟩
theorem own_raise {b b1 n : Nat} {w : World} {v : Value} {T : TypeId} {xs : List Value} (h : w.ownsRow b T 1 v n xs) (hb : ∀ k, v.ownBlock = some k → b1 ≤ k) : w.ownsRow b1 T 1 v n xs := by
  refine ⟨h.1, ?_⟩
  rcases h.2 with h2 | ⟨g, cap, cur, rfl, hbg, r⟩
  · exact Or.inl h2
  · exact Or.inr ⟨g, cap, cur, rfl, hb g rfl, r⟩
/-- append(ls, l) of one list onto one's own. -/
theorem app_rowW {w : World} {ops : Array Oper} {rest : List Oper} {o : Oper} {a : Act} {Q : Exit → Act → World → Prop} (hgd : o.guard = none) (s x : Operand)
    (ho : o.op = .call { callee := .builtin .append, args := #[s, x], argTypes := #[44, 44] }) (base : Nat) (v : Value) (ls : List (List F)) (hs : a.eval s = v) (hown : OutR base w v ls)
    (g : Nat) (h : Value) (l : List F) (hx : a.eval x = .slice (some ⟨g, 0, none⟩) 1 1) (hc : w.cell? ⟨g, 0, none⟩ = some h) (hh : OwnV base w h l) (hn : ls.length ≤ 1048576) (b1 : Nat) (hb1 : base ≤ b1) (hob : ∀ k, v.ownBlock = some k → b1 ≤ k) (hbase : b1 ≤ w.heap.size)
    (hK : ∀ v' w', OutR base w' v' (ls ++ [l]) → w.grownBy w' v.ownBlock → (∀ k, v'.ownBlock = some k → b1 ≤ k) → wpList Try.prog ops Q rest (a.put o.dst v') w') : wpList Try.prog ops Q (o :: rest) a w := by
  obtain ⟨iB, h1, h2, h3, h4⟩ := infoTBS
  obtain ⟨hs', e1, e2⟩ := hown
  obtain ⟨Ah, ch, rfl⟩ := hh.shape
  refine wpList_append_own w hgd s x 44 ho b1 37 iB (.slice none 0 0) 1 24 Try.underlying44 h1 h2 h3 h4 rfl (by decide) v ls.length _ hs (own_raise e1 hob) ⟨g, 0, none⟩ 1 1 [.slice Ah l.length ch] hx rfl (fun j u hj => ?_) (fun u hu => by rw [List.mem_singleton.1 hu]; rfl) (by unfold maxLen; omega) (by omega) hbase (fun v' w' q1 q2 _ => hK v' w' ⟨hs' ++ [.slice Ah l.length ch], ?_, ?_⟩ q2 fun k e => (World.ownsRow.lt q1 k e).1)
  · match j, hj with
    | 0, hj => cases hj; simpa [Addr.add] using hc
  · rw [List.length_append]; exact own_base q1 hb1
  · have hl1 : hs'.length = ls.length := by simpa using e1.1
    have keep : ∀ (u : Value) (q : List F), OwnV base w u q → OwnV base w' u q := fun u q hq => hq.kept e1 q2
    intro i u q hi hq
    rcases Nat.lt_or_ge i ls.length with hlt | hge
    · rw [List.getElem?_append_left (by omega)] at hi
      rw [List.getElem?_append_left hlt] at hq
      exact keep u q (e2 i u q hi hq)
    · rw [List.getElem?_append_right (by omega)] at hi
      rw [List.getElem?_append_right hge] at hq
      have e : i = ls.length := by
        have := (List.getElem?_eq_some_iff.1 hq).1
        simp at this
        omega
      subst e
      simp [hl1] at hi
      simp at hq
      subst hi
      subst hq
      exact keep _ _ hh
theorem app_rowV {w : World} {ops : Array Oper} {rest : List Oper} {o : Oper} {a : Act} {Q : Exit → Act → World → Prop} (hgd : o.guard = none) (s x : Operand)
    (ho : o.op = .call { callee := .builtin .append, args := #[s, x], argTypes := #[44, 44] }) (base : Nat) (v : Value) (ls : List (List F)) (hs : a.eval s = v) (hown : OutR base w v ls)
    (g : Nat) (h : Value) (l : List F) (hx : a.eval x = .slice (some ⟨g, 0, none⟩) 1 1) (hc : w.cell? ⟨g, 0, none⟩ = some h) (hh : OwnV base w h l) (hn : ls.length ≤ 1048576) (hbase : base ≤ w.heap.size)
    (hK : ∀ v' w', OutR base w' v' (ls ++ [l]) → w.grownBy w' v.ownBlock → wpList Try.prog ops Q rest (a.put o.dst v') w') : wpList Try.prog ops Q (o :: rest) a w :=
  app_rowW hgd s x ho base v ls hs hown g h l hx hc hh hn base (Nat.le_refl _) (fun k e => (hown.lt k e).1) hbase fun v' w' h1 h2 _ => hK v' w' h1 h2
theorem app_row {w : World} {ops : Array Oper} {rest : List Oper} {o : Oper} {a : Act} {Q : Exit → Act → World → Prop} (hgd : o.guard = none) (s x : Operand)
    (ho : o.op = .call { callee := .builtin .append, args := #[s, x], argTypes := #[44, 44] }) (base : Nat) (v : Value) (ls : List (List F)) (hs : a.eval s = v) (hown : OutR base w v ls)
    (g : Nat) (h : Value) (l : List F) (hx : a.eval x = .slice (some ⟨g, 0, none⟩) 1 1) (hc : w.cell? ⟨g, 0, none⟩ = some h) (hh : OwnB base w h l) (hn : ls.length ≤ 1048576) (hbase : base ≤ w.heap.size)
    (hK : ∀ v' w', OutR base w' v' (ls ++ [l]) → w.grownBy w' v.ownBlock → wpList Try.prog ops Q rest (a.put o.dst v') w') : wpList Try.prog ops Q (o :: rest) a w :=
  app_rowV hgd s x ho base v ls hs hown g h l hx hc hh.v hn hbase hK
end Go.Proofs.Ytdeopklgdemnfaa
