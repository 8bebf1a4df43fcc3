/- Lists of bytes of one's own; what stays as it reads. No condition of its own. -/
import Derived.Test.YtdeopklgdemnfaaRsJoin
namespace Go.Proofs.Ytdeopklgdemnfaa
open Go.RowKit Gf Rs

theorem infoTB : ∃ i : TypeInfo, Try.prog.info? 5 = some i ∧ i.zero = some (.int .u8 0) ∧ i.size = 1 ∧ i.bytes = 1 := by
  obtain ⟨iB, h1, h2, h3, h4⟩ := info_parts infoB
  exact ⟨iB, h1, h2, h3, h4⟩
/-- A list of bytes of one's own, from block base on. -/
def OwnB (base : Nat) (w : World) (v : Value) (l : List F) : Prop := w.ownsRow base 5 1 v l.length (l.map B)
theorem own_base {b b' n : Nat} {w : World} {v : Value} {T : TypeId} {xs : List Value} (h : w.ownsRow b T 1 v n xs) (hb : b' ≤ b) : w.ownsRow b' T 1 v n xs := by
  refine ⟨h.1, ?_⟩
  rcases h.2 with h2 | ⟨g, cap, cur, e, hbg, r⟩
  · exact Or.inl h2
  · exact Or.inr ⟨g, cap, cur, e, Nat.le_trans hb hbg, r⟩
/-- append(l, x) of one byte onto one's own. -/
theorem app_byte {w : World} {ops : Array Oper} {rest : List Oper} {o : Oper} {a : Act} {Q : Exit → Act → World → Prop} (hgd : o.guard = none) (s x : Operand)
    (ho : o.op = .call { callee := .builtin .append, args := #[s, x], argTypes := #[37, 37] }) (base : Nat) (v : Value) (n : Nat) (l : List F) (hs : a.eval s = v) (hown : w.ownsRow base 5 1 v n (l.map B))
    (g : Nat) (b : F) (hx : a.eval x = .slice (some ⟨g, 0, none⟩) 1 1) (hc : w.cell? ⟨g, 0, none⟩ = some (B b)) (hn : n ≤ 1048576) (hbase : base ≤ w.heap.size)
    (h : ∀ v' w', w'.ownsRow base 5 1 v' (n + 1) ((l ++ [b]).map B) → w.grownBy w' v.ownBlock → wpList Try.prog ops Q rest (a.put o.dst v') w') : wpList Try.prog ops Q (o :: rest) a w := by
  obtain ⟨iB, h1, h2, h3, h4⟩ := infoTB
  refine wpList_append_own w hgd s x 37 ho base 5 iB (.int .u8 0) 1 1 Try.underlying37 h1 h2 h3 h4 rfl (by decide) v n _ hs hown ⟨g, 0, none⟩ 1 1 [B b] hx rfl (fun j u hj => ?_) (fun u hu => by rw [List.mem_singleton.1 hu]; rfl) (by unfold maxLen; omega) (by omega) hbase (fun v' w' e1 e2 _ => h v' w' ?_ e2)
  · match j, hj with
    | 0, hj => cases hj; simpa [Addr.add] using hc
  · rw [List.map_append]; exact e1
theorem own_of_below {b base n : Nat} {w w' : World} {v : Value} {T : TypeId} {xs : List Value} (h : w.ownsRow base T 1 v n xs) (k : Below b w w') (hk : ∀ g, v.ownBlock = some g → g < b) : w'.ownsRow base T 1 v n xs := by
  refine ⟨h.1, ?_⟩
  rcases h.2 with h2 | ⟨g, cap, cur, rfl, hbg, hg, r⟩
  · exact Or.inl h2
  · exact Or.inr ⟨g, cap, cur, rfl, hbg, (k.block g (hk g rfl)).trans hg, r⟩
theorem below_drewN {b : Nat} {w w' : World} (h : Below b w w') (n : Nat) : Below b w (w'.drewN n) := ⟨h.os, h.tape, h.output, h.size, h.block⟩
theorem RdV.below {fb : Nat} {w w' : World} {A : Option Addr} {vs : List Value} (h : RdV fb w A vs) (k : Below w.heap.size w w') : RdV fb w' A vs := fun i v hi => by
  obtain ⟨b, o, e1, e2, e3⟩ := h i v hi
  exact ⟨b, o, e1, e2, by rw [← e3]; exact World.cell?_of_block (k.block b (cell_lt e3))⟩
theorem RdB.below {fb : Nat} {w w' : World} {A : Option Addr} {l : List F} (h : RdB fb w A l) (k : Below w.heap.size w w') : RdB fb w' A l := RdV.below h k
theorem Hd.below {fb : Nat} {w w' : World} {v : Value} {l : List F} (h : Hd fb w v l) (k : Below w.heap.size w w') : Hd fb w' v l := by
  obtain ⟨A, c, e, hc, hr⟩ := h
  exact ⟨A, c, e, hc, RdV.below hr k⟩
theorem RdM.below {fb : Nat} {w w' : World} {A : Option Addr} {ls : List (List F)} (h : RdM fb w A ls) (k : Below w.heap.size w w') : RdM fb w' A ls := by
  obtain ⟨hs, h1, h2, h3⟩ := h
  exact ⟨hs, h1, h2.below k, fun i v l hi hl => (h3 i v l hi hl).below k⟩
theorem HdM.below {fb : Nat} {w w' : World} {v : Value} {ls : List (List F)} (h : HdM fb w v ls) (k : Below w.heap.size w w') : HdM fb w' v ls := by
  obtain ⟨A, c, e, hc, hr⟩ := h
  exact ⟨A, c, e, hc, hr.below k⟩
end Go.Proofs.Ytdeopklgdemnfaa
