/- What stands throughout the loop of 'TaskAdds', and what each call does to it. No condition of its own. -/
import Derived.Test.YtnnadhfpkplncaaDoorTkActs
namespace Go.Proofs.YtnnadhfpkplncaaDoor
open Go.RowKit Go.Maps

/-- The machine has so many tasks, the reference's so many; the last number is as large. -/
structure AddsAt (W : World) (M m t : Nat) (lim : Int) (wr : World) (n nr : Nat) (vL : Value) (p : Nat) : Prop where
  mach : ∃ T, Mach W.heap.size wr M m t lim n (.slice none 0 0) n T ∧ ∀ i : Int, (n : Int) < i → T i = none
  row : OwnT wr vL nr
  box : wr.heap[p]? = some (.cells #[.int .i64 lim, .int .i64 nr, vL, .slice none 0 0, .slice none 0 0] 60 (0, 0))
  low : Below W.heap.size W wr
theorem AddsAt.cl {W : World} {M m t : Nat} {lim : Int} {w w' : World} {n nr : Nat} {vL : Value} {p : Nat} (h : AddsAt W M m t lim w n nr vL p) (k : Below w.heap.size w w') : AddsAt W M m t lim w' n nr vL p := by
  obtain ⟨T, a, b⟩ := h.mach
  exact ⟨⟨T, a.below k, b⟩, h.row.below k, (k.block p (block_lt h.box)).trans h.box, h.low.trans (k.mono h.low.size)⟩
theorem OwnT.keepM {L M m t n' : Nat} {w w' : World} {lim last : Int} {hist : Value} {T : Int → Option Nat} {v : Value} {n : Nat} (h : OwnT w v n) (hM : Mach L w M m t lim last hist n' T) (k : KeepM M m w w') : OwnT w' v n := by
  obtain ⟨xs, h1, h2⟩ := h
  refine ⟨xs, h1, ?_⟩
  rcases h2 with h2 | ⟨q, c9, cur, e, hb, hq, x⟩
  · exact Or.inl h2
  · refine Or.inr ⟨q, c9, cur, e, hb, (k.block q (block_lt hq) (fun e2 => ?_) (fun e2 => ?_)).trans hq, x⟩
    · have := hM.cell
      rw [← e2, hq] at this
      cases this
    · obtain ⟨D, ⟨es, clock, hmb, _⟩, _⟩ := hM.map
      rw [← e2, hq] at hmb
      cases hmb
theorem own_rdB {w : World} {base n s : Nat} {E : TypeId} {v : Value} {xs : List Value} (h : w.ownsRow base E s v n xs) : ∃ A c, v = .slice A n c ∧ n ≤ c ∧ RdA w A xs ∧ (A = none → n = 0 ∧ c = 0) ∧ ∀ a, A = some a → base ≤ a.block := by
  obtain ⟨A, c, e, h1, h2, h3⟩ := own_rdW h
  refine ⟨A, c, e, h1, h2, h3, fun a ea => ?_⟩
  rcases h.2 with ⟨e1, e2⟩ | ⟨g, c2, cur, e2, hg, _⟩
  · rw [e] at e1
    injection e1 with e3
    rw [e3] at ea
    cases ea
  · rw [e] at e2
    injection e2 with e3
    rw [e3] at ea
    cases ea
    exact hg
def upN (E : Int) (n : Nat) : Nat := if E = 0 then n + 1 else n
def outN (E : Int) (n : Nat) : Int := if E = 0 then (n : Int) + 1 else 0
theorem adds_after {W : World} {M m t : Nat} {lim : Int} {w w' : World} {n : Nat} {vL : Value} {p : Nat} {T : Int → Option Nat} {ws : List Want} {steps : Int} {e : Ending} (h : AddsAt W M m t lim w n n vL p) (hpp : p ≠ M ∧ p ≠ m)
    (hM : Mach W.heap.size w M m t lim n (.slice none 0 0) n T) (hT : ∀ i : Int, (n : Int) < i → T i = none) (hp : AddPost W.heap.size M m t lim n (.slice none 0 0) n T ws steps w e w') :
    e = .returned (.tuple #[.int .i64 (outN (addE lim n ws steps) n), errV (addE lim n ws steps)]) ∧ AddsAt W M m t lim w' (upN (addE lim n ws steps) n) n vL p := by
  rcases hp with ⟨h0, rfl, hb⟩ | ⟨h0, rfl, b, v', hm2, hb2, _, hbg, hbM, hbm, hk⟩
  · refine ⟨by unfold outN; rw [if_neg h0], ?_⟩
    unfold upN
    rw [if_neg h0]
    exact h.cl hb
  · refine ⟨by unfold outN; rw [if_pos h0, h0]; rfl, ?_⟩
    unfold upN
    rw [if_pos h0]
    exact ⟨⟨_, hm2, fun i hi => by
      unfold upT
      rw [if_neg (by omega)]
      exact hT i (by omega)⟩, h.row.keepM hM hk, (hk.block p (block_lt h.box) hpp.1 hpp.2).trans h.box, h.low.trans (hk.below hM.lo.1 hM.lo.2 h.low.size)⟩
theorem radd_after {lim : Int} {vL : Value} {n : Nat} {ws : List Want} {steps : Int} {w w' : World} {e : Ending} (ho : OwnT w vL n) (h : RAddPost lim n vL n ws steps w e w') :
    ∃ vL', e = .returned (.tuple #[rmach lim (upN (addE lim n ws steps) n : Nat) vL', .int .i64 (outN (addE lim n ws steps) n), .int .i64 (addE lim n ws steps)]) ∧ OwnT w' vL' (upN (addE lim n ws steps) n) ∧ Below w.heap.size w w' := by
  obtain ⟨hb, ⟨h0, rfl⟩ | ⟨h0, vL', rfl, ho'⟩⟩ := h
  · refine ⟨vL, by unfold outN upN; rw [if_neg h0, if_neg h0], ?_, hb⟩
    unfold upN
    rw [if_neg h0]
    exact ho.below hb
  · refine ⟨vL', by unfold outN upN; rw [if_pos h0, if_pos h0, h0]; rfl, ?_, hb⟩
    unfold upN
    rw [if_pos h0]
    exact ho'
theorem run_exec_load_row {P : Program} {ev : Operand → Value} {o : Oper} {x : Operand} (w : World) (g : Nat) (t ty : TypeId) (cs : Array Value) (fr : Nat × Nat) (d : TypeDesc) (ho : o.op = .load ty x) (hx : ev x = .pointer (some ⟨g, 0, none⟩)) (hg : w.heap[g]? = some (.cells cs t fr))
    (hu : P.underlying ty = some d) (hd : (match d with | .struct _ | .array _ _ => true | _ => false) = true) (hi : (P.info? ty).map (·.size) = some cs.size) : (execOp ev o).run P w = .ok (.value (.agg cs)) w := by
  unfold execOp
  simp only [ho, hx, Instr.loadAt, Instr.sureAddr, Sem.run_bind, Sem.run_pure, Result.andThen_ok, run_loadVar_row w g t ty cs fr d hg hu hd hi]
theorem OwnT.setRow {w : World} {v : Value} {n g : Nat} {cs old : Array Value} (h : OwnT w v n) (hg : w.heap[g]? = some (.cells old 60 (0, 0))) : OwnT (w.setRow g cs) v n := by
  obtain ⟨xs, h1, h2⟩ := h
  refine ⟨xs, h1, ?_⟩
  rcases h2 with h2 | ⟨q, c9, cur, e, hb, hq, x⟩
  · exact Or.inl h2
  · refine Or.inr ⟨q, c9, cur, e, hb, (setRow_other w g q cs (fun e2 => ?_)).trans hq, x⟩
    rw [← e2, hq] at hg
    cases hg
theorem adds_stored {W : World} {M m t : Nat} {lim : Int} {w : World} {n n' : Nat} {vL vL' : Value} {p : Nat} (h : AddsAt W M m t lim w n' n vL p) (ho : OwnT w vL' n') (hpp : p ≠ M ∧ p ≠ m ∧ W.heap.size ≤ p) :
    AddsAt W M m t lim (w.setRow p #[.int .i64 lim, .int .i64 n', vL', .slice none 0 0, .slice none 0 0]) n' n' vL' p := by
  obtain ⟨T, a, b⟩ := h.mach
  exact ⟨⟨T, a.same (setRow_other w p M _ (Ne.symm hpp.1)) (setRow_other w p m _ (Ne.symm hpp.2.1)), b⟩, ho.setRow h.box, setRow_heap w p _ _ 60 _ h.box, h.low.trans (below_setRow hpp.2.2)⟩
theorem adds_stored2 {W : World} {M m t : Nat} {lim : Int} {w8 wa wb : World} {n n' : Nat} {vL vL' : Value} {p : Nat} {old : Array Value} (h : AddsAt W M m t lim w8 n' n vL p) (h1 : Below w8.heap.size w8 wa) (h2 : Below w8.heap.size w8 wb) (ho : OwnT wb vL' n') (hg : wb.heap[wa.heap.size]? = some (.cells old 60 (0, 0))) :
    (wb.setRow wa.heap.size #[.int .i64 lim, .int .i64 n', vL', .slice none 0 0, .slice none 0 0]).heap[wa.heap.size]? = some (.cells #[.int .i64 lim, .int .i64 n', vL', .slice none 0 0, .slice none 0 0] 60 (0, 0)) ∧
    AddsAt W M m t lim (wb.setRow wa.heap.size #[.int .i64 lim, .int .i64 n', vL', .slice none 0 0, .slice none 0 0]) n' n vL p ∧ OwnT (wb.setRow wa.heap.size #[.int .i64 lim, .int .i64 n', vL', .slice none 0 0, .slice none 0 0]) vL' n' :=
  ⟨setRow_heap wb _ _ _ 60 _ hg, h.cl (h2.trans (below_setRow h1.size)), ho.setRow hg⟩
section
variable {P : Program} {l : List Oper} {Q : Exit → Act → World → Prop} {md : Region.Mode} {S : World → Prop}
/-- Two operations may come up. -/
theorem twoR (i j : Nat) {oi oj : Oper} {fuel : Nat} {listed : Array Bool} {a : Act} {w : World} (hr : Region.ready md l.toArray listed = [i, j]) (hi : nthR l i = some oi) (hj : nthR l j = some oj)
    (h1 : ∀ K' : Act → World → Prop, Shut (∀ a w, S w → (S w → wpAnyH P md l.toArray Q S fuel (listed.setIfInBounds i true) a w) → K' a w) → if Region.wanted oi (yielded l.toArray a.tmps) = true then Oper.wp P oi a w K' Q else K' (a.put oi.dst undef) w)
    (h2 : ∀ K' : Act → World → Prop, Shut (∀ a w, S w → (S w → wpAnyH P md l.toArray Q S fuel (listed.setIfInBounds j true) a w) → K' a w) → if Region.wanted oj (yielded l.toArray a.tmps) = true then Oper.wp P oj a w K' Q else K' (a.put oj.dst undef) w) :
    wpAnyH P md l.toArray Q S (fuel + 1) listed a w := wpAnyH_ready hr (by simp) (AllReadyH.cons ((nthR_eq l i).trans hi) h1 (AllReadyH.cons ((nthR_eq l j).trans hj) h2 AllReadyH.nil))
end
end Go.Proofs.YtnnadhfpkplncaaDoor
