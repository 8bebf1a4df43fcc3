/- A volume that may be written; a copy's parts. Condition: the set reads, its names go up. -/
import Derived.Test.YtnnadhfpkplncaaVoRange
import Derived.Test.YtnnadhfpkplncaaRegLast
namespace Go.Proofs.Ytnnadhfpkplncaa
open Go.RowKit

def WritPost (l : List Vol) (t : List UInt8) (at_ n : Int) (w : World) (e : Ending) (w' : World) : Prop := Below w.heap.size w w' ∧
  ((∃ i x, l[i]? = some x ∧ x.name = t ∧ Cut l t i ∧ inR x at_ n ∧ x.frozen = false ∧ e = .returned (.tuple #[.agg #[.string ⟨x.name.toArray⟩, .int .i64 x.blocks, .int .i64 x.quota, .int .i64 x.used, .bool x.frozen, .pointer x.A], .nilIface])) ∨
  (∃ (y : Vol) (k : Int), e = .returned (.tuple #[.agg #[.string ⟨y.name.toArray⟩, .int .i64 y.blocks, .int .i64 y.quota, .int .i64 y.used, .bool y.frozen, .pointer y.A], .iface 93 (.int .i64 k)]) ∧ ∀ x ∈ l, x.name = t → ¬ (inR x at_ n ∧ x.frozen = false)))
/-- The end of it: the volume at hand is handed back. -/
theorem writ_end {w w3 : World} {p : Nat} {x : Vol} (hb : Below w.heap.size w w3) (hp : w3.heap[p]? = some (.cells #[.string ⟨#[]⟩, .int .i64 0, .int .i64 0, .int .i64 0, .bool false, .pointer none] 92 (0, 0))) (hpq : w.heap.size ≤ p) :
    Below w.heap.size w (w3.setRow p #[.string ⟨x.name.toArray⟩, .int .i64 x.blocks, .int .i64 x.quota, .int .i64 x.used, .bool x.frozen, .pointer x.A]) ∧ (w3.setRow p #[.string ⟨x.name.toArray⟩, .int .i64 x.blocks, .int .i64 x.quota, .int .i64 x.used, .bool x.frozen, .pointer x.A]).heap[p]? = some (.cells #[.string ⟨x.name.toArray⟩, .int .i64 x.blocks, .int .i64 x.quota, .int .i64 x.used, .bool x.frozen, .pointer x.A] 92 (0, 0)) :=
  ⟨hb.trans (below_setRow hpq), setRow_heap w3 p _ #[.string ⟨x.name.toArray⟩, .int .i64 x.blocks, .int .i64 x.quota, .int .i64 x.used, .bool x.frozen, .pointer x.A] 92 _ hp⟩
set_option maxRecDepth 100000 in
set_option maxHeartbeats 3200000 in
theorem writ_any (s : Option Addr) (l : List Vol) (t : List UInt8) (z n : Int) (w : World) (h : RdS w s l) (hu : Up l) (hl : l.length ≤ 900) (hb : ∀ x ∈ l, 0 ≤ x.blocks ∧ x.blocks ≤ 4096) :
    Calls Try.prog 54 #[.pointer s, .string ⟨t.toArray⟩, .int .i64 z, .int .i64 n] w (WritPost l t z n w) := by
  obtain ⟨w1, hw1⟩ : ∃ w1, w1 = w.alloc (.cells #[.string ⟨#[]⟩, .int .i64 0, .int .i64 0, .int .i64 0, .bool false, .pointer none] 92) := ⟨_, rfl⟩
  obtain ⟨p, hp⟩ : ∃ p, p = w.heap.size := ⟨_, rfl⟩
  have hb1 : Below w.heap.size w w1 := by rw [hw1]; exact (Below.refl _ _).alloc (Nat.le_refl _) _
  have hx1 : w1.heap[p]? = some (.cells #[.string ⟨#[]⟩, .int .i64 0, .int .i64 0, .int .i64 0, .bool false, .pointer none] 92 (0, 0)) := by rw [hw1, hp]; exact alloc_new _ _
  have HG := Lib.hid (within_any s l t z n w1 (h.below hb1) hu hl hb)
  have HU := Lib.hid hu
  have HB1 := Lib.hid hb1
  have HX1 := Lib.hid hx1
  have HP := Lib.hid (show w.heap.size ≤ p by omega)
  clear hb1 hx1 h hu hb
  go_enter Try.func54, Try.ntmps54
  go_wp2_with fail
  rw [← hw1, ← hp]
  clear hw1 hp
  refine HG.out.mono ?_
  rintro e w2 ⟨hb2, hpost⟩
  obtain ⟨x, E, he, hE⟩ : ∃ (x : Vol) (E : Value), e = .returned (.tuple #[.agg #[.string ⟨x.name.toArray⟩, .int .i64 x.blocks, .int .i64 x.quota, .int .i64 x.used, .bool x.frozen, .pointer x.A], E]) ∧ ((E = .nilIface ∧ ∃ i, l[i]? = some x ∧ x.name = t ∧ Cut l t i ∧ inR x z n) ∨ (∃ k : Int, E = .iface 93 (.int .i64 k) ∧ ∀ y ∈ l, y.name = t → ¬ inR y z n)) := by
    rcases hpost with ⟨i, x, hx, hxt, hc, hin, rfl⟩ | ⟨k, rfl, hno⟩
    · exact ⟨x, _, rfl, Or.inl ⟨rfl, i, hx, hxt, hc, hin⟩⟩
    · exact ⟨⟨[], 0, 0, 0, false, none, fun _ => 0⟩, _, rfl, Or.inr ⟨k, rfl, hno⟩⟩
  subst he
  clear hpost
  obtain ⟨w3, hw3⟩ : ∃ w3, w3 = w2.alloc (.cells #[.string ⟨x.name.toArray⟩, .int .i64 x.blocks, .int .i64 x.quota, .int .i64 x.used, .bool x.frozen, .pointer x.A] 92) := ⟨_, rfl⟩
  obtain ⟨q, hq⟩ : ∃ q, q = w2.heap.size := ⟨_, rfl⟩
  have hb3 : Below w2.heap.size w2 w3 := by rw [hw3]; exact (Below.refl _ _).alloc (Nat.le_refl _) _
  have hx3 : w3.heap[q]? = some (.cells #[.string ⟨x.name.toArray⟩, .int .i64 x.blocks, .int .i64 x.quota, .int .i64 x.used, .bool x.frozen, .pointer x.A] 92 (0, 0)) := by rw [hw3, hq]; exact alloc_new _ _
  have HX3 := Lib.hid (((hb2.trans (hb3.mono hb2.size)).block _ (block_lt HX1.out)).trans HX1.out)
  have HB3 := Lib.hid (HB1.out.trans ((hb2.trans (hb3.mono hb2.size)).mono HB1.out.size))
  have y0 : w3.cell? ⟨q, 0, none⟩ = some (.string ⟨x.name.toArray⟩) := block_cell hx3
  have y1 : w3.cell? ⟨q, 1, none⟩ = some (.int .i64 x.blocks) := block_cell hx3
  have y2 : w3.cell? ⟨q, 2, none⟩ = some (.int .i64 x.quota) := block_cell hx3
  have y3 : w3.cell? ⟨q, 3, none⟩ = some (.int .i64 x.used) := block_cell hx3
  have y4 : w3.cell? ⟨q, 4, none⟩ = some (.bool x.frozen) := block_cell hx3
  have y5 : w3.cell? ⟨q, 5, none⟩ = some (.pointer x.A) := block_cell hx3
  clear hb2 hb3 hx3 HG
  have HF := Lib.hid (writ_end (x := x) HB3.out HX3.out HP.out)
  rcases hE with ⟨rfl, i, hx, hxt, hc, hin⟩ | ⟨k, rfl, hno⟩
  · have HXX := Lib.hid (And.intro hx (And.intro hxt (And.intro hc hin)))
    have HNO := Lib.hid (show x.frozen = true → ∀ y ∈ l, y.name = t → ¬ (inR y z n ∧ y.frozen = false) from fun h y hy e c => by
      have h9 := c.2
      rw [up_one HU.out hy (List.mem_of_getElem? hx) (e.trans hxt.symm), h] at h9
      cases h9)
    clear hx hxt hc hin
    obtain ⟨xn, xb, xq, xu, xf, xA, xg⟩ := x
    dsimp only at y0 y1 y2 y3 y4 y5 hw3 HF HNO
    cases xf with
    | false =>
      go_upto_region 2 with fail
      rw [← hw3, ← hq]
      clear hw3 hq
      go_wp2_with ((with_reducible refine stop_storeV _ _ rfl ?_))
      unfold Hid
      refine wpList_store_row rfl 92 _ _ rfl p #[.string ⟨xn.toArray⟩, .int .i64 xb, .int .i64 xq, .int .i64 xu, .bool false, .pointer xA] rfl rfl 92 _ HX3.out (by kernel_rfl) rfl (by simp [Value.oneCell']) ?_
      generalize w3.setRow p #[.string ⟨xn.toArray⟩, .int .i64 xb, .int .i64 xq, .int .i64 xu, .bool false, .pointer xA] = w4 at *
      clear y0 y1 y2 y3 y4 y5
      go_wp2
      refine bodyPost_ret (results_row_tmp rfl _ _ p _ _ _ _ rfl HF.out.2 Try.underlying92 rfl (by kernel_rfl)) rfl ?_
      exact ⟨HF.out.1, Or.inl ⟨i, _, HXX.out.1, HXX.out.2.1, HXX.out.2.2.1, HXX.out.2.2.2, rfl, rfl⟩⟩
    | true =>
      go_upto_region 2 with fail
      rw [← hw3, ← hq]
      clear hw3 hq
      go_wp2_with ((with_reducible refine stop_storeV _ _ rfl ?_))
      unfold Hid
      refine wpList_store_row rfl 92 _ _ rfl p #[.string ⟨xn.toArray⟩, .int .i64 xb, .int .i64 xq, .int .i64 xu, .bool true, .pointer xA] rfl rfl 92 _ HX3.out (by kernel_rfl) rfl (by simp [Value.oneCell']) ?_
      generalize w3.setRow p #[.string ⟨xn.toArray⟩, .int .i64 xb, .int .i64 xq, .int .i64 xu, .bool true, .pointer xA] = w4 at *
      clear y0 y1 y2 y3 y4 y5
      go_wp2
      refine bodyPost_ret (results_row_tmp rfl _ _ p _ _ _ _ rfl HF.out.2 Try.underlying92 rfl (by kernel_rfl)) rfl ?_
      exact ⟨HF.out.1, Or.inr ⟨⟨xn, xb, xq, xu, true, xA, xg⟩, _, rfl, HNO.out trivial⟩⟩
  · have HNO := Lib.hid (show ∀ y ∈ l, y.name = t → ¬ (inR y z n ∧ y.frozen = false) from fun y hy e c => hno y hy e c.1)
    clear hno
    obtain ⟨xn, xb, xq, xu, xf, xA, xg⟩ := x
    dsimp only at y0 y1 y2 y3 y4 y5 hw3 HF
    go_upto_region 2 with fail
    rw [← hw3, ← hq]
    clear hw3 hq
    go_wp2_with ((with_reducible refine stop_storeV _ _ rfl ?_))
    unfold Hid
    refine wpList_store_row rfl 92 _ _ rfl p #[.string ⟨xn.toArray⟩, .int .i64 xb, .int .i64 xq, .int .i64 xu, .bool xf, .pointer xA] rfl rfl 92 _ HX3.out (by kernel_rfl) rfl (by simp [Value.oneCell']) ?_
    generalize w3.setRow p #[.string ⟨xn.toArray⟩, .int .i64 xb, .int .i64 xq, .int .i64 xu, .bool xf, .pointer xA] = w4 at *
    clear y0 y1 y2 y3 y4 y5
    go_wp2
    refine bodyPost_ret (results_row_tmp rfl _ _ p _ _ _ _ rfl HF.out.2 Try.underlying92 rfl (by kernel_rfl)) rfl ?_
    exact ⟨HF.out.1, Or.inr ⟨⟨xn, xb, xq, xu, xf, xA, xg⟩, _, rfl, HNO.out⟩⟩
section
variable {P : Program} {l : List Oper} {Q : Exit → Act → World → Prop} {md : Region.Mode} {S : World → Prop}
/-- Two operations may come up. -/
theorem twoR (i j : Nat) {oi oj : Oper} {fuel : Nat} {listed : Array Bool} {a : Act} {w : World} (hr : Region.ready md l.toArray listed = [i, j]) (hi : nthR l i = some oi) (hj : nthR l j = some oj)
    (h1 : ∀ K' : Act → World → Prop, Shut (∀ a w, S w → (S w → wpAnyH P md l.toArray Q S fuel (listed.setIfInBounds i true) a w) → K' a w) → if Region.wanted oi (yielded l.toArray a.tmps) = true then Oper.wp P oi a w K' Q else K' (a.put oi.dst undef) w)
    (h2 : ∀ K' : Act → World → Prop, Shut (∀ a w, S w → (S w → wpAnyH P md l.toArray Q S fuel (listed.setIfInBounds j true) a w) → K' a w) → if Region.wanted oj (yielded l.toArray a.tmps) = true then Oper.wp P oj a w K' Q else K' (a.put oj.dst undef) w) :
    wpAnyH P md l.toArray Q S (fuel + 1) listed a w := wpAnyH_ready hr (by simp) (AllReadyH.cons ((nthR_eq l i).trans hi) h1 (AllReadyH.cons ((nthR_eq l j).trans hj) h2 AllReadyH.nil))
theorem run_exec_load_row {ev : Operand → Value} {o : Oper} {x : Operand} (w : World) (g : Nat) (t ty : TypeId) (cs : Array Value) (fr : Nat × Nat) (d : TypeDesc) (ho : o.op = .load ty x) (hx : ev x = .pointer (some ⟨g, 0, none⟩)) (hg : w.heap[g]? = some (.cells cs t fr))
    (hu : P.underlying ty = some d) (hd : (match d with | .struct _ | .array _ _ => true | _ => false) = true) (hi : (P.info? ty).map (·.size) = some cs.size) : (execOp ev o).run P w = .ok (.value (.agg cs)) w := by
  unfold execOp
  simp only [ho, hx, Instr.loadAt, Instr.sureAddr, Sem.run_bind, Sem.run_pure, Result.andThen_ok, run_loadVar_row w g t ty cs fr d hg hu hd hi]
end
end Go.Proofs.Ytnnadhfpkplncaa
