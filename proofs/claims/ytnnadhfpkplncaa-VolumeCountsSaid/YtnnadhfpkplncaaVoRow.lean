/- Rows of structs: copied, stored into at a place, cleared. No condition of its own. -/
import Derived.Test.YtnnadhfpkplncaaVoGet
import Derived.Laws.CopyRow
import Derived.Deep.RegionLaw
import Derived.Deep.RegionLawGrows
import Derived.Lib.AppendZerosOnto
import Derived.Lib.Overlaps
import Derived.Laws.Externs
namespace Go.Proofs.Ytnnadhfpkplncaa
open Go.RowKit

section
variable {P : Program}
/-- A row's cells from a place on. -/
def cut3 (cur : Array Value) (o : Nat) (cs : List Value) : Array Value := (cur.toList.take o ++ cs ++ cur.toList.drop (o + cs.length)).toArray
theorem cut3_size {cur : Array Value} {o : Nat} {cs : List Value} (h : o + cs.length ≤ cur.size) : (cut3 cur o cs).size = cur.size := by
  unfold cut3
  simp
  omega
theorem cut3_list (X M Z cs : List Value) (cur : Array Value) (h : cur.toList = X ++ M ++ Z) (hl : M.length = cs.length) : (cut3 cur X.length cs).toList = X ++ cs ++ Z := by
  unfold cut3
  rw [h]
  simp only
  rw [List.append_assoc X M Z, List.take_left' rfl, ← List.append_assoc X M Z, ← hl, ← List.length_append, List.drop_left' rfl]
theorem run_copy_rows (w : World) (dT sT ty elem : TypeId) (g o dLen dCap : Nat) (a : Addr) (sLen sCap k s : Nat) (cur : Array Value) (t : TypeId) (cs : List Value)
    (hu : P.underlying dT = some (.slice elem)) (hs : (P.info? elem).map (·.size) = some s)
    (hg : w.heap[g]? = some (.cells cur t (0, 0))) (hk : k = Nat.min sLen dLen) (hn : cs.length = k * s)
    (hsrc : ∀ j v, cs[j]? = some v → w.cell? (a.add j) = some v) (hfit : o + cs.length ≤ cur.size) (h1 : ∀ v ∈ cs, v.oneCell' = true) :
    (Builtin.copy_ #[dT, sT] ty #[.slice (some ⟨g, o, none⟩) dLen dCap, .slice (some a) sLen sCap]).run P w = .ok (goInt k) (w.setRow g (cut3 cur o cs)) := by
  have hl := run_loadCells_list (P := P) w a cs hsrc
  have hst := run_storeCells_at P g o t cs 0 cur w hg (by simpa using hfit) h1
  cases hq : P.info? elem with
  | none => simp [hq] at hs
  | some i =>
    have hi : i.size = s := by simpa [hq] using hs
    simp [Builtin.copy_, run_underlying hu, Builtin.lenOf, Builtin.firstCells, sizeOf, typeInfo, hq, hi, ← hk, ← hn, hl, hst, cut3]
theorem run_storeVar_at (w : World) (g o : Nat) (t ty : TypeId) (cur cells : Array Value) (hg : w.heap[g]? = some (.cells cur t (0, 0))) (hi : (P.info? ty).map (·.size) = some cells.size) (hfit : o + cells.size ≤ cur.size) (h1 : cells.all (·.oneCell') = true) :
    (storeVar ty ⟨g, o, none⟩ (.agg cells)).run P w = .ok () (w.setRow g (cut3 cur o cells.toList)) := by
  have hst := run_storeCells_at P g o t cells.toList 0 cur w hg (by simpa using hfit) (fun v hv => (Array.all_eq_true_iff_forall_mem.1 h1) v (by simpa using hv))
  cases hq : P.info? ty with
  | none => simp [hq] at hi
  | some i =>
    have hs : cells.size = i.size := by simp [hq] at hi; omega
    simp [storeVar, sizeOf, typeInfo, hq, Value.cells, hs] at hst ⊢
    simp [hst, cut3, hs]
theorem wp_store_at {op : Oper} {a : Act} {w : World} {K : Act → World → Prop} {Q : Exit → Act → World → Prop} (ty : TypeId) (x y : Operand) (ho : op.op = .store ty x y)
    (g o : Nat) (cells : Array Value) (hx : a.eval x = .pointer (some ⟨g, o, none⟩)) (hy : a.eval y = .agg cells) (t : TypeId) (cur : Array Value)
    (hg : w.heap[g]? = some (.cells cur t (0, 0))) (hi : (P.info? ty).map (·.size) = some cells.size) (hfit : o + cells.size ≤ cur.size) (h1 : cells.all (·.oneCell') = true)
    (h : K (a.put op.dst undef) (w.setRow g (cut3 cur o cells.toList))) : op.wp P a w K Q := by
  unfold Oper.wp execOp
  simp only [ho, hx, hy, Instr.storeAt, Instr.sureAddr, Sem.run_bind, Sem.run_pure, Result.andThen_ok, run_storeVar_at w g o t ty cur cells hg hi hfit h1]
  exact h
theorem wpList_store_at {ops : Array Oper} {rest : List Oper} {op : Oper} {a : Act} {w : World} {Q : Exit → Act → World → Prop} (hgd : op.guard = none) (ty : TypeId) (x y : Operand) (ho : op.op = .store ty x y)
    (g o : Nat) (cells : Array Value) (hx : a.eval x = .pointer (some ⟨g, o, none⟩)) (hy : a.eval y = .agg cells) (t : TypeId) (cur : Array Value)
    (hg : w.heap[g]? = some (.cells cur t (0, 0))) (hi : (P.info? ty).map (·.size) = some cells.size) (hfit : o + cells.size ≤ cur.size) (h1 : cells.all (·.oneCell') = true)
    (h : wpList P ops Q rest (a.put op.dst undef) (w.setRow g (cut3 cur o cells.toList))) : wpList P ops Q (op :: rest) a w :=
  wpList_plain hgd fun _ hK => wp_store_at ty x y ho g o cells hx hy t cur hg hi hfit h1 (hK _ _ h)
theorem wp_copy_run (w : World) {o : Oper} {a : Act} {K : Act → World → Prop} {Q : Exit → Act → World → Prop} (d s : Operand) (t t' : TypeId)
    (ho : o.op = .call { callee := .builtin .copy, args := #[d, s], argTypes := #[t, t'] }) (v u : Value) (hd : a.eval d = v) (hs : a.eval s = u) {v' : Value} {w' : World}
    (hr : (Builtin.copy_ #[t, t'] o.type #[v, u]).run P w = .ok v' w') (h : K (a.put o.dst v') w') : o.wp P a w K Q := by
  unfold Oper.wp execOp
  simp only [ho, resolve, invoke, builtin, Sem.run_bind, Sem.run_pure, Result.andThen_ok, List.map_toArray, List.map_cons, List.map_nil, hd, hs, hr]
  exact h
theorem wpList_copy_run (w : World) {ops : Array Oper} {rest : List Oper} {o : Oper} {a : Act} {Q : Exit → Act → World → Prop} (hgd : o.guard = none) (d s : Operand) (t t' : TypeId)
    (ho : o.op = .call { callee := .builtin .copy, args := #[d, s], argTypes := #[t, t'] }) (v u : Value) (hd : a.eval d = v) (hs : a.eval s = u) {v' : Value} {w' : World}
    (hr : (Builtin.copy_ #[t, t'] o.type #[v, u]).run P w = .ok v' w') (h : wpList P ops Q rest (a.put o.dst v') w') : wpList P ops Q (o :: rest) a w :=
  wpList_plain hgd fun _ hK => wp_copy_run w d s t t' ho v u hd hs hr (hK _ _ h)
theorem step_copy_run {ops : Array Oper} {o : Oper} {a : Act} {w : World} {K : Act → World → Prop} {Q : Exit → Act → World → Prop} {E : Prop}
    (hg : o.guard = none) (d x : Operand) (dT sT : TypeId) (hop : o.op = Op.call { callee := Callee.builtin Builtin.copy, args := #[d, x], argTypes := #[dT, sT] })
    (v u : Value) (hd : a.eval d = v) (hx : a.eval x = u) {v' : Value} {w' : World} (hr : (Builtin.copy_ #[dT, sT] o.type #[v, u]).run P w = .ok v' w') (hK : K (a.put o.dst v') w') :
    if Region.wanted o (yielded ops a.tmps) = true then Oper.wp P o a w K Q else E := by
  have hw : Region.wanted o (yielded ops a.tmps) = true := by simp [Region.wanted, hg]
  rw [if_pos hw]
  unfold Oper.wp
  simp [execOp, hop, resolve, invoke, builtin, hd, hx, hr, Result.andThen]
  exact hK
end
/-- A row of volumes, its room told. -/
structure RowV (B : Nat) (w : World) (g c : Nat) (cur : Array Value) (l : List Vol) : Prop where
  heap : w.heap[g]? = some (.cells cur 92 (0, 0))
  base : B ≤ g
  cap : l.length ≤ c
  max : c ≤ maxLen
  size : cur.size = c * 6
  take : cur.toList.take (l.length * 6) = vols l
theorem RowV.own {B : Nat} {w : World} {g c : Nat} {cur : Array Value} {l : List Vol} (h : RowV B w g c cur l) : w.ownsRow B 92 6 (.slice (some ⟨g, 0, none⟩) l.length c) l.length (vols l) :=
  ⟨vols_len l, Or.inr ⟨g, c, cur, rfl, h.base, h.heap, h.cap, h.max, h.size, h.take⟩⟩
theorem RowV.of {B : Nat} {w : World} {v : Value} {l : List Vol} (h : w.ownsRow B 92 6 v l.length (vols l)) : (v = .slice none 0 0 ∧ l = []) ∨ ∃ g c cur, v = .slice (some ⟨g, 0, none⟩) l.length c ∧ RowV B w g c cur l := by
  rcases h.2 with ⟨e1, e2⟩ | ⟨g, c, cur, e, h1, h2, h3, h4, h5, h6⟩
  · exact Or.inl ⟨e1, List.eq_nil_of_length_eq_zero e2⟩
  · exact Or.inr ⟨g, c, cur, e, h2, h1, h3, h4, h5, h6⟩
theorem own_rdV {w : World} {B : Nat} {v : Value} {l : List Vol} (h : w.ownsRow B 92 6 v l.length (vols l)) : ∃ A c, v = .slice A l.length c ∧ RdV w A l c ∧ ∀ b, A = some b → B ≤ b.block := by
  rcases RowV.of h with ⟨rfl, rfl⟩ | ⟨g, c, cur, rfl, hr⟩
  · exact ⟨none, 0, rfl, RdV.empty w, fun b e => by cases e⟩
  · obtain ⟨A, c2, e, h1, h2, h3⟩ := own_rdA h
    injection e with e1 _ e2
    subst e1 e2
    exact ⟨_, c, rfl, ⟨h2, hr.cap, fun e => by cases e⟩, fun b e => (h3 b e).1⟩
theorem row_split {cur : Array Value} {l : List Vol} (h : cur.toList.take (l.length * 6) = vols l) : cur.toList = vols l ++ cur.toList.drop (l.length * 6) := by
  rw [← h, List.take_append_drop]
theorem infoTVOL : (Try.prog.info? 92).map (fun i => (i.zero, i.size, i.bytes)) = some (some (.agg #[.string ⟨#[]⟩, .int .i64 0, .int .i64 0, .int .i64 0, .bool false, .pointer none]), 6, 56) := by kernel_rfl
theorem info_parts {P : Program} {e : TypeId} {z : Value} {s b : Nat} (h : (P.info? e).map (fun i => (i.zero, i.size, i.bytes)) = some (some z, s, b)) : ∃ i, P.info? e = some i ∧ i.zero = some z ∧ i.size = s ∧ i.bytes = b := by
  cases hq : P.info? e with
  | none => rw [hq] at h; cases h
  | some i =>
    rw [hq] at h
    simp only [Option.map_some, Option.some.injEq, Prod.mk.injEq] at h
    exact ⟨i, rfl, h.1, h.2.1, h.2.2⟩
end Go.Proofs.Ytnnadhfpkplncaa
