/- A list of acts, its names no longer than what can be read. No condition of its own. -/
import Derived.Test.YtnnadhfpkplncaaDoorLkOpen
namespace Go.Proofs.YtnnadhfpkplncaaDoor
open Go.RowKit Go.ChangeShapes Go.WideShapes Go.Deep

def okA2 (x : Act4) : Prop := wfI x.2.1 ∧ okS x.2.2.1 ∧ x.2.2.1.length ≤ 140737488355328
def ActsIn2 (W : World) (v : Value) : Prop := ∃ (A : Option Addr) (c : Nat) (l : List Act4), v = .slice A l.length c ∧ l.length ≤ c ∧ l.length ≤ 140737488355328 ∧ RdA W A (acts4 l) ∧ ∀ x ∈ l, okA2 x
theorem weights_all {H : Type} {P : Program} {e : TypeId} {d : DataW H} {y : Nat} : ∀ {l : List (DataW H)}, d ∈ l → y ∈ d.weights P e → y ∈ DataW.weightsAll P e l
  | a :: l, h, hy => by
    rw [DataW.weightsAll, List.mem_append]
    rcases List.mem_cons.1 h with rfl | h
    · exact Or.inl hy
    · exact Or.inr (weights_all h hy)
theorem weights_slice {H : Type} {P : Program} {t e : TypeId} {d : DataW H} {y : Nat} {l s : List (DataW H)} (ht : P.underlying t = some (.slice e)) (h : d ∈ l ∨ d ∈ s) (hy : y ∈ d.weights P e) : y ∈ DataW.weights P t (.slice l s) := by
  rw [DataW.weights, ht]
  refine List.mem_cons_of_mem _ (List.mem_append.2 ?_)
  exact h.imp (fun h => weights_all h hy) (fun h => weights_all h hy)
theorem slice_mem {H : Type} {D : Nat → DataW H} {len m i : Nat} (hi : i < m) : D i ∈ (List.range len).map D ∨ D i ∈ (List.range (m - len)).map fun j => D (len + j) := by
  rcases Nat.lt_or_ge i len with h | h
  · exact Or.inl (List.mem_map.2 ⟨i, List.mem_range.2 h, rfl⟩)
  · exact Or.inr (List.mem_map.2 ⟨i - len, List.mem_range.2 (by omega), by congr 1; omega⟩)
theorem weights_third {H : Type} {P : Program} {t : TypeId} {f0 f1 f2 f3 : Field} {ys : List (DataW H × List MemPlace)} {y2 : DataW H × List MemPlace} {s : ByteArray} (ht : P.underlying t = some (.struct #[f0, f1, f2, f3])) (h2 : ys[2]? = some y2) (he : y2 = (.lit (.string s.data.toList), []))
    (hl : ys.length = 4) : s.data.toList.length ∈ DataW.weights P t (.agg (ys.map (·.1))) := by
  match ys, hl with
  | [a, b, c, d], _ =>
    simp only [List.getElem?_cons_succ, List.getElem?_cons_zero, Option.some.injEq] at h2
    subst h2
    subst he
    simp [DataW.weights, ht, DataW.weightsEach]
set_option maxRecDepth 100000 in
/-- A list of acts. -/
theorem open_acts2 {H : Type} {enc : TypeId × Value → H} {W : World} {v : Value} {d : DataW H} {p : List MemPlace} {ts : List TypeId} {ds : List (DataW H)} {b0 : Nat} {j : Nat} (hv : Value.okWide Tryd.prog W .any b0 22 v) (h : DataW.Trod enc Tryd.prog W 0 (fun _ => true) true 22 v d p)
    (hz : (DataW.weightsEach Tryd.prog ts ds).all (· ≤ reachBytes) = true) (ht : ts[j]? = some 22) (hd : ds[j]? = some d) : ActsIn2 W v := by
  obtain ⟨a0, len, cap, rfl⟩ := okWide_slice Tryd.underlying22 hv
  obtain ⟨fuel, hf⟩ := h
  rcases open_slice_fields Tryd.underlying22 Tryd.underlying24 (by kernel_rfl) (by kernel_rfl) hf with ⟨hcs, _⟩ | ⟨a, len1, cap1, m, D, Pl, hcs, _, hl, hm, hmm, hx, hi⟩
  · simp [Value.cells] at hcs
    obtain ⟨rfl, rfl, rfl⟩ := hcs
    exact ⟨none, 0, [], rfl, Nat.le_refl _, by simp, fun i u hi => by simp [acts4] at hi, fun x hx => by cases hx⟩
  · simp [Value.cells] at hcs
    obtain ⟨rfl, rfl, rfl⟩ := hcs
    simp only [if_true] at hmm
    subst hmm
    simp only [Prod.mk.injEq] at hx
    obtain ⟨rfl, rfl⟩ := hx
    have hbnd := sized_slice hz ht hd Tryd.underlying22
    rw [bAct] at hbnd
    simp only [List.length_map, List.length_range, reachBytes] at hbnd
    have key : ∀ i, i < m → ∃ x : Act4, W.cell? (a.add (i * 4 + 0)) = some (.int .i64 x.1) ∧ W.cell? (a.add (i * 4 + 1)) = some (.int .i64 x.2.1) ∧ W.cell? (a.add (i * 4 + 2)) = some (.string ⟨x.2.2.1.toArray⟩) ∧ W.cell? (a.add (i * 4 + 3)) = some (.bool x.2.2.2) ∧ okA2 x := fun i him => by
      obtain ⟨ys, n, hDi, _, hyl, hf⟩ := hi i him
      obtain ⟨u0, y0, c0, _, t0⟩ := hf 0 _ rfl
      obtain ⟨u1, y1, c1, _, t1⟩ := hf 1 _ rfl
      obtain ⟨u2, y2, c2, hy2, t2⟩ := hf 2 _ rfl
      obtain ⟨u3, y3, c3, _, t3⟩ := hf 3 _ rfl
      obtain ⟨z0, e0, _⟩ := DataW.trod_int Tryd.underlying3 t0
      obtain ⟨z1, e1, _, w1⟩ := DataW.trod_int Tryd.underlying3 t1
      obtain ⟨s, e2, ey2, w2⟩ := DataW.trod_string Tryd.underlying9 t2
      obtain ⟨b, e3, _⟩ := DataW.trod_bool Tryd.underlying4 t3
      simp only [List.cons.injEq, and_true] at e0 e1 e2 e3
      subst e0 e1 e2 e3
      have hmem : s.data.toList.length ∈ DataW.weights Tryd.prog 22 (.slice ((List.range len).map D) ((List.range (m - len)).map fun j => D (len + j))) := by
        have h1 : s.data.toList.length ∈ (D i).weights Tryd.prog 24 := by
          rw [hDi]
          exact weights_third Tryd.underlying24 hy2 ey2 hyl
        exact weights_slice Tryd.underlying22 (slice_mem him) h1
      have hbd := List.all_eq_true.1 hz _ (DataW.weights_mem_each ht hd _ hmem)
      exact ⟨(z0, z1, s.data.toList, b), c0, c1, c2, c3, w1, w2, by have h9 := of_decide_eq_true hbd; unfold reachBytes at h9; show s.data.toList.length ≤ _; omega⟩
    obtain ⟨X, hX⟩ : ∃ X : Nat → Act4, ∀ i, i < m → W.cell? (a.add (i * 4 + 0)) = some (.int .i64 (X i).1) ∧ W.cell? (a.add (i * 4 + 1)) = some (.int .i64 (X i).2.1) ∧ W.cell? (a.add (i * 4 + 2)) = some (.string ⟨(X i).2.2.1.toArray⟩) ∧ W.cell? (a.add (i * 4 + 3)) = some (.bool (X i).2.2.2) ∧ okA2 (X i) := by
      refine ⟨fun i => if h : i < m then Classical.choose (key i h) else (0, 0, [], false), fun i h => ?_⟩
      simp only [dif_pos h]
      exact Classical.choose_spec (key i h)
    refine ⟨some a, m, (List.range len).map X, by simp, by simpa using hl, by simp; omega, fun i u hu => ?_, fun x hx => ?_⟩
    · obtain ⟨x, h1, h2⟩ := acts4_get hu
      rw [List.getElem?_map] at h1
      have hlt : i / 4 < len := by
        rcases Nat.lt_or_ge (i / 4) len with h | h
        · exact h
        · rw [List.getElem?_eq_none (by simpa using h)] at h1; cases h1
      rw [List.getElem?_range hlt] at h1
      simp only [Option.map_some, Option.some.injEq] at h1
      subst h1
      obtain ⟨b, o, rfl, _⟩ := cell_spot (by simpa using (hX 0 (by omega)).1)
      have hc := hX (i / 4) (by omega)
      rw [add_plain, add_plain, add_plain, add_plain] at hc
      refine ⟨b, o, rfl, ?_⟩
      have e4 : i % 4 = 0 ∨ i % 4 = 1 ∨ i % 4 = 2 ∨ i % 4 = 3 := by omega
      rcases e4 with e | e | e | e <;> rw [e] at h2 <;> simp only [acells, List.getElem?_cons_zero, List.getElem?_cons_succ, Option.some.injEq] at h2 <;> subst h2
      · rw [← hc.1]; congr 2; omega
      · rw [← hc.2.1]; congr 2; omega
      · rw [← hc.2.2.1]; congr 2; omega
      · rw [← hc.2.2.2.1]; congr 2; omega
    · obtain ⟨i, hi, rfl⟩ := List.mem_map.1 hx
      exact (hX i (by have := List.mem_range.1 hi; omega)).2.2.2.2
end Go.Proofs.YtnnadhfpkplncaaDoor
