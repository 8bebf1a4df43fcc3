/- A list of acts of law 23 out of what the parameter reads as. No condition of its own. -/
import Derived.Test.YtnnadhfpkplncaaDoorTkActs
import Derived.Test.YtnnadhfpkplncaaDoorLkOpen2
namespace Go.Proofs.YtnnadhfpkplncaaDoor
open Go.RowKit Go.ChangeShapes Go.WideShapes Go.Deep

theorem wants2_get {l : List Want} {i : Nat} {u : Value} (h : (wants2 l)[i]? = some u) : ∃ x, l[i / 2]? = some x ∧ (wcells x)[i % 2]? = some u := by
  induction l generalizing i with
  | nil => simp [wants2] at h
  | cons y l ih =>
    have e : wants2 (y :: l) = .string ⟨y.1.toArray⟩ :: .bool y.2 :: wants2 l := rfl
    rw [e] at h
    match i, h with
    | 0, h => exact ⟨y, rfl, h⟩
    | 1, h => exact ⟨y, rfl, h⟩
    | i + 2, h =>
      obtain ⟨x, h1, h2⟩ := ih (i := i) (by simpa using h)
      exact ⟨x, by rw [show (i + 2) / 2 = i / 2 + 1 by omega]; simpa using h1, by rw [show (i + 2) % 2 = i % 2 by omega]; exact h2⟩
theorem tacts_get {l : List ActT} {i : Nat} {u : Value} (h : (tacts l)[i]? = some u) : ∃ x, l[i / 3]? = some x ∧ (tcells x)[i % 3]? = some u := by
  induction l generalizing i with
  | nil => simp [tacts] at h
  | cons y l ih =>
    have e : tacts (y :: l) = .int .i64 y.kind :: .int .i64 y.num :: .slice y.A y.ws.length y.c :: tacts l := rfl
    rw [e] at h
    match i, h with
    | 0, h => exact ⟨y, rfl, h⟩
    | 1, h => exact ⟨y, rfl, h⟩
    | 2, h => exact ⟨y, rfl, h⟩
    | i + 3, h =>
      obtain ⟨x, h1, h2⟩ := ih (i := i) (by simpa using h)
      exact ⟨x, by rw [show (i + 3) / 3 = i / 3 + 1 by omega]; simpa using h1, by rw [show (i + 3) % 3 = i % 3 by omega]; exact h2⟩
theorem cAct3 : Tryd.prog.cellsOf 69 = 3 := by kernel_rfl
theorem bAct3 : Tryd.prog.bytesOf 69 = 40 := by kernel_rfl
theorem bWant3 : Tryd.prog.bytesOf 109 = 24 := by kernel_rfl
theorem weights_last {H : Type} {P : Program} {t q e : TypeId} {f0 f1 f2 : Field} {ys : List (DataW H × List MemPlace)} {y2 : DataW H × List MemPlace} {l s : List (DataW H)} (ht : P.underlying t = some (.struct #[f0, f1, f2])) (hq : f2.type = q) (hs : P.underlying q = some (.slice e)) (h2 : ys[2]? = some y2) (he : y2.1 = .slice l s)
    (hl : ys.length = 3) : (l.length + s.length) * P.bytesOf e ∈ DataW.weights P t (.agg (ys.map (·.1))) := by
  subst hq
  match ys, hl with
  | [a, b, c], _ =>
    simp only [List.getElem?_cons_succ, List.getElem?_cons_zero, Option.some.injEq] at h2
    subst h2
    simp [DataW.weights, ht, DataW.weightsEach, he, hs]
set_option maxRecDepth 100000 in
theorem open_wants {H : Type} {enc : TypeId × Value → H} {W : World} {u : Value} {n : Nat} {y : DataW H × List MemPlace} (h : DataW.trod enc Tryd.prog W 0 (fun _ => true) true n 67 [u] = some y) :
    ∃ (A : Option Addr) (c : Nat) (ws : List Want), u = .slice A ws.length c ∧ RdA W A (wants2 ws) ∧ ws.length ≤ c ∧ (A = none → ws.length = 0 ∧ c = 0) ∧ (ws = [] ∨ ∃ l s, y.1 = .slice l s ∧ ws.length ≤ l.length + s.length) := by
  rcases open_slice_fields Tryd.underlying67 Tryd.underlying109 (by kernel_rfl) (by kernel_rfl) h with ⟨hcs, _⟩ | ⟨a, len, cap, m, D, Pl, hcs, _, hl, hm, hmm, hx, hi⟩
  · simp only [List.cons.injEq, and_true] at hcs
    exact ⟨none, 0, [], hcs, fun i u hi => by simp [wants2] at hi, Nat.le_refl _, fun _ => ⟨rfl, rfl⟩, Or.inl rfl⟩
  · simp only [List.cons.injEq, and_true] at hcs
    simp only [if_true] at hmm
    subst hmm
    subst hx
    have key : ∀ i, i < m → ∃ x : Want, W.cell? (a.add (i * 2 + 0)) = some (.string ⟨x.1.toArray⟩) ∧ W.cell? (a.add (i * 2 + 1)) = some (.bool x.2) := fun i him => by
      obtain ⟨ys, n, _, _, hyl, hf⟩ := hi i him
      obtain ⟨u0, y0, c0, _, t0⟩ := hf 0 _ rfl
      obtain ⟨u1, y1, c1, _, t1⟩ := hf 1 _ rfl
      obtain ⟨s, e0, _, _⟩ := DataW.trod_string Tryd.underlying9 t0
      obtain ⟨b, e1, _⟩ := DataW.trod_bool Tryd.underlying4 t1
      simp only [List.cons.injEq, and_true] at e0 e1
      subst e0 e1
      exact ⟨(s.data.toList, b), c0, c1⟩
    obtain ⟨X, hX⟩ : ∃ X : Nat → Want, ∀ i, i < m → W.cell? (a.add (i * 2 + 0)) = some (.string ⟨(X i).1.toArray⟩) ∧ W.cell? (a.add (i * 2 + 1)) = some (.bool (X i).2) := by
      refine ⟨fun i => if h : i < m then Classical.choose (key i h) else ([], false), fun i h => ?_⟩
      simp only [dif_pos h]
      exact Classical.choose_spec (key i h)
    refine ⟨some a, m, (List.range len).map X, by simpa using hcs, fun i u hu => ?_, by simpa using hl, fun e => (by cases e), Or.inr ⟨_, _, rfl, by simp⟩⟩
    obtain ⟨x, h1, h2⟩ := wants2_get hu
    rw [List.getElem?_map] at h1
    have hlt : i / 2 < len := by
      rcases Nat.lt_or_ge (i / 2) len with h | h
      · exact h
      · rw [List.getElem?_eq_none (by simpa using h)] at h1; cases h1
    rw [List.getElem?_range hlt] at h1
    simp only [Option.map_some, Option.some.injEq] at h1
    subst h1
    obtain ⟨b, o, rfl, _⟩ := cell_spot (by simpa using (hX 0 (by omega)).1)
    have hc := hX (i / 2) (by omega)
    rw [add_plain, add_plain] at hc
    refine ⟨b, o, rfl, ?_⟩
    have e4 : i % 2 = 0 ∨ i % 2 = 1 := by omega
    rcases e4 with e | e <;> rw [e] at h2 <;> simp only [wcells, List.getElem?_cons_zero, List.getElem?_cons_succ, Option.some.injEq] at h2 <;> subst h2
    · rw [← hc.1]; congr 2; omega
    · rw [← hc.2]; congr 2; omega
set_option maxRecDepth 100000 in
/-- A list of acts. -/
theorem open_actst {H : Type} {enc : TypeId × Value → H} {W : World} {v : Value} {d : DataW H} {p : List MemPlace} {ts : List TypeId} {ds : List (DataW H)} {b0 : Nat} {j : Nat} (hv : Value.okWide Tryd.prog W .any b0 53 v) (h : DataW.Trod enc Tryd.prog W 0 (fun _ => true) true 53 v d p)
    (hz : (DataW.weightsEach Tryd.prog ts ds).all (· ≤ reachBytes) = true) (ht : ts[j]? = some 53) (hd : ds[j]? = some d) : ActsT W v := by
  obtain ⟨a0, len, cap, rfl⟩ := okWide_slice Tryd.underlying53 hv
  obtain ⟨fuel, hf⟩ := h
  rcases open_slice_fields Tryd.underlying53 Tryd.underlying69 (by kernel_rfl) (by kernel_rfl) hf with ⟨hcs, _⟩ | ⟨a, len1, cap1, m, D, Pl, hcs, _, hl, hm, hmm, hx, hi⟩
  · simp [Value.cells] at hcs
    obtain ⟨rfl, rfl, rfl⟩ := hcs
    exact ⟨none, 0, [], rfl, Nat.le_refl _, by simp, fun i u hi => by simp [tacts] at hi, fun x hx => by cases hx⟩
  · simp [Value.cells] at hcs
    obtain ⟨rfl, rfl, rfl⟩ := hcs
    simp only [if_true] at hmm
    subst hmm
    simp only [Prod.mk.injEq] at hx
    obtain ⟨rfl, rfl⟩ := hx
    have hbnd := sized_slice hz ht hd Tryd.underlying53
    rw [bAct3] at hbnd
    simp only [List.length_map, List.length_range, reachBytes] at hbnd
    have key : ∀ i, i < m → ∃ x : ActT, W.cell? (a.add (i * 3 + 0)) = some (.int .i64 x.kind) ∧ W.cell? (a.add (i * 3 + 1)) = some (.int .i64 x.num) ∧ W.cell? (a.add (i * 3 + 2)) = some (.slice x.A x.ws.length x.c) ∧ OkT W x := fun i him => by
      obtain ⟨ys, n, hDi, _, hyl, hf⟩ := hi i him
      obtain ⟨u0, y0, c0, _, t0⟩ := hf 0 _ rfl
      obtain ⟨u1, y1, c1, _, t1⟩ := hf 1 _ rfl
      obtain ⟨u2, y2, c2, hy2, t2⟩ := hf 2 _ rfl
      obtain ⟨z0, e0, _⟩ := DataW.trod_int Tryd.underlying3 t0
      obtain ⟨z1, e1, _, w1⟩ := DataW.trod_int Tryd.underlying3 t1
      obtain ⟨A, c, ws, rfl, hr, hwc, hn, hsz⟩ := open_wants t2
      simp only [List.cons.injEq, and_true] at e0 e1
      subst e0 e1
      refine ⟨⟨z0, z1, A, c, ws⟩, c0, c1, c2, hr, hwc, ?_, hn⟩
      show ws.length * 24 ≤ _
      rcases hsz with rfl | ⟨l, s, hy, hle⟩
      · simp
      · have hmem : (l.length + s.length) * Tryd.prog.bytesOf 109 ∈ DataW.weights Tryd.prog 53 (.slice ((List.range len).map D) ((List.range (m - len)).map fun j => D (len + j))) := by
          have h1 : (l.length + s.length) * Tryd.prog.bytesOf 109 ∈ (D i).weights Tryd.prog 69 := by
            rw [hDi]
            exact weights_last Tryd.underlying69 rfl Tryd.underlying67 hy2 hy hyl
          exact weights_slice Tryd.underlying53 (slice_mem him) h1
        have hbd := of_decide_eq_true (List.all_eq_true.1 hz _ (DataW.weights_mem_each ht hd _ hmem))
        rw [bWant3] at hbd
        unfold reachBytes at hbd
        omega
    obtain ⟨X, hX⟩ : ∃ X : Nat → ActT, ∀ i, i < m → W.cell? (a.add (i * 3 + 0)) = some (.int .i64 (X i).kind) ∧ W.cell? (a.add (i * 3 + 1)) = some (.int .i64 (X i).num) ∧ W.cell? (a.add (i * 3 + 2)) = some (.slice (X i).A (X i).ws.length (X i).c) ∧ OkT W (X i) := by
      refine ⟨fun i => if h : i < m then Classical.choose (key i h) else ⟨0, 0, none, 0, []⟩, fun i h => ?_⟩
      simp only [dif_pos h]
      exact Classical.choose_spec (key i h)
    refine ⟨some a, m, (List.range len).map X, by simp, by simpa using hl, by simp; omega, fun i u hu => ?_, fun x hx => ?_⟩
    · obtain ⟨x, h1, h2⟩ := tacts_get hu
      rw [List.getElem?_map] at h1
      have hlt : i / 3 < len := by
        rcases Nat.lt_or_ge (i / 3) len with h | h
        · exact h
        · rw [List.getElem?_eq_none (by simpa using h)] at h1; cases h1
      rw [List.getElem?_range hlt] at h1
      simp only [Option.map_some, Option.some.injEq] at h1
      subst h1
      obtain ⟨b, o, rfl, _⟩ := cell_spot (by simpa using (hX 0 (by omega)).1)
      have hc := hX (i / 3) (by omega)
      rw [add_plain, add_plain, add_plain] at hc
      refine ⟨b, o, rfl, ?_⟩
      have e4 : i % 3 = 0 ∨ i % 3 = 1 ∨ i % 3 = 2 := by omega
      rcases e4 with e | e | e <;> rw [e] at h2 <;> simp only [tcells, List.getElem?_cons_zero, List.getElem?_cons_succ, Option.some.injEq] at h2 <;> subst h2
      · rw [← hc.1]; congr 2; omega
      · rw [← hc.2.1]; congr 2; omega
      · rw [← hc.2.2.1]; congr 2; omega
    · obtain ⟨i, hi, rfl⟩ := List.mem_map.1 hx
      exact (hX i (by have := List.mem_range.1 hi; omega)).2.2.2
end Go.Proofs.YtnnadhfpkplncaaDoor
