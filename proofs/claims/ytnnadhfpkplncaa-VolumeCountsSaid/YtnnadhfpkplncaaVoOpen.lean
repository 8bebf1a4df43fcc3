/- A list of acts of law 20 out of what the parameter reads as. No condition of its own. -/
import Derived.Test.YtnnadhfpkplncaaVoSure
import Derived.Test.YtnnadhfpkplncaaRxOpen
import Derived.ChangeSlices
namespace Go.Proofs.Ytnnadhfpkplncaa
open Go.RowKit Go.ChangeShapes Go.WideShapes Go.Deep

theorem weights_all {H : Type} {P : Program} {e : TypeId} {d : DataW H} {y : Nat} : ∀ {l : List (DataW H)}, d ∈ l → y ∈ d.weights P e → y ∈ DataW.weightsAll P e l
  | a :: l, h, hy => by
    rw [DataW.weightsAll, List.mem_append]
    rcases List.mem_cons.1 h with rfl | h
    · exact Or.inl hy
    · exact Or.inr (weights_all h hy)
theorem weights_slice {H : Type} {P : Program} {t e : TypeId} {d : DataW H} {y : Nat} {l s : List (DataW H)} (ht : P.underlying t = some (.slice e)) (h : d ∈ l ∨ d ∈ s) (hy : y ∈ d.weights P e) : y ∈ DataW.weights P t (.slice l s) := by
  rw [DataW.weights, ht]
  refine List.mem_cons_of_mem _ (List.mem_append.2 ?_)
  exact h.imp (fun h => weights_all h hy) (fun h => weights_all h hy)
theorem slice_mem {H : Type} {D : Nat → DataW H} {len m i : Nat} (hi : i < m) : D i ∈ (List.range len).map D ∨ D i ∈ (List.range (m - len)).map fun j => D (len + j) := by
  rcases Nat.lt_or_ge i len with h | h
  · exact Or.inl (List.mem_map.2 ⟨i, List.mem_range.2 h, rfl⟩)
  · exact Or.inr (List.mem_map.2 ⟨i - len, List.mem_range.2 (by omega), by congr 1; omega⟩)
theorem cInt20 : Try.prog.cellsOf 3 = 1 := by kernel_rfl
theorem bInt20 : Try.prog.bytesOf 3 = 8 := by kernel_rfl
theorem bAct20 : Try.prog.bytesOf 51 = 80 := by kernel_rfl
theorem weights_sixth {H : Type} {P : Program} {t q e : TypeId} {f0 f1 f2 f3 f4 f5 : Field} {ys : List (DataW H × List MemPlace)} {y5 : DataW H × List MemPlace} {l s : List (DataW H)} (ht : P.underlying t = some (.struct #[f0, f1, f2, f3, f4, f5])) (hq : f5.type = q) (hs : P.underlying q = some (.slice e)) (h5 : ys[5]? = some y5) (he : y5.1 = .slice l s)
    (hl : ys.length = 6) : (l.length + s.length) * P.bytesOf e ∈ DataW.weights P t (.agg (ys.map (·.1))) := by
  subst hq
  match ys, hl with
  | [a, b, c, d, e', f], _ =>
    simp only [List.getElem?_cons_succ, List.getElem?_cons_zero, Option.some.injEq] at h5
    subst h5
    simp [DataW.weights, ht, DataW.weightsEach, he, hs]
theorem lits_len {H : Type} {k : IntKind} {zs : List Int} : (lits (H := H) k zs).length = zs.length := by simp [lits]
set_option maxRecDepth 100000 in
theorem open_nums20 {H : Type} {enc : TypeId × Value → H} {W : World} {u : Value} {n : Nat} {y : DataW H × List MemPlace} (h : DataW.trod enc Try.prog W 0 (fun _ => true) true n 32 [u] = some y) :
    ∃ (A : Option Addr) (c : Nat) (ys : List Int), u = .slice A ys.length c ∧ RdA W A (zs ys) ∧ (ys = [] ∨ ∃ l s, y.1 = .slice l s ∧ ys.length ≤ l.length + s.length) := by
  rcases open_ints Try.underlying32 Try.underlying3 cInt20 h with ⟨hcs, _⟩ | ⟨a, len, cap, z0, hcs, _, hl, hm, hzl, hx, hcell, hwz⟩
  · simp only [List.cons.injEq, and_true] at hcs
    exact ⟨none, 0, [], hcs, fun i u hi => by simp [zs] at hi, Or.inl rfl⟩
  · simp only [List.cons.injEq, and_true] at hcs
    simp only [if_true] at hzl
    have hlen : (z0.take len).length = len := by rw [List.length_take]; omega
    refine ⟨some a, cap, z0.take len, by rw [hlen]; exact hcs, fun i u hu => ?_, Or.inr ⟨_, _, by rw [hx], by rw [lits_len, lits_len, hlen, List.length_drop]; omega⟩⟩
    unfold zs at hu
    rw [List.getElem?_map] at hu
    have hil : i < len := by
      rcases Nat.lt_or_ge i len with h | h
      · exact h
      · rw [List.getElem?_eq_none (by rw [hlen]; exact h)] at hu; cases hu
    obtain ⟨b, o, rfl, _⟩ := cell_spot (by simpa using hcell 0 (by omega))
    have h1 := hcell i (by omega)
    rw [add_plain] at h1
    refine ⟨b, o, rfl, ?_⟩
    rw [h1, ← hu, List.getElem?_take, if_pos hil, List.getD_eq_getElem?_getD, List.getElem?_eq_getElem (by omega)]
    rfl
set_option maxRecDepth 100000 in
/-- A list of acts. -/
theorem open_actsv {H : Type} {enc : TypeId × Value → H} {W : World} {v : Value} {d : DataW H} {p : List MemPlace} {ts : List TypeId} {ds : List (DataW H)} {b0 : Nat} {j : Nat} (hv : Value.okWide Try.prog W .any b0 48 v) (h : DataW.Trod enc Try.prog W 0 (fun _ => true) true 48 v d p)
    (hz : (DataW.weightsEach Try.prog ts ds).all (· ≤ reachBytes) = true) (ht : ts[j]? = some 48) (hd : ds[j]? = some d) : ActsV W v := by
  obtain ⟨a0, len, cap, rfl⟩ := okWide_slice Try.underlying48 hv
  obtain ⟨fuel, hf⟩ := h
  rcases open_slice_fields Try.underlying48 Try.underlying51 (by kernel_rfl) (by kernel_rfl) hf with ⟨hcs, _⟩ | ⟨a, len1, cap1, m, D, Pl, hcs, _, hl, hm, hmm, hx, hi⟩
  · simp [Value.cells] at hcs
    obtain ⟨rfl, rfl, rfl⟩ := hcs
    exact ⟨none, 0, [], rfl, Nat.le_refl _, by simp, fun i u hi => by simp [avs] at hi, fun x hx => by cases hx⟩
  · simp [Value.cells] at hcs
    obtain ⟨rfl, rfl, rfl⟩ := hcs
    simp only [if_true] at hmm
    subst hmm
    simp only [Prod.mk.injEq] at hx
    obtain ⟨rfl, rfl⟩ := hx
    have hbnd := sized_slice hz ht hd Try.underlying48
    rw [bAct20] at hbnd
    simp only [List.length_map, List.length_range, reachBytes] at hbnd
    have key : ∀ i, i < m → ∃ x : ActV, W.cell? (a.add (i * 6 + 0)) = some (.int .i64 x.kind) ∧ W.cell? (a.add (i * 6 + 1)) = some (.int .i64 x.a) ∧ W.cell? (a.add (i * 6 + 2)) = some (.int .i64 x.b) ∧ W.cell? (a.add (i * 6 + 3)) = some (.string ⟨x.name.toArray⟩) ∧ W.cell? (a.add (i * 6 + 4)) = some (.string ⟨x.from_.toArray⟩) ∧ W.cell? (a.add (i * 6 + 5)) = some (.slice x.A x.ys.length x.c) ∧ OkActV W x := fun i him => by
      obtain ⟨ys, n, hDi, _, hyl, hf⟩ := hi i him
      obtain ⟨u0, y0, c0, _, t0⟩ := hf 0 _ rfl
      obtain ⟨u1, y1, c1, _, t1⟩ := hf 1 _ rfl
      obtain ⟨u2, y2, c2, _, t2⟩ := hf 2 _ rfl
      obtain ⟨u3, y3, c3, _, t3⟩ := hf 3 _ rfl
      obtain ⟨u4, y4, c4, _, t4⟩ := hf 4 _ rfl
      obtain ⟨u5, y5, c5, hy5, t5⟩ := hf 5 _ rfl
      obtain ⟨z0, e0, _⟩ := DataW.trod_int Try.underlying3 t0
      obtain ⟨z1, e1, _⟩ := DataW.trod_int Try.underlying3 t1
      obtain ⟨z2, e2, _⟩ := DataW.trod_int Try.underlying3 t2
      obtain ⟨s3, e3, _, _⟩ := DataW.trod_string Try.underlying9 t3
      obtain ⟨s4, e4, _, _⟩ := DataW.trod_string Try.underlying9 t4
      obtain ⟨A, c, ns, rfl, hr, hsz⟩ := open_nums20 t5
      simp only [List.cons.injEq, and_true] at e0 e1 e2 e3 e4
      subst e0 e1 e2 e3 e4
      refine ⟨⟨z0, z1, z2, s3.data.toList, s4.data.toList, A, c, ns⟩, c0, c1, c2, c3, c4, c5, hr, ?_⟩
      show ns.length ≤ _
      rcases hsz with rfl | ⟨l, s, hy, hle⟩
      · simp
      · have hmem : (l.length + s.length) * Try.prog.bytesOf 3 ∈ DataW.weights Try.prog 48 (.slice ((List.range len).map D) ((List.range (m - len)).map fun j => D (len + j))) := by
          have h1 : (l.length + s.length) * Try.prog.bytesOf 3 ∈ (D i).weights Try.prog 51 := by
            rw [hDi]
            exact weights_sixth Try.underlying51 rfl Try.underlying32 hy5 hy hyl
          exact weights_slice Try.underlying48 (slice_mem him) h1
        have hbd := of_decide_eq_true (List.all_eq_true.1 hz _ (DataW.weights_mem_each ht hd _ hmem))
        rw [bInt20] at hbd
        unfold reachBytes at hbd
        omega
    obtain ⟨X, hX⟩ : ∃ X : Nat → ActV, ∀ i, i < m → W.cell? (a.add (i * 6 + 0)) = some (.int .i64 (X i).kind) ∧ W.cell? (a.add (i * 6 + 1)) = some (.int .i64 (X i).a) ∧ W.cell? (a.add (i * 6 + 2)) = some (.int .i64 (X i).b) ∧ W.cell? (a.add (i * 6 + 3)) = some (.string ⟨(X i).name.toArray⟩) ∧ W.cell? (a.add (i * 6 + 4)) = some (.string ⟨(X i).from_.toArray⟩) ∧ W.cell? (a.add (i * 6 + 5)) = some (.slice (X i).A (X i).ys.length (X i).c) ∧ OkActV W (X i) := by
      refine ⟨fun i => if h : i < m then Classical.choose (key i h) else ⟨0, 0, 0, [], [], none, 0, []⟩, fun i h => ?_⟩
      simp only [dif_pos h]
      exact Classical.choose_spec (key i h)
    refine ⟨some a, m, (List.range len).map X, by simp, by simpa using hl, by simp; omega, fun i u hu => ?_, fun x hx => ?_⟩
    · obtain ⟨x, h1, h2⟩ := avs_get hu
      rw [List.getElem?_map] at h1
      have hlt : i / 6 < len := by
        rcases Nat.lt_or_ge (i / 6) len with h | h
        · exact h
        · rw [List.getElem?_eq_none (by simpa using h)] at h1; cases h1
      rw [List.getElem?_range hlt] at h1
      simp only [Option.map_some, Option.some.injEq] at h1
      subst h1
      obtain ⟨b, o, rfl, _⟩ := cell_spot (by simpa using (hX 0 (by omega)).1)
      have hc := hX (i / 6) (by omega)
      rw [add_plain, add_plain, add_plain, add_plain, add_plain, add_plain] at hc
      refine ⟨b, o, rfl, ?_⟩
      have e4 : i % 6 = 0 ∨ i % 6 = 1 ∨ i % 6 = 2 ∨ i % 6 = 3 ∨ i % 6 = 4 ∨ i % 6 = 5 := by omega
      rcases e4 with e | e | e | e | e | e <;> rw [e] at h2 <;> simp only [avcells, List.getElem?_cons_zero, List.getElem?_cons_succ, Option.some.injEq] at h2 <;> subst h2
      · rw [← hc.1]; congr 2; omega
      · rw [← hc.2.1]; congr 2; omega
      · rw [← hc.2.2.1]; congr 2; omega
      · rw [← hc.2.2.2.1]; congr 2; omega
      · rw [← hc.2.2.2.2.1]; congr 2; omega
      · rw [← hc.2.2.2.2.2.1]; congr 2; omega
    · obtain ⟨i, hi, rfl⟩ := List.mem_map.1 hx
      exact (hX i (by have := List.mem_range.1 hi; omega)).2.2.2.2.2.2
end Go.Proofs.Ytnnadhfpkplncaa
