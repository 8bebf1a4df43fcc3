/- What a list of acts reads as. No condition of its own. (The opener of a slice of structs after the how-to's page on structs.) -/
import Derived.Test.YtnnadhfpkplncaaDoorLkRTake
import Derived.Deep.Slices
import Derived.Deep.Fields
import Derived.ChangeSame
import Derived.SizedLaws
import Derived.Lib.SmallJoins
namespace Go.Proofs.YtnnadhfpkplncaaDoor
open Go.RowKit Go.ChangeShapes Go.WideShapes Go.Deep

abbrev Act4 := Int × Int × List UInt8 × Bool
def acells (x : Act4) : List Value := [.int .i64 x.1, .int .i64 x.2.1, .string ⟨x.2.2.1.toArray⟩, .bool x.2.2.2]
def acts4 (l : List Act4) : List Value := l.flatMap acells
theorem acts4_at {r : List Act4} {i : Nat} {x : Act4} (h : r[i]? = some x) : (acts4 r)[i * 4]? = some (.int .i64 x.1) ∧ (acts4 r)[i * 4 + 1]? = some (.int .i64 x.2.1) ∧ (acts4 r)[i * 4 + 2]? = some (.string ⟨x.2.2.1.toArray⟩) ∧ (acts4 r)[i * 4 + 3]? = some (.bool x.2.2.2) := by
  induction r generalizing i with
  | nil => simp at h
  | cons y r ih =>
    have e : acts4 (y :: r) = .int .i64 y.1 :: .int .i64 y.2.1 :: .string ⟨y.2.2.1.toArray⟩ :: .bool y.2.2.2 :: acts4 r := rfl
    cases i with
    | zero =>
      simp only [List.getElem?_cons_zero, Option.some.injEq] at h
      subst h
      exact ⟨rfl, rfl, rfl, rfl⟩
    | succ i =>
      have := ih (i := i) (by simpa using h)
      rw [e, show (i + 1) * 4 = i * 4 + 1 + 1 + 1 + 1 by omega]
      exact this
theorem acts4_get {l : List Act4} {i : Nat} {u : Value} (h : (acts4 l)[i]? = some u) : ∃ x, l[i / 4]? = some x ∧ (acells x)[i % 4]? = some u := by
  induction l generalizing i with
  | nil => simp [acts4] at h
  | cons y l ih =>
    have e : acts4 (y :: l) = .int .i64 y.1 :: .int .i64 y.2.1 :: .string ⟨y.2.2.1.toArray⟩ :: .bool y.2.2.2 :: acts4 l := rfl
    rw [e] at h
    match i, h with
    | 0, h => exact ⟨y, rfl, h⟩
    | 1, h => exact ⟨y, rfl, h⟩
    | 2, h => exact ⟨y, rfl, h⟩
    | 3, h => exact ⟨y, rfl, h⟩
    | i + 4, h =>
      obtain ⟨x, h1, h2⟩ := ih (i := i) (by simpa using h)
      exact ⟨x, by rw [show (i + 4) / 4 = i / 4 + 1 by omega]; simpa using h1, by rw [show (i + 4) % 4 = i % 4 by omega]; exact h2⟩
theorem act_at {w : World} {A : Option Addr} {r : List Act4} (h : RdA w A (acts4 r)) {i : Nat} {x : Act4} (hx : r[i]? = some x) :
    ∃ b o, A = some ⟨b, o, none⟩ ∧ w.cell? ⟨b, o + i * 4, none⟩ = some (.int .i64 x.1) ∧ w.cell? ⟨b, o + i * 4 + 1, none⟩ = some (.int .i64 x.2.1) ∧ w.cell? ⟨b, o + i * 4 + 2, none⟩ = some (.string ⟨x.2.2.1.toArray⟩) ∧ w.cell? ⟨b, o + i * 4 + 3, none⟩ = some (.bool x.2.2.2) := by
  obtain ⟨h1, h2, h3, h4⟩ := acts4_at hx
  obtain ⟨b, o, e, c1⟩ := h _ _ h1
  obtain ⟨b2, o2, e2, c2⟩ := h _ _ h2
  obtain ⟨b3, o3, e3, c3⟩ := h _ _ h3
  obtain ⟨b4, o4, e4, c4⟩ := h _ _ h4
  rw [e] at e2 e3 e4
  cases e2
  cases e3
  cases e4
  exact ⟨b, o, e, c1, by rw [Nat.add_assoc]; exact c2, by rw [Nat.add_assoc]; exact c3, by rw [Nat.add_assoc]; exact c4⟩
def okA (x : Act4) : Prop := wfI x.2.1 ∧ okS x.2.2.1
def ActsIn (W : World) (v : Value) : Prop := ∃ (A : Option Addr) (c : Nat) (l : List Act4), v = .slice A l.length c ∧ l.length ≤ c ∧ l.length ≤ 140737488355328 ∧ RdA W A (acts4 l) ∧ ∀ x ∈ l, okA x
section
variable {H : Type} {enc : TypeId × Value → H} {P : Program} {w : World} {base : Nat} {spare : Nat → Bool} {held : Bool}
theorem open_slice_fields {t e : TypeId} {fs : Array Field} {fuel : Nat} {cs : List Value} {x : DataW H × List MemPlace} (ht : P.underlying t = some (.slice e)) (he : P.underlying e = some (.struct fs))
    (hone : oneCellFields P fs = true) (hC : P.cellsOf e = fs.size) (h : DataW.trod enc P w base spare held fuel t cs = some x) :
    (cs = [.slice none 0 0] ∧ x = (.nil, [])) ∨
    ∃ (a : Addr) (len cap m : Nat) (D : Nat → DataW H) (Pl : Nat → List MemPlace), cs = [.slice (some a) len cap] ∧ base ≤ a.block ∧ len ≤ cap ∧ cap ≤ maxLen ∧ m = (if spare a.block then cap else len) ∧
      x = (.slice ((List.range len).map D) ((List.range (m - len)).map fun j => D (len + j)), MemPlace.row a (m * fs.size) ++ (List.range m).flatMap Pl) ∧
      ∀ i, i < m → ∃ (ys : List (DataW H × List MemPlace)) (n : Nat), D i = .agg (ys.map (·.1)) ∧ Pl i = ys.flatMap (·.2) ∧ ys.length = fs.size ∧
        ∀ (j : Nat) (f : Field), fs[j]? = some f → ∃ (v : Value) (y : DataW H × List MemPlace), w.cell? (a.add (i * fs.size + j)) = some v ∧ ys[j]? = some y ∧ DataW.trod enc P w base spare held n f.type [v] = some y := by
  rcases open_slice ht h with h0 | ⟨a, len, cap, m, n, D, Pl, hcs, hb, hl, hm, hmm, hx, hi⟩
  · exact .inl h0
  · refine .inr ⟨a, len, cap, m, D, Pl, hcs, hb, hl, hm, hmm, by rw [hC] at hx; exact hx, fun i him => ?_⟩
    obtain ⟨cs', hc, ht'⟩ := hi i him
    rw [hC] at hc
    obtain ⟨ys, n', hn', hy, hlen, hyl, hf⟩ := DataW.trod_struct he ht'
    obtain ⟨_, hcl, hat⟩ := World.cells?_some hc
    simp only [Prod.mk.injEq] at hy
    refine ⟨ys, n', hy.1, hy.2, hyl, fun j f hj => ?_⟩
    obtain ⟨ho, hk⟩ := hone_of hone j f hj
    have hjl : j < fs.size := (Array.getElem?_eq_some_iff.1 hj).1
    have hcell := hat j hjl
    have hv : cs'[j]? = some (cs'[j]'(by omega)) := List.getElem?_eq_getElem (by omega)
    have h1 := hf j f hj
    rw [ho, hk] at h1
    have hone' : (cs'.drop j).take 1 = [cs'[j]'(by omega)] := by
      rw [List.drop_eq_getElem_cons (by omega)]
      rfl
    rw [hone'] at h1
    have hys : ys[j]? = some (ys[j]'(by omega)) := List.getElem?_eq_getElem (by omega)
    refine ⟨_, _, ?_, hys, h1.trans hys⟩
    rw [← Go.Deep.add_add, hcell, hv]
end
theorem cAct : Tryd.prog.cellsOf 24 = 4 := by kernel_rfl
theorem bAct : Tryd.prog.bytesOf 24 = 40 := by kernel_rfl
theorem cell_spot {w : World} {a : Addr} {v : Value} (h : w.cell? (a.add 0) = some v) : ∃ b o, a = ⟨b, o, none⟩ ∧ b < w.heap.size := by
  have e : a.add 0 = a := by simp [Addr.add]
  rw [e] at h
  obtain ⟨b, o, s⟩ := a
  cases s with
  | none => exact ⟨b, o, rfl, cell_lt h⟩
  | some s =>
    simp only [World.cell?] at h
    split at h
    · simp at h
    · cases h
set_option maxRecDepth 100000 in
/-- A list of acts. -/
theorem open_acts {H : Type} {enc : TypeId × Value → H} {W : World} {v : Value} {d : DataW H} {p : List MemPlace} {ts : List TypeId} {ds : List (DataW H)} {b0 : Nat} {j : Nat} (hv : Value.okWide Tryd.prog W .any b0 22 v) (h : DataW.Trod enc Tryd.prog W 0 (fun _ => true) true 22 v d p)
    (hz : (DataW.weightsEach Tryd.prog ts ds).all (· ≤ reachBytes) = true) (ht : ts[j]? = some 22) (hd : ds[j]? = some d) : ActsIn W v := by
  obtain ⟨a0, len, cap, rfl⟩ := okWide_slice Tryd.underlying22 hv
  obtain ⟨fuel, hf⟩ := h
  rcases open_slice_fields Tryd.underlying22 Tryd.underlying24 (by kernel_rfl) (by kernel_rfl) hf with ⟨hcs, _⟩ | ⟨a, len1, cap1, m, D, Pl, hcs, _, hl, hm, hmm, hx, hi⟩
  · simp [Value.cells] at hcs
    obtain ⟨rfl, rfl, rfl⟩ := hcs
    exact ⟨none, 0, [], rfl, Nat.le_refl _, by simp, fun i u hi => by simp [acts4] at hi, fun x hx => by cases hx⟩
  · simp [Value.cells] at hcs
    obtain ⟨rfl, rfl, rfl⟩ := hcs
    simp only [if_true] at hmm
    subst hmm
    simp only [Prod.mk.injEq] at hx
    obtain ⟨rfl, rfl⟩ := hx
    have hbnd := sized_slice hz ht hd Tryd.underlying22
    rw [bAct] at hbnd
    simp only [List.length_map, List.length_range, reachBytes] at hbnd
    have key : ∀ i, i < m → ∃ x : Act4, W.cell? (a.add (i * 4 + 0)) = some (.int .i64 x.1) ∧ W.cell? (a.add (i * 4 + 1)) = some (.int .i64 x.2.1) ∧ W.cell? (a.add (i * 4 + 2)) = some (.string ⟨x.2.2.1.toArray⟩) ∧ W.cell? (a.add (i * 4 + 3)) = some (.bool x.2.2.2) ∧ okA x := fun i him => by
      obtain ⟨ys, n, _, _, hyl, hf⟩ := hi i him
      obtain ⟨u0, y0, c0, _, t0⟩ := hf 0 _ rfl
      obtain ⟨u1, y1, c1, _, t1⟩ := hf 1 _ rfl
      obtain ⟨u2, y2, c2, _, t2⟩ := hf 2 _ rfl
      obtain ⟨u3, y3, c3, _, t3⟩ := hf 3 _ rfl
      obtain ⟨z0, e0, _⟩ := DataW.trod_int Tryd.underlying3 t0
      obtain ⟨z1, e1, _, w1⟩ := DataW.trod_int Tryd.underlying3 t1
      obtain ⟨s, e2, _, w2⟩ := DataW.trod_string Tryd.underlying9 t2
      obtain ⟨b, e3, _⟩ := DataW.trod_bool Tryd.underlying4 t3
      simp only [List.cons.injEq, and_true] at e0 e1 e2 e3
      subst e0 e1 e2 e3
      exact ⟨(z0, z1, s.data.toList, b), c0, c1, c2, c3, w1, w2⟩
    obtain ⟨X, hX⟩ : ∃ X : Nat → Act4, ∀ i, i < m → W.cell? (a.add (i * 4 + 0)) = some (.int .i64 (X i).1) ∧ W.cell? (a.add (i * 4 + 1)) = some (.int .i64 (X i).2.1) ∧ W.cell? (a.add (i * 4 + 2)) = some (.string ⟨(X i).2.2.1.toArray⟩) ∧ W.cell? (a.add (i * 4 + 3)) = some (.bool (X i).2.2.2) ∧ okA (X i) := by
      refine ⟨fun i => if h : i < m then Classical.choose (key i h) else (0, 0, [], false), fun i h => ?_⟩
      simp only [dif_pos h]
      exact Classical.choose_spec (key i h)
    refine ⟨some a, m, (List.range len).map X, by simp, by simpa using hl, by simp; omega, fun i u hu => ?_, fun x hx => ?_⟩
    · obtain ⟨x, h1, h2⟩ := acts4_get hu
      rw [List.getElem?_map] at h1
      have hlt : i / 4 < len := by
        rcases Nat.lt_or_ge (i / 4) len with h | h
        · exact h
        · rw [List.getElem?_eq_none (by simpa using h)] at h1; cases h1
      rw [List.getElem?_range hlt] at h1
      simp only [Option.map_some, Option.some.injEq] at h1
      subst h1
      obtain ⟨b, o, rfl, _⟩ := cell_spot (by simpa using (hX 0 (by omega)).1)
      have hc := hX (i / 4) (by omega)
      rw [add_plain, add_plain, add_plain, add_plain] at hc
      refine ⟨b, o, rfl, ?_⟩
      have e4 : i % 4 = 0 ∨ i % 4 = 1 ∨ i % 4 = 2 ∨ i % 4 = 3 := by omega
      rcases e4 with e | e | e | e <;> rw [e] at h2 <;> simp only [acells, List.getElem?_cons_zero, List.getElem?_cons_succ, Option.some.injEq] at h2 <;> subst h2
      · rw [← hc.1]; congr 2; omega
      · rw [← hc.2.1]; congr 2; omega
      · rw [← hc.2.2.1]; congr 2; omega
      · rw [← hc.2.2.2.1]; congr 2; omega
    · obtain ⟨i, hi, rfl⟩ := List.mem_map.1 hx
      exact (hX i (by have := List.mem_range.1 hi; omega)).2.2.2.2
set_option maxRecDepth 100000 in
/-- One act. -/
theorem open_act {H : Type} {enc : TypeId × Value → H} {W : World} {v : Value} {d : DataW H} {p : List MemPlace} {b0 : Nat} (hv : Value.okWide Tryd.prog W .any b0 24 v) (h : DataW.Trod enc Tryd.prog W 0 (fun _ => true) true 24 v d p) :
    ∃ x : Act4, v = .agg #[.int .i64 x.1, .int .i64 x.2.1, .string ⟨x.2.2.1.toArray⟩, .bool x.2.2.2] ∧ okA x := by
  obtain ⟨v0, v1, v2, v3, y0, y1, y2, y3, n, rfl, _, _, h0, h1, h2, h3⟩ := Joins.open_agg4 Tryd.underlying24 (by kernel_rfl) (by kernel_rfl) hv h
  obtain ⟨z0, e0, _⟩ := DataW.trod_int Tryd.underlying3 h0
  obtain ⟨z1, e1, _, w1⟩ := DataW.trod_int Tryd.underlying3 h1
  obtain ⟨s, e2, _, w2⟩ := DataW.trod_string Tryd.underlying9 h2
  obtain ⟨b, e3, _⟩ := DataW.trod_bool Tryd.underlying4 h3
  simp only [List.cons.injEq, and_true] at e0 e1 e2 e3
  subst e0 e1 e2 e3
  exact ⟨(z0, z1, s.data.toList, b), rfl, w1, w2⟩
end Go.Proofs.YtnnadhfpkplncaaDoor
