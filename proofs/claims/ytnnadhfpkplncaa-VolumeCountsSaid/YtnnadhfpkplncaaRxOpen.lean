/- What a list of items reads as. No condition of its own. (The opener of a slice of structs after the how-to's page on structs.) -/
import Derived.Test.YtnnadhfpkplncaaRxLaw
import Derived.Deep.Slices
import Derived.Deep.Fields
import Derived.ChangeSame
import Derived.SizedLaws
namespace Go.Proofs.Ytnnadhfpkplncaa
open Go.RowKit Go.ChangeShapes Go.WideShapes Go.Deep

section
variable {H : Type} {enc : TypeId × Value → H} {P : Program} {w : World} {base : Nat} {spare : Nat → Bool} {held : Bool}
theorem open_slice_fields {t e : TypeId} {fs : Array Field} {fuel : Nat} {cs : List Value} {x : DataW H × List MemPlace} (ht : P.underlying t = some (.slice e)) (he : P.underlying e = some (.struct fs))
    (hone : oneCellFields P fs = true) (hC : P.cellsOf e = fs.size) (h : DataW.trod enc P w base spare held fuel t cs = some x) :
    (cs = [.slice none 0 0] ∧ x = (.nil, [])) ∨
    ∃ (a : Addr) (len cap m : Nat) (D : Nat → DataW H) (Pl : Nat → List MemPlace), cs = [.slice (some a) len cap] ∧ base ≤ a.block ∧ len ≤ cap ∧ cap ≤ maxLen ∧ m = (if spare a.block then cap else len) ∧
      x = (.slice ((List.range len).map D) ((List.range (m - len)).map fun j => D (len + j)), MemPlace.row a (m * fs.size) ++ (List.range m).flatMap Pl) ∧
      ∀ i, i < m → ∃ (ys : List (DataW H × List MemPlace)) (n : Nat), D i = .agg (ys.map (·.1)) ∧ Pl i = ys.flatMap (·.2) ∧ ys.length = fs.size ∧
        ∀ (j : Nat) (f : Field), fs[j]? = some f → ∃ (v : Value) (y : DataW H × List MemPlace), w.cell? (a.add (i * fs.size + j)) = some v ∧ ys[j]? = some y ∧ DataW.trod enc P w base spare held n f.type [v] = some y := by
  rcases open_slice ht h with h0 | ⟨a, len, cap, m, n, D, Pl, hcs, hb, hl, hm, hmm, hx, hi⟩
  · exact .inl h0
  · refine .inr ⟨a, len, cap, m, D, Pl, hcs, hb, hl, hm, hmm, by rw [hC] at hx; exact hx, fun i him => ?_⟩
    obtain ⟨cs', hc, ht'⟩ := hi i him
    rw [hC] at hc
    obtain ⟨ys, n', hn', hy, hlen, hyl, hf⟩ := DataW.trod_struct he ht'
    obtain ⟨_, hcl, hat⟩ := World.cells?_some hc
    simp only [Prod.mk.injEq] at hy
    refine ⟨ys, n', hy.1, hy.2, hyl, fun j f hj => ?_⟩
    obtain ⟨ho, hk⟩ := hone_of hone j f hj
    have hjl : j < fs.size := (Array.getElem?_eq_some_iff.1 hj).1
    have hcell := hat j hjl
    have hv : cs'[j]? = some (cs'[j]'(by omega)) := List.getElem?_eq_getElem (by omega)
    have h1 := hf j f hj
    rw [ho, hk] at h1
    have hone' : (cs'.drop j).take 1 = [cs'[j]'(by omega)] := by
      rw [List.drop_eq_getElem_cons (by omega)]
      rfl
    rw [hone'] at h1
    have hys : ys[j]? = some (ys[j]'(by omega)) := List.getElem?_eq_getElem (by omega)
    refine ⟨_, _, ?_, hys, h1.trans hys⟩
    rw [← Go.Deep.add_add, hcell, hv]
end
theorem cItem : Try.prog.cellsOf 28 = 2 := by kernel_rfl
theorem bItem : Try.prog.bytesOf 28 = 16 := by kernel_rfl
theorem cell_spot {w : World} {a : Addr} {v : Value} (h : w.cell? (a.add 0) = some v) : ∃ b o, a = ⟨b, o, none⟩ ∧ b < w.heap.size := by
  have e : a.add 0 = a := by simp [Addr.add]
  rw [e] at h
  obtain ⟨b, o, s⟩ := a
  cases s with
  | none => exact ⟨b, o, rfl, cell_lt h⟩
  | some s =>
    simp only [World.cell?] at h
    split at h
    · simp at h
    · cases h
theorem its_get {l : List (Int × Int)} {i : Nat} {u : Value} (h : (its l)[i]? = some u) : ∃ x, l[i / 2]? = some x ∧ u = if i % 2 = 0 then .int .i64 x.1 else .int .i64 x.2 := by
  induction l generalizing i with
  | nil => simp [its] at h
  | cons y l ih =>
    have e : its (y :: l) = .int .i64 y.1 :: .int .i64 y.2 :: its l := rfl
    rw [e] at h
    match i, h with
    | 0, h => exact ⟨y, rfl, by simpa using h.symm⟩
    | 1, h => exact ⟨y, rfl, by simpa using h.symm⟩
    | i + 2, h =>
      obtain ⟨x, h1, h2⟩ := ih (i := i) (by simpa using h)
      exact ⟨x, by rw [show (i + 2) / 2 = i / 2 + 1 by omega]; simpa using h1, by rw [show (i + 2) % 2 = i % 2 by omega]; exact h2⟩
set_option maxRecDepth 100000 in
/-- A list of items. -/
theorem open_items {H : Type} {enc : TypeId × Value → H} {W : World} {v : Value} {d : DataW H} {p : List MemPlace} {ts : List TypeId} {ds : List (DataW H)} {b0 : Nat} {j : Nat} (hv : Value.okWide Try.prog W .any b0 22 v) (h : DataW.Trod enc Try.prog W 0 (fun _ => true) true 22 v d p)
    (hz : (DataW.weightsEach Try.prog ts ds).all (· ≤ reachBytes) = true) (ht : ts[j]? = some 22) (hd : ds[j]? = some d) : ItemsIn W v := by
  obtain ⟨a0, len, cap, rfl⟩ := okWide_slice Try.underlying22 hv
  obtain ⟨fuel, hf⟩ := h
  rcases open_slice_fields Try.underlying22 Try.underlying28 (by kernel_rfl) (by kernel_rfl) hf with ⟨hcs, _⟩ | ⟨a, len1, cap1, m, D, Pl, hcs, _, hl, hm, hmm, hx, hi⟩
  · simp [Value.cells] at hcs
    obtain ⟨rfl, rfl, rfl⟩ := hcs
    exact ⟨none, 0, [], rfl, Nat.le_refl _, by simp, fun i u hi => by simp [its] at hi⟩
  · simp [Value.cells] at hcs
    obtain ⟨rfl, rfl, rfl⟩ := hcs
    simp only [if_true] at hmm
    subst hmm
    simp only [Prod.mk.injEq] at hx
    obtain ⟨rfl, rfl⟩ := hx
    have hbnd := sized_slice hz ht hd Try.underlying22
    rw [bItem] at hbnd
    simp only [List.length_map, List.length_range, reachBytes] at hbnd
    have key : ∀ i, i < m → ∃ x : Int × Int, W.cell? (a.add (i * 2)) = some (.int .i64 x.1) ∧ W.cell? (a.add (i * 2 + 1)) = some (.int .i64 x.2) := fun i him => by
      obtain ⟨ys, n, _, _, hyl, hf⟩ := hi i him
      obtain ⟨u0, y0, c0, _, t0⟩ := hf 0 _ rfl
      obtain ⟨u1, y1, c1, _, t1⟩ := hf 1 _ rfl
      obtain ⟨z0, e0, _⟩ := DataW.trod_int Try.underlying3 t0
      obtain ⟨z1, e1, _⟩ := DataW.trod_int Try.underlying3 t1
      simp only [List.cons.injEq, and_true] at e0 e1
      subst e0 e1
      exact ⟨(z0, z1), c0, c1⟩
    obtain ⟨X, hX⟩ : ∃ X : Nat → Int × Int, ∀ i, i < m → W.cell? (a.add (i * 2)) = some (.int .i64 (X i).1) ∧ W.cell? (a.add (i * 2 + 1)) = some (.int .i64 (X i).2) := by
      refine ⟨fun i => if h : i < m then Classical.choose (key i h) else (0, 0), fun i h => ?_⟩
      simp only [dif_pos h]
      exact Classical.choose_spec (key i h)
    refine ⟨some a, m, (List.range len).map X, by simp, by simpa using hl, by simp; omega, fun i u hu => ?_⟩
    obtain ⟨x, h1, h2⟩ := its_get hu
    rw [List.getElem?_map] at h1
    have hlt : i / 2 < len := by
      rcases Nat.lt_or_ge (i / 2) len with h | h
      · exact h
      · rw [List.getElem?_eq_none (by simpa using h)] at h1; cases h1
    rw [List.getElem?_range hlt] at h1
    simp only [Option.map_some, Option.some.injEq] at h1
    subst h1
    obtain ⟨b, o, rfl, _⟩ := cell_spot (by simpa using (hX 0 (by omega)).1)
    have hc := hX (i / 2) (by omega)
    rw [add_plain, add_plain] at hc
    refine ⟨b, o, rfl, ?_⟩
    rw [h2]
    by_cases hi2 : i % 2 = 0
    · rw [if_pos hi2, ← hc.1]; congr 2; omega
    · rw [if_neg hi2, ← hc.2]; congr 2; omega
end Go.Proofs.Ytnnadhfpkplncaa
