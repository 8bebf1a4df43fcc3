/- What an array of two lists of flags reads as. No condition of its own. -/
import Derived.Test.YtdeopklgdemnfaaRsOpen
namespace Go.Proofs.Ytdeopklgdemnfaa
open Go.RowKit Gf Rs Go.ChangeShapes Go.WideShapes Go.Deep

set_option maxRecDepth 100000 in
theorem open_flagc {H : Type} {enc : TypeId × Value → H} {W : World} {v : Value} {fuel : Nat} {y : DataW H × List MemPlace} (hf : DataW.trod enc Try.prog W 0 (fun _ => true) true fuel 38 [v] = some y) :
    ∃ (A : Option Addr) (c : Nat) (t : List Bool), v = .slice A t.length c ∧ t.length ≤ 9223372036854775807 ∧ RdV W.heap.size W A (t.map Value.bool) := by
  rcases open_bools Try.underlying38 Try.underlying4 cBool hf with ⟨hcs, _⟩ | ⟨a, len, cap, Bf, hcs, _, hl, hm, hx, hcell⟩
  · simp only [List.cons.injEq, and_true] at hcs
    subst hcs
    exact ⟨none, 0, [], rfl, by simp, fun i v hi => by simp at hi⟩
  · simp only [List.cons.injEq, and_true] at hcs
    subst hcs
    refine ⟨some a, cap, (List.range len).map Bf, by simp, by simp; unfold maxLen at hm; omega, fun i u hi => ?_⟩
    have hil : i < len := by
      have := (List.getElem?_eq_some_iff.1 hi).1
      simpa using this
    rw [List.map_map, List.getElem?_map, List.getElem?_range hil] at hi
    cases hi
    obtain ⟨b, o, rfl, hb⟩ := cell_spot (hcell 0 (by omega))
    have h1 := hcell i (by omega)
    rw [add_plain] at h1
    exact ⟨b, o, rfl, by omega, h1⟩
def PicksIn (W : World) (v : Value) : Prop := ∃ (A0 A1 : Option Addr) (c0 c1 : Nat) (t0 t1 : List Bool), v = .agg #[.slice A0 t0.length c0, .slice A1 t1.length c1] ∧ t0.length ≤ 9223372036854775807 ∧ t1.length ≤ 9223372036854775807 ∧ RdV W.heap.size W A0 (t0.map Value.bool) ∧ RdV W.heap.size W A1 (t1.map Value.bool)
theorem cBools : Try.prog.cellsOf 38 = 1 := by kernel_rfl
theorem cPicks : Try.prog.cellsOf 39 = 2 := by kernel_rfl
set_option maxRecDepth 100000 in
/-- An array of two lists of flags. -/
theorem open_picks {H : Type} {enc : TypeId × Value → H} {W : World} {v : Value} {d : DataW H} {p : List MemPlace} {b0 : Nat} (hv : Value.okWide Try.prog W .any b0 39 v) (h : DataW.Trod enc Try.prog W 0 (fun _ => true) true 39 v d p) : PicksIn W v := by
  simp only [Value.okWide, Try.underlying39] at hv
  obtain ⟨cs, rfl, hsz, _⟩ := hv
  rw [cPicks] at hsz
  obtain ⟨l⟩ := cs
  match l, hsz with
  | [c0, c1], _ =>
    obtain ⟨fuel, hf⟩ := h
    obtain ⟨xs, m, _, _, _, hl, hx⟩ := DataW.trod_array Try.underlying39 hf
    match xs, hl with
    | [y0, y1], _ =>
      have e0 := hx 0 (by omega)
      have e1 := hx 1 (by omega)
      rw [cBools] at e0 e1
      obtain ⟨A0, k0, t0, rfl, n0, r0⟩ := open_flagc (v := c0) (y := y0) (by simpa [Value.cells] using e0)
      obtain ⟨A1, k1, t1, rfl, n1, r1⟩ := open_flagc (v := c1) (y := y1) (by simpa [Value.cells] using e1)
      exact ⟨A0, A1, k0, k1, t0, t1, rfl, n0, n1, r0, r1⟩
end Go.Proofs.Ytdeopklgdemnfaa
