/- A list of numbers among a law's arguments. No condition of its own. -/
import Derived.Test.YtdeopklgdemnfaaDoorRsOpen
namespace Go.Proofs.YtdeopklgdemnfaaDoor
open Go.RowKit Gf Rs Go.ChangeShapes Go.WideShapes Go.Deep

theorem cInt : Tryd.prog.cellsOf 3 = 1 := by kernel_rfl
theorem bInt : Tryd.prog.bytesOf 3 = 8 := by kernel_rfl
def NumsIn (W : World) (v : Value) : Prop := ∃ (A : Option Addr) (c : Nat) (zs : List Int), v = .slice A zs.length c ∧ zs.length ≤ 140737488355328 ∧ ∀ i, (hi : i < zs.length) → ∃ b o, A = some ⟨b, o, none⟩ ∧ W.cell? ⟨b, o + i, none⟩ = some (.int .i64 zs[i])
set_option maxRecDepth 100000 in
theorem open_nums {H : Type} {enc : TypeId × Value → H} {W : World} {v : Value} {d : DataW H} {p : List MemPlace} {ts : List TypeId} {ds : List (DataW H)} {b0 : Nat} {j : Nat} (hv : Value.okWide Tryd.prog W .any b0 79 v) (h : DataW.Trod enc Tryd.prog W 0 (fun _ => true) true 79 v d p)
    (hz : (DataW.weightsEach Tryd.prog ts ds).all (· ≤ reachBytes) = true) (ht : ts[j]? = some 79) (hd : ds[j]? = some d) : NumsIn W v := by
  obtain ⟨a0, len, cap, rfl⟩ := okWide_slice Tryd.underlying79 hv
  obtain ⟨fuel, hf⟩ := h
  rcases open_ints Tryd.underlying79 Tryd.underlying3 cInt hf with ⟨hcs, _⟩ | ⟨a, len1, cap1, zs, hcs, _, hl, hm, hzl, hx, hcell, hwz⟩
  · simp [Value.cells] at hcs
    obtain ⟨rfl, rfl, rfl⟩ := hcs
    exact ⟨none, 0, [], rfl, by simp, fun i hi => by simp at hi⟩
  · simp [Value.cells] at hcs
    obtain ⟨rfl, rfl, rfl⟩ := hcs
    simp only [if_true] at hzl
    simp only [Prod.mk.injEq] at hx
    obtain ⟨rfl, rfl⟩ := hx
    have hlen : (zs.take len).length = len := by simp; omega
    have := sized_slice hz ht hd Tryd.underlying79
    rw [bInt] at this
    simp only [lits, List.length_map, List.length_take, List.length_drop, reachBytes] at this
    refine ⟨some a, cap, zs.take len, by rw [hlen], by rw [hlen]; omega, fun i hi => ?_⟩
    rw [hlen] at hi
    have h0 := hcell 0 (by omega)
    obtain ⟨b, o, rfl, hb⟩ := cell_spot h0
    have h1 := hcell i (by omega)
    rw [add_plain] at h1
    refine ⟨b, o, rfl, ?_⟩
    rw [h1, List.getElem_take, List.getD_eq_getElem?_getD, List.getElem?_eq_getElem (by omega)]; rfl
end Go.Proofs.YtdeopklgdemnfaaDoor
