/- What a law's arguments read as: lists of bytes, of lists of bytes, of flags, of numbers. No condition of its own. -/
import Derived.Test.YtdeopklgdemnfaaRsSpec
import Derived.Deep.Matrix
import Derived.Deep.Grids
import Derived.Lib.SmallJoins
import Derived.SizedLaws
namespace Go.Proofs.Ytdeopklgdemnfaa
open Go.RowKit Gf Rs Go.ChangeShapes Go.WideShapes Go.Deep

def BssIn (W : World) (v : Value) : Prop := ∃ (A : Option Addr) (c : Nat) (ls : List (List F)), v = .slice A ls.length c ∧ ls.length ≤ c ∧ ls.length ≤ 9223372036854775807 ∧ RdM W.heap.size W A ls ∧ ∀ (i : Nat) (l : List F), ls[i]? = some l → l.length ≤ 140737488355328
def BsIn (W : World) (v : Value) : Prop := ∃ (A : Option Addr) (c : Nat) (l : List F), v = .slice A l.length c ∧ l.length ≤ c ∧ l.length ≤ 140737488355328 ∧ RdB W.heap.size W A l
def BoolsIn (W : World) (v : Value) : Prop := ∃ (A : Option Addr) (c : Nat) (ts : List Bool), v = .slice A ts.length c ∧ ts.length ≤ 140737488355328 ∧ RdV W.heap.size W A (ts.map Value.bool)
def IntsIn (W : World) (v : Value) : Prop := ∃ (A : Option Addr) (c : Nat) (zs : List Int), v = .slice A zs.length c ∧ zs.length ≤ 140737488355328 ∧ RdV W.heap.size W A (zs.map (Value.int .i64)) ∧ ∀ z ∈ zs, -9223372036854775808 ≤ z ∧ z ≤ 9223372036854775807
def LawEnd (W : World) (e : Ending) (w' : World) : Prop := e = .returned (.bool true) ∧ Below W.heap.size W w'

theorem cell_spot {w : World} {a : Addr} {v : Value} (h : w.cell? (a.add 0) = some v) : ∃ b o, a = ⟨b, o, none⟩ ∧ b < w.heap.size := by
  have e : a.add 0 = a := by simp [Addr.add]
  rw [e] at h
  obtain ⟨b, o, s⟩ := a
  cases s with
  | none => exact ⟨b, o, rfl, cell_lt h⟩
  | some s =>
    simp only [World.cell?] at h
    split at h
    · simp at h
    · cases h
/-- Numbers that fit a byte, as bytes. -/
def toF (zs : List Int) : List F := zs.map fun z => ofN z.toNat
theorem toF_at {zs : List Int} (h : ∀ z ∈ zs, (Lit.int .u8 z).wf = true) {i : Nat} (hi : i < zs.length) : ((toF zs).map B)[i]? = some (.int .u8 (zs.getD i 0)) := by
  have hz := h _ (List.getElem_mem hi)
  simp [Lit.wf, IntKind.min, IntKind.max, IntKind.signed, IntKind.bits] at hz
  simp only [toF, List.map_map, List.getElem?_map, List.getElem?_eq_getElem hi, Option.map_some, Function.comp, B, ofN, List.getD_eq_getElem?_getD, Option.getD_some]
  congr 2
  omega
theorem rd_bytes {w : World} {A : Option Addr} {zs : List Int} {L : Nat} (hL : L ≤ zs.length) (hw : ∀ z ∈ zs, (Lit.int .u8 z).wf = true) (hn : A = none → zs.length = 0)
    (hc : ∀ a, A = some a → ∀ c, c < zs.length → w.cell? (a.add c) = some (.int .u8 (zs.getD c 0))) : RdB w.heap.size w A (toF (zs.take L)) := by
  intro i v hi
  have hil : i < L := by
    have := (List.getElem?_eq_some_iff.1 hi).1
    simp [toF] at this
    omega
  rw [toF_at (fun z hz => hw z (List.mem_of_mem_take hz)) (by simp; omega)] at hi
  cases A with
  | none => have := hn rfl; omega
  | some a =>
    have h0 := hc a rfl 0 (by omega)
    obtain ⟨b, o, rfl, hb⟩ := cell_spot h0
    have h1 := hc _ rfl i (by omega)
    rw [add_plain] at h1
    refine ⟨b, o, rfl, by omega, ?_⟩
    rw [h1, ← hi, List.getD_eq_getElem?_getD, List.getD_eq_getElem?_getD, List.getElem?_take, if_pos hil]
theorem cB : Try.prog.cellsOf 5 = 1 := by kernel_rfl
theorem cBS : Try.prog.cellsOf 37 = 1 := by kernel_rfl
theorem cBool : Try.prog.cellsOf 4 = 1 := by kernel_rfl
theorem bB : Try.prog.bytesOf 5 = 1 := by kernel_rfl
theorem bBS : Try.prog.bytesOf 37 = 24 := by kernel_rfl
theorem bBool : Try.prog.bytesOf 4 = 1 := by kernel_rfl
theorem inner_mem {H : Type} : ∀ {ds : List (DataW H)} {P : Program} {t : TypeId} {d : DataW H}, d ∈ ds → ∀ n ∈ d.weights P t, n ∈ DataW.weightsAll P t ds
  | d0 :: ds, P, t, d, hd, n, hn => by
    simp only [DataW.weightsAll, List.mem_append]
    rcases List.mem_cons.1 hd with rfl | h
    · exact Or.inl hn
    · exact Or.inr (inner_mem h n hn)
theorem inner_size {H : Type} {P : Program} {ts : List TypeId} {ds : List (DataW H)} (h : (DataW.weightsEach P ts ds).all (· ≤ reachBytes) = true) {j : Nat} {t e q : TypeId} {elems spare e' sp' : List (DataW H)}
    (ht : ts[j]? = some t) (hd : ds[j]? = some (.slice elems spare)) (hu : P.underlying t = some (.slice e)) (hu2 : P.underlying e = some (.slice q)) (hx : DataW.slice e' sp' ∈ elems) : (e'.length + sp'.length) * P.bytesOf q ≤ reachBytes := by
  refine of_decide_eq_true (List.all_eq_true.1 h _ (DataW.weights_mem_each ht hd _ ?_))
  simp only [DataW.weights, hu, List.mem_cons, List.mem_append]
  exact Or.inr (Or.inl (inner_mem hx _ (by simp [DataW.weights, hu2])))
set_option maxRecDepth 100000 in
/-- A list of lists of bytes. -/
theorem open_bss {H : Type} {enc : TypeId × Value → H} {W : World} {v : Value} {d : DataW H} {p : List MemPlace} {ts : List TypeId} {ds : List (DataW H)} {b0 : Nat} {j : Nat} (hv : Value.okWide Try.prog W .any b0 44 v) (h : DataW.Trod enc Try.prog W 0 (fun _ => true) true 44 v d p)
    (hz : (DataW.weightsEach Try.prog ts ds).all (· ≤ reachBytes) = true) (ht : ts[j]? = some 44) (hd : ds[j]? = some d) : BssIn W v := by
  obtain ⟨a0, len, cap, rfl⟩ := okWide_slice Try.underlying44 hv
  obtain ⟨fuel, hf⟩ := h
  rcases open_int_rows Try.underlying44 Try.underlying37 Try.underlying5 cBS cB hf with ⟨hcs, _⟩ | ⟨a, len1, cap1, A, L, C, Z, hcs, _, hlc, hcm, hx, hr⟩
  · simp [Value.cells] at hcs
    obtain ⟨rfl, rfl, rfl⟩ := hcs
    exact ⟨none, 0, [], rfl, Nat.le_refl _, by simp, ⟨[], rfl, fun i v hi => by simp at hi, fun i h l hi => by simp at hi⟩, fun i l hi => by simp at hi⟩
  · simp [Value.cells] at hcs
    obtain ⟨rfl, rfl, rfl⟩ := hcs
    simp only [Prod.mk.injEq] at hx
    obtain ⟨rfl, rfl⟩ := hx
    have hlen : ((List.range len).map fun r => toF ((Z r).take (L r))).length = len := by simp
    have hrow : ∀ r, r < cap → RdB W.heap.size W (A r) (toF ((Z r).take (L r))) := fun r hr' => by
      obtain ⟨h1, h2, h3, h4, h5, h6, h7⟩ := hr r hr'
      refine rd_bytes (by omega) h5 (fun e => by rw [h4, h6 e]) (fun a' e c hc => (h7 a' e).2 c (by omega))
    have hLl : ∀ r, r < cap → (toF ((Z r).take (L r))).length = L r := fun r hr' => by
      obtain ⟨h1, h2, h3, h4, _⟩ := hr r hr'
      simp [toF]; omega
    refine ⟨some a, cap, (List.range len).map fun r => toF ((Z r).take (L r)), by rw [hlen], by rw [hlen]; exact hlc, by rw [hlen]; unfold maxLen at hcm; omega, ⟨(List.range len).map fun r => .slice (A r) (L r) (C r), by simp, fun i u hi => ?_, fun i u l hu hl => ?_⟩, fun i l hl => ?_⟩
    · rw [List.getElem?_map] at hi
      have hil : i < len := by
        rcases Nat.lt_or_ge i len with h | h
        · exact h
        · rw [List.getElem?_eq_none (by simpa using h)] at hi; cases hi
      rw [List.getElem?_range hil] at hi
      cases hi
      have h0 := (hr 0 (by omega)).1
      obtain ⟨b, o, rfl, hb⟩ := cell_spot h0
      have h1 := (hr i (by omega)).1
      rw [add_plain] at h1
      exact ⟨b, o, rfl, by omega, h1⟩
    · have hil : i < len := by
        have := (List.getElem?_eq_some_iff.1 hu).1
        simpa using this
      rw [List.getElem?_map, List.getElem?_range hil] at hu hl
      cases hu
      cases hl
      exact ⟨A i, C i, by rw [hLl i (by omega)], by rw [hLl i (by omega)]; exact (hr i (by omega)).2.1, hrow i (by omega)⟩
    · have hil : i < len := by
        have := (List.getElem?_eq_some_iff.1 hl).1
        simpa using this
      rw [List.getElem?_map, List.getElem?_range hil] at hl
      cases hl
      rw [hLl i (by omega)]
      obtain ⟨_, h2, _, h4, _, h6, _⟩ := hr i (by omega)
      cases hA : A i with
      | none => have := h6 hA; omega
      | some ai =>
        have := inner_size hz ht hd Try.underlying44 Try.underlying37 (e' := lits .u8 ((Z i).take (L i))) (sp' := lits .u8 ((Z i).drop (L i))) (List.mem_map.2 ⟨i, List.mem_range.2 hil, by unfold intRow; rw [hA]⟩)
        rw [bB] at this
        simp only [lits, List.length_map, List.length_take, List.length_drop, reachBytes] at this
        omega
set_option maxRecDepth 100000 in
/-- A list of bytes. -/
theorem open_bs {H : Type} {enc : TypeId × Value → H} {W : World} {v : Value} {d : DataW H} {p : List MemPlace} {ts : List TypeId} {ds : List (DataW H)} {b0 : Nat} {j : Nat} (hv : Value.okWide Try.prog W .any b0 37 v) (h : DataW.Trod enc Try.prog W 0 (fun _ => true) true 37 v d p)
    (hz : (DataW.weightsEach Try.prog ts ds).all (· ≤ reachBytes) = true) (ht : ts[j]? = some 37) (hd : ds[j]? = some d) : BsIn W v := by
  obtain ⟨a0, len, cap, rfl⟩ := okWide_slice Try.underlying37 hv
  obtain ⟨fuel, hf⟩ := h
  rcases open_ints Try.underlying37 Try.underlying5 cB hf with ⟨hcs, _⟩ | ⟨a, len1, cap1, zs, hcs, _, hl, hm, hzl, hx, hcell, hwz⟩
  · simp [Value.cells] at hcs
    obtain ⟨rfl, rfl, rfl⟩ := hcs
    exact ⟨none, 0, [], rfl, Nat.le_refl _, by simp, fun i v hi => by simp at hi⟩
  · simp [Value.cells] at hcs
    obtain ⟨rfl, rfl, rfl⟩ := hcs
    simp only [if_true] at hzl
    simp only [Prod.mk.injEq] at hx
    obtain ⟨rfl, rfl⟩ := hx
    have hlen : (toF (zs.take len)).length = len := by simp [toF]; omega
    have := sized_slice hz ht hd Try.underlying37
    rw [bB] at this
    simp only [lits, List.length_map, List.length_take, List.length_drop, reachBytes] at this
    refine ⟨some a, cap, toF (zs.take len), by rw [hlen], by rw [hlen]; exact hl, by rw [hlen]; omega, ?_⟩
    exact rd_bytes (by omega) hwz (fun e => by cases e) (fun a' e c hc => by cases e; exact hcell c hc)
set_option maxRecDepth 100000 in
/-- How many parts. -/
theorem open_size {H : Type} {enc : TypeId × Value → H} {W : World} {v : Value} {d : DataW H} {p : List MemPlace} {b0 : Nat} (hv : Value.okWide Try.prog W .any b0 36 v) (h : DataW.Trod enc Try.prog W 0 (fun _ => true) true 36 v d p) :
    ∃ k m : Int, v = .agg #[.int .i64 k, .int .i64 m] := by
  obtain ⟨v0, v1, y0, y1, n, rfl, _, _, h0, h1⟩ := Joins.open_agg2 Try.underlying36 (by kernel_rfl) (by kernel_rfl) hv h
  obtain ⟨a, e0, _⟩ := DataW.trod_int Try.underlying3 h0
  obtain ⟨b, e1, _⟩ := DataW.trod_int Try.underlying3 h1
  simp only [List.cons.injEq, and_true] at e0 e1
  exact ⟨a, b, by rw [e0, e1]⟩
set_option maxRecDepth 100000 in
/-- A list of flags. -/
theorem open_flags {H : Type} {enc : TypeId × Value → H} {W : World} {v : Value} {d : DataW H} {p : List MemPlace} {ts : List TypeId} {ds : List (DataW H)} {b0 : Nat} {j : Nat} (hv : Value.okWide Try.prog W .any b0 38 v) (h : DataW.Trod enc Try.prog W 0 (fun _ => true) true 38 v d p)
    (hz : (DataW.weightsEach Try.prog ts ds).all (· ≤ reachBytes) = true) (ht : ts[j]? = some 38) (hd : ds[j]? = some d) : BoolsIn W v := by
  obtain ⟨a0, len, cap, rfl⟩ := okWide_slice Try.underlying38 hv
  obtain ⟨fuel, hf⟩ := h
  rcases open_bools Try.underlying38 Try.underlying4 cBool hf with ⟨hcs, _⟩ | ⟨a, len1, cap1, Bf, hcs, _, hl, hm, hx, hcell⟩
  · simp [Value.cells] at hcs
    obtain ⟨rfl, rfl, rfl⟩ := hcs
    exact ⟨none, 0, [], rfl, by simp, fun i v hi => by simp at hi⟩
  · simp [Value.cells] at hcs
    obtain ⟨rfl, rfl, rfl⟩ := hcs
    simp only [Prod.mk.injEq] at hx
    obtain ⟨rfl, rfl⟩ := hx
    have := sized_slice hz ht hd Try.underlying38
    rw [bBool] at this
    simp only [List.length_map, List.length_range, reachBytes] at this
    refine ⟨some a, cap, (List.range len).map Bf, by simp, by simp; omega, fun i u hi => ?_⟩
    have hil : i < len := by
      have := (List.getElem?_eq_some_iff.1 hi).1
      simpa using this
    rw [List.map_map, List.getElem?_map, List.getElem?_range hil] at hi
    cases hi
    obtain ⟨b, o, rfl, hb⟩ := cell_spot (hcell 0 (by omega))
    have h1 := hcell i (by omega)
    rw [add_plain] at h1
    exact ⟨b, o, rfl, by omega, h1⟩
end Go.Proofs.Ytdeopklgdemnfaa
