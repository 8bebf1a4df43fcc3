/- find, drop, may. Condition: the machine reads. -/
import Derived.Test.YtnnadhfpkplncaaDoorTkTasks
import Derived.Great.Walk
namespace Go.Proofs.YtnnadhfpkplncaaDoor
open Go.RowKit Go.Maps

/-- All blocks of cells lie on. -/
def CellsOn (w w' : World) : Prop := ∀ (g : Nat) (cs : Array Value) (Tp : TypeId), w.heap[g]? = some (.cells cs Tp (0, 0)) → w'.heap[g]? = some (.cells cs Tp (0, 0))
theorem zeroP (w : World) : (zeroValue 105).run Tryd.prog w = .ok (.pointer none) w := by kernel_rfl
theorem spotP_inv {v : Value} {y : DataW Unit × List MemPlace} {c : Option Nat} (h : elemP v = some y) (e : y.1 = spotD c) : v = .pointer (c.map fun b => ⟨b, 0, none⟩) := by
  rcases elemP_inv h with ⟨b, rfl, rfl⟩ | ⟨rfl, rfl⟩
  · cases c with
    | none => simp [spotD] at e
    | some b' =>
      simp [spotD] at e
      have : b = b' := by omega
      subst this; rfl
  · cases c with
    | none => rfl
    | some b' => simp [spotD] at e
theorem look_task {L : Nat} {w : World} {M m t : Nat} {lim last : Int} {hist : Value} {n : Nat} {T : Int → Option Nat} (h : Mach L w M m t lim last hist n T) {i : Int} (hi : wfI i) :
    (Instr.lookup 89 (.map (some m)) (.int .i64 i) true).run Tryd.prog w = .ok (.tuple #[.pointer ((T i).map fun b => ⟨b, 0, none⟩), .bool (T i).isSome]) w ∧
    (Instr.lookup 89 (.map (some m)) (.int .i64 i) false).run Tryd.prog w = .ok (.pointer ((T i).map fun b => ⟨b, 0, none⟩)) w := by
  obtain ⟨D, h1, _, h3⟩ := h.map
  obtain ⟨a1, a2⟩ := h3 i hi
  constructor
  · obtain ⟨v, ps, hrun, hv⟩ := h1.look_ok keyI Tryd.underlying89 (zeroP w) (zd := .nil) (zp := []) rfl (kI hi)
    rw [hrun, a2, spotP_inv hv a1]
  · obtain ⟨v, ps, hrun, hv⟩ := h1.lookup keyI Tryd.underlying89 (zeroP w) (zd := .nil) (zp := []) rfl (kI hi)
    rw [hrun, spotP_inv hv a1]
set_option maxRecDepth 100000 in
theorem find_any {L : Nat} {w : World} {M m t : Nat} {lim last : Int} {hist : Value} {n : Nat} {T : Int → Option Nat} (h : Mach L w M m t lim last hist n T) {i : Int} {b : Nat} (hi : wfI i) (hb : T i = some b) :
    Calls Tryd.prog 52 #[.pointer (some ⟨M, 0, none⟩), .int .i64 i] w fun e w' => e = .returned (.tuple #[.pointer (some ⟨b, 0, none⟩), .nilIface]) ∧ w' = w := by
  have d2 : w.cell? ⟨M, 2, none⟩ = some (.map (some m)) := block_cell h.cell
  have hl := (look_task h hi).1
  rw [hb] at hl
  have hl2 : (Instr.lookup 89 (.map (some m)) (.int .i64 i) true).run Tryd.prog w = .ok (.tuple #[.pointer (some ⟨b, 0, none⟩), .bool true]) w := hl
  clear h hl hb
  go_enter Tryd.func52, Tryd.ntmps52
  go_wp2
  go_ret2
  exact ⟨rfl, rfl⟩
set_option maxRecDepth 100000 in
set_option maxHeartbeats 1600000 in
/-- drop. -/
theorem drop_any {L N : Nat} {w : World} {M m t : Nat} {lim last : Int} {hist : Value} {n : Nat} {T : Int → Option Nat} {F : Int → List UInt8 → Int} (h : Mach L w M m t lim last hist (n + 1) T) {i : Int} {b : Nat} (hi : wfI i) (hb : T i = some b) (ht : Tab (m + 1) N w t F) :
    Calls Tryd.prog 53 #[.pointer (some ⟨M, 0, none⟩), .int .i64 i] w fun e w' => e = .returned (.tuple #[]) ∧ Mach L w' M m t lim last hist n (fun j => if j = i then none else T j) ∧ Tab (m + 1) N w' t (fun j l => if j = i then 0 else F j l) ∧
      CellsOn w w' ∧ Below L w w' := by
  have d2 : w.cell? ⟨M, 2, none⟩ = some (.map (some m)) := block_cell h.cell
  have HM := Lib.hid h
  have HT := Lib.hid ht
  have HTB := Lib.hid hb
  obtain ⟨D, hown, hsz, hat⟩ := h.map
  have HAT := Lib.hid hat
  have HSZ := Lib.hid hsz
  have HO := Lib.hid hown
  clear ht hb hat hsz
  have hMm : m ≠ M := fun e => by
    obtain ⟨es, clock, hes, _⟩ := hown
    rw [e, h.cell] at hes
    cases hes
  clear h
  go_enter Tryd.func53, Tryd.ntmps53
  go_wp2_with (at_delete; refine wpList_delete_own _ rfl _ _ 89 3 rfl 105 keyI Tryd.underlying89 elemP m _ D rfl hown _ _ rfl (kI hi) ?_; intro w1 hown1 hturn; have d3 : w1.cell? ⟨M, 3, none⟩ = some (.pointer (some ⟨t, 0, none⟩)) := block_cell ((hturn.grown.block M (block_lt HM.out.cell) (fun e => hMm (by injection e with e; exact e.symm))).trans HM.out.cell))
  have hg := hturn.grown
  have hcell : CellsOn w w1 := fun g cs Tp e => by
    refine (hg.block g (block_lt e) fun e2 => ?_).trans e
    injection e2 with e2
    obtain ⟨es, clock, hes, _⟩ := HO.out
    rw [e2, hes] at e
    cases e
  have HC := Lib.hid hcell
  have HM1 := Lib.hid (show Mach L w1 M m t lim last hist n (fun j => if j = i then none else T j) from by
    have hhas : Maps.has D (.int .i64 i) = true := by rw [(HAT.out i hi).2, HTB.out]; rfl
    have hs := Maps.size_del (HO.out.tidy keyI) (k := .int .i64 i)
    rw [hhas, HSZ.out] at hs
    refine ⟨hcell _ _ _ HM.out.cell, ⟨_, ?_, (by simp at hs; exact hs), fun j hj => ?_⟩, HM.out.lo⟩
    · have := own_tight hown1
      have e : Maps.size (D.del (.int .i64 i)) = n := by simp at hs; exact hs
      rwa [e] at this
    · by_cases e : j = i
      · subst e
        rw [atKey_del_same, has_del_same, if_pos rfl]
        exact ⟨rfl, rfl⟩
      · have hne : Lit.int .i64 j ≠ Lit.int .i64 i := fun c => by injection c with _ c; exact e c
        rw [atKey_del_other hne, has_del_other hne, if_neg e]
        exact HAT.out j hj)
  have HK1 := Lib.hid (show KeepM M m w w1 from ⟨hg.os, hg.tape, hg.output, hg.size, fun j hj _ hm => hg.block j hj (fun e => hm (by injection e))⟩)
  have HT1 := Lib.hid (HT.out.keepM HM.out HK1.out)
  have HB1 := Lib.hid (show Below L w w1 from ⟨hg.os, hg.tape, hg.output, hg.size, fun j hj => hg.block j (Nat.lt_of_lt_of_le hj (Nat.le_trans HM.out.lo.2 (Nat.le_of_lt HM.out.mlt))) (fun e => by injection e with e; have := HM.out.lo.2; omega)⟩)
  clear hg hturn hown1 hown hcell
  refine (free_any i w1 HT1.out hi).mono ?_
  rintro e w2 ⟨rfl, ht2, hk2⟩
  have HFIN := Lib.hid (show Mach L w2 M m t lim last hist n (fun j => if j = i then none else T j) ∧ Tab (m + 1) N w2 t (fun j l => if j = i then 0 else F j l) ∧
      CellsOn w w2 ∧ Below L w w2 from
    ⟨HM1.out.same ((hk2.cells _ _ _ _ HM1.out.cell).trans HM1.out.cell.symm) (hk2.bl.block m (Nat.lt_succ_self _)), ht2, fun g cs Tp e => hk2.cells _ _ _ _ (HC.out g cs Tp e), HB1.out.trans (hk2.bl.mono (by have := HM.out.lo.2; omega))⟩)
  clear ht2 hk2
  go_wp2_with fail
  exact Go.Great.bodyPost_end0 rfl rfl ⟨rfl, HFIN.out⟩
end Go.Proofs.YtnnadhfpkplncaaDoor
