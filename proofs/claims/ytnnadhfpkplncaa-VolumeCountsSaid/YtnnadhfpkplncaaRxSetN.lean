/- A node with a number at a place, in the ranks ahead of the last. Condition: how the arm is set. -/
import Derived.Test.YtnnadhfpkplncaaRxSet
import Derived.Deep.RegionHeld3
namespace Go.Proofs.Ytnnadhfpkplncaa
open Go.RowKit

/-- The world behind set: the node's block has the arm, all else is as the call for the arm left it. -/
def NodeBack (w w1 w' : World) (ps : List (Option Addr)) (ns : List Int) : Prop :=
  w'.heap[w.heap.size]? = some (.cells (nodeC ps ns) 87 (0, 0)) ∧ (∀ b, b ≠ w.heap.size → w'.heap[b]? = w1.heap[b]?) ∧ w'.heap.size = w1.heap.size ∧ Below w.heap.size w w'
theorem nodeBack (w w1 : World) (ps : List (Option Addr)) (ns : List Int) (q : Nat) (Y : Option Addr) (hps : ps.length = 16) (hq : q < 16) (h : Below (w.heap.size + 1) (w.alloc (.cells (nodeC ps ns) 87)) w1) :
    NodeBack w w1 (w1.setCell ⟨w.heap.size, q, none⟩ (.pointer Y)) (ps.set q Y) ns := by
  have h0 : w1.heap[w.heap.size]? = some (.cells (nodeC ps ns) 87 (0, 0)) := (h.block _ (by omega)).trans (heap_alloc_new _ _)
  refine ⟨?_, fun b hb => heap_setCell_other _ _ _ _ hb, by simp [World.setCell], ?_⟩
  · rw [heap_setCell_same _ _ _ _ _ _ h0, nodeC_setArm Y hps hq]
  · exact (((Below.refl _ w).alloc (Nat.le_refl _) _).trans (h.mono (by omega))).setCell (p := ⟨w.heap.size, q, none⟩) (Nat.le_refl _) _
theorem cell_of_below {w w1 : World} {cs : Array Value} (h : Below (w.heap.size + 1) (w.alloc (.cells cs 87)) w1) : w1.heap[w.heap.size]? = some (.cells cs 87 (0, 0)) := (h.block _ (by omega)).trans (heap_alloc_new _ _)
set_option maxRecDepth 100000 in
set_option maxHeartbeats 1600000 in
theorem nset_node (r : Nat) (hr : r ≤ 1) (X : Option Addr) (ps : List (Option Addr)) (ns : List Int) (hps : ps.length = 16) (hns : ns.length = 16) (a : Nat) (n : Int) (ha : a ≤ 4095) (w : World) (hX : NodeAt w X ps ns)
    (p : Option Addr) (hp : ps[a / 16 ^ (2 - r) % 16]? = some p) (R : Option Addr → World → Prop)
    (hsub : Calls Try.prog 37 #[.pointer p, .int .i64 ((r : Int) + 1), .int .i64 a, .int .i64 n] (w.alloc (.cells (nodeC ps ns) 87)) fun e w1 => ∃ Y, e = .returned (.pointer Y) ∧ R Y w1 ∧ Below (w.heap.size + 1) (w.alloc (.cells (nodeC ps ns) 87)) w1) :
    Calls Try.prog 37 #[.pointer X, .int .i64 r, .int .i64 a, .int .i64 n] w fun e w' => ∃ Y w1, R Y w1 ∧ Below (w.heap.size + 1) (w.alloc (.cells (nodeC ps ns) 87)) w1 ∧ NodeBack w w1 w' (ps.set (a / 16 ^ (2 - r) % 16) Y) ns ∧ NodeOut w.heap.size w' (ps.set (a / 16 ^ (2 - r) % 16) Y) ns e := by
  have harm : ∀ w, Calls Try.prog 39 #[.int .i64 r, .int .i64 a] w fun e w' => e = .returned (.int .i64 ((a / 16 ^ (2 - r) % 16 : Nat) : Int)) ∧ w = w' := fun w => arm_any r a (by omega) ha w
  have hq : a / 16 ^ (2 - r) % 16 < 16 := Nat.mod_lt _ (by decide)
  generalize a / 16 ^ (2 - r) % 16 = q at *
  have hz := zeroN
  have hqi : (q : Int) < 16 := by omega
  have hri : (r : Int) < 2 := by omega
  have hcz : (nodeC ps ns)[q]? = some (.pointer p) := nodeC_arm hp
  have HP := Lib.hid hps
  have HN := Lib.hid hns
  have HU := Lib.hid hsub
  clear hps hns hp hsub
  rcases hX with ⟨rfl, h1, h2⟩ | ⟨b, rfl, hb⟩
  · have HE := Lib.hid (show nodeZ = nodeC ps ns by rw [h1, h2]; rfl)
    clear h1 h2
    go_enter Try.func37, Try.ntmps37
    go_wp2_with ((with_reducible refine stop_load _ rfl ?_))
    rw [HE.out]
    refine (harm _).mono ?_
    rintro e w' ⟨rfl, rfl⟩
    clear harm
    go_wp2_with ((with_reducible refine stop_load _ rfl ?_))
    refine HU.out.mono ?_
    rintro e w1 ⟨Y, rfl, hR, hb1⟩
    have HR := Lib.hid hR
    have HB1 := Lib.hid hb1
    clear HU hR
    have hy := cell_of_below hb1
    have hc1 : w1.cell? ⟨w.heap.size, q, none⟩ = some (.pointer p) := (block_cell hy).trans hcz
    have hf1 : w1.frozen? ⟨w.heap.size, q, none⟩ = false := block_free hy
    have HBack := Lib.hid (nodeBack w w1 ps ns q Y HP.out hq hb1)
    have hms : (ps.set q Y).length = 16 := by simp [HP.out]
    have heq : ∀ w, (Op.equalIn 10000 87 (.agg (nodeC (ps.set q Y) ns)) (.agg nodeZ)).run Try.prog w = .ok (decide (ps.set q Y = List.replicate 16 none) && decide (ns = List.replicate 16 0)) w := fun w => eq_node 9997 (ps.set q Y) ns hms HN.out w
    have HM := Lib.hid hms
    clear hy hb1 hms
    go_wp2_with ((with_reducible refine stop_load _ rfl ?_))
    unfold Hid
    refine wpList_load_row rfl 87 _ rfl w.heap.size rfl 87 (nodeC (ps.set q Y) ns) (0, 0) _ HBack.out.1 Try.underlying87 rfl (infoNodeC HM.out HN.out) ?_
    obtain ⟨ms, hms⟩ : ∃ ms, ms = ps.set q Y := ⟨_, rfl⟩
    rw [← hms] at heq HBack ⊢
    have HMS := Lib.hid hms
    clear hms HM
    obtain ⟨B, hB⟩ : ∃ B, (decide (ms = List.replicate 16 none) && decide (ns = List.replicate 16 0)) = B := ⟨_, rfl⟩
    rw [hB] at heq
    have HB := Lib.hid hB
    clear hB
    cases B
    all_goals
      go_wp2
      go_ret
      have hb := HB.out
      simp only [Bool.and_eq_true, Bool.and_eq_false_iff, decide_eq_true_eq, decide_eq_false_iff_not] at hb
      rw [HMS.out] at hb
      have hk := HBack.out
      rw [HMS.out] at hk
      first
        | exact ⟨Y, w1, HR.out, HB1.out, hk, Or.inl ⟨rfl, hb.1, hb.2⟩⟩
        | exact ⟨Y, w1, HR.out, HB1.out, hk, Or.inr ⟨rfl, fun h => hb.elim (fun k => k h.1) (fun k => k h.2), hk.1⟩⟩
  · go_enter Try.func37, Try.ntmps37
    go_wp2_with ((with_reducible refine stop_load _ rfl ?_))
    unfold Hid
    refine wpList_load_row rfl 87 _ rfl b rfl 87 (nodeC ps ns) (0, 0) _ ((heap_alloc_old _ _ (block_lt hb)).trans hb) Try.underlying87 rfl (infoNodeC HP.out HN.out) ?_
    refine wpList_store_row rfl 87 _ _ rfl w.heap.size (nodeC ps ns) rfl rfl 87 _ (heap_alloc_new _ _) (infoNodeC HP.out HN.out) (by rw [nodeC_size HP.out HN.out]; rfl) (nodeC_one _ _) ?_
    rw [setRow_alloc]
    clear hb
    go_wp2_with ((with_reducible refine stop_load _ rfl ?_))
    refine (harm _).mono ?_
    rintro e w' ⟨rfl, rfl⟩
    clear harm
    go_wp2_with ((with_reducible refine stop_load _ rfl ?_))
    refine HU.out.mono ?_
    rintro e w1 ⟨Y, rfl, hR, hb1⟩
    have HR := Lib.hid hR
    have HB1 := Lib.hid hb1
    clear HU hR
    have hy := cell_of_below hb1
    have hc1 : w1.cell? ⟨w.heap.size, q, none⟩ = some (.pointer p) := (block_cell hy).trans hcz
    have hf1 : w1.frozen? ⟨w.heap.size, q, none⟩ = false := block_free hy
    have HBack := Lib.hid (nodeBack w w1 ps ns q Y HP.out hq hb1)
    have hms : (ps.set q Y).length = 16 := by simp [HP.out]
    have heq : ∀ w, (Op.equalIn 10000 87 (.agg (nodeC (ps.set q Y) ns)) (.agg nodeZ)).run Try.prog w = .ok (decide (ps.set q Y = List.replicate 16 none) && decide (ns = List.replicate 16 0)) w := fun w => eq_node 9997 (ps.set q Y) ns hms HN.out w
    have HM := Lib.hid hms
    clear hy hb1 hms
    go_wp2_with ((with_reducible refine stop_load _ rfl ?_))
    unfold Hid
    refine wpList_load_row rfl 87 _ rfl w.heap.size rfl 87 (nodeC (ps.set q Y) ns) (0, 0) _ HBack.out.1 Try.underlying87 rfl (infoNodeC HM.out HN.out) ?_
    obtain ⟨ms, hms⟩ : ∃ ms, ms = ps.set q Y := ⟨_, rfl⟩
    rw [← hms] at heq HBack ⊢
    have HMS := Lib.hid hms
    clear hms HM
    obtain ⟨B, hB⟩ : ∃ B, (decide (ms = List.replicate 16 none) && decide (ns = List.replicate 16 0)) = B := ⟨_, rfl⟩
    rw [hB] at heq
    have HB := Lib.hid hB
    clear hB
    cases B
    all_goals
      go_wp2
      go_ret
      have hb := HB.out
      simp only [Bool.and_eq_true, Bool.and_eq_false_iff, decide_eq_true_eq, decide_eq_false_iff_not] at hb
      rw [HMS.out] at hb
      have hk := HBack.out
      rw [HMS.out] at hk
      first
        | exact ⟨Y, w1, HR.out, HB1.out, hk, Or.inl ⟨rfl, hb.1, hb.2⟩⟩
        | exact ⟨Y, w1, HR.out, HB1.out, hk, Or.inr ⟨rfl, fun h => hb.elim (fun k => k h.1) (fun k => k h.2), hk.1⟩⟩
end Go.Proofs.Ytnnadhfpkplncaa
