/- A node with a number at a place. No condition but that the node reads. The walks of the last rank and of the others. -/
import Derived.Test.YtnnadhfpkplncaaRxEqN
import Derived.Laws.StructEq
import Derived.Laws.Rows
namespace Go.Proofs.Ytnnadhfpkplncaa
open Go.RowKit

def updF (f : Nat → Int) (a : Nat) (n : Int) : Nat → Int := fun p => if p = a then n else f p
theorem stop_load {P : Program} {ops : Array Oper} {rest : List Oper} {o : Oper} {a : Act} {w : World} {Q : Exit → Act → World → Prop} (x : Operand) (_ : o.op = .load 87 x) (h : Hid (wpList P ops Q (o :: rest) a w)) : wpList P ops Q (o :: rest) a w := h.out
theorem infoNode : (Try.prog.info? 87).map (·.size) = some 32 := by kernel_rfl
theorem nodeC_size {ps : List (Option Addr)} {ns : List Int} (h1 : ps.length = 16) (h2 : ns.length = 16) : (nodeC ps ns).size = 32 := by simp [nodeC, h1, h2]
theorem infoNodeC {ps : List (Option Addr)} {ns : List Int} (h1 : ps.length = 16) (h2 : ns.length = 16) : (Try.prog.info? 87).map (·.size) = some (nodeC ps ns).size := by rw [infoNode, nodeC_size h1 h2]
theorem nodeC_one (ps : List (Option Addr)) (ns : List Int) : (nodeC ps ns).all (·.oneCell') = true := by
  simp [nodeC, Value.oneCell']
theorem setRow_alloc (w : World) (t : TypeId) (old cs : Array Value) : (w.alloc (.cells old t)).setRow w.heap.size cs = w.alloc (.cells cs t) := by
  unfold World.setRow World.alloc
  congr 1
  apply Array.ext_getElem?
  intro i
  simp only [Array.getElem?_modify, Array.getElem?_push]
  by_cases h : w.heap.size = i
  · subst h; simp
  · have h' : ¬ i = w.heap.size := fun e => h e.symm
    simp [h, h']
theorem nodeC_setNum {ps : List (Option Addr)} {ns : List Int} {q : Nat} (n : Int) (h1 : ps.length = 16) : (nodeC ps ns).setIfInBounds (16 + q) (.int .i64 n) = nodeC ps (ns.set q n) := by
  unfold nodeC
  rw [List.setIfInBounds_toArray, List.set_append_right _ _ (by simp [h1])]
  simp [h1, List.map_set]
theorem nodeC_setArm {ps : List (Option Addr)} {ns : List Int} {q : Nat} (p : Option Addr) (h1 : ps.length = 16) (hq : q < 16) : (nodeC ps ns).setIfInBounds q (.pointer p) = nodeC (ps.set q p) ns := by
  unfold nodeC
  rw [List.setIfInBounds_toArray, List.set_append_left _ _ (by simp [h1, hq])]
  simp [List.map_set]
/-- What a node is known by: its cells, or nothing. -/
def NodeAt (w : World) (X : Option Addr) (ps : List (Option Addr)) (ns : List Int) : Prop :=
  (X = none ∧ ps = List.replicate 16 none ∧ ns = List.replicate 16 0) ∨ ∃ b, X = some ⟨b, 0, none⟩ ∧ w.heap[b]? = some (.cells (nodeC ps ns) 87 (0, 0))
/-- What set hands back: nil where nothing is left, else a new block. -/
def NodeOut (B : Nat) (w' : World) (ps : List (Option Addr)) (ns : List Int) (e : Ending) : Prop :=
  (e = .returned (.pointer none) ∧ ps = List.replicate 16 none ∧ ns = List.replicate 16 0) ∨ (e = .returned (.pointer (some ⟨B, 0, none⟩)) ∧ ¬ (ps = List.replicate 16 none ∧ ns = List.replicate 16 0) ∧ w'.heap[B]? = some (.cells (nodeC ps ns) 87 (0, 0)))
set_option maxRecDepth 100000 in
set_option maxHeartbeats 1600000 in
theorem nset_leaf (X : Option Addr) (ps : List (Option Addr)) (ns : List Int) (hps : ps.length = 16) (hns : ns.length = 16) (a : Nat) (n : Int) (ha : a ≤ 4095) (w : World) (hX : NodeAt w X ps ns) :
    Calls Try.prog 37 #[.pointer X, .int .i64 2, .int .i64 a, .int .i64 n] w fun e w' => NodeOut w.heap.size w' ps (ns.set (a % 16) n) e ∧ Below w.heap.size w w' := by
  have harm : ∀ w, Calls Try.prog 39 #[.int .i64 2, .int .i64 a] w fun e w' => e = .returned (.int .i64 ((a % 16 : Nat) : Int)) ∧ w = w' := fun w => by
    have := arm_any 2 a (by omega) ha w
    simpa using this
  have hq : a % 16 < 16 := Nat.mod_lt _ (by decide)
  generalize a % 16 = q at *
  have hz := zeroN
  have hqi : (q : Int) < 16 := by omega
  obtain ⟨u, hu⟩ : ∃ u, ns[q]? = some u := ⟨_, List.getElem?_eq_getElem (by omega)⟩
  have hcz : (nodeC ps ns)[16 + q]? = some (.int .i64 u) := nodeC_num hps hu
  obtain ⟨ms, hms⟩ : ∃ ms, ms = ns.set q n := ⟨_, rfl⟩
  have HS := Lib.hid (show (nodeC ps ns).setIfInBounds (16 + q) (.int .i64 n) = nodeC ps ms by rw [hms]; exact nodeC_setNum n hps)
  rw [← hms]
  have hml : ms.length = 16 := by rw [hms]; simp [hns]
  obtain ⟨B, hB⟩ : ∃ B, (decide (ps = List.replicate 16 none) && decide (ms = List.replicate 16 0)) = B := ⟨_, rfl⟩
  have heq : ∀ w, (Op.equalIn 10000 87 (.agg (nodeC ps ms)) (.agg nodeZ)).run Try.prog w = .ok B w := fun w => by
    rw [← hB]; exact eq_node 9997 ps ms hps hml w
  have HP := Lib.hid hps
  have HN := Lib.hid hns
  have HM := Lib.hid hml
  have HB := Lib.hid hB
  clear hps hns hu hms hml hB
  cases B
  all_goals
    rcases hX with ⟨rfl, h1, h2⟩ | ⟨b, rfl, hb⟩
    · have HE := Lib.hid (show nodeZ = nodeC ps ns by rw [h1, h2]; rfl)
      clear h1 h2
      go_enter Try.func37, Try.ntmps37
      go_wp2_with ((with_reducible refine stop_load _ rfl ?_))
      rw [HE.out]
      refine (harm _).mono ?_
      rintro e w' ⟨rfl, rfl⟩
      clear harm
      go_wp2_with ((with_reducible refine stop_load _ rfl ?_))
      unfold Hid
      rw [HS.out]
      refine wpList_load_row rfl 87 _ rfl w.heap.size rfl 87 (nodeC ps ms) (0, 0) _ (heap_alloc_new _ _) Try.underlying87 rfl (infoNodeC HP.out HM.out) ?_
      go_wp2
      go_ret
      have hb := HB.out
      simp only [Bool.and_eq_true, Bool.and_eq_false_iff, decide_eq_true_eq, decide_eq_false_iff_not] at hb
      first
        | exact ⟨Or.inl ⟨rfl, hb.1, hb.2⟩, (Below.refl _ _).alloc (Nat.le_refl _) _⟩
        | exact ⟨Or.inr ⟨rfl, fun h => hb.elim (fun k => k h.1) (fun k => k h.2), heap_alloc_new _ _⟩, (Below.refl _ _).alloc (Nat.le_refl _) _⟩
    · go_enter Try.func37, Try.ntmps37
      go_wp2_with ((with_reducible refine stop_load _ rfl ?_))
      unfold Hid
      refine wpList_load_row rfl 87 _ rfl b rfl 87 (nodeC ps ns) (0, 0) _ ((heap_alloc_old _ _ (block_lt hb)).trans hb) Try.underlying87 rfl (infoNodeC HP.out HN.out) ?_
      refine wpList_store_row rfl 87 _ _ rfl w.heap.size (nodeC ps ns) rfl rfl 87 _ (heap_alloc_new _ _) (infoNodeC HP.out HN.out) (by rw [nodeC_size HP.out HN.out]; rfl) (nodeC_one _ _) ?_
      rw [setRow_alloc]
      clear hb
      go_wp2_with ((with_reducible refine stop_load _ rfl ?_))
      refine (harm _).mono ?_
      rintro e w' ⟨rfl, rfl⟩
      clear harm
      go_wp2_with ((with_reducible refine stop_load _ rfl ?_))
      unfold Hid
      rw [HS.out]
      refine wpList_load_row rfl 87 _ rfl w.heap.size rfl 87 (nodeC ps ms) (0, 0) _ (heap_alloc_new _ _) Try.underlying87 rfl (infoNodeC HP.out HM.out) ?_
      go_wp2
      go_ret
      have hb := HB.out
      simp only [Bool.and_eq_true, Bool.and_eq_false_iff, decide_eq_true_eq, decide_eq_false_iff_not] at hb
      first
        | exact ⟨Or.inl ⟨rfl, hb.1, hb.2⟩, (Below.refl _ _).alloc (Nat.le_refl _) _⟩
        | exact ⟨Or.inr ⟨rfl, fun h => hb.elim (fun k => k h.1) (fun k => k h.2), heap_alloc_new _ _⟩, (Below.refl _ _).alloc (Nat.le_refl _) _⟩
end Go.Proofs.Ytnnadhfpkplncaa
