/- Texts of the proof of VolumeAlone, part 2 of 9. Conditions stand ahead of each. -/
import Derived.Test.YtnnadhfpkplncaaZVolumeAlone1
import Derived.Laws.OwnMore
import Derived.LaidEqlPtr
import Derived.Maps.OwnOps
import Derived.RangeFuncNested
import Derived.RangeFuncBound
import Derived.RangeFuncCalls
import Derived.RangeFuncLeaves
import Derived.Shelf.Abstract
import Derived.Shelf.RegionOpen
import Derived.WalkKit
import Derived.OwnWalkIn
import Derived.TacticsInMore
import Derived.LoopNIn
import Derived.LoopIn
import Derived.Maps.AppendAt
import Derived.Great.Frames
import Derived.Great.BuildSlice

/- All nodes beneath one. Condition: the node reads; how the nodes of its arms are told. -/
namespace Go.Proofs.Ytnnadhfpkplncaa
open Go.RowKit

theorem infoTNP : (Try.prog.info? 76).map (fun i => (i.zero, i.size, i.bytes)) = some (some (.pointer none), 1, 8) := by kernel_rfl
theorem infoArms : (Try.prog.info? 84).map (·.size) = some 16 := by kernel_rfl
/-- append(l, x) of one pointer onto one's own. -/
theorem app_ptr {w : World} {ops : Array Oper} {rest : List Oper} {o : Oper} {a : Act} {Q : Exit → Act → World → Prop} (hgd : o.guard = none) (s x : Operand)
    (ho : o.op = .call { callee := .builtin .append, args := #[s, x], argTypes := #[81, 81] }) (base : Nat) (v : Value) (l : List (Option Addr)) (hs : a.eval s = v) (hown : w.ownsRow base 76 1 v l.length (l.map Value.pointer))
    (g : Nat) (b : Option Addr) (hx : a.eval x = .slice (some ⟨g, 0, none⟩) 1 1) (hc : w.cell? ⟨g, 0, none⟩ = some (.pointer b)) (hn : l.length ≤ 1048576) (hbase : base ≤ w.heap.size)
    (h : ∀ v' w', w'.ownsRow base 76 1 v' (l ++ [b]).length ((l ++ [b]).map Value.pointer) → w.grownBy w' v.ownBlock → wpList Try.prog ops Q rest (a.put o.dst v') w') : wpList Try.prog ops Q (o :: rest) a w := by
  obtain ⟨iB, h1, h2, h3, h4⟩ := info_parts infoTNP
  refine wpList_append_own w hgd s x 81 ho base 76 iB (.pointer none) 1 8 Try.underlying81 h1 h2 h3 h4 rfl (by decide) v _ _ hs hown ⟨g, 0, none⟩ 1 1 [.pointer b] hx rfl (fun j u hj => ?_) (fun u hu => by rw [List.mem_singleton.1 hu]; rfl) (by unfold maxLen; omega) (by omega) hbase (fun v' w' e1 e2 _ => h v' w' ?_ e2)
  · match j, hj with
    | 0, hj => cases hj; simpa [Addr.add] using hc
  · rw [List.map_append, List.length_append]; exact e1
/-- The sixteen arms of a node, loaded. -/
theorem wpList_load_arms {ops : Array Oper} {rest : List Oper} {o : Oper} {a : Act} {w : World} {Q : Exit → Act → World → Prop} (hgd : o.guard = none) (x : Operand) (ho : o.op = .load 84 x)
    (g : Nat) (hx : a.eval x = .pointer (some ⟨g, 0, none⟩)) (ps : List (Option Addr)) (ns : List Int) (hps : ps.length = 16) (hg : w.heap[g]? = some (.cells (nodeC ps ns) 87 (0, 0)))
    (h : wpList Try.prog ops Q rest (a.put o.dst (.agg (ps.map Value.pointer).toArray)) w) : wpList Try.prog ops Q (o :: rest) a w := by
  have hl : (loadCells ⟨g, 0, none⟩ (ps.map Value.pointer).length).run Try.prog w = .ok (ps.map Value.pointer).toArray w :=
    run_loadCells_list (P := Try.prog) w ⟨g, 0, none⟩ (ps.map Value.pointer) (fun j v hv => by
      have hadd : (⟨g, 0, none⟩ : Addr).add j = ⟨g, j, none⟩ := by unfold Addr.add; split <;> simp_all
      obtain ⟨p, hp, rfl⟩ : ∃ p, ps[j]? = some p ∧ Value.pointer p = v := by simpa [List.getElem?_map] using hv
      rw [hadd, block_cell hg, nodeC_arm hp])
  have hagg : (isAgg 84).run Try.prog w = .ok true w := by
    unfold isAgg
    rw [Sem.run_bind, run_underlying Try.underlying84 w]
    rfl
  have hrun : (loadVar 84 ⟨g, 0, none⟩).run Try.prog w = .ok (.agg (ps.map Value.pointer).toArray) w := by
    obtain ⟨i, hq, hs⟩ := Option.map_eq_some_iff.1 infoArms
    simp only [List.length_map, hps] at hl
    simp [loadVar, Sem.run_bind, hagg, sizeOf, typeInfo, hq, hs, hl]
  exact wpList_plain hgd fun _ hK => by
    unfold Oper.wp execOp
    simp only [ho, hx, Instr.loadAt, Instr.sureAddr, Sem.run_bind, Sem.run_pure, Result.andThen_ok, hrun]
    exact hK _ _ h
theorem stop_arms {P : Program} {ops : Array Oper} {rest : List Oper} {o : Oper} {a : Act} {w : World} {Q : Exit → Act → World → Prop} (x : Operand) (_ : o.op = .load 84 x) (h : Hid (wpList P ops Q (o :: rest) a w)) : wpList P ops Q (o :: rest) a w := h.out
theorem run_index_arms (ps : List (Option Addr)) (k : Nat) (p : Option Addr) (hk : k < 16) (hp : ps[k]? = some p) (w : World) : (Instr.index 84 (.agg (ps.map Value.pointer).toArray) (.int .i64 k)).run Try.prog w = .ok (.pointer p) w := by
  have hs : ∀ w, (sizeOf 76).run Try.prog w = .ok 1 w := fun w => by kernel_rfl
  have hx : (ps.map Value.pointer).toArray[k]? = some (.pointer p) := by rw [List.getElem?_toArray, List.getElem?_map, hp]; rfl
  have hpart : (part 76 (ps.map Value.pointer).toArray k).run Try.prog w = .ok (.pointer p) w := by
    simp only [part, isAgg, Sem.run_bind, run_underlying Try.underlying76, Result.andThen_ok, hx]
    simp
  simp [Instr.index, asIntOf, run_underlying Try.underlying84, hs, hpart]
  omega
/-- The nodes told so far, in a list of one's own. -/
def NodesIn (w0 w : World) (v : Value) (xs : List (Option Addr)) : Prop := w.ownsRow w0.heap.size 76 1 v xs.length (xs.map Value.pointer) ∧ Below w0.heap.size w0 w
def NodesPost (w0 : World) (xs : List (Option Addr)) (e : Ending) (w' : World) : Prop := ∃ v', e = .returned v' ∧ NodesIn w0 w' v' xs
set_option maxHeartbeats 800000 in
theorem nodes_nil (w0 w : World) (v : Value) (xs : List (Option Addr)) (h : NodesIn w0 w v xs) : Calls Try.prog 38 #[.pointer none, v] w (NodesPost w0 xs) := by
  have H := Lib.hid h
  clear h
  go_enter Try.func38, Try.ntmps38
  go_wp2
  go_ret
  exact ⟨v, rfl, H.out⟩
theorem range_flat {α : Type} (L : Nat → List α) (k : Nat) : (List.range (k + 1)).flatMap L = (List.range k).flatMap L ++ L k := by
  rw [List.range_succ, List.flatMap_append]; simp
set_option maxRecDepth 100000 in
set_option maxHeartbeats 1600000 in
theorem nodes_node (w0 : World) (b : Nat) (ps : List (Option Addr)) (ns : List Int) (hps : ps.length = 16) (hb : w0.heap[b]? = some (.cells (nodeC ps ns) 87 (0, 0))) (L : Nat → List (Option Addr)) (N X : Nat)
    (hN : ∀ k, k ≤ 16 → ((List.range k).flatMap L).length ≤ N) (hN2 : X + N ≤ 100000)
    (hsub : ∀ i p, ps[i]? = some p → ∀ w v xs, NodesIn w0 w v xs → xs.length ≤ X + 1 + N → Calls Try.prog 38 #[.pointer p, v] w (NodesPost w0 (xs ++ L i)))
    (w : World) (v : Value) (xs : List (Option Addr)) (h : NodesIn w0 w v xs) (hx : xs.length ≤ X) :
    Calls Try.prog 38 #[.pointer (some ⟨b, 0, none⟩), v] w (NodesPost w0 (xs ++ (some ⟨b, 0, none⟩ :: (List.range 16).flatMap L))) := by
  have HB := Lib.hid hb
  have HP := Lib.hid hps
  have HN := Lib.hid hN
  have HU := Lib.hid hsub
  have H := Lib.hid h
  clear hb hps hN hsub h
  go_enter Try.func38, Try.ntmps38
  go_wp2_with (at_builtin; refine Hid.out ?_)
  unfold Hid
  have hin := H.out
  refine app_ptr rfl (.tmp 10) (.tmp 12) rfl w0.heap.size v xs rfl (hin.1.alloc _) w.heap.size (some ⟨b, 0, none⟩) rfl (block_cell (heap_alloc_new _ _)) (by omega) (by have := hin.2.size; simp; omega) ?_
  intro v1 w1 hown1 hg1
  have hin1 : NodesIn w0 w1 v1 (xs ++ [some ⟨b, 0, none⟩]) := ⟨hown1, (hin.2.alloc hin.2.size _).grown hg1 (by have := hin.2.size; simp; omega) fun k e => (hin.1.lt k e).1⟩
  have hb1 : w1.heap[b]? = some (.cells (nodeC ps ns) 87 (0, 0)) := (hin1.2.block b (block_lt HB.out)).trans HB.out
  have H1 := Lib.hid hin1
  have HB1 := Lib.hid hb1
  clear hin hown1 hg1 hin1 hb1
  go_wp2_with ((with_reducible refine stop_arms _ rfl ?_))
  unfold Hid
  refine wpList_load_arms rfl _ rfl b rfl ps ns HP.out HB1.out ?_
  clear HB1
  go_wp2
  go_loopw [1, 18] (fun u i wr => ∃ k : Nat, k ≤ 16 ∧ i = .int .i64 k ∧ Hid (NodesIn w0 wr u (xs ++ [some ⟨b, 0, none⟩] ++ (List.range k).flatMap L))) (fun _ i _ => 16 - (intOf i).toNat)
  case atStart => exact ⟨0, by omega, rfl, by simpa using H1⟩
  case round =>
    obtain ⟨k, hk, rfl, hin⟩ := hrel
    by_cases hlt : k < 16
    · obtain ⟨p, hp⟩ : ∃ p, ps[k]? = some p := ⟨_, List.getElem?_eq_getElem (by have := HP.out; omega)⟩
      have hix := run_index_arms ps k p hlt hp
      have hki : (k : Int) < 16 := by omega
      have HK := Lib.hid (HU.out k p hp _ _ _ hin.out (by have := HN.out k hk; rw [List.length_append, List.length_append]; simp only [List.length_singleton]; omega))
      clear hp hin
      go_wp2_with fail
      refine HK.out.mono ?_
      rintro e w2 ⟨u', rfl, hin'⟩
      have HI := Lib.hid hin'
      clear hin' hix HK
      go_wp2
      go_roundw
      case rel => exact ⟨k + 1, by omega, by go_num, by rw [range_flat, ← List.append_assoc]; exact HI⟩
      case measure => simp [intOf]; omega
    · obtain rfl : k = 16 := by omega
      go_wp2
      go_ret
      have := hin.out
      rw [List.append_assoc, List.singleton_append] at this
      exact ⟨_, rfl, this⟩
/-- The nodes of the group g of depth D, each ahead of those beneath it. -/
def nodesL (S : Nat → Nat → Option Nat) : Nat → Nat → List Nat
  | 0, g => (S 0 g).toList
  | D + 1, g => match S (D + 1) g with
    | none => []
    | some b => b :: (List.range 16).flatMap fun i => nodesL S D (g * 16 + i)
def cnt : Nat → Nat
  | 0 => 1
  | D + 1 => 1 + 16 * cnt D
def ptrs (l : List Nat) : List (Option Addr) := l.map fun b => some ⟨b, 0, none⟩
theorem flat_le {α : Type} (L : Nat → List α) (c : Nat) (h : ∀ i, (L i).length ≤ c) : ∀ k, ((List.range k).flatMap L).length ≤ k * c
  | 0 => by simp
  | k + 1 => by
    rw [range_flat, List.length_append, Nat.add_mul, Nat.one_mul]
    have := flat_le L c h k
    have := h k
    omega
theorem nodesL_le (S : Nat → Nat → Option Nat) : ∀ D g, (nodesL S D g).length ≤ cnt D
  | 0, g => by unfold nodesL cnt; cases S 0 g <;> simp
  | D + 1, g => by
    unfold nodesL cnt
    cases S (D + 1) g with
    | none => simp
    | some b =>
      have := flat_le (fun i => nodesL S D (g * 16 + i)) (cnt D) (fun i => nodesL_le S D _) 16
      simp only [List.length_cons]
      omega
theorem nodes_any (f : Nat → Int) (S : Nat → Nat → Option Nat) (w0 : World) (hr : RdD 2 f S w0) : ∀ D, D ≤ 2 → ∀ g w v xs, NodesIn w0 w v xs → xs.length ≤ 1000 * (3 - D) →
    Calls Try.prog 38 #[.pointer (ptr (S D g)), v] w (NodesPost w0 (xs ++ ptrs (nodesL S D g)))
  | 0, _, g, w, v, xs, h, hx => by
    unfold nodesL
    cases hs : S 0 g with
    | none =>
      have := nodes_nil w0 w v xs h
      simpa [ptrs, ptr] using this
    | some b =>
      have := nodes_node w0 b _ _ (by simp) (hr.leaf g b hs) (fun _ => []) 0 3000 (fun k _ => by rw [show (List.range k).flatMap (fun _ => ([] : List (Option Addr))) = [] from List.flatMap_eq_nil_iff.2 fun _ _ => rfl]; exact Nat.le_refl _) (by omega) (fun i p hp w v xs h _ => by
        obtain ⟨hlt, rfl⟩ := List.getElem?_eq_some_iff.1 hp
        rw [List.getElem_replicate, List.append_nil]
        exact nodes_nil w0 w v xs h) w v xs h (by omega)
      rw [show (List.range 16).flatMap (fun _ => ([] : List (Option Addr))) = [] from List.flatMap_eq_nil_iff.2 fun _ _ => rfl] at this
      exact this
  | D + 1, hD, g, w, v, xs, h, hx => by
    unfold nodesL
    cases hs : S (D + 1) g with
    | none =>
      have := nodes_nil w0 w v xs h
      simpa [ptrs, ptr] using this
    | some b =>
      have hc : cnt D ≤ 17 := by
        match D, hD with
        | 0, _ => decide
        | 1, _ => decide
      have := nodes_node w0 b _ _ (by simp) (hr.node D g b hD hs) (fun i => ptrs (nodesL S D (g * 16 + i))) 272 (1000 * (3 - (D + 1)))
        (fun k hk => Nat.le_trans (flat_le _ 17 (fun i => by unfold ptrs; rw [List.length_map]; exact Nat.le_trans (nodesL_le S D _) hc) k) (by omega)) (by omega)
        (fun i p hp w v xs h hx => by
          have hi : i < 16 := by
            have := (List.getElem?_eq_some_iff.1 hp).1
            simpa using this
          rw [armC_at hi] at hp
          cases hp
          exact nodes_any f S w0 hr D (by omega) _ w v xs h (by omega)) w v xs h hx
      have e : ptrs (b :: (List.range 16).flatMap fun i => nodesL S D (g * 16 + i)) = some ⟨b, 0, none⟩ :: (List.range 16).flatMap fun i => ptrs (nodesL S D (g * 16 + i)) := by
        unfold ptrs
        rw [List.map_cons, List.map_flatMap]
      rw [e]
      exact this
end Go.Proofs.Ytnnadhfpkplncaa


/- A map keyed by nodes' addresses, of ones. Condition: the addresses are those of plain blocks. -/
namespace Go.Proofs.Ytnnadhfpkplncaa
open Go.RowKit

def nptr (b : Nat) : Value := .pointer (some ⟨b, 0, none⟩)
/-- A block of cells that nothing froze. -/
def Plain (w : World) (b : Nat) : Prop := ∃ cs t, w.heap[b]? = some (.cells cs t (0, 0))
theorem nptr_eq (d : Nat) (w : World) {a b : Nat} (ha : Plain w a) (hb : Plain w b) : (Op.equalIn (d + 1) 76 (nptr a) (nptr b)).run Try.prog w = .ok (decide (a = b)) w := by
  obtain ⟨ca, ta, ha⟩ := ha
  obtain ⟨cb, tb, hb⟩ := hb
  have hs : ∀ w, (sizeOf 87).run Try.prog w = .ok 32 w := fun w => by kernel_rfl
  by_cases h : a = b
  · subst h
    simp [nptr, Op.equalIn, run_underlying Try.underlying76, hs, run_sameAddr_same]
  · have hne : (⟨a, 0, none⟩ : Addr) ≠ ⟨b, 0, none⟩ := fun e => h (by cases e; rfl)
    simp [nptr, Op.equalIn, run_underlying Try.underlying76, hs, run_sameAddr_other w hne ha hb, h]
/-- Entries keyed by addresses of plain blocks, of ones. -/
def PEnt (w : World) (l : List Nat) (es : List MapEntry) : Prop := (∀ e ∈ es, ∃ b, e.key = nptr b ∧ e.val = .int .i64 1 ∧ b ∈ l ∧ Plain w b) ∧ ∀ b ∈ l, ∃ e ∈ es, e.key = nptr b
theorem find_asking (w : World) {x : Nat} (hx : Plain w x) : ∀ (es : List MapEntry) (i : Nat), (∀ e ∈ es, ∃ b, e.key = nptr b ∧ e.val = .int .i64 1 ∧ Plain w b) →
    ((Instr.findAsking 76 (nptr x) es i).run Try.prog w = .ok none w ∧ ∀ e ∈ es, e.key ≠ nptr x) ∨ ∃ j e, (Instr.findAsking 76 (nptr x) es i).run Try.prog w = .ok (some (i + j, .int .i64 1)) w ∧ es[j]? = some e ∧ e.key = nptr x
  | [], i, _ => Or.inl ⟨by simp [Instr.findAsking], by simp⟩
  | e :: es, i, h => by
    obtain ⟨b, hb, hv, hp⟩ := h e (by simp)
    have he := nptr_eq 9999 w hx hp
    by_cases hxb : x = b
    · refine Or.inr ⟨0, e, ?_, rfl, by rw [hb, hxb]⟩
      rw [decide_eq_true hxb] at he
      simp [Instr.findAsking, Op.equal, Op.maxDepth, hb, he, hv]
    · rw [decide_eq_false hxb] at he
      rcases find_asking w hx es (i + 1) (fun e he => h e (by simp [he])) with ⟨h1, h2⟩ | ⟨j, e', h1, h2, h3⟩
      · refine Or.inl ⟨by simp [Instr.findAsking, Op.equal, Op.maxDepth, hb, he, h1], fun e' he' => ?_⟩
        rcases List.mem_cons.1 he' with rfl | he'
        · rw [hb]; intro k; unfold nptr at k; injection k with k; injection k with k; injection k with k; exact hxb k.symm
        · exact h2 e' he'
      · exact Or.inr ⟨j + 1, e', by simp [Instr.findAsking, Op.equal, Op.maxDepth, hb, he, h1, Nat.add_assoc, Nat.add_comm 1], by simpa using h2, h3⟩
theorem find_key (w : World) {x : Nat} (hx : Plain w x) (es : List MapEntry) (h : ∀ e ∈ es, ∃ b, e.key = nptr b ∧ e.val = .int .i64 1 ∧ Plain w b) :
    ((Instr.findKey 76 (nptr x) es).run Try.prog w = .ok none w ∧ ∀ e ∈ es, e.key ≠ nptr x) ∨ ∃ j e, (Instr.findKey 76 (nptr x) es).run Try.prog w = .ok (some (j, .int .i64 1)) w ∧ es[j]? = some e ∧ e.key = nptr x := by
  cases es with
  | nil => exact Or.inl ⟨by simp [Instr.findKey, run_underlying Try.underlying76, Instr.findNow], by simp⟩
  | cons e es =>
    have hn : ∀ d, Try.prog.underlying 76 = some d → Instr.findNow d (nptr x) (e :: es) 0 = none := fun d hd => by
      rw [Try.underlying76] at hd
      cases hd
      simp [Instr.findNow, Instr.sameNow]
    have := find_asking w hx (e :: es) 0 h
    simp only [Nat.zero_add] at this
    have hk : (Instr.findKey 76 (nptr x) (e :: es)).run Try.prog w = (Instr.findAsking 76 (nptr x) (e :: es)).run Try.prog w := by
      simp [Instr.findKey, run_underlying Try.underlying76, hn _ Try.underlying76]
    rw [hk]
    exact this
/-- Block m is a map of ones whose keys are the addresses of l. -/
def PMap (w : World) (m : Nat) (l : List Nat) : Prop := ∃ es clock, w.heap[m]? = some (.map es clock) ∧ PEnt w l es.toList
theorem plain_set {w : World} {m b : Nat} {es : Array MapEntry} {clock : Nat} {o : Obj} (hm : w.heap[m]? = some (.map es clock)) (h : Plain w b) : Plain (ChangeMaps.setBlock w m o) b := by
  obtain ⟨cs, t, hb⟩ := h
  refine ⟨cs, t, ?_⟩
  have hne : m ≠ b := fun e => by subst e; rw [hm] at hb; cases hb
  simp only [ChangeMaps.setBlock, Array.getElem?_setIfInBounds]
  rw [if_neg hne]
  exact hb
theorem check_ptr (w : World) (e : Bool) (x : Nat) : (Instr.checkKey e 10000 76 (nptr x)).run Try.prog w = .ok () w := by
  unfold Instr.checkKey
  simp [run_underlying Try.underlying76, nptr]
theorem PMap.made (w : World) : PMap (w.alloc (.map #[] 0)) w.heap.size [] := ⟨#[], 0, heap_alloc_new _ _, by simp [PEnt]⟩
theorem PMap.below {w w' : World} {m : Nat} {l : List Nat} (h : PMap w m l) (k : Below w.heap.size w w') : PMap w' m l := by
  obtain ⟨es, clock, hm, h1, h2⟩ := h
  refine ⟨es, clock, (k.block m (block_lt hm)).trans hm, fun e he => ?_, h2⟩
  obtain ⟨b, a1, a2, a3, cs, t, a4⟩ := h1 e he
  exact ⟨b, a1, a2, a3, cs, t, (k.block b (block_lt a4)).trans a4⟩
theorem PMap.look {w : World} {m : Nat} {l : List Nat} (h : PMap w m l) {x : Nat} (hx : Plain w x) : (Instr.lookup 83 (.map (some m)) (nptr x) false).run Try.prog w = .ok (.int .i64 (if x ∈ l then 1 else 0)) w := by
  obtain ⟨es, clock, hm, h1, h2⟩ := h
  have hz : ∀ w, (zeroValue 3).run Try.prog w = .ok (.int .i64 0) w := fun w => by kernel_rfl
  rcases find_key w hx es.toList (fun e he => by obtain ⟨b, a1, a2, _, a4⟩ := h1 e he; exact ⟨b, a1, a2, a4⟩) with ⟨h3, h4⟩ | ⟨j, e, h3, h4, h5⟩
  · have hn : x ∉ l := fun hm => by
      obtain ⟨e, he, hk⟩ := h2 x hm
      exact h4 e he hk
    rw [if_neg hn]
    simp [Instr.lookup, run_underlying Try.underlying83, MapKept.run_getObj_map hm, check_ptr, h3, hz, Result.andThen]
  · have hy : x ∈ l := by
      obtain ⟨b, a1, _, a3, _⟩ := h1 e (List.mem_of_getElem? h4)
      rw [h5] at a1
      have : x = b := by simpa [nptr] using a1
      rw [this]; exact a3
    rw [if_pos hy]
    simp [Instr.lookup, run_underlying Try.underlying83, MapKept.run_getObj_map hm, check_ptr, h3, Result.andThen]
theorem PMap.store {w : World} {m : Nat} {l : List Nat} (h : PMap w m l) {x : Nat} (hx : Plain w x) : ∃ w', (Instr.mapUpdate 83 (.map (some m)) (nptr x) (.int .i64 1)).run Try.prog w = .ok () w' ∧ PMap w' m (l ++ [x]) ∧ w.grownBy w' (some m) := by
  obtain ⟨es, clock, hm, h1, h2⟩ := h
  have hg : ∀ o, w.grownBy (ChangeMaps.setBlock w m o) (some m) := fun o => ⟨rfl, rfl, rfl, by simp [ChangeMaps.setBlock], fun i _ hi => by
    simp only [ChangeMaps.setBlock, Array.getElem?_setIfInBounds]
    rw [if_neg (fun e => hi (by rw [e]))]⟩
  have hs : ∀ o, (ChangeMaps.setBlock w m o).heap[m]? = some o := fun o => by
    simp [ChangeMaps.setBlock, (Array.getElem?_eq_some_iff.1 hm).1]
  rcases find_key w hx es.toList (fun e he => by obtain ⟨b, a1, a2, _, a4⟩ := h1 e he; exact ⟨b, a1, a2, a4⟩) with ⟨h3, h4⟩ | ⟨j, e, h3, h4, h5⟩
  · refine ⟨ChangeMaps.setBlock w m (.map (es.push ⟨nptr x, .int .i64 1, clock⟩) (clock + 1)), ?_, ⟨_, _, hs _, ?_, ?_⟩, hg _⟩
    · simp [Instr.mapUpdate, run_underlying Try.underlying83, MapKept.run_getObj_map hm, check_ptr, h3, MapKept.run_setObj_map _ hm, Result.andThen, ChangeMaps.setBlock]
    · intro e he
      simp only [Array.toList_push, List.mem_append, List.mem_singleton] at he
      rcases he with he | rfl
      · obtain ⟨b, a1, a2, a3, a4⟩ := h1 e he
        exact ⟨b, a1, a2, by simp [a3], plain_set hm a4⟩
      · exact ⟨x, rfl, rfl, by simp, plain_set hm hx⟩
    · intro b hb
      simp only [List.mem_append, List.mem_singleton] at hb
      rcases hb with hb | rfl
      · obtain ⟨e, he, hk⟩ := h2 b hb
        exact ⟨e, by simp [he], hk⟩
      · exact ⟨⟨nptr b, .int .i64 1, clock⟩, by simp, rfl⟩
  · have hj : es[j]? = some e := by simpa using h4
    have hlist : (es.modify j (fun e' => { e' with key := nptr x, val := .int .i64 1 })).toList = es.toList.set j { e with key := nptr x, val := .int .i64 1 } := by rw [Array.toList_modify, ChangeMaps.modify_eq_set _ _ _ _ h4]
    have hstay : (Instr.keyThatStays (nptr x) (nptr x)).run Try.prog w = .ok (nptr x) w := by simp [Instr.keyThatStays, Instr.sameBits, nptr]
    refine ⟨ChangeMaps.setBlock w m (.map (es.modify j (fun e' => { e' with key := nptr x, val := .int .i64 1 })) clock), ?_, ⟨_, _, hs _, ?_, ?_⟩, hg _⟩
    · simp [Instr.mapUpdate, run_underlying Try.underlying83, MapKept.run_getObj_map hm, check_ptr, h3, hj, h5, hstay, MapKept.run_setObj_map _ hm, Result.andThen, ChangeMaps.setBlock]
    · intro e' he'
      rw [hlist] at he'
      rcases List.mem_or_eq_of_mem_set he' with he' | rfl
      · obtain ⟨b, a1, a2, a3, a4⟩ := h1 e' he'
        exact ⟨b, a1, a2, by simp [a3], plain_set hm a4⟩
      · exact ⟨x, rfl, rfl, by simp, plain_set hm hx⟩
    · intro b hb
      rw [hlist]
      have hjl := (List.getElem?_eq_some_iff.1 h4).1
      have hx' : ∃ e' ∈ es.toList.set j { e with key := nptr x, val := .int .i64 1 }, e'.key = nptr x := ⟨_, List.mem_iff_getElem.2 ⟨j, by simpa using hjl, List.getElem_set_self _⟩, rfl⟩
      simp only [List.mem_append, List.mem_singleton] at hb
      rcases hb with hb | rfl
      · obtain ⟨e', he', hk⟩ := h2 b hb
        obtain ⟨i, hi, rfl⟩ := List.getElem_of_mem he'
        by_cases hij : j = i
        · subst hij
          have : es.toList[j] = e := by have := List.getElem?_eq_getElem hi; rw [h4] at this; exact (Option.some.inj this).symm
          rw [this, h5] at hk
          rw [← hk]
          exact hx'
        · exact ⟨es.toList[i], List.mem_iff_getElem.2 ⟨i, by simpa using hi, by rw [List.getElem_set_ne hij]⟩, hk⟩
      · exact hx'
end Go.Proofs.Ytnnadhfpkplncaa


/- How many nodes a tree has; how many two trees have in common. Condition: the trees read. -/
namespace Go.Proofs.Ytnnadhfpkplncaa
open Go.RowKit

theorem nodesL_mem {f : Nat → Int} {S : Nat → Nat → Option Nat} {w : World} (hr : RdD 2 f S w) : ∀ D, D ≤ 2 → ∀ g b, b ∈ nodesL S D g → Plain w b
  | 0, _, g, b, hb => by
    unfold nodesL at hb
    cases hs : S 0 g with
    | none => rw [hs] at hb; simp at hb
    | some c =>
      rw [hs] at hb
      have : b = c := by simpa using hb
      subst this
      exact ⟨_, _, hr.leaf g b hs⟩
  | D + 1, hD, g, b, hb => by
    unfold nodesL at hb
    cases hs : S (D + 1) g with
    | none => rw [hs] at hb; simp at hb
    | some c =>
      rw [hs] at hb
      simp only [List.mem_cons, List.mem_flatMap] at hb
      rcases hb with rfl | ⟨i, _, hb⟩
      · exact ⟨_, _, hr.node D g b hD hs⟩
      · exact nodesL_mem hr D (by omega) _ b hb
theorem Plain.below {w w' : World} {b : Nat} (h : Plain w b) (k : Below w.heap.size w w') : Plain w' b := by
  obtain ⟨cs, t, h⟩ := h
  exact ⟨cs, t, (k.block b (block_lt h)).trans h⟩
/-- A list of addresses as it lies. -/
def HeadP (B : Nat) (w : World) (A : Option Addr) (xs : List (Option Addr)) : Prop :=
  ∀ k p, xs[k]? = some p → ∃ g, B ≤ g ∧ A = some ⟨g, 0, none⟩ ∧ w.cell? ⟨g, k, none⟩ = some (.pointer p)
theorem headP {B : Nat} {w : World} {v : Value} {xs : List (Option Addr)} (h : w.ownsRow B 76 1 v xs.length (xs.map Value.pointer)) : ∃ A c, v = .slice A xs.length c ∧ xs.length ≤ c ∧ HeadP B w A xs := by
  obtain ⟨h0, h1⟩ := h
  rcases h1 with ⟨e1, e2⟩ | ⟨g, c, cur, rfl, hg, hh, hc, _, _, ht⟩
  · have : xs = [] := by simpa using e2
    subst this
    exact ⟨none, 0, e1, Nat.le_refl _, fun k p hk => by simp at hk⟩
  · refine ⟨_, c, rfl, hc, fun k p hk => ⟨g, hg, rfl, ?_⟩⟩
    have hlt : k < xs.length := (List.getElem?_eq_some_iff.1 hk).1
    have e : (xs.map Value.pointer)[k]? = some (.pointer p) := by rw [List.getElem?_map, hk]; rfl
    rw [← ht, List.getElem?_take] at e
    rw [if_pos (by omega)] at e
    rw [block_cell hh]
    simpa using e
theorem HeadP.grown {B : Nat} {w w' : World} {A : Option Addr} {xs : List (Option Addr)} {m : Nat} (h : HeadP B w A xs) (hg : w.grownBy w' (some m)) (hm : m < B) : HeadP B w' A xs := fun k p hk => by
  obtain ⟨g, h1, h2, h3⟩ := h k p hk
  refine ⟨g, h1, h2, ?_⟩
  rw [← h3]
  exact World.cell?_of_block (hg.block g (cell_lt h3) (fun e => by cases e; omega))
set_option maxRecDepth 100000 in
set_option maxHeartbeats 1600000 in
theorem tnodes_any (f : Nat → Int) (S : Nat → Nat → Option Nat) (A : Option Addr) (w : World) (h : RdR f S w A) :
    Calls Try.prog 11 #[.pointer A] w fun e w' => e = .returned (.int .i64 ((nodesL S 2 0).length : Nat)) ∧ Below w.heap.size w w' := by
  have HO := Lib.hid (of_any f S A w h)
  have HN := Lib.hid (nodes_any f S w h.1 2 (Nat.le_refl _) 0 w (.slice none 0 0) [] ⟨World.ownsRow_nil _ _ _ _, Below.refl _ _⟩ (by simp))
  have HL := Lib.hid (nodesL_le S 2 0)
  clear h
  go_enter Try.func11, Try.ntmps11
  go_wp2_with fail
  refine HO.out.mono ?_
  rintro e w' ⟨rfl, rfl⟩
  go_wp2_with fail
  refine HN.out.mono ?_
  rintro e w1 ⟨v, rfl, hown, hb⟩
  rw [List.nil_append] at hown
  obtain ⟨B, c, rfl, hc, _⟩ := headP hown
  have hl : (ptrs (nodesL S 2 0)).length = (nodesL S 2 0).length := by simp [ptrs]
  have hlen := HL.out
  have HB := Lib.hid hb
  rw [hl]
  clear hown hb hc hl HL HN HO
  obtain ⟨n, hn⟩ : ∃ n, n = (nodesL S 2 0).length := ⟨_, rfl⟩
  rw [← hn] at hlen ⊢
  have HE := Lib.hid hn
  clear hn
  unfold cnt cnt cnt at hlen
  go_wp2
  go_ret
  exact ⟨by rw [← HE.out]; rfl, HB.out⟩
/-- How many of the second list stand in the first one. -/
def inBoth (l l' : List Nat) : Nat := (l'.filter fun b => decide (b ∈ l)).length
theorem inBoth_snoc {l l' : List Nat} {k b : Nat} (h : l'[k]? = some b) : inBoth l (l'.take (k + 1)) = inBoth l (l'.take k) + if b ∈ l then 1 else 0 := by
  unfold inBoth
  rw [List.take_add_one, h, List.filter_append, List.length_append]
  by_cases hb : b ∈ l <;> simp [hb]
theorem inBoth_le (l l' : List Nat) : inBoth l l' ≤ l'.length := List.length_filter_le _ _
set_option maxRecDepth 100000 in
set_option maxHeartbeats 1600000 in
theorem shared_any (f g : Nat → Int) (S T : Nat → Nat → Option Nat) (A B : Option Addr) (w : World) (h : RdR f S w A) (h2 : RdR g T w B) :
    Calls Try.prog 12 #[.pointer A, .pointer B] w fun e w' => e = .returned (.int .i64 (inBoth (nodesL S 2 0) (nodesL T 2 0) : Nat)) ∧ Below w.heap.size w w' := by
  have hbm : Below w.heap.size w (w.alloc (.map #[] 0)) := (Below.refl _ _).alloc (Nat.le_refl _) _
  have HO := Lib.hid (of_any f S A _ (h.below hbm))
  have HN := Lib.hid (nodes_any f S _ (h.below hbm).1 2 (Nat.le_refl _) 0 _ (.slice none 0 0) [] ⟨World.ownsRow_nil _ _ _ _, Below.refl _ _⟩ (by simp))
  have HL := Lib.hid (nodesL_le S 2 0)
  have HL2 := Lib.hid (nodesL_le T 2 0)
  have HP := Lib.hid (fun b hb => nodesL_mem h.1 2 (Nat.le_refl _) 0 b hb)
  have H2 := Lib.hid h2
  have hmm := @run_makeMap Try.prog
  have HM := Lib.hid (PMap.made w)
  clear h h2 hbm
  go_enter Try.func12, Try.ntmps12
  go_wp2_with fail
  refine HO.out.mono ?_
  rintro e w' ⟨rfl, rfl⟩
  go_wp2_with fail
  refine HN.out.mono ?_
  rintro e w1 ⟨v, rfl, hown, hb⟩
  rw [List.nil_append] at hown
  obtain ⟨C, c, rfl, hc, hhd⟩ := headP hown
  obtain ⟨l, hl⟩ : ∃ l, l = nodesL S 2 0 := ⟨_, rfl⟩
  rw [← hl] at hown hhd HL HP hc ⊢
  have HE := Lib.hid hl
  have hlen : l.length ≤ 273 := HL.out
  have hll : (ptrs l).length = l.length := by simp [ptrs]
  rw [hll] at hc ⊢
  have hb1 : Below w.heap.size w w1 := ((Below.refl w.heap.size w).alloc (Nat.le_refl _) _).trans (hb.mono (by simp))
  have hsz : (w.alloc (.map #[] 0)).heap.size = w.heap.size + 1 := by simp
  rw [hsz] at hhd hb
  have HH := Lib.hid hhd
  have HB1 := Lib.hid hb1
  have HM1 := Lib.hid (HM.out.below (by rw [hsz]; exact hb))
  have hml : w.heap.size < w1.heap.size := by have := hb.size; rw [hsz] at this; omega
  clear hown hhd hb hb1 hl hll hsz HN HO HM HL
  go_wp2
  go_loopw [16] (fun i wr => ∃ k : Nat, k ≤ l.length ∧ i = .int .i64 k ∧ Below w.heap.size w wr ∧ Hid (PMap wr w.heap.size (l.take k)) ∧ Hid (HeadP (w.heap.size + 1) wr C (ptrs l)) ∧ w.heap.size < wr.heap.size) (fun i _ => l.length - (intOf i).toNat)
  case atStart => exact ⟨0, by omega, rfl, HB1.out, by simpa using HM1, HH, hml⟩
  case round =>
    obtain ⟨k, hk, rfl, hbr, hm, hh, hlt⟩ := hrel
    by_cases hk2 : k < l.length
    · obtain ⟨b, hb⟩ : ∃ b, l[k]? = some b := ⟨_, List.getElem?_eq_getElem hk2⟩
      have hpk : (ptrs l)[k]? = some (some ⟨b, 0, none⟩) := by unfold ptrs; rw [List.getElem?_map, hb]; rfl
      obtain ⟨g, hg1, rfl, hcell⟩ := hh.out k _ hpk
      have hpl : Plain wr b := (HP.out b (List.mem_of_getElem? hb)).below hbr
      obtain ⟨w2, hrun, hpm, hgr⟩ := hm.out.store hpl
      rw [show l.take k ++ [b] = l.take (k + 1) by rw [List.take_add_one, hb]; rfl] at hpm
      unfold nptr at hrun
      have hbr2 : Below w.heap.size w w2 := hbr.grown hgr hbr.size fun _ e => by cases e; exact Nat.le_refl _
      have HB2 := Lib.hid hbr2
      have HM2 := Lib.hid hpm
      have HH2 := Lib.hid (hh.out.grown hgr (by omega))
      have hlt2 : w.heap.size < w2.heap.size := Nat.lt_of_lt_of_le hlt hgr.size
      clear hb hpk hpl hbr hm hh hpm hgr hbr2
      go_wp2
      go_roundw
      case rel => exact ⟨k + 1, by omega, by go_num, HB2.out, HM2, HH2, hlt2⟩
      case measure => simp [intOf]; omega
    · obtain rfl : k = l.length := by omega
      have HM2 := Lib.hid (show PMap wr w.heap.size l by have := hm.out; rwa [List.take_length] at this)
      have HBr := Lib.hid hbr
      have HO := Lib.hid (of_any _ _ _ _ (H2.out.below hbr))
      clear hm hh hbr
      go_wp2_with fail
      refine HO.out.mono ?_
      rintro e w' ⟨rfl, rfl⟩
      have HN := Lib.hid (nodes_any _ _ _ (H2.out.below HBr.out).1 2 (Nat.le_refl _) 0 _ (.slice none 0 0) [] ⟨World.ownsRow_nil _ _ _ _, Below.refl _ _⟩ (by simp))
      go_wp2_with fail
      refine HN.out.mono ?_
      rintro e w2 ⟨v2, rfl, hown2, hb2⟩
      rw [List.nil_append] at hown2
      obtain ⟨C2, c2, rfl, hc2, hhd2⟩ := headP hown2
      obtain ⟨l2, hl2⟩ : ∃ l2, l2 = nodesL T 2 0 := ⟨_, rfl⟩
      have HP2 := Lib.hid (fun b hb => nodesL_mem H2.out.1 2 (Nat.le_refl _) 0 b hb)
      rw [← hl2] at hown2 hhd2 HL2 HP2 hc2 ⊢
      have HE2 := Lib.hid hl2
      have hlen2 : l2.length ≤ 273 := HL2.out
      have hll2 : (ptrs l2).length = l2.length := by simp [ptrs]
      rw [hll2] at hc2 ⊢
      have HH2 := Lib.hid hhd2
      have HB2 := Lib.hid (HBr.out.trans (hb2.mono HBr.out.size))
      have HM3 := Lib.hid (HM2.out.below hb2)
      clear hown2 hhd2 hb2 hl2 hll2 HN HO HL2 HM2 HH HBr HM1 HB1 hmm
      go_wp2
      go_loopw [8, 27] (fun s i wr => ∃ k : Nat, k ≤ l2.length ∧ i = .int .i64 k ∧ s = .int .i64 (inBoth l (l2.take k) : Nat) ∧ Below w2.heap.size w2 wr) (fun _ i _ => l2.length - (intOf i).toNat)
      case atStart => exact ⟨0, by omega, rfl, by simp [inBoth], Below.refl _ _⟩
      case round =>
        obtain ⟨k, hk, rfl, rfl, hbr⟩ := hrel
        have hle := inBoth_le l (l2.take k)
        rw [List.length_take] at hle
        by_cases hk2 : k < l2.length
        · obtain ⟨b, hb⟩ : ∃ b, l2[k]? = some b := ⟨_, List.getElem?_eq_getElem hk2⟩
          have hpk : (ptrs l2)[k]? = some (some ⟨b, 0, none⟩) := by unfold ptrs; rw [List.getElem?_map, hb]; rfl
          obtain ⟨g, hg1, rfl, hcell⟩ := HH2.out k _ hpk
          have hcell2 : wr.cell? ⟨g, k, none⟩ = some (.pointer (some ⟨b, 0, none⟩)) := by rw [← hcell]; exact World.cell?_of_block (hbr.block g (cell_lt hcell))
          have hpl : Plain wr b := ((HP2.out b (List.mem_of_getElem? hb)).below HB2.out).below hbr
          have hrun := (HM3.out.below hbr).look hpl
          unfold nptr at hrun
          have HS := Lib.hid (inBoth_snoc (l := l) hb)
          have HBr := Lib.hid hbr
          obtain ⟨q, hq⟩ : ∃ q : Nat, (if b ∈ l then 1 else 0) = q := ⟨_, rfl⟩
          have hq2 : q ≤ 1 := by rw [← hq]; split <;> omega
          have hqi : (if b ∈ l then (1 : Int) else 0) = (q : Int) := by rw [← hq]; split <;> rfl
          rw [hqi] at hrun
          rw [hq] at HS
          obtain ⟨t, ht⟩ : ∃ t, t = inBoth l (l2.take k) := ⟨_, rfl⟩
          rw [← ht] at hle HS ⊢
          clear hb hpk hcell hpl hbr hq hqi ht
          go_wp2
          go_roundw
          case rel => exact ⟨k + 1, by omega, by go_num, by rw [HS.out]; go_num, HBr.out⟩
          case measure => simp [intOf]; omega
        · obtain rfl : k = l2.length := by omega
          have HBr := Lib.hid (HB2.out.trans (hbr.mono HB2.out.size))
          rw [List.take_length] at *
          obtain ⟨t, ht⟩ : ∃ t, t = inBoth l l2 := ⟨_, rfl⟩
          rw [← ht] at hle ⊢
          have HT := Lib.hid ht
          clear ht hbr
          go_wp2
          go_ret
          exact ⟨by rw [← HE.out, ← HE2.out, ← HT.out]; rfl, HBr.out⟩
end Go.Proofs.Ytnnadhfpkplncaa


/- A loop over a method value that hands over a list, one by one. Condition: what the method hands over; what a round keeps. -/
namespace Go.Proofs.Ytnnadhfpkplncaa
open Go.RowKit

theorem wide_anyDepth {m m' : Nat} {P : Program} {l : Nat} {f : FuncId} {tmps : Array Value} {assign body : Code} {w : World} {R : Ending → World → Prop}
    (h : RoundIn Fence.wide m P l f tmps assign body w R) : RoundIn Fence.wide m' P l f tmps assign body w R := ⟨h.1, fun c cs _ => h.2 c cs (room_wide _)⟩
/-- A method value that hands over all of xs, in order; it writes nothing itself. -/
def AllOf {α : Type} (P : Program) (gf : Nat) (fb : Array Value) (encs : α → Array Value) (xs : List α) (w : World) : Prop :=
  ∀ (m l : Nat) (J : List α → World → Prop) (W : World), Below w.heap.size w W →
    (∀ k pre x W1, J pre W1 → pre.length < xs.length → x ∈ xs → YieldAt Fence.wide k P l (encs x) W1 fun e W' => e = .returned (.bool true) ∧ J (pre ++ [x]) W' ∧ Below w.heap.size W1 W') →
    J [] W → CallsIn Fence.wide m P gf (fb ++ #[.func (.yield l) #[] #[]]) W fun e W' => (∃ v, e = .returned v) ∧ J xs W'
/-- How a round must be left: at its end; nothing but cells turns from block B on; nothing turns below n₀. -/
def roundEnd {α : Type} (n₀ B : Nat) (I : List α → World → Prop) (xs : List α) (W : World) : Exit → Act → World → Prop
  | .normal, _, W' => KeepsFrom B W W' ∧ Below n₀ W W' ∧ I xs W'
  | .ret, _, _ => False
  | .exit _, _, _ => False
  | .goto _, _, _ => False
  | .panic _, _, _ => False
  | .outgrown, _, _ => False
theorem range_all {α : Type} {P : Program} {n : Nat} {w : World} {g : Operand} {ps : Array Tmp} {assign body : Code} {Q : Exit → Act → World → Prop} {a : Act} (gf : Nat) (fb : Array Value) (hg : a.eval g = .func (.func gf) fb #[])
    (eg : ∀ args w, (callFunc gf args).run P w = .ok (.enter gf args) w) {encs : α → Array Value} {xs : List α} {w0 : World} (hseq : AllOf P gf fb encs xs w0) (hb0 : Below w0.heap.size w0 w) (hps : ∀ x, (encs x).size = ps.size)
    (I : List α → World → Prop) (hI : OwnFrom w.heap.size I) (h0 : I [] w) (a₁ : α → Act)
    (hassign : ∀ (l : Nat) (x : α) (W : World) (K : Act → World → Prop), K (a₁ x) W → assign.wpIn (Fence.wide.inRound l) (n - 1 - 1) P (Exit.then K (fun _ _ _ => False)) { tmps := (ps.zip (encs x)).foldl (fun t (p, v) => t.setIfInBounds p v) a.tmps, defers := [] } W)
    (hbody : ∀ (l : Nat) (pre : List α) (x : α) (W : World), I pre W → pre.length < xs.length → x ∈ xs → body.wpIn (Fence.wide.inRound l) (n - 1 - 1) P (roundEnd w0.heap.size w.heap.size I (pre ++ [x]) W) (a₁ x) W)
    (hdone : ∀ (D : Nat) (W : World), w.heap.size ≤ D → I xs W → W.heap[D]? = some (.deferred (some [])) → Q .normal { a with defers := { target := .collected D, args := #[] } :: a.defers } W) :
    (Code.rangeFunc g ps assign body).wpIn Fence.wide n P Q a w := by
  refine wpIn_rangeFunc ?_
  intro fn hfn
  obtain ⟨rec, hrec⟩ : ∃ rec : LoopState → Option Code → Loop, rec = fun st pe => { state := st, pending := pe, fn, tmps := a.tmps, params := ps, assign, body, defers := w.heap.size } := ⟨_, rfl⟩
  obtain ⟨W1, hW1⟩ : ∃ W1, (w.alloc (.deferred (some []))).alloc (.loop (rec .ready none)) = W1 := ⟨_, rfl⟩
  have hL1 : W1.heap[w.heap.size + 1]? = some (.loop (rec .ready none)) := by
    have := World.alloc_heap_new (w.alloc (.deferred (some []))) (.loop (rec .ready none))
    rw [World.size_alloc] at this
    rw [← hW1]; exact this
  have hD1 : W1.heap[w.heap.size]? = some (.deferred (some [])) := by
    rw [← hW1]; exact (Below.heap_alloc _ _ _ (by simp)).trans (World.alloc_heap_new w _)
  have hI1 : I [] W1 := by rw [← hW1]; exact hI.alloc _ (hI.alloc _ h0)
  have hb1 : Below w0.heap.size w0 W1 := by rw [← hW1]; exact (hb0.alloc hb0.size _).alloc (by have := hb0.size; simp; omega) _
  have hturn : ∀ (W : World) (k : Nat) (o o' : Obj), w.heap.size ≤ k → W.heap[k]? = some o → Below w0.heap.size W (W.putObj k o') := fun W k o o' hk ho =>
    (Below.refl _ W).grown (grownBy_putObj' W k o') (by have := (Array.getElem?_eq_some_iff.1 ho).1; have := hb0.size; omega) (fun r e => by cases e; have := hb0.size; omega)
  refine ⟨w.heap.size + 1, [{ target := .collected w.heap.size, args := #[] }], W1, { target := .fn (.func gf) #[], args := fb ++ #[.func (.yield (w.heap.size + 1)) #[] #[]] }, W1, gf, fb ++ #[.func (.yield (w.heap.size + 1)) #[] #[]], W1, ?_, ?_, fun _ _ => trivial, ?_, fun h => (by cases h), ?_⟩
  · rw [← hW1, hrec]; exact run_enterLoop_outer _ _ _ _ _
  · simp only [resolve, hg]
    simp [go_sem]
  · simp [invoke, go_sem, eg]
  · refine (hseq (n - 1) (w.heap.size + 1) (fun pre W => I pre W ∧ W.heap[w.heap.size + 1]? = some (.loop (rec .ready none)) ∧ W.heap[w.heap.size]? = some (.deferred (some []))) W1 hb1 ?_ ⟨hI1, hL1, hD1⟩).mono ?_
    · rintro k pre x W ⟨hi, hl, hk⟩ hlen hx
      have hy := run_yield (P := P) (args := encs x) hl (by rw [hrec]; exact hps x)
      rw [hrec] at hy
      refine ⟨fn, _, assign, body, hy, wide_anyDepth (roundIn_of_wpIn (n := n - 1 - 1) hfn (hassign _ x W _ ?_))⟩
      clear hy
      have hlt := (Array.getElem?_eq_some_iff.1 hl).1
      refine ⟨_, run_beginRound hl (by rw [hrec]), ?_⟩
      obtain ⟨W2, hW2⟩ : ∃ W2, W.putObj (w.heap.size + 1) (.loop { rec .ready none with state := .busy }) = W2 := ⟨_, rfl⟩
      have hl2 : W2.heap[w.heap.size + 1]? = some (.loop { rec .ready none with state := .busy }) := by rw [← hW2]; exact World.putObj_heap_same hlt
      have hk2 : W2.heap[w.heap.size]? = some (.deferred (some [])) := by rw [← hW2]; exact (World.putObj_heap_other (by omega)).trans hk
      have hb2 : Below w0.heap.size W W2 := by rw [← hW2]; exact hturn W _ _ _ (by omega) hl
      have hi2 : I pre W2 := by rw [← hW2]; exact hI.putObj _ hi (by omega) hl rfl
      rw [hW2]
      refine wpIn_mono (hbody _ pre x W2 hi2 hlen hx) ?_
      rintro e a3 W3 hp
      cases e with
      | normal =>
        obtain ⟨hk3, hb3, hi3⟩ := hp
        have hl3 := hk3.same _ _ (by omega) hl2 rfl
        have hd3 := hk3.same _ _ (Nat.le_refl _) hk2 rfl
        have hr := run_endRound (P := P) none hl3
        refine ⟨_, _, hr, rfl, ⟨hI.putObj _ hi3 (by omega) hl3 rfl, ?_, (World.putObj_heap_other (by omega)).trans hd3⟩, (hb2.trans hb3).trans (hturn W3 _ _ _ (by omega) hl3)⟩
        rw [World.putObj_heap_same (Array.getElem?_eq_some_iff.1 hl3).1, hrec]
        rfl
      | ret => exact hp.elim
      | exit id => exact hp.elim
      | goto t => exact hp.elim
      | panic c => exact hp.elim
      | outgrown => exact hp.elim
    · rintro e W2 ⟨⟨v, rfl⟩, hi, hl, hk⟩
      have hr := run_endLoop (P := P) hl (by rw [hrec]; simp)
      refine ⟨none, _, by rw [hr, hrec], ?_⟩
      exact hdone _ _ (Nat.le_refl _) (hI.putObj _ hi (by omega) hl rfl) ((World.putObj_heap_other (by omega)).trans hk)
end Go.Proofs.Ytnnadhfpkplncaa


/- All places that have a number, handed to a loop's body, one by one. Condition: the tree reads. -/
namespace Go.Proofs.Ytnnadhfpkplncaa
open Go.RowKit
attribute [local go_sem] Oper.semAt_some

/-- The places of the group g of depth D that have a number, in order. -/
def itemsL (f : Nat → Int) : Nat → Nat → List Nat
  | 0, g => (List.range 16).flatMap fun i => if f (g * 16 + i) = 0 then [] else [g * 16 + i]
  | D + 1, g => (List.range 16).flatMap fun i => itemsL f D (g * 16 + i)
theorem items_bare {f : Nat → Int} : ∀ D g, Bare D g f → itemsL f D g = []
  | 0, g, h => by
    unfold itemsL
    refine List.flatMap_eq_nil_iff.2 fun i hi => ?_
    have e : f (g * 16 + i) = 0 := h i (List.mem_range.1 hi)
    rw [if_pos e]
  | D + 1, g, h => by
    unfold itemsL
    exact List.flatMap_eq_nil_iff.2 fun i hi => items_bare D _ (bare_succ.1 h i (List.mem_range.1 hi))
theorem flat_take {α : Type} (L : Nat → List α) (k : Nat) {n : Nat} (h : k ≤ n) : ((List.range k).flatMap L).length ≤ ((List.range n).flatMap L).length := by
  induction n with
  | zero => obtain rfl : k = 0 := by omega
            exact Nat.le_refl _
  | succ n ih =>
    by_cases e : k = n + 1
    · subst e; exact Nat.le_refl _
    · rw [range_flat, List.length_append]
      have := ih (by omega)
      omega
def yArgs (f : Nat → Int) (x : Nat) : Array Value := #[.int .i64 x, .int .i64 (f x)]
/-- What a round of the loop's body keeps. -/
def Yields (f : Nat → Int) (X : List Nat) (N n₀ l : Nat) (J : List Nat → World → Prop) : Prop :=
  ∀ k pre x W1, J pre W1 → pre.length < N → x ∈ X → YieldAt Fence.wide k Try.prog l (yArgs f x) W1 fun e W' => e = .returned (.bool true) ∧ J (pre ++ [x]) W' ∧ Below n₀ W1 W'
def WalkPost (n₀ : Nat) (J : List Nat → World → Prop) (xs : List Nat) (W : World) (e : Ending) (W' : World) : Prop := e = .returned (.bool true) ∧ J xs W' ∧ Below n₀ W W'
set_option maxRecDepth 100000 in
set_option maxHeartbeats 1600000 in
theorem walk_nil (m l n₀ : Nat) (J : List Nat → World → Prop) (xs : List Nat) (r g : Int) (W : World) (hJ : J xs W) :
    CallsIn Fence.wide m Try.prog 65 #[.pointer none, .int .i64 r, .int .i64 g, .func (.yield l) #[] #[]] W (WalkPost n₀ J xs W) := by
  have H := Lib.hid hJ
  clear hJ
  refine callsIn_of_wp Try.func65 rfl trivial ?_ rfl
  simp only [Try.ntmps65, List.size_toArray, List.length_cons, List.length_nil, Nat.reduceAdd, Nat.reduceSub, Array.replicate_succ, Array.replicate_zero, List.push_toArray, List.append_toArray, List.nil_append, List.cons_append]
  gi_wp2
  go_ret
  exact ⟨rfl, H.out, Below.refl _ _⟩
set_option maxRecDepth 100000 in
set_option maxHeartbeats 1600000 in
theorem walk_leaf (f : Nat → Int) (b g : Nat) (w0 : World) (hb : w0.heap[b]? = some (.cells (nodeC (List.replicate 16 none) (numC f g)) 87 (0, 0))) (hg : g ≤ 255) (X : List Nat) (N l : Nat) (J : List Nat → World → Prop) (hY : Yields f X N w0.heap.size l J)
    (m : Nat) (pre : List Nat) (W : World) (hW : Below w0.heap.size w0 W) (hJ : J pre W) (hN : pre.length + (itemsL f 0 g).length ≤ N) (hX : ∀ x ∈ itemsL f 0 g, x ∈ X) :
    CallsIn Fence.wide m Try.prog 65 #[.pointer (some ⟨b, 0, none⟩), .int .i64 2, .int .i64 g, .func (.yield l) #[] #[]] W (WalkPost w0.heap.size J (pre ++ itemsL f 0 g) W) := by
  have HB := Lib.hid hb
  have HY := Lib.hid hY
  have HW := Lib.hid hW
  have HJ := Lib.hid hJ
  have HN := Lib.hid hN
  have HX := Lib.hid hX
  have hgi : (g : Int) ≤ 255 := by omega
  clear hb hY hW hJ hN hX
  refine callsIn_of_wp Try.func65 rfl trivial ?_ rfl
  simp only [Try.ntmps65, List.size_toArray, List.length_cons, List.length_nil, Nat.reduceAdd, Nat.reduceSub, Array.replicate_succ, Array.replicate_zero, List.push_toArray, List.append_toArray, List.nil_append, List.cons_append]
  gi_wp2
  gi_loopw [13] (fun i wr => ∃ k : Nat, k ≤ 16 ∧ i = .int .i64 k ∧ Hid (J (pre ++ (List.range k).flatMap fun i => if f (g * 16 + i) = 0 then [] else [g * 16 + i]) wr ∧ Below w0.heap.size W wr)) (fun i _ => 16 - (intOf i).toNat)
  case atStart => exact ⟨0, by omega, rfl, by simpa using HJ.out, Below.refl _ _⟩
  case round =>
    obtain ⟨k, hk, rfl, hin⟩ := hrel
    by_cases hlt : k < 16
    · obtain ⟨v, hv⟩ : ∃ v, v = f (g * 16 + k) := ⟨_, rfl⟩
      have hc : wr.cell? ⟨b, 16 + k, none⟩ = some (.int .i64 v) := by
        have h1 := ((HW.out.trans hin.out.2).block b (block_lt HB.out)).trans HB.out
        rw [block_cell h1, nodeC_num (by simp) (numC_at hlt), hv]
      have hki : (k : Int) < 16 := by omega
      by_cases hz : v = 0
      · subst hz
        have HI := Lib.hid hin
        have HV := Lib.hid hv
        clear hin hv
        gi_wp2
        refine ⟨fun _ h => (by cases h), ?_⟩
        gi_wp2
        go_roundw
        case rel => exact ⟨k + 1, by omega, by go_num, by rw [range_flat, if_pos HV.out.symm, List.append_nil]; exact HI⟩
        case measure => simp [intOf]; omega
      · have hvb : (v != 0) = true := by simp [hz]
        have hmem : g * 16 + k ∈ itemsL f 0 g := by
          unfold itemsL
          exact List.mem_flatMap.2 ⟨k, List.mem_range.2 hlt, by rw [if_neg (by rw [← hv]; exact hz)]; simp⟩
        have hlen : (pre ++ (List.range k).flatMap fun i => if f (g * 16 + i) = 0 then [] else [g * 16 + i]).length < N := by
          have h1 := HN.out
          have h2 := flat_take (fun i => if f (g * 16 + i) = 0 then [] else [g * 16 + i]) (k + 1) (by omega : k + 1 ≤ 16)
          rw [range_flat, List.length_append, if_neg (by rw [← hv]; exact hz)] at h2
          simp only [List.length_singleton] at h2
          unfold itemsL at h1
          rw [List.length_append]
          omega
        obtain ⟨fn, tmps, assign, body, hy, hR⟩ := HY.out (m - 1) _ _ wr hin.out.1 hlen (HX.out _ hmem)
        have HI := Lib.hid hin
        have HR := Lib.hid hR
        unfold yArgs at hy
        rw [← hv, show ((g * 16 + k : Nat) : Int) = (g : Int) * 16 + (k : Int) by omega] at hy
        have HV := Lib.hid hv
        have HZ := Lib.hid hz
        clear hin hv hmem hlen hR hz
        gi_wp2
        refine ⟨fun h => (by cases h), HR.out.mono ?_⟩
        rintro e W3 ⟨rfl, hJ3, hb3⟩
        have HJ3 := Lib.hid hJ3
        have HB3 := Lib.hid (HI.out.2.trans hb3)
        clear hJ3 hb3 hy HR
        gi_wp2
        go_roundw
        case rel => exact ⟨k + 1, by omega, by go_num, by rw [range_flat, if_neg (by rw [← HV.out]; exact HZ.out), ← List.append_assoc]; exact ⟨HJ3.out, HB3.out⟩⟩
        case measure => simp [intOf]; omega
    · obtain rfl : k = 16 := by omega
      gi_wp2
      go_ret
      exact ⟨rfl, hin.out⟩
set_option maxRecDepth 100000 in
set_option maxHeartbeats 1600000 in
theorem walk_node (f : Nat → Int) (S : Nat → Nat → Option Nat) (D r : Nat) (hD : D + r = 1) (b g : Nat) (w0 : World) (hb : w0.heap[b]? = some (.cells (nodeC (armC S D g) (List.replicate 16 0)) 87 (0, 0))) (hg : g ≤ 255) (N l : Nat) (J : List Nat → World → Prop)
    (hsub : ∀ i, i < 16 → ∀ m pre W, Below w0.heap.size w0 W → J pre W → pre.length + (itemsL f D (g * 16 + i)).length ≤ N →
      CallsIn Fence.wide m Try.prog 65 #[.pointer (ptr (S D (g * 16 + i))), .int .i64 ((r : Int) + 1), .int .i64 ((g : Int) * 16 + (i : Int)), .func (.yield l) #[] #[]] W (WalkPost w0.heap.size J (pre ++ itemsL f D (g * 16 + i)) W))
    (m : Nat) (pre : List Nat) (W : World) (hW : Below w0.heap.size w0 W) (hJ : J pre W) (hN : pre.length + (itemsL f (D + 1) g).length ≤ N) :
    CallsIn Fence.wide m Try.prog 65 #[.pointer (some ⟨b, 0, none⟩), .int .i64 r, .int .i64 g, .func (.yield l) #[] #[]] W (WalkPost w0.heap.size J (pre ++ itemsL f (D + 1) g) W) := by
  have HB := Lib.hid hb
  have HU := Lib.hid hsub
  have HW := Lib.hid hW
  have HJ := Lib.hid hJ
  have HN := Lib.hid hN
  have hgi : (g : Int) ≤ 255 := by omega
  have hri : (r : Int) < 2 := by omega
  clear hb hsub hW hJ hN hD
  refine callsIn_of_wp Try.func65 rfl trivial ?_ rfl
  simp only [Try.ntmps65, List.size_toArray, List.length_cons, List.length_nil, Nat.reduceAdd, Nat.reduceSub, Array.replicate_succ, Array.replicate_zero, List.push_toArray, List.append_toArray, List.nil_append, List.cons_append]
  gi_wp2
  gi_loopw [13] (fun i wr => ∃ k : Nat, k ≤ 16 ∧ i = .int .i64 k ∧ Hid (J (pre ++ (List.range k).flatMap fun i => itemsL f D (g * 16 + i)) wr ∧ Below w0.heap.size W wr)) (fun i _ => 16 - (intOf i).toNat)
  case atStart => exact ⟨0, by omega, rfl, by simpa using HJ.out, Below.refl _ _⟩
  case round =>
    obtain ⟨k, hk, rfl, hin⟩ := hrel
    by_cases hlt : k < 16
    · obtain ⟨p, hp⟩ : ∃ p, p = ptr (S D (g * 16 + k)) := ⟨_, rfl⟩
      have hc : wr.cell? ⟨b, k, none⟩ = some (.pointer p) := by
        have h1 := ((HW.out.trans hin.out.2).block b (block_lt HB.out)).trans HB.out
        rw [block_cell h1, nodeC_arm (armC_at hlt), hp]
      have hki : (k : Int) < 16 := by omega
      have hlen : (pre ++ (List.range k).flatMap fun i => itemsL f D (g * 16 + i)).length + (itemsL f D (g * 16 + k)).length ≤ N := by
        have h1 := HN.out
        have h2 := flat_take (fun i => itemsL f D (g * 16 + i)) (k + 1) (by omega : k + 1 ≤ 16)
        rw [range_flat, List.length_append] at h2
        unfold itemsL at h1
        rw [List.length_append]
        omega
      have hcall := HU.out k hlt (m - 1) _ wr (HW.out.trans hin.out.2) hin.out.1 hlen
      rw [← hp] at hcall
      have HC := Lib.hid hcall
      have HI := Lib.hid hin
      clear hin hcall hlen hp
      gi_wp2_with fail
      refine ⟨trivial, fun h => (by cases h), HC.out.mono ?_⟩
      rintro e W3 ⟨rfl, hJ3, hb3⟩
      have HJ3 := Lib.hid hJ3
      have HB3 := Lib.hid (HI.out.2.trans hb3)
      clear hJ3 hb3 HC
      gi_wp2
      go_roundw
      case rel => exact ⟨k + 1, by omega, by go_num, by rw [range_flat, ← List.append_assoc]; exact ⟨HJ3.out, HB3.out⟩⟩
      case measure => simp [intOf]; omega
    · obtain rfl : k = 16 := by omega
      gi_wp2
      go_ret
      exact ⟨rfl, hin.out⟩
theorem walk_any (f : Nat → Int) (S : Nat → Nat → Option Nat) (w0 : World) (hr : RdD 2 f S w0) (X : List Nat) (N l : Nat) (J : List Nat → World → Prop) (hY : Yields f X N w0.heap.size l J) :
    ∀ D, D ≤ 2 → ∀ g, g < 16 ^ (2 - D) → ∀ m pre W, Below w0.heap.size w0 W → J pre W → pre.length + (itemsL f D g).length ≤ N → (∀ x ∈ itemsL f D g, x ∈ X) →
      CallsIn Fence.wide m Try.prog 65 #[.pointer (ptr (S D g)), .int .i64 ((2 - D : Nat) : Int), .int .i64 g, .func (.yield l) #[] #[]] W (WalkPost w0.heap.size J (pre ++ itemsL f D g) W)
  | 0, _, g, hg, m, pre, W, hW, hJ, hN, hX => by
    cases hs : S 0 g with
    | none =>
      rw [items_bare 0 g ((hr.can 0 g (by omega)).1 hs), List.append_nil]
      exact walk_nil m l _ J pre _ _ W hJ
    | some b => exact walk_leaf f b g w0 (hr.leaf g b hs) (by simp at hg; omega) X N l J hY m pre W hW hJ hN hX
  | D + 1, hD, g, hg, m, pre, W, hW, hJ, hN, hX => by
    cases hs : S (D + 1) g with
    | none =>
      rw [items_bare (D + 1) g ((hr.can (D + 1) g hD).1 hs), List.append_nil]
      exact walk_nil m l _ J pre _ _ W hJ
    | some b =>
      have hp : 16 ^ (2 - D) = 16 * 16 ^ (2 - (D + 1)) := by rw [show 2 - D = (2 - (D + 1)) + 1 by omega, Nat.pow_succ, Nat.mul_comm]
      have hg2 : g ≤ 255 := by
        have : 16 ^ (2 - (D + 1)) ≤ 16 ^ 1 := Nat.pow_le_pow_right (by decide) (by omega)
        omega
      refine walk_node f S D (2 - (D + 1)) (by omega) b g w0 (hr.node D g b hD hs) hg2 N l J ?_ m pre W hW hJ hN
      intro i hi m pre W hW hJ hN
      have := walk_any f S w0 hr X N l J hY D (by omega) (g * 16 + i) (by rw [hp]; omega) m pre W hW hJ hN (fun x hx => hX x (by
        unfold itemsL
        exact List.mem_flatMap.2 ⟨i, List.mem_range.2 hi, hx⟩))
      rw [show ((2 - (D + 1) : Nat) : Int) + 1 = ((2 - D : Nat) : Int) by omega]
      have e : ((g * 16 + i : Nat) : Int) = (g : Int) * 16 + (i : Int) := by omega
      rw [← e]
      exact this
set_option maxHeartbeats 1600000 in
/-- The method each, bound to a tree, hands over all its places. -/
theorem each_all (f : Nat → Int) (S : Nat → Nat → Option Nat) (A : Option Addr) (w : World) (h : RdR f S w A) : AllOf Try.prog 40 #[.pointer A] (yArgs f) (itemsL f 2 0) w := by
  intro m l J W hW hY hJ
  have HO := Lib.hid ((callsIn_wide (n := m - 1)).2 (of_any f S A W (h.below hW)))
  have HW := Lib.hid (walk_any f S w h.1 (itemsL f 2 0) (itemsL f 2 0).length l J hY 2 (Nat.le_refl _) 0 (by decide) (m - 1) [] W hW hJ (by simp) (fun x hx => hx))
  clear hY hW hJ h
  refine callsIn_of_wp Try.func40 rfl trivial ?_ rfl
  simp only [Try.ntmps40, List.size_toArray, List.length_cons, List.length_nil, Nat.reduceAdd, Nat.reduceSub, Array.replicate_succ, Array.replicate_zero, List.push_toArray, List.append_toArray, List.nil_append, List.cons_append]
  gi_wp2_with fail
  refine ⟨trivial, fun h => (by cases h), HO.out.mono ?_⟩
  rintro e w' ⟨rfl, rfl⟩
  gi_wp2_with fail
  refine ⟨trivial, fun h => (by cases h), HW.out.mono ?_⟩
  rintro e w' ⟨rfl, hJ, hb⟩
  have HJ := Lib.hid hJ
  clear hJ hb
  gi_wp2
  refine bodyPost_end (results_none rfl _ _ _) rfl ?_
  exact ⟨⟨_, rfl⟩, HJ.out⟩
end Go.Proofs.Ytnnadhfpkplncaa


/- How many places have a number; which they are. Condition: the tree reads. -/
namespace Go.Proofs.Ytnnadhfpkplncaa
open Go.RowKit Go.Shelf
attribute [local go_sem] Oper.semAt_some

theorem flat_filter {f : Nat → Int} (d g : Nat) : itemsL f d g = ((List.range (span d)).map fun i => g * span d + i).filter fun a => decide (f a ≠ 0) := by
  have key : ∀ (g : Nat) (L : Nat → List Nat) (n s : Nat), (∀ i, L i = ((List.range s).map fun j => (g * n + i) * s + j).filter fun a => decide (f a ≠ 0)) →
      ∀ k, (List.range k).flatMap L = ((List.range (k * s)).map fun i => g * (n * s) + i).filter fun a => decide (f a ≠ 0) := by
    intro g L n s hL k
    induction k with
    | zero => simp
    | succ k ih =>
      rw [range_flat, ih, hL, ← List.filter_append, Nat.succ_mul, List.range_add, List.map_append, List.map_map]
      congr 3
      funext j
      simp only [Function.comp]
      rw [Nat.add_mul, Nat.mul_assoc, Nat.add_assoc]
  induction d generalizing g with
  | zero =>
    have := key g (fun i => if f (g * 16 + i) = 0 then [] else [g * 16 + i]) 16 1 (fun i => by
      by_cases h : f (g * 16 + i) = 0 <;> simp [h]) 16
    unfold itemsL span
    simpa using this
  | succ d ih =>
    have := key g (fun i => itemsL f d (g * 16 + i)) 16 (span d) (fun i => ih (g * 16 + i)) 16
    unfold itemsL span
    exact this
theorem items_eq (f : Nat → Int) : itemsL f 2 0 = (List.range 4096).filter fun a => decide (f a ≠ 0) := by
  rw [flat_filter]
  have : span 2 = 4096 := rfl
  rw [this]
  simp
theorem items_le (f : Nat → Int) : (itemsL f 2 0).length ≤ 4096 := by
  rw [items_eq]
  have := List.length_filter_le (fun a => decide (f a ≠ 0)) (List.range 4096)
  simpa using this
set_option maxRecDepth 100000 in
set_option maxHeartbeats 1600000 in
theorem len_any (f : Nat → Int) (S : Nat → Nat → Option Nat) (A : Option Addr) (w : World) (h : RdR f S w A) :
    Calls Try.prog 23 #[.pointer A] w fun e w' => e = .returned (.int .i64 ((itemsL f 2 0).length : Nat)) ∧ Below w.heap.size w w' := by
  have HS := Lib.hid (each_all f S A w h)
  have hle := items_le f
  have hlt : w.heap.size < (w.alloc (.cells #[.int .i64 0] 3)).heap.size := by simp
  have hcs := Boxed.new w 3 (.int .i64 0)
  clear h
  refine (callsIn_wide (n := 3)).1 ?_
  refine callsIn_of_wp_marks Try.func23 rfl trivial ?_ rfl
  simp only [Try.ntmps23, List.size_toArray, List.length_cons, List.length_nil, Nat.reduceAdd, Nat.reduceSub, Array.replicate_succ, Array.replicate_zero, List.push_toArray, List.append_toArray, List.nil_append, List.cons_append]
  gi_wp2
  have hB0 : Below w.heap.size w (w.alloc (.cells #[.int .i64 0] 3)) := (Below.refl _ w).alloc (Nat.le_refl _) _
  refine range_all 40 #[.pointer A] rfl (enters_of Try.func40 (by kernel_rfl) rfl) HS.out hB0 (fun _ => rfl)
    (fun pre W => Boxed W w.heap.size 3 (.int .i64 (pre.length : Nat)) ∧ Below w.heap.size w W)
    (OwnFrom.and (Own.from (boxed_own _ _ _) _) (ownFrom_below (Nat.le_refl _) (by simp)))
    ⟨by simpa using hcs, hB0⟩
    (fun x => { tmps := #[.pointer A, undef, .int .i64 0, .pointer (some ⟨w.heap.size, 0, none⟩), .pointer A, .func (.func 40) #[.pointer A] #[], .int .i64 x, .int .i64 (f x), undef, undef, undef], defers := [] }) ?assign ?body ?done
  case assign =>
    intro l x W K hK
    unfold yArgs
    gi_wp2
    simpa using hK
  case body =>
    rintro l pre x W ⟨hb, hB⟩ hlen _
    have hc := hb.cell
    have hf := hb.frozen
    have hln : (pre.length : Int) ≤ 4096 := by omega
    have HX := Lib.hid hb
    clear hb
    gi_wp2
    refine ⟨(KeepsOthers.setCell _ _ _).from _, (Below.refl _ W).setCell (p := ⟨w.heap.size, 0, none⟩) (Nat.le_refl _) _, ?_, hB.setCell (p := ⟨w.heap.size, 0, none⟩) (Nat.le_refl _) _⟩
    have := HX.out.set (.int .i64 ((pre ++ [x]).length : Nat))
    rw [List.length_append] at this ⊢
    exact this
  case done =>
    rintro D W hD ⟨hb, hB⟩ hK
    have hc := hb.cell
    have HK := Lib.hid hK
    clear hK
    gi_wp2
    refine ⟨by simp, .inl ⟨_, _, rfl, run_takeDeferred HK.out, ?_⟩⟩
    exact ⟨_, results_tmp rfl _ _ _, rfl, hB.trans (belowK_b (w := w) (Nat.le_refl _) W D _ _ (by simp at hD; omega) HK.out rfl rfl)⟩
end Go.Proofs.Ytnnadhfpkplncaa


/- Two lists grow by one each in one statement, in whatever order. Condition: they are lists of one's own, apart from each other. -/
namespace Go.Proofs.Ytnnadhfpkplncaa
open Go.RowKit

/-- What an operation does. -/
def Does (P : Program) (o : Oper) (a : Act) (w : World) (v : Value) (w' : World) : Prop :=
  (execOp a.eval o).run P w = .ok (.value v) w' ∨ ((execOp a.eval o).run P w = .ok .skip w' ∧ v = undef)
theorem Does.round {P : Program} {ops : Array Oper} {Q : Exit → Act → World → Prop} {l n i : Nat} {o : Oper} {a : Act} {w w' : World} {v : Value} {K : Act → World → Prop} (hi : ops[i]? = some o) (hg : o.guard = none) (hd : ∀ c, o.op ≠ .defer c)
    (h : Does P o a w v w') (hK : K (a.put o.dst v) w') : wpOpIn (Fence.wide.inRound l) n P ops Q i K a w := by
  unfold wpOpIn
  rw [hi]
  have hw : Region.wanted o (yielded ops a.tmps) = true := by simp [Region.wanted, hg]
  simp only [hw, if_true]
  refine ⟨fun _ _ => trivial, ?_⟩
  rw [Oper.semAt_eq _ _ _ hd]
  rcases h with h | ⟨h, rfl⟩ <;> rw [h] <;> exact hK
/-- Whatever order is drawn: an invariant that each operation keeps. -/
theorem any_inv {F : Fence} {n : Nat} {P : Program} {md : Region.Mode} {ops : Array Oper} {Q : Exit → Act → World → Prop} (Inv : Nat → Array Bool → Act → World → Prop)
    (hstep : ∀ fuel listed a w i, Inv (fuel + 1) listed a w → i ∈ Region.ready md ops listed → wpOpIn F n P ops Q i (Inv fuel (listed.setIfInBounds i true)) a w)
    (hdone : ∀ fuel listed a w, Inv fuel listed a w → Region.ready md ops listed = [] → Q .normal a w) (hz : ∀ listed a w, Inv 0 listed a w → Region.ready md ops listed = []) :
    ∀ fuel listed a w, Inv fuel listed a w → wpAnyIn F n P md ops Q fuel listed a w
  | 0, listed, a, w, h => ⟨hz listed a w h, hdone _ _ _ _ h (hz listed a w h)⟩
  | fuel + 1, listed, a, w, h => ⟨fun hr => hdone _ _ _ _ h hr, fun i hi => wpOpIn_mono (fun a' w' h' => any_inv Inv hstep hdone hz fuel _ a' w' h') (hstep fuel listed a w i h hi)⟩
/-- One of the two lists on its way: loaded, its number moved, that boxed, appended, stored. -/
structure Ch (base : Nat) (E T : TypeId) (tb tx t0 t1 t2 t3 : Nat) (B : Nat) (v : Value) (n : Nat) (xs : List Value) (x : Value) (p q r s z : Bool) (K : Nat → Prop) (a : Act) (w : World) : Prop where
  hb : a.eval (.tmp tb) = .pointer (some ⟨B, 0, none⟩)
  hx : a.eval (.tmp tx) = x
  h0 : p = true → a.eval (.tmp t0) = v
  h1 : q = true → a.eval (.tmp t1) = x
  h2 : r = true → s = false → ∃ g, a.eval (.tmp t2) = .slice (some ⟨g, 0, none⟩) 1 1 ∧ w.heap[g]? = some (.cells #[x] E (0, 0)) ∧ K g
  h3 : s = false → w.ownsRow base E 1 v n xs ∧ ∀ k, v.ownBlock = some k → K k
  h4 : s = true → w.ownsRow base E 1 (a.eval (.tmp t3)) (n + 1) (xs ++ [x]) ∧ ∀ k, (a.eval (.tmp t3)).ownBlock = some k → K k
  hbox : Boxed w B T (if z = true then a.eval (.tmp t3) else v)
  hKB : K B
  hKlt : ∀ k, K k → base ≤ k ∧ k < w.heap.size
  o1 : s = true → p = true ∧ r = true
  o2 : r = true → q = true
  o3 : z = true → s = true
section
variable {base : Nat} {E T : TypeId} {tb tx t0 t1 t2 t3 : Nat} {B : Nat} {v : Value} {n : Nat} {xs : List Value} {x : Value} {p q r s z : Bool} {K : Nat → Prop} {a : Act} {w : World}
theorem Ch.keep (h : Ch base E T tb tx t0 t1 t2 t3 B v n xs x p q r s z K a w) {a' : Act} {w' : World} {row : Option Nat} (he : ∀ t, t = tb ∨ t = tx ∨ t = t0 ∨ t = t1 ∨ t = t2 ∨ t = t3 → a'.eval (.tmp t) = a.eval (.tmp t))
    (hg : w.grownBy w' row) (hr : ∀ k, row = some k → ¬ K k) : Ch base E T tb tx t0 t1 t2 t3 B v n xs x p q r s z K a' w' := by
  have hblk : ∀ k, K k → w'.heap[k]? = w.heap[k]? := fun k hk => hg.block k (h.hKlt k hk).2 fun e => hr k e.symm hk
  have hrow : ∀ (u : Value) (m : Nat) (ys : List Value), w.ownsRow base E 1 u m ys → (∀ k, u.ownBlock = some k → K k) → w'.ownsRow base E 1 u m ys := fun u m ys hu hk => hu.kept hg (by
    cases hub : u.ownBlock with
    | none => exact Or.inl rfl
    | some k => exact Or.inr fun e => hr k e.symm (hk k hub))
  refine ⟨by rw [he _ (by simp)]; exact h.hb, by rw [he _ (by simp)]; exact h.hx, fun e => by rw [he _ (by simp)]; exact h.h0 e, fun e => by rw [he _ (by simp)]; exact h.h1 e, fun e e' => ?_, fun e => ⟨hrow _ _ _ (h.h3 e).1 (h.h3 e).2, (h.h3 e).2⟩, fun e => ?_, ?_, h.hKB, fun k hk => ⟨(h.hKlt k hk).1, Nat.lt_of_lt_of_le (h.hKlt k hk).2 hg.size⟩, h.o1, h.o2, h.o3⟩
  · obtain ⟨g, g1, g2, g3⟩ := h.h2 e e'
    exact ⟨g, by rw [he _ (by simp)]; exact g1, (hblk g g3).trans g2, g3⟩
  · rw [he _ (by simp)]; exact ⟨hrow _ _ _ (h.h4 e).1 (h.h4 e).2, (h.h4 e).2⟩
  · rw [he _ (by simp)]; exact (hblk B h.hKB).trans h.hbox
theorem Ch.wider (h : Ch base E T tb tx t0 t1 t2 t3 B v n xs x p q r s z K a w) {K' : Nat → Prop} (hK : ∀ k, K k → K' k) (hK' : ∀ k, K' k → base ≤ k ∧ k < w.heap.size) : Ch base E T tb tx t0 t1 t2 t3 B v n xs x p q r s z K' a w :=
  ⟨h.hb, h.hx, h.h0, h.h1, fun e e' => (h.h2 e e').imp fun _ ⟨g1, g2, g3⟩ => ⟨g1, g2, hK _ g3⟩, fun e => ⟨(h.h3 e).1, fun k hk => hK k ((h.h3 e).2 k hk)⟩, fun e => ⟨(h.h4 e).1, fun k hk => hK k ((h.h4 e).2 k hk)⟩, h.hbox, hK _ h.hKB, hK', h.o1, h.o2, h.o3⟩
/-- A step of a chain: what it yields; which block it writes; which blocks it takes. -/
def StepsTo (P : Program) (o : Oper) (a : Act) (w : World) (K : Nat → Prop) (C : (Nat → Prop) → Act → World → Prop) : Prop :=
  ∃ u w' row K', Does P o a w u w' ∧ w.grownBy w' row ∧ (∀ k, row = some k → K k ∧ ∃ cs t, w.heap[k]? = some (.cells cs t (0, 0))) ∧ (∀ k, K' k → K k ∨ w.heap.size ≤ k) ∧ C K' (a.put o.dst u) w'
variable {P : Program} {o : Oper}
theorem eval_ne {a : Act} {t d : Nat} {u : Value} (h : t ≠ d) : (a.put (some d) u).eval (.tmp t) = a.eval (.tmp t) := Act.eval_put fun d' hd => by cases hd; intro e; cases e; exact h rfl
theorem Ch.flags (h : Ch base E T tb tx t0 t1 t2 t3 B v n xs x p q r s z K a w) (hs : s = false) : z = false := by
  cases z with
  | false => rfl
  | true => rw [h.o3 rfl] at hs; cases hs
theorem Ch.load (h : Ch base E T tb tx t0 t1 t2 t3 B v n xs x false q r s z K a w) (ho : o.op = .load T (.tmp tb)) (hd : o.dst = some t0) (hsz : t0 < a.tmps.size) (hagg : ∀ w, (isAgg T).run P w = .ok false w)
    (hne : t0 ≠ tb ∧ t0 ≠ tx ∧ t0 ≠ t1 ∧ t0 ≠ t2 ∧ t0 ≠ t3) : StepsTo P o a w K fun K' a' w' => Ch base E T tb tx t0 t1 t2 t3 B v n xs x true q r s z K' a' w' := by
  have hs : s = false := by cases s with
    | false => rfl
    | true => exact absurd (h.o1 rfl).1 (by simp)
  have hz := h.flags hs
  subst hs hz
  have hbox := h.hbox
  simp only [Bool.false_eq_true, if_false] at hbox
  refine ⟨v, w, none, K, Or.inl ?_, World.grownBy.refl w none, fun k e => (by cases e), fun k hk => Or.inl hk, ?_⟩
  · have hc := hbox.cell
    have hl : (Instr.loadAt T (.pointer (some ⟨B, 0, none⟩))).run P w = .ok v w := by
      simp [Instr.loadAt, Instr.sureAddr, loadVar, hagg, hc, go_sem]
    unfold execOp
    simp only [ho, h.hb, Sem.run_bind, hl, Result.andThen_ok, Sem.run_pure]
  · rw [hd]
    obtain ⟨n1, n2, n3, n4, n5⟩ := hne
    exact ⟨by rw [eval_ne n1.symm]; exact h.hb, by rw [eval_ne n2.symm]; exact h.hx, fun _ => Act.eval_put_same _ _ _ hsz, fun e => by rw [eval_ne n3.symm]; exact h.h1 e, fun e e' => by rw [eval_ne n4.symm]; exact h.h2 e e', h.h3, fun e => (by cases e), by simpa using hbox, h.hKB, h.hKlt, fun e => (by cases e), h.o2, fun e => (by cases e)⟩
theorem Ch.move (h : Ch base E T tb tx t0 t1 t2 t3 B v n xs x p false r s z K a w) (ho : o.op = .move (.tmp tx)) (hd : o.dst = some t1) (hsz : t1 < a.tmps.size)
    (hne : t1 ≠ tb ∧ t1 ≠ tx ∧ t1 ≠ t0 ∧ t1 ≠ t2 ∧ t1 ≠ t3) : StepsTo P o a w K fun K' a' w' => Ch base E T tb tx t0 t1 t2 t3 B v n xs x p true r s z K' a' w' := by
  refine ⟨x, w, none, K, Or.inl ?_, World.grownBy.refl w none, fun k e => (by cases e), fun k hk => Or.inl hk, ?_⟩
  · unfold execOp
    simp only [ho, h.hx, Sem.run_pure]
  · rw [hd]
    obtain ⟨n1, n2, n3, n4, n5⟩ := hne
    exact ⟨by rw [eval_ne n1.symm]; exact h.hb, by rw [eval_ne n2.symm]; exact h.hx, fun e => by rw [eval_ne n3.symm]; exact h.h0 e, fun _ => Act.eval_put_same _ _ _ hsz, fun e e' => by rw [eval_ne n4.symm]; exact h.h2 e e', h.h3, fun e => by rw [eval_ne n5.symm]; exact h.h4 e, by rw [eval_ne n5.symm]; exact h.hbox, h.hKB, h.hKlt, h.o1, fun _ => rfl, h.o3⟩
theorem Ch.build (h : Ch base E T tb tx t0 t1 t2 t3 B v n xs x p true false s z K a w) (ho : o.op = .buildSlice T 1 #[(0, .tmp t1)]) (hd : o.dst = some t2) (hsz : t2 < a.tmps.size)
    (hrun : (Instr.buildSlice T 1 #[(0, x)]).run P w = .ok (.slice (some ⟨w.heap.size, 0, none⟩) 1 1) (w.alloc (.cells #[x] E))) (hbase : base ≤ w.heap.size)
    (hne : t2 ≠ tb ∧ t2 ≠ tx ∧ t2 ≠ t0 ∧ t2 ≠ t1 ∧ t2 ≠ t3) : StepsTo P o a w K fun K' a' w' => Ch base E T tb tx t0 t1 t2 t3 B v n xs x p true true s z K' a' w' := by
  have hs : s = false := by cases s with
    | false => rfl
    | true => exact absurd (h.o1 rfl).2 (by simp)
  have hz := h.flags hs
  subst hs hz
  have hg := World.grownBy_alloc w (.cells #[x] E) none
  refine ⟨.slice (some ⟨w.heap.size, 0, none⟩) 1 1, w.alloc (.cells #[x] E), none, fun k => K k ∨ k = w.heap.size, Or.inl ?_, hg, fun k e => (by cases e), fun k hk => hk.imp id fun e => Nat.le_of_eq e.symm, ?_⟩
  · unfold execOp
    simp only [ho, List.map_toArray, List.map_cons, List.map_nil, h.h1 rfl, Sem.run_bind, hrun, Result.andThen_ok, Sem.run_pure]
  · rw [hd]
    obtain ⟨n1, n2, n3, n4, n5⟩ := hne
    have hk := (h.keep (a' := a) (fun _ _ => rfl) hg (fun k e => by cases e)).wider (K' := fun k => K k ∨ k = w.heap.size) (fun k hk => Or.inl hk) (fun k hk => by
      have hsz1 : (w.alloc (.cells #[x] E)).heap.size = w.heap.size + 1 := by simp
      rw [hsz1]
      rcases hk with hk | hk
      · have := h.hKlt k hk; omega
      · omega)
    exact ⟨by rw [eval_ne n1.symm]; exact h.hb, by rw [eval_ne n2.symm]; exact h.hx, fun e => by rw [eval_ne n3.symm]; exact h.h0 e, fun e => by rw [eval_ne n4.symm]; exact h.h1 e, fun _ _ => ⟨w.heap.size, Act.eval_put_same _ _ _ hsz, heap_alloc_new _ _, Or.inr rfl⟩, hk.h3, fun e => (by cases e), by rw [eval_ne n5.symm]; exact hk.hbox, hk.hKB, hk.hKlt, fun e => (by cases e), fun _ => rfl, h.o3⟩
theorem own_plain {m : Nat} {ys : List Value} {u : Value} {k : Nat} (h : w.ownsRow base E 1 u m ys) (hk : u.ownBlock = some k) : ∃ cs, w.heap[k]? = some (.cells cs E (0, 0)) := by
  rcases h.2 with ⟨rfl, _⟩ | ⟨g, c, cur, rfl, _, hg, _⟩
  · cases hk
  · cases hk; exact ⟨cur, hg⟩
theorem Ch.app (h : Ch base E T tb tx t0 t1 t2 t3 B v n xs x true q true false z K a w) (ho : o.op = .call { callee := .builtin .append, args := #[.tmp t0, .tmp t2], argTypes := #[T, T] }) (hd : o.dst = some t3) (hsz : t3 < a.tmps.size)
    (i : TypeInfo) (zv : Value) (ht : P.underlying T = some (.slice E)) (hi : P.info? E = some i) (hzv : i.zero = some zv) (hi1 : i.size = 1) (hi8 : i.bytes = 8) (hzs : zv.cells.size = 1) (hx1 : x.oneCell' = true) (hn : n ≤ 1048576) (hbase : base ≤ w.heap.size) (hET : T ≠ E)
    (hne : t3 ≠ tb ∧ t3 ≠ tx ∧ t3 ≠ t0 ∧ t3 ≠ t1 ∧ t3 ≠ t2) : StepsTo P o a w K fun K' a' w' => Ch base E T tb tx t0 t1 t2 t3 B v n xs x true q true true z K' a' w' := by
  have hz := h.flags rfl
  subst hz
  obtain ⟨g, g1, g2, g3⟩ := h.h2 rfl rfl
  obtain ⟨hrow, hrK⟩ := h.h3 rfl
  have hbox := h.hbox
  simp only [Bool.false_eq_true, if_false] at hbox
  obtain ⟨u, w', hrun, hown, hgr, _, hat⟩ := run_append_own_at (P := P) w base T o.type E i zv 1 8 ht hi hzv hi1 hi8 hzs (by decide) v n xs hrow ⟨g, 0, none⟩ 1 1 [x] rfl (fun j y hj => by
    match j, hj with
    | 0, hj => cases hj; rw [show (⟨g, 0, none⟩ : Addr).add 0 = ⟨g, 0, none⟩ from rfl, block_cell g2]; rfl) (fun y hy => by rw [List.mem_singleton.1 hy]; exact hx1) (by unfold maxLen; omega) (by omega) hbase
  have hB' : Boxed w' B T v := hbox.kept hgr (hbox.not_row hET hrow)
  refine ⟨u, w', v.ownBlock, fun k => K k ∨ u.ownBlock = some k, Or.inl ?_, hgr, fun k e => ⟨hrK k e, ?_⟩, fun k hk => ?_, ?_⟩
  · unfold execOp
    simp only [ho, resolve, invoke, builtin, Sem.run_bind, Sem.run_pure, Result.andThen_ok, List.map_toArray, List.map_cons, List.map_nil, h.h0 rfl, g1, hrun]
  · obtain ⟨cs, hcs⟩ := own_plain hrow e
    exact ⟨cs, E, hcs⟩
  · rcases hk with hk | hk
    · exact Or.inl hk
    · rcases hat with e | e
      · rw [e] at hk; exact Or.inl (hrK k hk)
      · rw [e] at hk; cases hk; exact Or.inr (Nat.le_refl _)
  · rw [hd]
    obtain ⟨n1, n2, n3, n4, n5⟩ := hne
    refine ⟨by rw [eval_ne n1.symm]; exact h.hb, by rw [eval_ne n2.symm]; exact h.hx, fun e => by rw [eval_ne n3.symm]; exact h.h0 e, fun e => by rw [eval_ne n4.symm]; exact h.h1 e, fun _ e => (by cases e), fun e => (by cases e), fun _ => ?_, by simpa using hB', Or.inl h.hKB, fun k hk => ?_, fun _ => ⟨rfl, rfl⟩, h.o2, fun _ => rfl⟩
    · rw [Act.eval_put_same _ _ _ hsz]
      exact ⟨hown, fun k hk => Or.inr hk⟩
    · rcases hk with hk | hk
      · exact ⟨(h.hKlt k hk).1, Nat.lt_of_lt_of_le (h.hKlt k hk).2 hgr.size⟩
      · exact hown.lt k hk
theorem Ch.store (h : Ch base E T tb tx t0 t1 t2 t3 B v n xs x p q r true false K a w) (ho : o.op = .store T (.tmp tb) (.tmp t3)) (hd : o.dst = none) (hi : (P.info? T).map (·.size) = some 1) (hET : T ≠ E) :
    StepsTo P o a w K fun K' a' w' => Ch base E T tb tx t0 t1 t2 t3 B v n xs x p q r true true K' a' w' := by
  have hbox := h.hbox
  simp only [Bool.false_eq_true, if_false] at hbox
  obtain ⟨hrow, hrK⟩ := h.h4 rfl
  obtain ⟨g, c, hu⟩ := ownsRow_succ hrow
  have h1 : (a.eval (.tmp t3)).oneCell' = true := by rw [hu]; rfl
  have hst := run_storeVar_one (P := P) w B T T v _ hbox hi h1
  have hg : w.grownBy (w.setRow B #[a.eval (.tmp t3)]) (some B) := ⟨rfl, rfl, rfl, by simp, fun k _ hk => setRow_other w B k _ (fun e => hk (by rw [e]))⟩
  refine ⟨undef, _, some B, K, Or.inr ⟨?_, rfl⟩, hg, fun k e => ?_, fun k hk => Or.inl hk, ?_⟩
  · unfold execOp
    simp only [ho, h.hb, Instr.storeAt, Instr.sureAddr, Sem.run_bind, Sem.run_pure, Result.andThen_ok, hst]
  · cases e; exact ⟨h.hKB, _, _, hbox⟩
  · rw [hd]
    have hkeep : ∀ (y : Value) (m : Nat) (ys : List Value), w.ownsRow base E 1 y m ys → (w.setRow B #[a.eval (.tmp t3)]).ownsRow base E 1 y m ys := fun y m ys hy => hy.kept hg (by
      cases hub : y.ownBlock with
      | none => exact Or.inl rfl
      | some k => exact Or.inr fun e => hbox.not_row hET hy (by rw [hub]; exact e.symm))
    exact ⟨h.hb, h.hx, h.h0, h.h1, fun _ e => (by cases e), fun e => (by cases e), fun _ => ⟨hkeep _ _ _ hrow, hrK⟩, setRow_heap w B _ _ T _ hbox, h.hKB, fun k hk => ⟨(h.hKlt k hk).1, by simpa using (h.hKlt k hk).2⟩, h.o1, h.o2, fun _ => rfl⟩
end
end Go.Proofs.Ytnnadhfpkplncaa

