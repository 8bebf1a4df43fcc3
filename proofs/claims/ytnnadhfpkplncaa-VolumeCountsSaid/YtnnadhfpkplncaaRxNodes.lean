/- All nodes beneath one. Condition: the node reads; how the nodes of its arms are told. -/
import Derived.Test.YtnnadhfpkplncaaRxSetT
import Derived.Laws.OwnMore
namespace Go.Proofs.Ytnnadhfpkplncaa
open Go.RowKit

theorem infoTNP : (Try.prog.info? 76).map (fun i => (i.zero, i.size, i.bytes)) = some (some (.pointer none), 1, 8) := by kernel_rfl
theorem infoArms : (Try.prog.info? 84).map (·.size) = some 16 := by kernel_rfl
/-- append(l, x) of one pointer onto one's own. -/
theorem app_ptr {w : World} {ops : Array Oper} {rest : List Oper} {o : Oper} {a : Act} {Q : Exit → Act → World → Prop} (hgd : o.guard = none) (s x : Operand)
    (ho : o.op = .call { callee := .builtin .append, args := #[s, x], argTypes := #[81, 81] }) (base : Nat) (v : Value) (l : List (Option Addr)) (hs : a.eval s = v) (hown : w.ownsRow base 76 1 v l.length (l.map Value.pointer))
    (g : Nat) (b : Option Addr) (hx : a.eval x = .slice (some ⟨g, 0, none⟩) 1 1) (hc : w.cell? ⟨g, 0, none⟩ = some (.pointer b)) (hn : l.length ≤ 1048576) (hbase : base ≤ w.heap.size)
    (h : ∀ v' w', w'.ownsRow base 76 1 v' (l ++ [b]).length ((l ++ [b]).map Value.pointer) → w.grownBy w' v.ownBlock → wpList Try.prog ops Q rest (a.put o.dst v') w') : wpList Try.prog ops Q (o :: rest) a w := by
  obtain ⟨iB, h1, h2, h3, h4⟩ := info_parts infoTNP
  refine wpList_append_own w hgd s x 81 ho base 76 iB (.pointer none) 1 8 Try.underlying81 h1 h2 h3 h4 rfl (by decide) v _ _ hs hown ⟨g, 0, none⟩ 1 1 [.pointer b] hx rfl (fun j u hj => ?_) (fun u hu => by rw [List.mem_singleton.1 hu]; rfl) (by unfold maxLen; omega) (by omega) hbase (fun v' w' e1 e2 _ => h v' w' ?_ e2)
  · match j, hj with
    | 0, hj => cases hj; simpa [Addr.add] using hc
  · rw [List.map_append, List.length_append]; exact e1
/-- The sixteen arms of a node, loaded. -/
theorem wpList_load_arms {ops : Array Oper} {rest : List Oper} {o : Oper} {a : Act} {w : World} {Q : Exit → Act → World → Prop} (hgd : o.guard = none) (x : Operand) (ho : o.op = .load 84 x)
    (g : Nat) (hx : a.eval x = .pointer (some ⟨g, 0, none⟩)) (ps : List (Option Addr)) (ns : List Int) (hps : ps.length = 16) (hg : w.heap[g]? = some (.cells (nodeC ps ns) 87 (0, 0)))
    (h : wpList Try.prog ops Q rest (a.put o.dst (.agg (ps.map Value.pointer).toArray)) w) : wpList Try.prog ops Q (o :: rest) a w := by
  have hl : (loadCells ⟨g, 0, none⟩ (ps.map Value.pointer).length).run Try.prog w = .ok (ps.map Value.pointer).toArray w :=
    run_loadCells_list (P := Try.prog) w ⟨g, 0, none⟩ (ps.map Value.pointer) (fun j v hv => by
      have hadd : (⟨g, 0, none⟩ : Addr).add j = ⟨g, j, none⟩ := by unfold Addr.add; split <;> simp_all
      obtain ⟨p, hp, rfl⟩ : ∃ p, ps[j]? = some p ∧ Value.pointer p = v := by simpa [List.getElem?_map] using hv
      rw [hadd, block_cell hg, nodeC_arm hp])
  have hagg : (isAgg 84).run Try.prog w = .ok true w := by
    unfold isAgg
    rw [Sem.run_bind, run_underlying Try.underlying84 w]
    rfl
  have hrun : (loadVar 84 ⟨g, 0, none⟩).run Try.prog w = .ok (.agg (ps.map Value.pointer).toArray) w := by
    obtain ⟨i, hq, hs⟩ := Option.map_eq_some_iff.1 infoArms
    simp only [List.length_map, hps] at hl
    simp [loadVar, Sem.run_bind, hagg, sizeOf, typeInfo, hq, hs, hl]
  exact wpList_plain hgd fun _ hK => by
    unfold Oper.wp execOp
    simp only [ho, hx, Instr.loadAt, Instr.sureAddr, Sem.run_bind, Sem.run_pure, Result.andThen_ok, hrun]
    exact hK _ _ h
theorem stop_arms {P : Program} {ops : Array Oper} {rest : List Oper} {o : Oper} {a : Act} {w : World} {Q : Exit → Act → World → Prop} (x : Operand) (_ : o.op = .load 84 x) (h : Hid (wpList P ops Q (o :: rest) a w)) : wpList P ops Q (o :: rest) a w := h.out
theorem run_index_arms (ps : List (Option Addr)) (k : Nat) (p : Option Addr) (hk : k < 16) (hp : ps[k]? = some p) (w : World) : (Instr.index 84 (.agg (ps.map Value.pointer).toArray) (.int .i64 k)).run Try.prog w = .ok (.pointer p) w := by
  have hs : ∀ w, (sizeOf 76).run Try.prog w = .ok 1 w := fun w => by kernel_rfl
  have hx : (ps.map Value.pointer).toArray[k]? = some (.pointer p) := by rw [List.getElem?_toArray, List.getElem?_map, hp]; rfl
  have hpart : (part 76 (ps.map Value.pointer).toArray k).run Try.prog w = .ok (.pointer p) w := by
    simp only [part, isAgg, Sem.run_bind, run_underlying Try.underlying76, Result.andThen_ok, hx]
    simp
  simp [Instr.index, asIntOf, run_underlying Try.underlying84, hs, hpart]
  omega
/-- The nodes told so far, in a list of one's own. -/
def NodesIn (w0 w : World) (v : Value) (xs : List (Option Addr)) : Prop := w.ownsRow w0.heap.size 76 1 v xs.length (xs.map Value.pointer) ∧ Below w0.heap.size w0 w
def NodesPost (w0 : World) (xs : List (Option Addr)) (e : Ending) (w' : World) : Prop := ∃ v', e = .returned v' ∧ NodesIn w0 w' v' xs
set_option maxHeartbeats 800000 in
theorem nodes_nil (w0 w : World) (v : Value) (xs : List (Option Addr)) (h : NodesIn w0 w v xs) : Calls Try.prog 38 #[.pointer none, v] w (NodesPost w0 xs) := by
  have H := Lib.hid h
  clear h
  go_enter Try.func38, Try.ntmps38
  go_wp2
  go_ret
  exact ⟨v, rfl, H.out⟩
theorem range_flat {α : Type} (L : Nat → List α) (k : Nat) : (List.range (k + 1)).flatMap L = (List.range k).flatMap L ++ L k := by
  rw [List.range_succ, List.flatMap_append]; simp
set_option maxRecDepth 100000 in
set_option maxHeartbeats 1600000 in
theorem nodes_node (w0 : World) (b : Nat) (ps : List (Option Addr)) (ns : List Int) (hps : ps.length = 16) (hb : w0.heap[b]? = some (.cells (nodeC ps ns) 87 (0, 0))) (L : Nat → List (Option Addr)) (N X : Nat)
    (hN : ∀ k, k ≤ 16 → ((List.range k).flatMap L).length ≤ N) (hN2 : X + N ≤ 100000)
    (hsub : ∀ i p, ps[i]? = some p → ∀ w v xs, NodesIn w0 w v xs → xs.length ≤ X + 1 + N → Calls Try.prog 38 #[.pointer p, v] w (NodesPost w0 (xs ++ L i)))
    (w : World) (v : Value) (xs : List (Option Addr)) (h : NodesIn w0 w v xs) (hx : xs.length ≤ X) :
    Calls Try.prog 38 #[.pointer (some ⟨b, 0, none⟩), v] w (NodesPost w0 (xs ++ (some ⟨b, 0, none⟩ :: (List.range 16).flatMap L))) := by
  have HB := Lib.hid hb
  have HP := Lib.hid hps
  have HN := Lib.hid hN
  have HU := Lib.hid hsub
  have H := Lib.hid h
  clear hb hps hN hsub h
  go_enter Try.func38, Try.ntmps38
  go_wp2_with (at_builtin; refine Hid.out ?_)
  unfold Hid
  have hin := H.out
  refine app_ptr rfl (.tmp 10) (.tmp 12) rfl w0.heap.size v xs rfl (hin.1.alloc _) w.heap.size (some ⟨b, 0, none⟩) rfl (block_cell (heap_alloc_new _ _)) (by omega) (by have := hin.2.size; simp; omega) ?_
  intro v1 w1 hown1 hg1
  have hin1 : NodesIn w0 w1 v1 (xs ++ [some ⟨b, 0, none⟩]) := ⟨hown1, (hin.2.alloc hin.2.size _).grown hg1 (by have := hin.2.size; simp; omega) fun k e => (hin.1.lt k e).1⟩
  have hb1 : w1.heap[b]? = some (.cells (nodeC ps ns) 87 (0, 0)) := (hin1.2.block b (block_lt HB.out)).trans HB.out
  have H1 := Lib.hid hin1
  have HB1 := Lib.hid hb1
  clear hin hown1 hg1 hin1 hb1
  go_wp2_with ((with_reducible refine stop_arms _ rfl ?_))
  unfold Hid
  refine wpList_load_arms rfl _ rfl b rfl ps ns HP.out HB1.out ?_
  clear HB1
  go_wp2
  go_loopw [1, 18] (fun u i wr => ∃ k : Nat, k ≤ 16 ∧ i = .int .i64 k ∧ Hid (NodesIn w0 wr u (xs ++ [some ⟨b, 0, none⟩] ++ (List.range k).flatMap L))) (fun _ i _ => 16 - (intOf i).toNat)
  case atStart => exact ⟨0, by omega, rfl, by simpa using H1⟩
  case round =>
    obtain ⟨k, hk, rfl, hin⟩ := hrel
    by_cases hlt : k < 16
    · obtain ⟨p, hp⟩ : ∃ p, ps[k]? = some p := ⟨_, List.getElem?_eq_getElem (by have := HP.out; omega)⟩
      have hix := run_index_arms ps k p hlt hp
      have hki : (k : Int) < 16 := by omega
      have HK := Lib.hid (HU.out k p hp _ _ _ hin.out (by have := HN.out k hk; rw [List.length_append, List.length_append]; simp only [List.length_singleton]; omega))
      clear hp hin
      go_wp2_with fail
      refine HK.out.mono ?_
      rintro e w2 ⟨u', rfl, hin'⟩
      have HI := Lib.hid hin'
      clear hin' hix HK
      go_wp2
      go_roundw
      case rel => exact ⟨k + 1, by omega, by go_num, by rw [range_flat, ← List.append_assoc]; exact HI⟩
      case measure => simp [intOf]; omega
    · obtain rfl : k = 16 := by omega
      go_wp2
      go_ret
      have := hin.out
      rw [List.append_assoc, List.singleton_append] at this
      exact ⟨_, rfl, this⟩
/-- The nodes of the group g of depth D, each ahead of those beneath it. -/
def nodesL (S : Nat → Nat → Option Nat) : Nat → Nat → List Nat
  | 0, g => (S 0 g).toList
  | D + 1, g => match S (D + 1) g with
    | none => []
    | some b => b :: (List.range 16).flatMap fun i => nodesL S D (g * 16 + i)
def cnt : Nat → Nat
  | 0 => 1
  | D + 1 => 1 + 16 * cnt D
def ptrs (l : List Nat) : List (Option Addr) := l.map fun b => some ⟨b, 0, none⟩
theorem flat_le {α : Type} (L : Nat → List α) (c : Nat) (h : ∀ i, (L i).length ≤ c) : ∀ k, ((List.range k).flatMap L).length ≤ k * c
  | 0 => by simp
  | k + 1 => by
    rw [range_flat, List.length_append, Nat.add_mul, Nat.one_mul]
    have := flat_le L c h k
    have := h k
    omega
theorem nodesL_le (S : Nat → Nat → Option Nat) : ∀ D g, (nodesL S D g).length ≤ cnt D
  | 0, g => by unfold nodesL cnt; cases S 0 g <;> simp
  | D + 1, g => by
    unfold nodesL cnt
    cases S (D + 1) g with
    | none => simp
    | some b =>
      have := flat_le (fun i => nodesL S D (g * 16 + i)) (cnt D) (fun i => nodesL_le S D _) 16
      simp only [List.length_cons]
      omega
theorem nodes_any (f : Nat → Int) (S : Nat → Nat → Option Nat) (w0 : World) (hr : RdD 2 f S w0) : ∀ D, D ≤ 2 → ∀ g w v xs, NodesIn w0 w v xs → xs.length ≤ 1000 * (3 - D) →
    Calls Try.prog 38 #[.pointer (ptr (S D g)), v] w (NodesPost w0 (xs ++ ptrs (nodesL S D g)))
  | 0, _, g, w, v, xs, h, hx => by
    unfold nodesL
    cases hs : S 0 g with
    | none =>
      have := nodes_nil w0 w v xs h
      simpa [ptrs, ptr] using this
    | some b =>
      have := nodes_node w0 b _ _ (by simp) (hr.leaf g b hs) (fun _ => []) 0 3000 (fun k _ => by rw [show (List.range k).flatMap (fun _ => ([] : List (Option Addr))) = [] from List.flatMap_eq_nil_iff.2 fun _ _ => rfl]; exact Nat.le_refl _) (by omega) (fun i p hp w v xs h _ => by
        obtain ⟨hlt, rfl⟩ := List.getElem?_eq_some_iff.1 hp
        rw [List.getElem_replicate, List.append_nil]
        exact nodes_nil w0 w v xs h) w v xs h (by omega)
      rw [show (List.range 16).flatMap (fun _ => ([] : List (Option Addr))) = [] from List.flatMap_eq_nil_iff.2 fun _ _ => rfl] at this
      exact this
  | D + 1, hD, g, w, v, xs, h, hx => by
    unfold nodesL
    cases hs : S (D + 1) g with
    | none =>
      have := nodes_nil w0 w v xs h
      simpa [ptrs, ptr] using this
    | some b =>
      have hc : cnt D ≤ 17 := by
        match D, hD with
        | 0, _ => decide
        | 1, _ => decide
      have := nodes_node w0 b _ _ (by simp) (hr.node D g b hD hs) (fun i => ptrs (nodesL S D (g * 16 + i))) 272 (1000 * (3 - (D + 1)))
        (fun k hk => Nat.le_trans (flat_le _ 17 (fun i => by unfold ptrs; rw [List.length_map]; exact Nat.le_trans (nodesL_le S D _) hc) k) (by omega)) (by omega)
        (fun i p hp w v xs h hx => by
          have hi : i < 16 := by
            have := (List.getElem?_eq_some_iff.1 hp).1
            simpa using this
          rw [armC_at hi] at hp
          cases hp
          exact nodes_any f S w0 hr D (by omega) _ w v xs h (by omega)) w v xs h hx
      have e : ptrs (b :: (List.range 16).flatMap fun i => nodesL S D (g * 16 + i)) = some ⟨b, 0, none⟩ :: (List.range 16).flatMap fun i => ptrs (nodesL S D (g * 16 + i)) := by
        unfold ptrs
        rw [List.map_cons, List.map_flatMap]
      rw [e]
      exact this
end Go.Proofs.Ytnnadhfpkplncaa
