/- All places that have a number, handed to a loop's body, one by one. Condition: the tree reads. -/
import Derived.Test.YtnnadhfpkplncaaRxSeq
namespace Go.Proofs.Ytnnadhfpkplncaa
open Go.RowKit
attribute [local go_sem] Oper.semAt_some

/-- The places of the group g of depth D that have a number, in order. -/
def itemsL (f : Nat → Int) : Nat → Nat → List Nat
  | 0, g => (List.range 16).flatMap fun i => if f (g * 16 + i) = 0 then [] else [g * 16 + i]
  | D + 1, g => (List.range 16).flatMap fun i => itemsL f D (g * 16 + i)
theorem items_bare {f : Nat → Int} : ∀ D g, Bare D g f → itemsL f D g = []
  | 0, g, h => by
    unfold itemsL
    refine List.flatMap_eq_nil_iff.2 fun i hi => ?_
    have e : f (g * 16 + i) = 0 := h i (List.mem_range.1 hi)
    rw [if_pos e]
  | D + 1, g, h => by
    unfold itemsL
    exact List.flatMap_eq_nil_iff.2 fun i hi => items_bare D _ (bare_succ.1 h i (List.mem_range.1 hi))
theorem flat_take {α : Type} (L : Nat → List α) (k : Nat) {n : Nat} (h : k ≤ n) : ((List.range k).flatMap L).length ≤ ((List.range n).flatMap L).length := by
  induction n with
  | zero => obtain rfl : k = 0 := by omega
            exact Nat.le_refl _
  | succ n ih =>
    by_cases e : k = n + 1
    · subst e; exact Nat.le_refl _
    · rw [range_flat, List.length_append]
      have := ih (by omega)
      omega
def yArgs (f : Nat → Int) (x : Nat) : Array Value := #[.int .i64 x, .int .i64 (f x)]
/-- What a round of the loop's body keeps. -/
def Yields (f : Nat → Int) (X : List Nat) (N n₀ l : Nat) (J : List Nat → World → Prop) : Prop :=
  ∀ k pre x W1, J pre W1 → pre.length < N → x ∈ X → YieldAt Fence.wide k Try.prog l (yArgs f x) W1 fun e W' => e = .returned (.bool true) ∧ J (pre ++ [x]) W' ∧ Below n₀ W1 W'
def WalkPost (n₀ : Nat) (J : List Nat → World → Prop) (xs : List Nat) (W : World) (e : Ending) (W' : World) : Prop := e = .returned (.bool true) ∧ J xs W' ∧ Below n₀ W W'
set_option maxRecDepth 100000 in
set_option maxHeartbeats 1600000 in
theorem walk_nil (m l n₀ : Nat) (J : List Nat → World → Prop) (xs : List Nat) (r g : Int) (W : World) (hJ : J xs W) :
    CallsIn Fence.wide m Try.prog 65 #[.pointer none, .int .i64 r, .int .i64 g, .func (.yield l) #[] #[]] W (WalkPost n₀ J xs W) := by
  have H := Lib.hid hJ
  clear hJ
  refine callsIn_of_wp Try.func65 rfl trivial ?_ rfl
  simp only [Try.ntmps65, List.size_toArray, List.length_cons, List.length_nil, Nat.reduceAdd, Nat.reduceSub, Array.replicate_succ, Array.replicate_zero, List.push_toArray, List.append_toArray, List.nil_append, List.cons_append]
  gi_wp2
  go_ret
  exact ⟨rfl, H.out, Below.refl _ _⟩
set_option maxRecDepth 100000 in
set_option maxHeartbeats 1600000 in
theorem walk_leaf (f : Nat → Int) (b g : Nat) (w0 : World) (hb : w0.heap[b]? = some (.cells (nodeC (List.replicate 16 none) (numC f g)) 87 (0, 0))) (hg : g ≤ 255) (X : List Nat) (N l : Nat) (J : List Nat → World → Prop) (hY : Yields f X N w0.heap.size l J)
    (m : Nat) (pre : List Nat) (W : World) (hW : Below w0.heap.size w0 W) (hJ : J pre W) (hN : pre.length + (itemsL f 0 g).length ≤ N) (hX : ∀ x ∈ itemsL f 0 g, x ∈ X) :
    CallsIn Fence.wide m Try.prog 65 #[.pointer (some ⟨b, 0, none⟩), .int .i64 2, .int .i64 g, .func (.yield l) #[] #[]] W (WalkPost w0.heap.size J (pre ++ itemsL f 0 g) W) := by
  have HB := Lib.hid hb
  have HY := Lib.hid hY
  have HW := Lib.hid hW
  have HJ := Lib.hid hJ
  have HN := Lib.hid hN
  have HX := Lib.hid hX
  have hgi : (g : Int) ≤ 255 := by omega
  clear hb hY hW hJ hN hX
  refine callsIn_of_wp Try.func65 rfl trivial ?_ rfl
  simp only [Try.ntmps65, List.size_toArray, List.length_cons, List.length_nil, Nat.reduceAdd, Nat.reduceSub, Array.replicate_succ, Array.replicate_zero, List.push_toArray, List.append_toArray, List.nil_append, List.cons_append]
  gi_wp2
  gi_loopw [13] (fun i wr => ∃ k : Nat, k ≤ 16 ∧ i = .int .i64 k ∧ Hid (J (pre ++ (List.range k).flatMap fun i => if f (g * 16 + i) = 0 then [] else [g * 16 + i]) wr ∧ Below w0.heap.size W wr)) (fun i _ => 16 - (intOf i).toNat)
  case atStart => exact ⟨0, by omega, rfl, by simpa using HJ.out, Below.refl _ _⟩
  case round =>
    obtain ⟨k, hk, rfl, hin⟩ := hrel
    by_cases hlt : k < 16
    · obtain ⟨v, hv⟩ : ∃ v, v = f (g * 16 + k) := ⟨_, rfl⟩
      have hc : wr.cell? ⟨b, 16 + k, none⟩ = some (.int .i64 v) := by
        have h1 := ((HW.out.trans hin.out.2).block b (block_lt HB.out)).trans HB.out
        rw [block_cell h1, nodeC_num (by simp) (numC_at hlt), hv]
      have hki : (k : Int) < 16 := by omega
      by_cases hz : v = 0
      · subst hz
        have HI := Lib.hid hin
        have HV := Lib.hid hv
        clear hin hv
        gi_wp2
        refine ⟨fun _ h => (by cases h), ?_⟩
        gi_wp2
        go_roundw
        case rel => exact ⟨k + 1, by omega, by go_num, by rw [range_flat, if_pos HV.out.symm, List.append_nil]; exact HI⟩
        case measure => simp [intOf]; omega
      · have hvb : (v != 0) = true := by simp [hz]
        have hmem : g * 16 + k ∈ itemsL f 0 g := by
          unfold itemsL
          exact List.mem_flatMap.2 ⟨k, List.mem_range.2 hlt, by rw [if_neg (by rw [← hv]; exact hz)]; simp⟩
        have hlen : (pre ++ (List.range k).flatMap fun i => if f (g * 16 + i) = 0 then [] else [g * 16 + i]).length < N := by
          have h1 := HN.out
          have h2 := flat_take (fun i => if f (g * 16 + i) = 0 then [] else [g * 16 + i]) (k + 1) (by omega : k + 1 ≤ 16)
          rw [range_flat, List.length_append, if_neg (by rw [← hv]; exact hz)] at h2
          simp only [List.length_singleton] at h2
          unfold itemsL at h1
          rw [List.length_append]
          omega
        obtain ⟨fn, tmps, assign, body, hy, hR⟩ := HY.out (m - 1) _ _ wr hin.out.1 hlen (HX.out _ hmem)
        have HI := Lib.hid hin
        have HR := Lib.hid hR
        unfold yArgs at hy
        rw [← hv, show ((g * 16 + k : Nat) : Int) = (g : Int) * 16 + (k : Int) by omega] at hy
        have HV := Lib.hid hv
        have HZ := Lib.hid hz
        clear hin hv hmem hlen hR hz
        gi_wp2
        refine ⟨fun h => (by cases h), HR.out.mono ?_⟩
        rintro e W3 ⟨rfl, hJ3, hb3⟩
        have HJ3 := Lib.hid hJ3
        have HB3 := Lib.hid (HI.out.2.trans hb3)
        clear hJ3 hb3 hy HR
        gi_wp2
        go_roundw
        case rel => exact ⟨k + 1, by omega, by go_num, by rw [range_flat, if_neg (by rw [← HV.out]; exact HZ.out), ← List.append_assoc]; exact ⟨HJ3.out, HB3.out⟩⟩
        case measure => simp [intOf]; omega
    · obtain rfl : k = 16 := by omega
      gi_wp2
      go_ret
      exact ⟨rfl, hin.out⟩
set_option maxRecDepth 100000 in
set_option maxHeartbeats 1600000 in
theorem walk_node (f : Nat → Int) (S : Nat → Nat → Option Nat) (D r : Nat) (hD : D + r = 1) (b g : Nat) (w0 : World) (hb : w0.heap[b]? = some (.cells (nodeC (armC S D g) (List.replicate 16 0)) 87 (0, 0))) (hg : g ≤ 255) (N l : Nat) (J : List Nat → World → Prop)
    (hsub : ∀ i, i < 16 → ∀ m pre W, Below w0.heap.size w0 W → J pre W → pre.length + (itemsL f D (g * 16 + i)).length ≤ N →
      CallsIn Fence.wide m Try.prog 65 #[.pointer (ptr (S D (g * 16 + i))), .int .i64 ((r : Int) + 1), .int .i64 ((g : Int) * 16 + (i : Int)), .func (.yield l) #[] #[]] W (WalkPost w0.heap.size J (pre ++ itemsL f D (g * 16 + i)) W))
    (m : Nat) (pre : List Nat) (W : World) (hW : Below w0.heap.size w0 W) (hJ : J pre W) (hN : pre.length + (itemsL f (D + 1) g).length ≤ N) :
    CallsIn Fence.wide m Try.prog 65 #[.pointer (some ⟨b, 0, none⟩), .int .i64 r, .int .i64 g, .func (.yield l) #[] #[]] W (WalkPost w0.heap.size J (pre ++ itemsL f (D + 1) g) W) := by
  have HB := Lib.hid hb
  have HU := Lib.hid hsub
  have HW := Lib.hid hW
  have HJ := Lib.hid hJ
  have HN := Lib.hid hN
  have hgi : (g : Int) ≤ 255 := by omega
  have hri : (r : Int) < 2 := by omega
  clear hb hsub hW hJ hN hD
  refine callsIn_of_wp Try.func65 rfl trivial ?_ rfl
  simp only [Try.ntmps65, List.size_toArray, List.length_cons, List.length_nil, Nat.reduceAdd, Nat.reduceSub, Array.replicate_succ, Array.replicate_zero, List.push_toArray, List.append_toArray, List.nil_append, List.cons_append]
  gi_wp2
  gi_loopw [13] (fun i wr => ∃ k : Nat, k ≤ 16 ∧ i = .int .i64 k ∧ Hid (J (pre ++ (List.range k).flatMap fun i => itemsL f D (g * 16 + i)) wr ∧ Below w0.heap.size W wr)) (fun i _ => 16 - (intOf i).toNat)
  case atStart => exact ⟨0, by omega, rfl, by simpa using HJ.out, Below.refl _ _⟩
  case round =>
    obtain ⟨k, hk, rfl, hin⟩ := hrel
    by_cases hlt : k < 16
    · obtain ⟨p, hp⟩ : ∃ p, p = ptr (S D (g * 16 + k)) := ⟨_, rfl⟩
      have hc : wr.cell? ⟨b, k, none⟩ = some (.pointer p) := by
        have h1 := ((HW.out.trans hin.out.2).block b (block_lt HB.out)).trans HB.out
        rw [block_cell h1, nodeC_arm (armC_at hlt), hp]
      have hki : (k : Int) < 16 := by omega
      have hlen : (pre ++ (List.range k).flatMap fun i => itemsL f D (g * 16 + i)).length + (itemsL f D (g * 16 + k)).length ≤ N := by
        have h1 := HN.out
        have h2 := flat_take (fun i => itemsL f D (g * 16 + i)) (k + 1) (by omega : k + 1 ≤ 16)
        rw [range_flat, List.length_append] at h2
        unfold itemsL at h1
        rw [List.length_append]
        omega
      have hcall := HU.out k hlt (m - 1) _ wr (HW.out.trans hin.out.2) hin.out.1 hlen
      rw [← hp] at hcall
      have HC := Lib.hid hcall
      have HI := Lib.hid hin
      clear hin hcall hlen hp
      gi_wp2_with fail
      refine ⟨trivial, fun h => (by cases h), HC.out.mono ?_⟩
      rintro e W3 ⟨rfl, hJ3, hb3⟩
      have HJ3 := Lib.hid hJ3
      have HB3 := Lib.hid (HI.out.2.trans hb3)
      clear hJ3 hb3 HC
      gi_wp2
      go_roundw
      case rel => exact ⟨k + 1, by omega, by go_num, by rw [range_flat, ← List.append_assoc]; exact ⟨HJ3.out, HB3.out⟩⟩
      case measure => simp [intOf]; omega
    · obtain rfl : k = 16 := by omega
      gi_wp2
      go_ret
      exact ⟨rfl, hin.out⟩
theorem walk_any (f : Nat → Int) (S : Nat → Nat → Option Nat) (w0 : World) (hr : RdD 2 f S w0) (X : List Nat) (N l : Nat) (J : List Nat → World → Prop) (hY : Yields f X N w0.heap.size l J) :
    ∀ D, D ≤ 2 → ∀ g, g < 16 ^ (2 - D) → ∀ m pre W, Below w0.heap.size w0 W → J pre W → pre.length + (itemsL f D g).length ≤ N → (∀ x ∈ itemsL f D g, x ∈ X) →
      CallsIn Fence.wide m Try.prog 65 #[.pointer (ptr (S D g)), .int .i64 ((2 - D : Nat) : Int), .int .i64 g, .func (.yield l) #[] #[]] W (WalkPost w0.heap.size J (pre ++ itemsL f D g) W)
  | 0, _, g, hg, m, pre, W, hW, hJ, hN, hX => by
    cases hs : S 0 g with
    | none =>
      rw [items_bare 0 g ((hr.can 0 g (by omega)).1 hs), List.append_nil]
      exact walk_nil m l _ J pre _ _ W hJ
    | some b => exact walk_leaf f b g w0 (hr.leaf g b hs) (by simp at hg; omega) X N l J hY m pre W hW hJ hN hX
  | D + 1, hD, g, hg, m, pre, W, hW, hJ, hN, hX => by
    cases hs : S (D + 1) g with
    | none =>
      rw [items_bare (D + 1) g ((hr.can (D + 1) g hD).1 hs), List.append_nil]
      exact walk_nil m l _ J pre _ _ W hJ
    | some b =>
      have hp : 16 ^ (2 - D) = 16 * 16 ^ (2 - (D + 1)) := by rw [show 2 - D = (2 - (D + 1)) + 1 by omega, Nat.pow_succ, Nat.mul_comm]
      have hg2 : g ≤ 255 := by
        have : 16 ^ (2 - (D + 1)) ≤ 16 ^ 1 := Nat.pow_le_pow_right (by decide) (by omega)
        omega
      refine walk_node f S D (2 - (D + 1)) (by omega) b g w0 (hr.node D g b hD hs) hg2 N l J ?_ m pre W hW hJ hN
      intro i hi m pre W hW hJ hN
      have := walk_any f S w0 hr X N l J hY D (by omega) (g * 16 + i) (by rw [hp]; omega) m pre W hW hJ hN (fun x hx => hX x (by
        unfold itemsL
        exact List.mem_flatMap.2 ⟨i, List.mem_range.2 hi, hx⟩))
      rw [show ((2 - (D + 1) : Nat) : Int) + 1 = ((2 - D : Nat) : Int) by omega]
      have e : ((g * 16 + i : Nat) : Int) = (g : Int) * 16 + (i : Int) := by omega
      rw [← e]
      exact this
set_option maxHeartbeats 1600000 in
/-- The method each, bound to a tree, hands over all its places. -/
theorem each_all (f : Nat → Int) (S : Nat → Nat → Option Nat) (A : Option Addr) (w : World) (h : RdR f S w A) : AllOf Try.prog 40 #[.pointer A] (yArgs f) (itemsL f 2 0) w := by
  intro m l J W hW hY hJ
  have HO := Lib.hid ((callsIn_wide (n := m - 1)).2 (of_any f S A W (h.below hW)))
  have HW := Lib.hid (walk_any f S w h.1 (itemsL f 2 0) (itemsL f 2 0).length l J hY 2 (Nat.le_refl _) 0 (by decide) (m - 1) [] W hW hJ (by simp) (fun x hx => hx))
  clear hY hW hJ h
  refine callsIn_of_wp Try.func40 rfl trivial ?_ rfl
  simp only [Try.ntmps40, List.size_toArray, List.length_cons, List.length_nil, Nat.reduceAdd, Nat.reduceSub, Array.replicate_succ, Array.replicate_zero, List.push_toArray, List.append_toArray, List.nil_append, List.cons_append]
  gi_wp2_with fail
  refine ⟨trivial, fun h => (by cases h), HO.out.mono ?_⟩
  rintro e w' ⟨rfl, rfl⟩
  gi_wp2_with fail
  refine ⟨trivial, fun h => (by cases h), HW.out.mono ?_⟩
  rintro e w' ⟨rfl, hJ, hb⟩
  have HJ := Lib.hid hJ
  clear hJ hb
  gi_wp2
  refine bodyPost_end (results_none rfl _ _ _) rfl ?_
  exact ⟨⟨_, rfl⟩, HJ.out⟩
end Go.Proofs.Ytnnadhfpkplncaa
