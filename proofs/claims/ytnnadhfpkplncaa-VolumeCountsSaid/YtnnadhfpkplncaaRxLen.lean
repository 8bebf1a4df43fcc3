/- How many places have a number; which they are. Condition: the tree reads. -/
import Derived.Test.YtnnadhfpkplncaaRxWalk
namespace Go.Proofs.Ytnnadhfpkplncaa
open Go.RowKit Go.Shelf
attribute [local go_sem] Oper.semAt_some

theorem flat_filter {f : Nat → Int} (d g : Nat) : itemsL f d g = ((List.range (span d)).map fun i => g * span d + i).filter fun a => decide (f a ≠ 0) := by
  have key : ∀ (g : Nat) (L : Nat → List Nat) (n s : Nat), (∀ i, L i = ((List.range s).map fun j => (g * n + i) * s + j).filter fun a => decide (f a ≠ 0)) →
      ∀ k, (List.range k).flatMap L = ((List.range (k * s)).map fun i => g * (n * s) + i).filter fun a => decide (f a ≠ 0) := by
    intro g L n s hL k
    induction k with
    | zero => simp
    | succ k ih =>
      rw [range_flat, ih, hL, ← List.filter_append, Nat.succ_mul, List.range_add, List.map_append, List.map_map]
      congr 3
      funext j
      simp only [Function.comp]
      rw [Nat.add_mul, Nat.mul_assoc, Nat.add_assoc]
  induction d generalizing g with
  | zero =>
    have := key g (fun i => if f (g * 16 + i) = 0 then [] else [g * 16 + i]) 16 1 (fun i => by
      by_cases h : f (g * 16 + i) = 0 <;> simp [h]) 16
    unfold itemsL span
    simpa using this
  | succ d ih =>
    have := key g (fun i => itemsL f d (g * 16 + i)) 16 (span d) (fun i => ih (g * 16 + i)) 16
    unfold itemsL span
    exact this
theorem items_eq (f : Nat → Int) : itemsL f 2 0 = (List.range 4096).filter fun a => decide (f a ≠ 0) := by
  rw [flat_filter]
  have : span 2 = 4096 := rfl
  rw [this]
  simp
theorem items_le (f : Nat → Int) : (itemsL f 2 0).length ≤ 4096 := by
  rw [items_eq]
  have := List.length_filter_le (fun a => decide (f a ≠ 0)) (List.range 4096)
  simpa using this
set_option maxRecDepth 100000 in
set_option maxHeartbeats 1600000 in
theorem len_any (f : Nat → Int) (S : Nat → Nat → Option Nat) (A : Option Addr) (w : World) (h : RdR f S w A) :
    Calls Try.prog 23 #[.pointer A] w fun e w' => e = .returned (.int .i64 ((itemsL f 2 0).length : Nat)) ∧ Below w.heap.size w w' := by
  have HS := Lib.hid (each_all f S A w h)
  have hle := items_le f
  have hlt : w.heap.size < (w.alloc (.cells #[.int .i64 0] 3)).heap.size := by simp
  have hcs := Boxed.new w 3 (.int .i64 0)
  clear h
  refine (callsIn_wide (n := 3)).1 ?_
  refine callsIn_of_wp_marks Try.func23 rfl trivial ?_ rfl
  simp only [Try.ntmps23, List.size_toArray, List.length_cons, List.length_nil, Nat.reduceAdd, Nat.reduceSub, Array.replicate_succ, Array.replicate_zero, List.push_toArray, List.append_toArray, List.nil_append, List.cons_append]
  gi_wp2
  have hB0 : Below w.heap.size w (w.alloc (.cells #[.int .i64 0] 3)) := (Below.refl _ w).alloc (Nat.le_refl _) _
  refine range_all 40 #[.pointer A] rfl (enters_of Try.func40 (by kernel_rfl) rfl) HS.out hB0 (fun _ => rfl)
    (fun pre W => Boxed W w.heap.size 3 (.int .i64 (pre.length : Nat)) ∧ Below w.heap.size w W)
    (OwnFrom.and (Own.from (boxed_own _ _ _) _) (ownFrom_below (Nat.le_refl _) (by simp)))
    ⟨by simpa using hcs, hB0⟩
    (fun x => { tmps := #[.pointer A, undef, .int .i64 0, .pointer (some ⟨w.heap.size, 0, none⟩), .pointer A, .func (.func 40) #[.pointer A] #[], .int .i64 x, .int .i64 (f x), undef, undef, undef], defers := [] }) ?assign ?body ?done
  case assign =>
    intro l x W K hK
    unfold yArgs
    gi_wp2
    simpa using hK
  case body =>
    rintro l pre x W ⟨hb, hB⟩ hlen _
    have hc := hb.cell
    have hf := hb.frozen
    have hln : (pre.length : Int) ≤ 4096 := by omega
    have HX := Lib.hid hb
    clear hb
    gi_wp2
    refine ⟨(KeepsOthers.setCell _ _ _).from _, (Below.refl _ W).setCell (p := ⟨w.heap.size, 0, none⟩) (Nat.le_refl _) _, ?_, hB.setCell (p := ⟨w.heap.size, 0, none⟩) (Nat.le_refl _) _⟩
    have := HX.out.set (.int .i64 ((pre ++ [x]).length : Nat))
    rw [List.length_append] at this ⊢
    exact this
  case done =>
    rintro D W hD ⟨hb, hB⟩ hK
    have hc := hb.cell
    have HK := Lib.hid hK
    clear hK
    gi_wp2
    refine ⟨by simp, .inl ⟨_, _, rfl, run_takeDeferred HK.out, ?_⟩⟩
    exact ⟨_, results_tmp rfl _ _ _, rfl, hB.trans (belowK_b (w := w) (Nat.le_refl _) W D _ _ (by simp at hD; omega) HK.out rfl rfl)⟩
end Go.Proofs.Ytnnadhfpkplncaa
