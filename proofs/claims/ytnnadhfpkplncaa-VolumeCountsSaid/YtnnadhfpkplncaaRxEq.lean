/- Is a node without anything? No condition but how many arms and numbers there are. -/
import Derived.Test.YtnnadhfpkplncaaRxGet
import Derived.Laws.StructEq
import Derived.Laws.Pointers
import Derived.ChangeKeysEq
namespace Go.Proofs.Ytnnadhfpkplncaa
open Go.RowKit

section
variable {P : Program} (w : World)
theorem eqItems_one (d : Nat) {e : TypeId} (hg : (isAgg e).run P w = .ok false w) (xs ys : Array Value) (b : Nat → Bool) : ∀ is : List Nat, (∀ i ∈ is, ∃ x y, xs[i]? = some x ∧ ys[i]? = some y ∧ (Op.equalIn d e x y).run P w = .ok (b i) w) →
    (Op.eqItems d e 1 xs ys is).run P w = .ok (is.all b) w
  | [], _ => by simp [Op.eqItems]
  | i :: is, h => by
    obtain ⟨x, y, hx, hy, hr⟩ := h i (by simp)
    have ih := eqItems_one d hg xs ys b is fun j hj => h j (by simp [hj])
    have px : (part e xs (i * 1)).run P w = .ok x w := by simp [part, hg, hx]
    have py : (part e ys (i * 1)).run P w = .ok y w := by simp [part, hg, hy]
    simp only [Op.eqItems, Sem.run_bind, px, py, hr, Result.andThen_ok]
    cases hb : b i
    · simp [hb]
    · simp [hb, ih]
end
theorem rep_at {α : Type} {x : α} {n i : Nat} (h : i < n) : (List.replicate n x)[i]? = some x := by simp [h]
theorem rep_map {α β : Type} (g : α → β) {x : α} {n i : Nat} (h : i < n) : ((List.replicate n x).map g).toArray[i]? = some (g x) := by
  rw [List.getElem?_toArray, List.getElem?_map, rep_at h]; rfl
theorem infoNP : (Try.prog.info? 76).isSome = true := by kernel_rfl
theorem infoInt : (Try.prog.info? 3).isSome = true := by kernel_rfl
def nodeZ : Array Value := nodeC (List.replicate 16 none) (List.replicate 16 0)
theorem zeroN (w : World) : (zeroValue 87).run Try.prog w = .ok (.agg nodeZ) w := by kernel_rfl
theorem all_none {ps : List (Option Addr)} (h : ps.length = 16) : ((List.range 16).all fun i => (ps.getD i none).isNone) = decide (ps = List.replicate 16 none) := by
  rw [Bool.eq_iff_iff]
  simp only [List.all_eq_true, List.mem_range, decide_eq_true_eq]
  constructor
  · intro k
    refine List.eq_replicate_iff.2 ⟨h, fun x hx => ?_⟩
    obtain ⟨i, hi, rfl⟩ := List.mem_iff_getElem.1 hx
    have := k i (by omega)
    rw [List.getD_eq_getElem?_getD, List.getElem?_eq_getElem hi] at this
    simpa using this
  · intro k i hi
    rw [k, List.getD_eq_getElem?_getD, rep_at hi]
    rfl
theorem all_zero {ns : List Int} (h : ns.length = 16) : ((List.range 16).all fun i => ns.getD i 0 == 0) = decide (ns = List.replicate 16 0) := by
  rw [Bool.eq_iff_iff]
  simp only [List.all_eq_true, List.mem_range, decide_eq_true_eq]
  constructor
  · intro k
    refine List.eq_replicate_iff.2 ⟨h, fun x hx => ?_⟩
    obtain ⟨i, hi, rfl⟩ := List.mem_iff_getElem.1 hx
    have := k i (by omega)
    rw [List.getD_eq_getElem?_getD, List.getElem?_eq_getElem hi] at this
    simpa using this
  · intro k i hi
    rw [k, List.getD_eq_getElem?_getD, rep_at hi]
    rfl
theorem eq_arms (d : Nat) (ps : List (Option Addr)) (h : ps.length = 16) (w : World) : (Op.equalIn (d + 2) 84 (.agg (ps.map Value.pointer).toArray) (.agg ((List.replicate 16 none).map Value.pointer).toArray)).run Try.prog w = .ok (decide (ps = List.replicate 16 none)) w := by
  obtain ⟨j, hj⟩ := Option.isSome_iff_exists.1 infoNP
  rw [run_equalIn_array w (d + 1) _ _ Try.underlying84 hj, show Try.prog.cellsOf 76 = 1 by kernel_rfl, ← all_none h]
  refine eqItems_one w (d + 1) (by simp [isAgg, run_underlying Try.underlying76]) _ _ _ _ fun i hi => ?_
  have hi := List.mem_range.1 hi
  refine ⟨.pointer (ps.getD i none), .pointer none, ?_, ?_, ?_⟩
  · simp [List.getD_eq_getElem?_getD, List.getElem?_eq_getElem (show i < ps.length by omega)]
  · exact rep_map _ hi
  · exact run_equalIn_pointer_nil w d 76 _ (by kernel_rfl)
theorem eq_nums (d : Nat) (ns : List Int) (h : ns.length = 16) (w : World) : (Op.equalIn (d + 2) 85 (.agg (ns.map (Value.int .i64)).toArray) (.agg ((List.replicate 16 (0 : Int)).map (Value.int .i64)).toArray)).run Try.prog w = .ok (decide (ns = List.replicate 16 0)) w := by
  obtain ⟨j, hj⟩ := Option.isSome_iff_exists.1 infoInt
  rw [run_equalIn_array w (d + 1) _ _ Try.underlying85 hj, show Try.prog.cellsOf 3 = 1 by kernel_rfl, ← all_zero h]
  refine eqItems_one w (d + 1) (by simp [isAgg, run_underlying Try.underlying3]) _ _ _ _ fun i hi => ?_
  have hi := List.mem_range.1 hi
  refine ⟨.int .i64 (ns.getD i 0), .int .i64 0, ?_, ?_, ?_⟩
  · simp [List.getD_eq_getElem?_getD, List.getElem?_eq_getElem (show i < ns.length by omega)]
  · exact rep_map _ hi
  · exact run_equalIn_int w d 3 .i64 .i64 _ _ Try.underlying3
theorem part_arms (ps : List (Option Addr)) (ns : List Int) (h : ps.length = 16) (w : World) : (part 84 (nodeC ps ns) 0).run Try.prog w = .ok (.agg (ps.map Value.pointer).toArray) w := by
  have hs : ∀ w, (sizeOf 84).run Try.prog w = .ok 16 w := fun w => by kernel_rfl
  have hx : (nodeC ps ns).extract 0 (0 + 16) = (ps.map Value.pointer).toArray := by
    apply Array.toList_inj.1
    simp [nodeC, h]
  simp [part, isAgg, run_underlying Try.underlying84, hs, hx]
theorem part_nums (ps : List (Option Addr)) (ns : List Int) (h : ps.length = 16) (h2 : ns.length = 16) (w : World) : (part 85 (nodeC ps ns) 16).run Try.prog w = .ok (.agg (ns.map (Value.int .i64)).toArray) w := by
  have hs : ∀ w, (sizeOf 85).run Try.prog w = .ok 16 w := fun w => by kernel_rfl
  have hx : (nodeC ps ns).extract 16 (16 + 16) = (ns.map (Value.int .i64)).toArray := by
    apply Array.toList_inj.1
    simp [nodeC, h]
    exact List.take_of_length_le (by simp [h2])
  simp [part, isAgg, run_underlying Try.underlying85, hs, hx]
end Go.Proofs.Ytnnadhfpkplncaa
