/- Is a node the node without anything? Condition: how many arms and numbers there are. -/
import Derived.Test.YtnnadhfpkplncaaRxEq
namespace Go.Proofs.Ytnnadhfpkplncaa
open Go.RowKit

theorem nodeFields : (Try.prog.fieldsOf 87).toList.map (fun f => (f.name, f.type, f.offset)) = [("arms", 84, 0), ("numbers", 85, 16)] := by kernel_rfl
theorem nodeStruct : Try.prog.underlying 87 = some (.struct (Try.prog.fieldsOf 87)) := by kernel_rfl
theorem nodeHeld : Try.prog.stoodInHeld 87 = false := by kernel_rfl
theorem eqFields_two {P : Program} (w : World) (d : Nat) (f0 f1 : Field) (xs ys : Array Value) (x0 y0 x1 y1 : Value) (b0 b1 : Bool) (n0 : f0.name ≠ "_") (n1 : f1.name ≠ "_")
    (p0 : (part f0.type xs f0.offset).run P w = .ok x0 w) (q0 : (part f0.type ys f0.offset).run P w = .ok y0 w) (p1 : (part f1.type xs f1.offset).run P w = .ok x1 w) (q1 : (part f1.type ys f1.offset).run P w = .ok y1 w)
    (e0 : (Op.equalIn d f0.type x0 y0).run P w = .ok b0 w) (e1 : (Op.equalIn d f1.type x1 y1).run P w = .ok b1 w) : (Op.eqFields d xs ys [f0, f1]).run P w = .ok (b0 && b1) w := by
  cases b0 <;> cases b1 <;> simp [Op.eqFields, n0, n1, p0, q0, p1, q1, e0, e1]
/-- Is a node the node without anything? -/
theorem eq_node (d : Nat) (ps : List (Option Addr)) (ns : List Int) (h : ps.length = 16) (h2 : ns.length = 16) (w : World) : (Op.equalIn (d + 2 + 1) 87 (.agg (nodeC ps ns)) (.agg nodeZ)).run Try.prog w = .ok (decide (ps = List.replicate 16 none) && decide (ns = List.replicate 16 0)) w := by
  have hf := nodeFields
  rw [run_equalIn_struct w (d + 2) 87 _ _ nodeStruct nodeHeld]
  generalize (Try.prog.fieldsOf 87).toList = fs at hf
  have hl : fs.length = 2 := by simpa using congrArg List.length hf
  match fs, hl with
  | [f0, f1], _ =>
    simp only [List.map_cons, List.map_nil, List.cons.injEq, Prod.mk.injEq, and_true] at hf
    obtain ⟨⟨n0, t0, o0⟩, n1, t1, o1⟩ := hf
    refine eqFields_two w (d + 2) f0 f1 _ _ (.agg (ps.map Value.pointer).toArray) (.agg ((List.replicate 16 (none : Option Addr)).map Value.pointer).toArray) (.agg (ns.map (Value.int .i64)).toArray) (.agg ((List.replicate 16 (0 : Int)).map (Value.int .i64)).toArray) _ _ (by rw [n0]; decide) (by rw [n1]; decide) ?_ ?_ ?_ ?_ ?_ ?_
    · rw [t0, o0]; exact part_arms ps ns h w
    · rw [t0, o0]; exact part_arms _ _ (by simp) w
    · rw [t1, o1]; exact part_nums ps ns h h2 w
    · rw [t1, o1]; exact part_nums _ _ (by simp) (by simp) w
    · rw [t0]; exact eq_arms d ps h w
    · rw [t1]; exact eq_nums d ns h2 w
end Go.Proofs.Ytnnadhfpkplncaa
