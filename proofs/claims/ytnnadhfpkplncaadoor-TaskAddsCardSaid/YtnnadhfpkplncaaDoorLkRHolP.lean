/- Who holds a name, as the reference reckons it, in plain Lean. No condition of its own. -/
import Derived.Test.YtnnadhfpkplncaaDoorLkRFree
namespace Go.Proofs.YtnnadhfpkplncaaDoor
open Go.RowKit Go.Maps

/-- A number laid into a rising list, once. -/
def insZ (x : Int) : List Int → List Int
  | [] => [x]
  | y :: l => if y < x then y :: insZ x l else if y = x then y :: l else x :: y :: l
theorem insZ_mem {x y : Int} : ∀ {l : List Int}, y ∈ insZ x l ↔ y = x ∨ y ∈ l
  | [] => by simp [insZ]
  | z :: l => by
    unfold insZ
    split
    · rw [List.mem_cons, insZ_mem, List.mem_cons]
      constructor
      · rintro (h | h | h)
        · exact Or.inr (Or.inl h)
        · exact Or.inl h
        · exact Or.inr (Or.inr h)
      · rintro (h | h | h)
        · exact Or.inr (Or.inl h)
        · exact Or.inl h
        · exact Or.inr (Or.inr h)
    · split
      · rename_i h
        constructor
        · exact Or.inr
        · rintro (e | e)
          · rw [e, ← h]; exact List.mem_cons_self
          · exact e
      · rw [List.mem_cons]
theorem insZ_up {x : Int} : ∀ {l : List Int}, l.Pairwise (· < ·) → (insZ x l).Pairwise (· < ·)
  | [], _ => List.pairwise_singleton _ _
  | z :: l, h => by
    obtain ⟨h1, h2⟩ := List.pairwise_cons.1 h
    unfold insZ
    split
    · rename_i hz
      refine List.pairwise_cons.2 ⟨fun y hy => ?_, insZ_up h2⟩
      rcases insZ_mem.1 hy with rfl | hy
      · exact hz
      · exact h1 y hy
    · split
      · exact h
      · rename_i hz hne
        refine List.pairwise_cons.2 ⟨fun y hy => ?_, h⟩
        rcases List.mem_cons.1 hy with rfl | hy
        · omega
        · have := h1 y hy; omega
end Go.Proofs.YtnnadhfpkplncaaDoor
