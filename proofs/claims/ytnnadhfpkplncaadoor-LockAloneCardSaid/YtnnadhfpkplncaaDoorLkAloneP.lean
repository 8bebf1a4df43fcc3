/- Nobody holds alone what another one holds; a name above all is free. No condition of its own. -/
import Derived.Test.YtnnadhfpkplncaaDoorLkHolders
namespace Go.Proofs.YtnnadhfpkplncaaDoor
open Go.RowKit Go.Maps

/-- What is always so of a table whose names come out of S. -/
structure LockInv (S : List UInt8 → Prop) (F : Int → List UInt8 → Int) : Prop where
  val : ∀ i l, F i l = 0 ∨ F i l = 1 ∨ F i l = 2
  one : ∀ i j l, F i l = 2 → F j l ≠ 0 → i = j
  dom : ∀ i l, F i l ≠ 0 → wfI i ∧ okS l ∧ S l
theorem LockInv.nil (S : List UInt8 → Prop) : LockInv S (fun _ _ => 0) := ⟨fun _ _ => Or.inl rfl, fun _ _ _ h => (by cases h), fun _ _ h => absurd rfl h⟩
theorem LockInv.free {S : List UInt8 → Prop} {F : Int → List UInt8 → Int} (h : LockInv S F) (who : Int) : LockInv S (fun i l => if i = who then 0 else F i l) := by
  refine ⟨fun i l => ?_, fun i j l hi hj => ?_, fun i l hi => ?_⟩
  · by_cases e : i = who
    · exact Or.inl (if_pos e)
    · rw [if_neg e]; exact h.val i l
  · have ei : i ≠ who := fun e => by rw [if_pos e] at hi; omega
    have ej : j ≠ who := fun e => by rw [if_pos e] at hj; exact hj rfl
    rw [if_neg ei] at hi
    rw [if_neg ej] at hj
    exact h.one i j l hi hj
  · have ei : i ≠ who := fun e => by rw [if_pos e] at hi; exact hi rfl
    rw [if_neg ei] at hi
    exact h.dom i l hi
theorem LockInv.take {S : List UInt8 → Prop} {F : Int → List UInt8 → Int} {who n : Int} {nm : List UInt8} {all : Bool} (h : LockInv S F) (hm : MayIs F who nm all n) (hw : wfI who) (hn : okS nm) (hs : S nm) : LockInv S (takeF F who nm all n) := by
  unfold takeF
  by_cases h0 : n = 0
  · subst h0
    rw [if_pos rfl]
    have hno : ∀ j, wfI j → j ≠ who → ¬ hits F j nm all := by
      rcases hm with ⟨_, e⟩ | ⟨_, _, e⟩ | ⟨_, _, _, e⟩ | ⟨_, _, e, _⟩
      · cases e
      · cases e
      · cases e
      · exact e
    have hz := may_zero hm
    have hk : (if all then (2 : Int) else 1) = 1 ∨ (if all then (2 : Int) else 1) = 2 := by cases all <;> simp
    refine ⟨fun i l => ?_, fun i j l hi hj => ?_, fun i l hi => ?_⟩
    · unfold upF
      split
      · exact Or.inr hk
      · exact h.val i l
    · unfold upF at hi hj
      by_cases ei : i = who ∧ l = nm
      · obtain ⟨rfl, rfl⟩ := ei
        rw [if_pos ⟨rfl, rfl⟩] at hi
        have ha : all = true := by cases all <;> simp at hi ⊢
        subst ha
        by_cases ej : j = i
        · exact ej.symm
        · rw [if_neg (fun c => ej c.1)] at hj
          have hd := h.dom j l hj
          have := hno j hd.1 ej
          unfold hits at this
          rcases h.val j l with a | a | a
          · exact absurd a hj
          · exact absurd (Or.inr ⟨rfl, a⟩) this
          · exact absurd (Or.inl a) this
      · rw [if_neg ei] at hi
        by_cases ej : j = who ∧ l = nm
        · obtain ⟨rfl, rfl⟩ := ej
          have hd := h.dom i l (by omega)
          by_cases e : i = j
          · exact e
          · exact absurd (Or.inl hi) (hno i hd.1 e)
        · rw [if_neg ej] at hj
          exact h.one i j l hi hj
    · unfold upF at hi
      by_cases ei : i = who ∧ l = nm
      · obtain ⟨rfl, rfl⟩ := ei
        exact ⟨hw, hn, hs⟩
      · rw [if_neg ei] at hi
        exact h.dom i l hi
  · rw [if_neg h0]; exact h
theorem alone_len {S : List UInt8 → Prop} {F : Int → List UInt8 → Int} {nm : List UInt8} {H : List Int} {x : Int} (h : LockInv S F) (hh : HoldersIs F nm H) (_hx : x ∈ H) (h2 : F x nm = 2) : H.length ≤ 1 := by
  have hall : ∀ y ∈ H, y = x := fun y hy => (h.one x y nm h2 ((hh.mem y).1 hy).2).symm
  match H, hh.one, hall with
  | [], _, _ => exact Nat.zero_le _
  | [a], _, _ => exact Nat.le_refl _
  | a :: b :: r, hnd, ha =>
    exfalso
    have e1 := ha a (by simp)
    have e2 := ha b (by simp)
    rw [e1, e2] at hnd
    exact (List.nodup_cons.1 hnd).1 (by simp)
theorem lt_snoc : ∀ a : List UInt8, a < a ++ [122]
  | [] => by simp
  | x :: a => by
    rw [List.cons_append, List.cons_lt_cons_iff]
    exact Or.inr ⟨rfl, lt_snoc a⟩
theorem above {a l : List UInt8} (h : ¬ a < l) : l < a ++ [122] := by
  rcases list_lt.1 h with rfl | h1
  · exact lt_snoc _
  · exact bef_lt.1 (WideShapes.bytes_trans _ _ _ (bef_lt.2 h1) (bef_lt.2 (lt_snoc a)))
/-- A name above all is free for each one. -/
theorem top_free {S : List UInt8 → Prop} {F : Int → List UInt8 → Int} {who n : Int} {a : List UInt8} (h : LockInv S F) (ha : ∀ l, S l → ¬ a < l) (hm : MayIs F who (a ++ [122]) true n) : n = 0 := by
  have hno : ∀ i, F i (a ++ [122]) = 0 := fun i => by
    rcases Classical.em (F i (a ++ [122]) = 0) with e | e
    · exact e
    · exact absurd (lt_snoc a) (ha _ (h.dom i _ e).2.2)
  have hlt : ∀ l, F who l ≠ 0 → l < a ++ [122] := fun l hl => above (ha l (h.dom who l hl).2.2)
  rcases hm with ⟨h1, _⟩ | ⟨_, ⟨l, _, h2, h3⟩, _⟩ | ⟨_, _, ⟨j, _, _, h3⟩, _⟩ | ⟨_, _, _, h4⟩
  · exact absurd (hno who) h1
  · exact absurd (hlt l h2) h3
  · unfold hits at h3
    rw [hno j] at h3
    rcases h3 with h3 | ⟨_, h3⟩ <;> cases h3
  · exact h4
/-- The greatest name of the first k. -/
def topL (l : List Act4) : Nat → List UInt8
  | 0 => []
  | k + 1 => let a := topL l k; let b := ((l[k]?).map fun x => x.2.2.1).getD []; if a < b then b else a
theorem topL_up (l : List Act4) : ∀ k j x, j < k → l[j]? = some x → ¬ topL l k < x.2.2.1
  | 0, j, x, h, _ => by omega
  | k + 1, j, x, h, hx => by
    unfold topL
    simp only
    intro c
    rcases Nat.lt_or_ge j k with hlt | hge
    · have ih := topL_up l k j x hlt hx
      split at c
      · rename_i hab
        exact ih (bef_lt.1 (WideShapes.bytes_trans _ _ _ (bef_lt.2 hab) (bef_lt.2 c)))
      · exact ih c
    · obtain rfl : j = k := by omega
      rw [hx] at c
      simp only [Option.map_some, Option.getD_some] at c
      split at c
      · exact list_lt.2 (Or.inl rfl) c
      · rename_i hab
        exact hab c
theorem topL_len (l : List Act4) (m : Nat) (h : ∀ x ∈ l, x.2.2.1.length ≤ m) : ∀ k, (topL l k).length ≤ m
  | 0 => Nat.zero_le _
  | k + 1 => by
    unfold topL
    simp only
    split
    · cases hk : l[k]? with
      | none => simp
      | some x => simpa using h x (List.mem_of_getElem? hk)
    · exact topL_len l m h k
end Go.Proofs.YtnnadhfpkplncaaDoor
