/- What the table and the list say of holders and names, in plain Lean. No condition of its own. -/
import Derived.Test.YtnnadhfpkplncaaDoorLkRHolP
namespace Go.Proofs.YtnnadhfpkplncaaDoor
open Go.RowKit Go.Maps

/-- Who holds a name (or any name), rising, each once. -/
def holdersL (r : List Held) (nm : List UInt8) (any : Bool) : List Int := r.foldl (fun out x => if any || x.2.1 == nm then insZ x.1 out else out) []
theorem holdersL_snoc (r : List Held) (x : Held) (nm : List UInt8) (any : Bool) : holdersL (r ++ [x]) nm any = if any || x.2.1 == nm then insZ x.1 (holdersL r nm any) else holdersL r nm any := by
  unfold holdersL
  rw [List.foldl_append]; rfl
theorem insZ_len (x : Int) : ∀ l : List Int, (insZ x l).length ≤ l.length + 1
  | [] => Nat.le_refl _
  | y :: l => by
    unfold insZ
    split
    · have := insZ_len x l
      simp only [List.length_cons]; omega
    · split
      · simp
      · simp
theorem holdersL_len (r : List Held) (nm : List UInt8) (any : Bool) : (holdersL r nm any).length ≤ r.length := by
  unfold holdersL
  suffices h : ∀ (r : List Held) (o : List Int), (r.foldl (fun out x => if any || x.2.1 == nm then insZ x.1 out else out) o).length ≤ o.length + r.length by simpa using h r []
  intro r
  induction r with
  | nil => intro o; simp
  | cons x r ih =>
    intro o
    rw [List.foldl_cons]
    refine Nat.le_trans (ih _) ?_
    split
    · have := insZ_len x.1 o
      simp only [List.length_cons]; omega
    · simp only [List.length_cons]; omega
theorem holdersL_spec (r : List Held) (nm : List UInt8) (any : Bool) : (holdersL r nm any).Pairwise (· < ·) ∧ ∀ i, i ∈ holdersL r nm any ↔ ∃ x ∈ r, (any || x.2.1 == nm) = true ∧ x.1 = i := by
  suffices h : ∀ (r s : List Held), (holdersL s nm any).Pairwise (· < ·) ∧ (∀ i, i ∈ holdersL s nm any ↔ ∃ x ∈ s, (any || x.2.1 == nm) = true ∧ x.1 = i) → (holdersL (s ++ r) nm any).Pairwise (· < ·) ∧ ∀ i, i ∈ holdersL (s ++ r) nm any ↔ ∃ x ∈ s ++ r, (any || x.2.1 == nm) = true ∧ x.1 = i by
    have := h r [] ⟨List.Pairwise.nil, fun i => ⟨fun c => (by cases c), fun ⟨x, hx, _⟩ => (by cases hx)⟩⟩
    simpa using this
  intro r
  induction r with
  | nil => intro s hs; simpa using hs
  | cons x r ih =>
    intro s ⟨h1, h2⟩
    have := ih (s ++ [x]) (by
      rw [holdersL_snoc]
      split
      · rename_i hc
        refine ⟨insZ_up h1, fun i => ?_⟩
        rw [insZ_mem, h2]
        constructor
        · rintro (rfl | ⟨y, hy, e⟩)
          · exact ⟨x, by simp, hc, rfl⟩
          · exact ⟨y, by simp [hy], e⟩
        · rintro ⟨y, hy, e⟩
          rcases List.mem_append.1 hy with hy | hy
          · exact Or.inr ⟨y, hy, e⟩
          · rw [List.mem_singleton.1 hy] at e; exact Or.inl e.2.symm
      · rename_i hc
        refine ⟨h1, fun i => ?_⟩
        rw [h2]
        constructor
        · rintro ⟨y, hy, e⟩
          exact ⟨y, by simp [hy], e⟩
        · rintro ⟨y, hy, e⟩
          rcases List.mem_append.1 hy with hy | hy
          · exact ⟨y, hy, e⟩
          · rw [List.mem_singleton.1 hy] at e; exact absurd e.1 hc)
    simpa [List.append_assoc] using this
theorem up_one {a b : List Int} (ha : a.Pairwise (· < ·)) (hb : b.Pairwise (· < ·)) (h : ∀ i, i ∈ a ↔ i ∈ b) : a = b :=
  List.Perm.eq_of_pairwise (le := fun x y : Int => x ≤ y) (fun a b _ _ h1 h2 => by omega) (ha.imp fun h => by omega) (hb.imp fun h => by omega)
    ((List.perm_ext_iff_of_nodup (ha.imp fun h e => by omega) (hb.imp fun h e => by omega)).2 h)
theorem Agr.held {F : Int → List UInt8 → Int} {r : List Held} (h : Agr F r) {i : Int} {l : List UInt8} : F i l ≠ 0 ↔ ∃ x ∈ r, x.1 = i ∧ x.2.1 = l := by
  rw [Ne, h.zero]
  constructor
  · intro hn
    exact Classical.byContradiction fun hc => hn fun x hx e => hc ⟨x, hx, e⟩
  · rintro ⟨x, hx, e⟩ hc
    exact hc x hx e
theorem holders_eq {F : Int → List UInt8 → Int} {r : List Held} {nm : List UInt8} {H : List Int} (h : Agr F r) (hH : HoldersIs F nm H) : H = holdersL r nm false := by
  obtain ⟨h1, h2⟩ := holdersL_spec r nm false
  have hup : H.Pairwise (· < ·) := (hH.up.and hH.one).imp fun h => by omega
  refine up_one hup h1 fun i => ?_
  rw [hH.mem, h2, h.held]
  constructor
  · rintro ⟨_, x, hx, e1, e2⟩
    exact ⟨x, hx, by simp [e2], e1⟩
  · rintro ⟨x, hx, e1, e2⟩
    refine ⟨e2 ▸ (h.ok x hx).1, x, hx, e2, ?_⟩
    simpa using e1
theorem len_eq {F : Int → List UInt8 → Int} {r : List Held} {K : List Int} (h : Agr F r) (hn : K.Nodup) (hK : ∀ i, i ∈ K ↔ wfI i ∧ ∃ l, okS l ∧ F i l ≠ 0) : K.length = (holdersL r [] true).length := by
  obtain ⟨h1, h2⟩ := holdersL_spec r [] true
  refine ((List.perm_ext_iff_of_nodup hn (h1.imp fun h e => by omega)).2 fun i => ?_).length_eq
  rw [hK, h2]
  constructor
  · rintro ⟨_, l, _, hl⟩
    obtain ⟨x, hx, e1, e2⟩ := h.held.1 hl
    exact ⟨x, hx, rfl, e1⟩
  · rintro ⟨x, hx, _, rfl⟩
    exact ⟨(h.ok x hx).1, x.2.1, (h.ok x hx).2, h.held.2 ⟨x, hx, rfl, rfl⟩⟩
/-- They were taken in order. -/
def UpR (r : List Held) : Prop := r.Pairwise fun a b => a.1 = b.1 → a.2.1 < b.2.1
def namesL (r : List Held) (who : Int) : List (List UInt8) := (r.filter fun x => x.1 == who).map (·.2.1)
theorem namesL_up {r : List Held} (h : UpR r) (who : Int) : (namesL r who).Pairwise (· < ·) := by
  unfold namesL
  rw [List.pairwise_map]
  refine (List.Pairwise.filter _ h).imp_of_mem fun {a b} ha hb hab => hab ?_
  have h1 := (List.mem_filter.1 ha).2
  have h2 := (List.mem_filter.1 hb).2
  rw [beq_iff_eq] at h1 h2
  rw [h1, h2]
theorem names_eq {F : Int → List UInt8 → Int} {r : List Held} {who : Int} {L : List (List UInt8)} (h : Agr F r) (hu : UpR r) (hL : NamesIs F who L) : L = namesL r who := by
  have hup := namesL_up hu who
  refine names_one hL ⟨hup.imp fun h e => ?_, fun l => ?_, hup.imp fun h => List.le_of_lt h⟩
  · rw [e] at h; exact list_lt.2 (Or.inl rfl) h
  · unfold namesL
    rw [List.mem_map]
    constructor
    · rintro ⟨x, hx, rfl⟩
      obtain ⟨h1, h2⟩ := List.mem_filter.1 hx
      rw [beq_iff_eq] at h2
      exact ⟨(h.ok x h1).2, h.held.2 ⟨x, h1, h2, rfl⟩⟩
    · rintro ⟨_, hl⟩
      obtain ⟨x, hx, e1, e2⟩ := h.held.1 hl
      exact ⟨x, List.mem_filter.2 ⟨hx, by simp [e1]⟩, e2⟩
theorem UpR.nil : UpR [] := List.Pairwise.nil
theorem UpR.free {r : List Held} (h : UpR r) (who : Int) : UpR (freeL r who) := List.Pairwise.filter _ h
theorem UpR.take {r : List Held} (h : UpR r) (who : Int) (nm : List UInt8) (all : Bool) : UpR (rtakeL r who nm all) := by
  unfold rtakeL
  split
  · rename_i h0
    refine List.pairwise_append.2 ⟨h, List.pairwise_singleton _ _, fun a ha b hb he => ?_⟩
    rw [List.mem_singleton.1 hb] at he ⊢
    simp only at he
    unfold refMay at h0
    split at h0
    · cases h0
    · rename_i h1
      split at h0
      · cases h0
      · rename_i h2
        have n1 : a.2.1 ≠ nm := fun e => h1 (pT_any.2 ⟨a, ha, he, e⟩)
        have n2 : Op.bytesLess a.2.1 nm = true := by
          rcases hb : Op.bytesLess a.2.1 nm with _ | _
          · exact absurd (List.any_eq_true.2 ⟨a, ha, by simp [pO, he, hb, n1]⟩) h2
          · rfl
        rw [bytes_lt] at n2
        exact of_decide_eq_true n2
  · exact h
theorem Agr.free {F : Int → List UInt8 → Int} {r : List Held} (h : Agr F r) (who : Int) : Agr (fun i l => if i = who then 0 else F i l) (freeL r who) := by
  have hm : ∀ x : Held, x ∈ freeL r who ↔ x ∈ r ∧ x.1 ≠ who := fun x => by
    unfold freeL
    rw [List.mem_filter]; simp
  refine ⟨fun i l => ?_, fun x hx => h.ok x ((hm x).1 hx).1, List.Pairwise.filter _ h.one⟩
  by_cases e : i = who
  · have n1 : ∀ b : Bool, (i, l, b) ∉ freeL r who := fun b c => ((hm _).1 c).2 e
    rw [if_pos e, if_neg (n1 _), if_neg (n1 _)]
  · have n1 : ∀ b : Bool, (i, l, b) ∈ freeL r who ↔ (i, l, b) ∈ r := fun b => by rw [hm]; simp [e]
    simp only [e, if_false, n1]
    exact h.val i l
theorem freeL_len (r : List Held) (who : Int) : (freeL r who).length ≤ r.length := List.length_filter_le _ _
theorem rtakeL_len (r : List Held) (who : Int) (nm : List UInt8) (all : Bool) : (rtakeL r who nm all).length ≤ r.length + 1 := by
  unfold rtakeL
  split <;> simp
/-- Is it held, and alone? -/
def isL (r : List Held) (who : Int) (nm : List UInt8) : Bool := r.any (pT who nm)
def aloneL (r : List Held) (who : Int) (nm : List UInt8) : Bool := r.any fun x => pT who nm x && x.2.2
theorem is_eq {F : Int → List UInt8 → Int} {r : List Held} (h : Agr F r) (who : Int) (nm : List UInt8) : (F who nm != 0) = isL r who nm ∧ (F who nm == 2) = aloneL r who nm := by
  constructor
  · rw [Bool.eq_iff_iff]
    unfold isL
    rw [pT_any, ← h.held]; simp
  · rw [Bool.eq_iff_iff]
    unfold aloneL
    rw [List.any_eq_true, h.val]
    constructor
    · intro h2
      split at h2
      · rename_i hm
        exact ⟨_, hm, by simp [pT]⟩
      · split at h2 <;> simp at h2
    · rintro ⟨⟨a, b, c⟩, hx, e⟩
      simp only [pT, Bool.and_eq_true, beq_iff_eq] at e
      obtain ⟨⟨rfl, rfl⟩, rfl⟩ := e
      rw [if_pos hx]; rfl
theorem is_step {F : Int → List UInt8 → Int} {r : List Held} (h : Agr F r) {k : Nat} {x : Held} (hx : r[k]? = some x) (who : Int) (nm : List UInt8) :
    isL (r.take (k + 1)) who nm = (if pT who nm x then true else isL (r.take k) who nm) ∧ aloneL (r.take (k + 1)) who nm = (if pT who nm x then x.2.2 else aloneL (r.take k) who nm) := by
  have e1 := any_take hx (pT who nm)
  have e2 := any_take hx (fun x => pT who nm x && x.2.2)
  unfold isL aloneL
  rw [e1, e2]
  by_cases hp : pT who nm x = true
  · rw [if_pos hp, if_pos hp]
    refine ⟨by simp [hp], ?_⟩
    have hno : (r.take k).any (fun x => pT who nm x && x.2.2) = false := by
      rw [List.any_eq_false]
      intro y hy c
      rw [Bool.and_eq_true] at c
      obtain ⟨i, hi⟩ := List.mem_iff_getElem?.1 hy
      have hik : i < k := by
        have := (List.getElem?_eq_some_iff.1 hi).1
        rw [List.length_take] at this
        omega
      rw [List.getElem?_take, if_pos hik] at hi
      obtain ⟨a1, rfl⟩ := List.getElem?_eq_some_iff.1 hi
      obtain ⟨a2, rfl⟩ := List.getElem?_eq_some_iff.1 hx
      have := List.pairwise_iff_getElem.1 h.one i k a1 a2 hik
      simp only [pT, Bool.and_eq_true, beq_iff_eq] at c hp
      exact this ⟨c.1.1.trans hp.1.symm, c.1.2.trans hp.2.symm⟩
    rw [hno]
    simp [hp]
  · rw [if_neg hp, if_neg hp]
    have : pT who nm x = false := by simpa using hp
    simp [this]
end Go.Proofs.YtnnadhfpkplncaaDoor
