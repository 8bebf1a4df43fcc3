/- A region that draws its order and whose last operation waits for all others: the others first, then that one. No condition but the Bool on the text. -/
import Derived.Test.YtnnadhfpkplncaaProg
import Derived.WalkKit
import Derived.OrdersHeld
import Derived.Deep.RegionHeld
namespace Go.Proofs.Ytnnadhfpkplncaa
open Go.RowKit

section
variable {P : Program} {md : Region.Mode} {A : List Oper} {o : Oper} {Q : Exit → Act → World → Prop}
/-- Each operation waits for earlier ones only; the last one waits for all. -/
def lastB (md : Region.Mode) (A : List Oper) (o : Oper) : Bool :=
  (List.range A.length).all (fun j => match A[j]? with
    | some oj => oj.after.all (fun e => !Region.binds md e || decide (e.on < j)) && (match oj.guard with | none => true | some (g, _) => decide (g < A.length))
    | none => true) && ((List.range A.length).all (fun j => (o.after.any fun e => Region.binds md e && e.on == j) || (List.range A.length).any fun j' => decide (j < j') && (match A[j']? with | some oj => oj.after.any fun e => Region.binds md e && e.on == j | none => false)) && o.after.all (fun e => !Region.binds md e || decide (e.on < A.length)))
theorem lastB_spec (h : lastB md A o = true) : (∀ j oj, A[j]? = some oj → (∀ e ∈ oj.after, Region.binds md e = true → e.on < j) ∧ (∀ g b, oj.guard = some (g, b) → g < A.length)) ∧ (∀ j, j < A.length → (∃ e ∈ o.after, Region.binds md e = true ∧ e.on = j) ∨ ∃ j' oj, j < j' ∧ A[j']? = some oj ∧ ∃ e ∈ oj.after, Region.binds md e = true ∧ e.on = j) ∧ ∀ e ∈ o.after, Region.binds md e = true → e.on < A.length := by
  unfold lastB at h
  rw [Bool.and_eq_true, Bool.and_eq_true, List.all_eq_true, List.all_eq_true] at h
  obtain ⟨h1, h2, h9⟩ := h
  refine ⟨fun j oj hj => ?_, fun j hj => ?_, fun e he hb => ?_⟩
  · have hlt := (List.getElem?_eq_some_iff.1 hj).1
    have := h1 j (List.mem_range.2 hlt)
    rw [hj] at this
    simp only [Bool.and_eq_true] at this
    obtain ⟨a1, a2⟩ := this
    refine ⟨fun e he hb => ?_, fun g b hg => ?_⟩
    · have := (Array.all_eq_true'.1 a1) e he
      rw [hb] at this
      simpa using this
    · rw [hg] at a2
      simpa using a2
  · have := h2 j (List.mem_range.2 hj)
    rw [Bool.or_eq_true] at this
    rcases this with this | this
    · obtain ⟨e, he, hb⟩ := Array.any_eq_true'.1 this
      rw [Bool.and_eq_true] at hb
      exact Or.inl ⟨e, he, hb.1, by simpa using hb.2⟩
    · obtain ⟨j', _, hj'⟩ := List.any_eq_true.1 this
      rw [Bool.and_eq_true] at hj'
      obtain ⟨h3, h4⟩ := hj'
      cases ho : A[j']? with
      | none => rw [ho] at h4; cases h4
      | some oj =>
        rw [ho] at h4
        obtain ⟨e, he, hb⟩ := Array.any_eq_true'.1 h4
        rw [Bool.and_eq_true] at hb
        exact Or.inr ⟨j', oj, of_decide_eq_true h3, ho, e, he, hb.1, by simpa using hb.2⟩
  · have := (Array.all_eq_true'.1 h9) e he
    rw [hb] at this
    simpa using this
theorem app_at {j : Nat} (h : j < A.length) : (A ++ [o]).toArray[j]? = A.toArray[j]? := by
  simp [List.getElem?_append_left h]
theorem app_last : (A ++ [o]).toArray[A.length]? = some o := by simp
theorem getD_push {l : Array Bool} {j : Nat} {b d : Bool} (h : j < l.size) : (l.push b).getD j d = l.getD j d := by
  simp [Array.getElem_push, h, Nat.lt_succ_of_lt h]
theorem getD_push_last {l : Array Bool} {b d : Bool} : (l.push b).getD l.size d = b := by simp
theorem wp_swapQ {oi : Oper} {a : Act} {w : World} {N K : Act → World → Prop} (h : oi.wp P a w K (Exit.then N Q)) : oi.wp P a w K Q := by
  unfold Oper.wp at *
  generalize (execOp a.eval oi).run P w = r at *
  cases r with
  | ok n w' =>
    cases n <;> simp only [Oper.upon] at h ⊢ <;> first | exact h | skip
    all_goals
      exact Calls.mono h (fun e w'' he => by cases e <;> exact he)
  | halt x w' => cases x <;> simp only [Oper.upon] at h ⊢ <;> exact h
theorem wpOp_head {i : Nat} {a : Act} {w : World} {N K : Act → World → Prop} (hB : lastB md A o = true) (hi : i < A.length) (h : wpOp P A.toArray (Exit.then N Q) i K a w) : wpOp P (A ++ [o]).toArray Q i K a w := by
  obtain ⟨hspec, _⟩ := lastB_spec hB
  unfold wpOp at *
  rw [app_at hi]
  have ho : A.toArray[i]? = some A[i] := by simp [hi]
  rw [ho] at h ⊢
  have hA : A[i]? = some A[i] := List.getElem?_eq_getElem hi
  have hw : Region.wanted A[i] (yielded (A ++ [o]).toArray a.tmps) = Region.wanted A[i] (yielded A.toArray a.tmps) := by
    unfold Region.wanted
    cases hg : A[i].guard with
    | none => rfl
    | some gb =>
      obtain ⟨g, b⟩ := gb
      have := (hspec i _ hA).2 g b hg
      simp only [yielded, app_at this]
  simp only [hw]
  simp only at h
  split
  · rename_i hw1
    rw [if_pos hw1] at h
    refine h.imp wp_swapQ fun ⟨h1, a2, w2, h2⟩ => ⟨h1, a2, w2, h2⟩
  · rename_i hw1
    rw [if_neg hw1] at h
    exact h
/-- Nothing may come up: all have. -/
theorem none_ready (hB : lastB md A o = true) {lA : Array Bool} (hs : lA.size = A.length) (h : Region.ready md A.toArray lA = []) : ∀ j, j < A.length → lA.getD j false = true := by
  obtain ⟨hspec, _⟩ := lastB_spec hB
  intro j
  induction j using Nat.strongRecOn with
  | _ j ih =>
    intro hj
    have hA : A[j]? = some A[j] := List.getElem?_eq_getElem hj
    have hno : j ∉ Region.ready md A.toArray lA := by rw [h]; exact List.not_mem_nil
    rw [mem_ready] at hno
    have hd : lA.getD j true ≠ false := fun hc => hno ⟨hc, A[j], by simp [hj], fun e he hb => ih e.on ((hspec j _ hA).1 e he hb) (Nat.lt_trans ((hspec j _ hA).1 e he hb) hj)⟩
    simp only [Array.getD_eq_getD_getElem?, Array.getElem?_eq_getElem (show j < lA.size by omega), Option.getD_some] at hd ⊢
    simpa using hd
theorem ready_head (hB : lastB md A o = true) {lA : Array Bool} (hs : lA.size = A.length) {i : Nat} (hi : i < A.length) : i ∈ Region.ready md (A ++ [o]).toArray (lA.push false) ↔ i ∈ Region.ready md A.toArray lA := by
  obtain ⟨hspec, _⟩ := lastB_spec hB
  have hA : A[i]? = some A[i] := List.getElem?_eq_getElem hi
  rw [mem_ready, mem_ready, getD_push (by omega), app_at hi]
  refine and_congr_right fun _ => exists_congr fun oi => and_congr_right fun ho => ?_
  have ho2 : A[i]? = some oi := by simpa using ho
  refine forall_congr' fun e => forall_congr' fun he => forall_congr' fun hb => ?_
  rw [getD_push (by have := (hspec i oi ho2).1 e he hb; omega)]
/-- What has come up waited for what has. -/
def ClosedR (md : Region.Mode) (A : List Oper) (lA : Array Bool) : Prop := ∀ (j : Nat) (oj : Oper), A[j]? = some oj → lA.getD j false = true → ∀ e ∈ oj.after, Region.binds md e = true → lA.getD e.on false = true
theorem ClosedR.set {lA : Array Bool} (h : ClosedR md A lA) {i : Nat} (hi : i ∈ Region.ready md A.toArray lA) : ClosedR md A (lA.setIfInBounds i true) := fun j oj hj hl e he hb => by
  obtain ⟨_, oi, hoi, hall⟩ := mem_ready.1 hi
  by_cases hij : j = i
  · subst hij
    have h1 : oj = oi := by
      have : A.toArray[j]? = some oj := by simpa using hj
      rw [hoi] at this
      exact (Option.some.inj this).symm
    subst h1
    exact getD_set_true (hall e he hb)
  · have e1 : (lA.setIfInBounds i true).getD j false = lA.getD j false := by simp [Ne.symm hij]
    rw [e1] at hl
    exact getD_set_true (h j oj hj hl e he hb)
theorem ready_last (hB : lastB md A o = true) {lA : Array Bool} (hs : lA.size = A.length) (hc : ClosedR md A lA) (h : A.length ∈ Region.ready md (A ++ [o]).toArray (lA.push false)) : ∀ j, j < A.length → lA.getD j false = true := by
  obtain ⟨_, hl, _⟩ := lastB_spec hB
  rw [mem_ready] at h
  obtain ⟨_, o2, ho, hall⟩ := h
  rw [app_last] at ho
  cases ho
  suffices h2 : ∀ d j, j < A.length → A.length - j = d → lA.getD j false = true from fun j hj => h2 _ j hj rfl
  intro d
  induction d using Nat.strongRecOn with
  | _ d ih =>
    intro j hj hd
    rcases hl j hj with ⟨e, he, hb, rfl⟩ | ⟨j', oj, hlt, hoj, e, he, hb, rfl⟩
    · have := hall e he hb
      rwa [getD_push (by omega)] at this
    · have hj' := (List.getElem?_eq_some_iff.1 hoj).1
      exact hc j' oj hoj (ih (A.length - j') (by omega) j' hj' rfl) e he hb
theorem all_listed {lA : Array Bool} (hs : lA.size = A.length) (h : ∀ j, j < A.length → lA.getD j false = true) : Region.ready md (A ++ [o]).toArray ((lA.push false).setIfInBounds A.length true) = [] := by
  refine List.eq_nil_iff_forall_not_mem.2 fun i hi => ?_
  rw [mem_ready] at hi
  obtain ⟨h0, o2, ho, _⟩ := hi
  have hlt : i < A.length + 1 := by simpa using (Array.getElem?_eq_some_iff.1 ho).1
  by_cases e : i = A.length
  · subst e
    simp [hs] at h0
  · have h1 := h i (by omega)
    rw [getD_set_ne true (Ne.symm e), getD_push (by omega)] at h0
    simp only [Array.getD_eq_getD_getElem?, Array.getElem?_eq_getElem (show i < lA.size by omega), Option.getD_some] at h0 h1
    rw [h0] at h1
    cases h1
theorem wpAny_last (hB : lastB md A o = true) : ∀ (fuel : Nat) (lA : Array Bool) (a : Act) (w : World), lA.size = A.length → ClosedR md A lA →
    wpAny P md A.toArray (Exit.then (fun a w => wpOp P (A ++ [o]).toArray Q A.length (fun a w => Q .normal a w) a w) Q) fuel lA a w → wpAny P md (A ++ [o]).toArray Q (fuel + 1) (lA.push false) a w := by
  have fin : ∀ (f : Nat) (lA : Array Bool) (a : Act) (w : World), lA.size = A.length → (∀ j, j < A.length → lA.getD j false = true) → Q .normal a w → wpAny P md (A ++ [o]).toArray Q f ((lA.push false).setIfInBounds A.length true) a w := fun f lA a w hs hall hq => by
    have hr := all_listed (md := md) (o := o) hs hall
    cases f with
    | zero => exact ⟨hr, hq⟩
    | succ f => exact ⟨fun _ => hq, fun i hi => by rw [hr] at hi; cases hi⟩
  have stuck : ∀ (lA : Array Bool) , lA.size = A.length → Region.ready md (A ++ [o]).toArray (lA.push false) ≠ [] := fun lA hs hr => by
    have hA : Region.ready md A.toArray lA = [] := List.eq_nil_iff_forall_not_mem.2 fun i hi => by
      have hlt : i < A.length := by
        obtain ⟨_, o2, ho, _⟩ := mem_ready.1 hi
        simpa using (Array.getElem?_eq_some_iff.1 ho).1
      have := (ready_head hB hs hlt).2 hi
      rw [hr] at this
      cases this
    have hall := none_ready hB hs hA
    have : A.length ∈ Region.ready md (A ++ [o]).toArray (lA.push false) := by
      rw [mem_ready]
      refine ⟨by rw [← hs]; exact getD_push_last, o, app_last, fun e he hb => ?_⟩
      have h9 := (lastB_spec hB).2.2 e he hb
      rw [getD_push (by omega)]
      exact hall _ h9
    rw [hr] at this
    cases this
  intro fuel
  induction fuel with
  | zero =>
    intro lA a w hs _ ⟨hr, hq⟩
    have hall := none_ready hB hs hr
    refine ⟨fun hr2 => absurd hr2 (stuck lA hs), fun i hi => ?_⟩
    by_cases e : i = A.length
    · subst e
      exact wpOp_mono (fun a' w' h' => fin 0 lA a' w' hs hall h') hq
    · have hlt : i < A.length := by
        obtain ⟨_, o2, ho, _⟩ := mem_ready.1 hi
        have : i < A.length + 1 := by simpa using (Array.getElem?_eq_some_iff.1 ho).1
        omega
      have := (ready_head hB hs hlt).1 hi
      rw [hr] at this
      cases this
  | succ fuel ih =>
    intro lA a w hs hcl ⟨h1, h2⟩
    refine ⟨fun hr2 => absurd hr2 (stuck lA hs), fun i hi => ?_⟩
    by_cases e : i = A.length
    · subst e
      have hall := ready_last hB hs hcl hi
      have hrA : Region.ready md A.toArray lA = [] := List.eq_nil_iff_forall_not_mem.2 fun i hi => by
        obtain ⟨h0, o2, ho, _⟩ := mem_ready.1 hi
        have hlt : i < A.length := by simpa using (Array.getElem?_eq_some_iff.1 ho).1
        have h3 := hall i hlt
        simp only [Array.getD_eq_getD_getElem?, Array.getElem?_eq_getElem (show i < lA.size by omega), Option.getD_some] at h0 h3
        rw [h0] at h3
        cases h3
      exact wpOp_mono (fun a' w' h' => fin (fuel + 1) lA a' w' hs hall h') (h1 hrA)
    · have hlt : i < A.length := by
        obtain ⟨_, o2, ho, _⟩ := mem_ready.1 hi
        have : i < A.length + 1 := by simpa using (Array.getElem?_eq_some_iff.1 ho).1
        omega
      have h3 := wpOp_head hB hlt (h2 i ((ready_head hB hs hlt).1 hi))
      refine wpOp_mono (fun a' w' h' => ?_) h3
      have := ih (lA.setIfInBounds i true) a' w' (by simpa using hs) (hcl.set ((ready_head hB hs hlt).1 hi)) h'
      have he : (lA.setIfInBounds i true).push false = (lA.push false).setIfInBounds i true := by
        refine Array.ext_getElem? fun j => ?_
        simp only [Array.getElem?_push, Array.getElem?_setIfInBounds, Array.size_setIfInBounds, Array.size_push]
        by_cases hj : i = j
        · subst hj
          have h4 : ¬ i = lA.size := by omega
          have h5 : i < lA.size := by omega
          have h6 : i < lA.size + 1 := by omega
          simp [h4, h5, h6]
        · simp [hj]
      rwa [he] at this
/-- The region: all but the last operation under a condition on the world that holds throughout, then the last one. -/
theorem region_last {S : World → Prop} {id : Nat} {a : Act} {w : World} {l : List Oper} (hl : l = A ++ [o]) (hm : P.follows .mixedOrders = true) (hB : lastB .any A o = true) (hS : S w.drew)
    (h : S w.drew → wpAnyH P .any A.toArray (Exit.then (fun a w => wpOp P l.toArray Q A.length (fun a w => Q .normal a w) a w) Q) S A.length (Array.replicate A.length false) a w.drew) : (Code.region id l.toArray true).wp P Q a w := by
  subst hl
  refine wp_region_any hm ?_
  have h1 := wpAny_last hB A.length (Array.replicate A.length false) a w.drew (by simp) (fun j _ _ hl => by
    exfalso
    simp [Array.getElem?_replicate] at hl
    split at hl <;> simp at hl) (wpAny_of_held _ _ _ _ (h hS))
  have e1 : (A ++ [o]).toArray.size = A.length + 1 := by simp
  have e2 : (Array.replicate A.length false).push false = Array.replicate (A ++ [o]).toArray.size false := by
    rw [e1]
    exact (Array.replicate_succ ..).symm
  rw [← e2, e1]
  exact h1
/-- The same, the list taken apart by its own text. -/
theorem region_lastL {S : World → Prop} {id : Nat} {a : Act} {w : World} {l : List Oper} (hA : l.dropLast = A) (ho : l.getLast? = some o) (hm : P.follows .mixedOrders = true) (hB : lastB .any A o = true) (hS : S w.drew)
    (h : S w.drew → wpAnyH P .any A.toArray (Exit.then (fun a w => wpOp P l.toArray Q A.length (fun a w => Q .normal a w) a w) Q) S A.length (Array.replicate A.length false) a w.drew) : (Code.region id l.toArray true).wp P Q a w :=
  region_last (by
    subst hA
    have hne : l ≠ [] := by rintro rfl; cases ho
    rw [List.getLast?_eq_some_getLast hne] at ho
    cases ho
    exact (List.dropLast_concat_getLast hne).symm) hm hB hS h
end
/-- An operation out of a region's list. -/
def nthR : List Oper → Nat → Option Oper
  | [], _ => none
  | o :: _, 0 => some o
  | _ :: l, i + 1 => nthR l i
theorem nthR_eq : ∀ (l : List Oper) (i : Nat), l.toArray[i]? = nthR l i
  | [], i => by simp [nthR]
  | o :: l, 0 => by simp [nthR]
  | o :: l, i + 1 => by
    have := nthR_eq l i
    rw [List.getElem?_toArray] at this ⊢
    simpa [nthR] using this
section
variable {P : Program} {l : List Oper} {Q : Exit → Act → World → Prop} {md : Region.Mode} {S : World → Prop}
/-- An operation that waits for nothing is taken first. -/
theorem takeR (i : Nat) {oi : Oper} {v : Value} {fuel : Nat} {listed : Array Bool} {a : Act} {w : World} (hi : nthR l i = some oi) (hs : Region.noSelect l.toArray = true) (hf : Region.free md l.toArray listed i = true) (hr : (Region.ready md l.toArray listed).contains i = true)
    (hQ : ∀ c a w, Q (.panic c) (a.put oi.dst v) w → Q (.panic c) a w) (hy : YieldsIf P l.toArray S oi v a) (hS : S w) (h : wpAnyH P md l.toArray Q S fuel (listed.setIfInBounds i true) (a.put oi.dst v) w) : wpAnyH P md l.toArray Q S (fuel + 1) listed a w :=
  wpAnyH_take ((nthR_eq l i).trans hi) hs hf hr hQ hy hS h
theorem oneR (i : Nat) {o : Oper} {fuel : Nat} {listed : Array Bool} {a : Act} {w : World} (hr : Region.ready md l.toArray listed = [i]) (ho : nthR l i = some o)
    (h : ∀ K' : Act → World → Prop, Shut (∀ a w, S w → (S w → wpAnyH P md l.toArray Q S fuel (listed.setIfInBounds i true) a w) → K' a w) → if Region.wanted o (yielded l.toArray a.tmps) = true then Oper.wp P o a w K' Q else K' (a.put o.dst undef) w) :
    wpAnyH P md l.toArray Q S (fuel + 1) listed a w := wpAnyH_ready hr (by simp) (AllReadyH.cons ((nthR_eq l i).trans ho) h AllReadyH.nil)
theorem doneR {fuel : Nat} {listed : Array Bool} {a : Act} {w : World} (hr : Region.ready md l.toArray listed = []) (h : Q .normal a w) : wpAnyH P md l.toArray Q S fuel listed a w := wpAnyH_done hr h fuel
theorem lastR {l2 : List Oper} {k : Nat} {o : Oper} {a : Act} {w : World} {K : Act → World → Prop} (ho : nthR l2 k = some o) (h : if Region.wanted o (yielded l2.toArray a.tmps) = true then Oper.wp P o a w K Q else K (a.put o.dst undef) w) : wpOp P l2.toArray Q k K a w := by
  unfold wpOp
  rw [nthR_eq, ho]
  dsimp only
  split
  · rename_i hw
    rw [if_pos hw] at h
    exact Or.inl h
  · rename_i hw
    rw [if_neg hw] at h
    exact h
/-- All but the last operation have come up: the last one. -/
theorem endR {l2 : List Oper} {k : Nat} {o : Oper} {a : Act} {w : World} {K : Act → World → Prop} {fuel : Nat} {listed : Array Bool} (hr : Region.ready md l.toArray listed = []) (ho : nthR l2 k = some o)
    (h : if Region.wanted o (yielded l2.toArray a.tmps) = true then Oper.wp P o a w K Q else K (a.put o.dst undef) w) : wpAnyH P md l.toArray (Exit.then (fun a w => wpOp P l2.toArray Q k K a w) Q) S fuel listed a w := doneR hr (lastR ho h)
end
end Go.Proofs.Ytnnadhfpkplncaa
