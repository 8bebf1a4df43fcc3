/- A map keyed by nodes' addresses, of ones. Condition: the addresses are those of plain blocks. -/
import Derived.Test.YtnnadhfpkplncaaRxNodes
import Derived.LaidEqlPtr
import Derived.Maps.OwnOps
namespace Go.Proofs.Ytnnadhfpkplncaa
open Go.RowKit

def nptr (b : Nat) : Value := .pointer (some ⟨b, 0, none⟩)
/-- A block of cells that nothing froze. -/
def Plain (w : World) (b : Nat) : Prop := ∃ cs t, w.heap[b]? = some (.cells cs t (0, 0))
theorem nptr_eq (d : Nat) (w : World) {a b : Nat} (ha : Plain w a) (hb : Plain w b) : (Op.equalIn (d + 1) 76 (nptr a) (nptr b)).run Try.prog w = .ok (decide (a = b)) w := by
  obtain ⟨ca, ta, ha⟩ := ha
  obtain ⟨cb, tb, hb⟩ := hb
  have hs : ∀ w, (sizeOf 87).run Try.prog w = .ok 32 w := fun w => by kernel_rfl
  by_cases h : a = b
  · subst h
    simp [nptr, Op.equalIn, run_underlying Try.underlying76, hs, run_sameAddr_same]
  · have hne : (⟨a, 0, none⟩ : Addr) ≠ ⟨b, 0, none⟩ := fun e => h (by cases e; rfl)
    simp [nptr, Op.equalIn, run_underlying Try.underlying76, hs, run_sameAddr_other w hne ha hb, h]
/-- Entries keyed by addresses of plain blocks, of ones. -/
def PEnt (w : World) (l : List Nat) (es : List MapEntry) : Prop := (∀ e ∈ es, ∃ b, e.key = nptr b ∧ e.val = .int .i64 1 ∧ b ∈ l ∧ Plain w b) ∧ ∀ b ∈ l, ∃ e ∈ es, e.key = nptr b
theorem find_asking (w : World) {x : Nat} (hx : Plain w x) : ∀ (es : List MapEntry) (i : Nat), (∀ e ∈ es, ∃ b, e.key = nptr b ∧ e.val = .int .i64 1 ∧ Plain w b) →
    ((Instr.findAsking 76 (nptr x) es i).run Try.prog w = .ok none w ∧ ∀ e ∈ es, e.key ≠ nptr x) ∨ ∃ j e, (Instr.findAsking 76 (nptr x) es i).run Try.prog w = .ok (some (i + j, .int .i64 1)) w ∧ es[j]? = some e ∧ e.key = nptr x
  | [], i, _ => Or.inl ⟨by simp [Instr.findAsking], by simp⟩
  | e :: es, i, h => by
    obtain ⟨b, hb, hv, hp⟩ := h e (by simp)
    have he := nptr_eq 9999 w hx hp
    by_cases hxb : x = b
    · refine Or.inr ⟨0, e, ?_, rfl, by rw [hb, hxb]⟩
      rw [decide_eq_true hxb] at he
      simp [Instr.findAsking, Op.equal, Op.maxDepth, hb, he, hv]
    · rw [decide_eq_false hxb] at he
      rcases find_asking w hx es (i + 1) (fun e he => h e (by simp [he])) with ⟨h1, h2⟩ | ⟨j, e', h1, h2, h3⟩
      · refine Or.inl ⟨by simp [Instr.findAsking, Op.equal, Op.maxDepth, hb, he, h1], fun e' he' => ?_⟩
        rcases List.mem_cons.1 he' with rfl | he'
        · rw [hb]; intro k; unfold nptr at k; injection k with k; injection k with k; injection k with k; exact hxb k.symm
        · exact h2 e' he'
      · exact Or.inr ⟨j + 1, e', by simp [Instr.findAsking, Op.equal, Op.maxDepth, hb, he, h1, Nat.add_assoc, Nat.add_comm 1], by simpa using h2, h3⟩
theorem find_key (w : World) {x : Nat} (hx : Plain w x) (es : List MapEntry) (h : ∀ e ∈ es, ∃ b, e.key = nptr b ∧ e.val = .int .i64 1 ∧ Plain w b) :
    ((Instr.findKey 76 (nptr x) es).run Try.prog w = .ok none w ∧ ∀ e ∈ es, e.key ≠ nptr x) ∨ ∃ j e, (Instr.findKey 76 (nptr x) es).run Try.prog w = .ok (some (j, .int .i64 1)) w ∧ es[j]? = some e ∧ e.key = nptr x := by
  cases es with
  | nil => exact Or.inl ⟨by simp [Instr.findKey, run_underlying Try.underlying76, Instr.findNow], by simp⟩
  | cons e es =>
    have hn : ∀ d, Try.prog.underlying 76 = some d → Instr.findNow d (nptr x) (e :: es) 0 = none := fun d hd => by
      rw [Try.underlying76] at hd
      cases hd
      simp [Instr.findNow, Instr.sameNow]
    have := find_asking w hx (e :: es) 0 h
    simp only [Nat.zero_add] at this
    have hk : (Instr.findKey 76 (nptr x) (e :: es)).run Try.prog w = (Instr.findAsking 76 (nptr x) (e :: es)).run Try.prog w := by
      simp [Instr.findKey, run_underlying Try.underlying76, hn _ Try.underlying76]
    rw [hk]
    exact this
/-- Block m is a map of ones whose keys are the addresses of l. -/
def PMap (w : World) (m : Nat) (l : List Nat) : Prop := ∃ es clock, w.heap[m]? = some (.map es clock) ∧ PEnt w l es.toList
theorem plain_set {w : World} {m b : Nat} {es : Array MapEntry} {clock : Nat} {o : Obj} (hm : w.heap[m]? = some (.map es clock)) (h : Plain w b) : Plain (ChangeMaps.setBlock w m o) b := by
  obtain ⟨cs, t, hb⟩ := h
  refine ⟨cs, t, ?_⟩
  have hne : m ≠ b := fun e => by subst e; rw [hm] at hb; cases hb
  simp only [ChangeMaps.setBlock, Array.getElem?_setIfInBounds]
  rw [if_neg hne]
  exact hb
theorem check_ptr (w : World) (e : Bool) (x : Nat) : (Instr.checkKey e 10000 76 (nptr x)).run Try.prog w = .ok () w := by
  unfold Instr.checkKey
  simp [run_underlying Try.underlying76, nptr]
theorem PMap.made (w : World) : PMap (w.alloc (.map #[] 0)) w.heap.size [] := ⟨#[], 0, heap_alloc_new _ _, by simp [PEnt]⟩
theorem PMap.below {w w' : World} {m : Nat} {l : List Nat} (h : PMap w m l) (k : Below w.heap.size w w') : PMap w' m l := by
  obtain ⟨es, clock, hm, h1, h2⟩ := h
  refine ⟨es, clock, (k.block m (block_lt hm)).trans hm, fun e he => ?_, h2⟩
  obtain ⟨b, a1, a2, a3, cs, t, a4⟩ := h1 e he
  exact ⟨b, a1, a2, a3, cs, t, (k.block b (block_lt a4)).trans a4⟩
theorem PMap.look {w : World} {m : Nat} {l : List Nat} (h : PMap w m l) {x : Nat} (hx : Plain w x) : (Instr.lookup 83 (.map (some m)) (nptr x) false).run Try.prog w = .ok (.int .i64 (if x ∈ l then 1 else 0)) w := by
  obtain ⟨es, clock, hm, h1, h2⟩ := h
  have hz : ∀ w, (zeroValue 3).run Try.prog w = .ok (.int .i64 0) w := fun w => by kernel_rfl
  rcases find_key w hx es.toList (fun e he => by obtain ⟨b, a1, a2, _, a4⟩ := h1 e he; exact ⟨b, a1, a2, a4⟩) with ⟨h3, h4⟩ | ⟨j, e, h3, h4, h5⟩
  · have hn : x ∉ l := fun hm => by
      obtain ⟨e, he, hk⟩ := h2 x hm
      exact h4 e he hk
    rw [if_neg hn]
    simp [Instr.lookup, run_underlying Try.underlying83, MapKept.run_getObj_map hm, check_ptr, h3, hz, Result.andThen]
  · have hy : x ∈ l := by
      obtain ⟨b, a1, _, a3, _⟩ := h1 e (List.mem_of_getElem? h4)
      rw [h5] at a1
      have : x = b := by simpa [nptr] using a1
      rw [this]; exact a3
    rw [if_pos hy]
    simp [Instr.lookup, run_underlying Try.underlying83, MapKept.run_getObj_map hm, check_ptr, h3, Result.andThen]
theorem PMap.store {w : World} {m : Nat} {l : List Nat} (h : PMap w m l) {x : Nat} (hx : Plain w x) : ∃ w', (Instr.mapUpdate 83 (.map (some m)) (nptr x) (.int .i64 1)).run Try.prog w = .ok () w' ∧ PMap w' m (l ++ [x]) ∧ w.grownBy w' (some m) := by
  obtain ⟨es, clock, hm, h1, h2⟩ := h
  have hg : ∀ o, w.grownBy (ChangeMaps.setBlock w m o) (some m) := fun o => ⟨rfl, rfl, rfl, by simp [ChangeMaps.setBlock], fun i _ hi => by
    simp only [ChangeMaps.setBlock, Array.getElem?_setIfInBounds]
    rw [if_neg (fun e => hi (by rw [e]))]⟩
  have hs : ∀ o, (ChangeMaps.setBlock w m o).heap[m]? = some o := fun o => by
    simp [ChangeMaps.setBlock, (Array.getElem?_eq_some_iff.1 hm).1]
  rcases find_key w hx es.toList (fun e he => by obtain ⟨b, a1, a2, _, a4⟩ := h1 e he; exact ⟨b, a1, a2, a4⟩) with ⟨h3, h4⟩ | ⟨j, e, h3, h4, h5⟩
  · refine ⟨ChangeMaps.setBlock w m (.map (es.push ⟨nptr x, .int .i64 1, clock⟩) (clock + 1)), ?_, ⟨_, _, hs _, ?_, ?_⟩, hg _⟩
    · simp [Instr.mapUpdate, run_underlying Try.underlying83, MapKept.run_getObj_map hm, check_ptr, h3, MapKept.run_setObj_map _ hm, Result.andThen, ChangeMaps.setBlock]
    · intro e he
      simp only [Array.toList_push, List.mem_append, List.mem_singleton] at he
      rcases he with he | rfl
      · obtain ⟨b, a1, a2, a3, a4⟩ := h1 e he
        exact ⟨b, a1, a2, by simp [a3], plain_set hm a4⟩
      · exact ⟨x, rfl, rfl, by simp, plain_set hm hx⟩
    · intro b hb
      simp only [List.mem_append, List.mem_singleton] at hb
      rcases hb with hb | rfl
      · obtain ⟨e, he, hk⟩ := h2 b hb
        exact ⟨e, by simp [he], hk⟩
      · exact ⟨⟨nptr b, .int .i64 1, clock⟩, by simp, rfl⟩
  · have hj : es[j]? = some e := by simpa using h4
    have hlist : (es.modify j (fun e' => { e' with key := nptr x, val := .int .i64 1 })).toList = es.toList.set j { e with key := nptr x, val := .int .i64 1 } := by rw [Array.toList_modify, ChangeMaps.modify_eq_set _ _ _ _ h4]
    have hstay : (Instr.keyThatStays (nptr x) (nptr x)).run Try.prog w = .ok (nptr x) w := by simp [Instr.keyThatStays, Instr.sameBits, nptr]
    refine ⟨ChangeMaps.setBlock w m (.map (es.modify j (fun e' => { e' with key := nptr x, val := .int .i64 1 })) clock), ?_, ⟨_, _, hs _, ?_, ?_⟩, hg _⟩
    · simp [Instr.mapUpdate, run_underlying Try.underlying83, MapKept.run_getObj_map hm, check_ptr, h3, hj, h5, hstay, MapKept.run_setObj_map _ hm, Result.andThen, ChangeMaps.setBlock]
    · intro e' he'
      rw [hlist] at he'
      rcases List.mem_or_eq_of_mem_set he' with he' | rfl
      · obtain ⟨b, a1, a2, a3, a4⟩ := h1 e' he'
        exact ⟨b, a1, a2, by simp [a3], plain_set hm a4⟩
      · exact ⟨x, rfl, rfl, by simp, plain_set hm hx⟩
    · intro b hb
      rw [hlist]
      have hjl := (List.getElem?_eq_some_iff.1 h4).1
      have hx' : ∃ e' ∈ es.toList.set j { e with key := nptr x, val := .int .i64 1 }, e'.key = nptr x := ⟨_, List.mem_iff_getElem.2 ⟨j, by simpa using hjl, List.getElem_set_self _⟩, rfl⟩
      simp only [List.mem_append, List.mem_singleton] at hb
      rcases hb with hb | rfl
      · obtain ⟨e', he', hk⟩ := h2 b hb
        obtain ⟨i, hi, rfl⟩ := List.getElem_of_mem he'
        by_cases hij : j = i
        · subst hij
          have : es.toList[j] = e := by have := List.getElem?_eq_getElem hi; rw [h4] at this; exact (Option.some.inj this).symm
          rw [this, h5] at hk
          rw [← hk]
          exact hx'
        · exact ⟨es.toList[i], List.mem_iff_getElem.2 ⟨i, by simpa using hi, by rw [List.getElem_set_ne hij]⟩, hk⟩
      · exact hx'
end Go.Proofs.Ytnnadhfpkplncaa
