/- A row multiplied, and a multiple of a row taken from another one. Condition: each row has a block of its own. -/
import Derived.Test.YtdeopklgdemnfaaRsEnc
namespace Go.Proofs.Ytdeopklgdemnfaa
open Go.RowKit Gf Rs

/-- As Keep, but block s may have turned too. -/
structure Keep2 (fb s : Nat) (w w' : World) : Prop where
  os : w'.os = w.os
  tape : w'.tape = w.tape
  output : w'.output = w.output
  size : w.heap.size ≤ w'.heap.size
  block : ∀ k, k < w.heap.size → k ≠ fb → k ≠ s → w'.heap[k]? = w.heap[k]?
  field : FieldIn fb w → FieldIn fb w'
theorem Keep2.refl (fb s : Nat) (w : World) : Keep2 fb s w w := ⟨rfl, rfl, rfl, Nat.le_refl _, fun _ _ _ _ => rfl, id⟩
theorem Keep2.of {fb s : Nat} {w w' : World} (h : Keep fb w w') : Keep2 fb s w w' := ⟨h.os, h.tape, h.output, h.size, fun k hk hn _ => h.block k hk hn, h.field⟩
theorem Keep2.trans {fb s : Nat} {a b c : World} (h : Keep2 fb s a b) (k : Keep2 fb s b c) : Keep2 fb s a c :=
  ⟨k.os.trans h.os, k.tape.trans h.tape, k.output.trans h.output, Nat.le_trans h.size k.size, fun i hi hn hs => (k.block i (Nat.lt_of_lt_of_le hi h.size) hn hs).trans (h.block i hi hn hs), fun f => k.field (h.field f)⟩
theorem Keep2.set {fb s o : Nat} {a w : World} (h : Keep2 fb s a w) (hne : s ≠ fb) (u : Value) : Keep2 fb s a (w.setCell ⟨s, o, none⟩ u) := by
  refine ⟨h.os, h.tape, h.output, by simpa [World.setCell] using h.size, fun k hk hn hs => ?_, fun f => ?_⟩
  · rw [Below.heap_setCell _ _ _ _ (show k ≠ s from hs)]; exact h.block k hk hn hs
  · have e := Below.heap_setCell w ⟨s, o, none⟩ u fb (show fb ≠ s from Ne.symm hne)
    have := h.field f
    unfold FieldIn at *; rw [e]; exact this
/-- What is one's own may turn. -/
theorem Keep.trans2 {fb s : Nat} {a b c : World} (h : Keep fb a b) (k : Keep2 fb s b c) (hs : a.heap.size ≤ s) : Keep fb a c :=
  ⟨k.os.trans h.os, k.tape.trans h.tape, k.output.trans h.output, Nat.le_trans h.size k.size, fun i hi hn => (k.block i (Nat.lt_of_lt_of_le hi h.size) hn (by omega)).trans (h.block i hi hn), fun f => k.field (h.field f)⟩
theorem Keep2.cell {fb s : Nat} {w w' : World} (h : Keep2 fb s w w') {b o : Nat} {v : Value} (hb : b ≠ fb) (hs : b ≠ s) (hc : w.cell? ⟨b, o, none⟩ = some v) : w'.cell? ⟨b, o, none⟩ = some v := by
  rw [← hc]; exact World.cell?_of_block (h.block b (cell_lt hc) hb hs)

/-- Number k of a list. -/
def gd (l : List F) (k : Nat) : F := l.getD k fz
theorem gd_eq {l : List F} {k : Nat} (h : k < l.length) : gd l k = l[k] := by unfold gd; rw [List.getD_eq_getElem?_getD, List.getElem?_eq_getElem h]; rfl
/-- The first j of a list made anew. -/
def midW (l : List F) (g : Nat → F) (j : Nat) : List F := (List.range l.length).map fun k => if k < j then g k else gd l k
theorem midW_length (l : List F) (g : Nat → F) (j : Nat) : (midW l g j).length = l.length := by simp [midW]
theorem midW_zero (l : List F) (g : Nat → F) : midW l g 0 = l := by
  apply List.ext_getElem
  · simp [midW]
  · intro k h1 h2
    simp only [midW, List.getElem_map, List.getElem_range, Nat.not_lt_zero, if_false]
    rw [gd_eq h2]
theorem midW_end (l : List F) (g : Nat → F) : midW l g l.length = (List.range l.length).map g := by
  apply List.map_congr_left
  intro k hk
  rw [if_pos (List.mem_range.1 hk)]
theorem midW_set (l : List F) (g : Nat → F) (j : Nat) : (midW l g j).set j (g j) = midW l g (j + 1) := by
  apply List.ext_getElem
  · simp [midW]
  · intro k h1 h2
    simp only [List.getElem_set, midW, List.getElem_map, List.getElem_range]
    by_cases e : j = k
    · subst e; rw [if_pos rfl, if_pos (by omega)]
    · rw [if_neg e]
      by_cases e2 : k < j
      · rw [if_pos e2, if_pos (by omega)]
      · rw [if_neg e2, if_neg (by omega)]
theorem midW_at {l : List F} {g : Nat → F} {j k : Nat} (hk : k < l.length) (h : j ≤ k) : (midW l g j)[k]? = some (gd l k) := by
  simp only [midW, List.getElem?_map, List.getElem?_range hk, Option.map_some]
  rw [if_neg (by omega)]
theorem getD_at {l : List F} {k : Nat} (hk : k < l.length) : l[k]? = some (gd l k) := by
  rw [gd_eq hk, List.getElem?_eq_getElem hk]
set_option maxRecDepth 100000 in
set_option maxHeartbeats 1600000 in
theorem scale_any (fb s : Nat) (c : Nat) (l : List F) (hl : l.length ≤ 1048576) (x : F) (w : World) (hf : FieldIn fb w) (hs : w.heap[s]? = some (.cells (arrB l) 5 (0, 0))) (hne : s ≠ fb) :
    Calls Try.prog 31 #[.pointer (some ⟨fb, 0, none⟩), .slice (some ⟨s, 0, none⟩) l.length c, .int .u8 (x.1 : Int)] w fun e w' =>
      e = .returned (.tuple #[]) ∧ w'.heap[s]? = some (.cells (arrB (l.map fun b => fmul b x)) 5 (0, 0)) ∧ Keep2 fb s w w' := by
  go_enter Try.func31, Try.ntmps31
  go_wp2
  go_loopw [6, 7, 10] (fun _ _ i wr => ∃ j : Nat, j ≤ l.length ∧ i = .int .i64 j ∧ Keep2 fb s w wr ∧ Hid (wr.heap[s]? = some (.cells (arrB (midW l (fun k => fmul (gd l k) x) j)) 5 (0, 0)))) (fun _ _ i _ => l.length - (intOf i).toNat)
  case atStart => exact ⟨0, by omega, rfl, Keep2.refl _ _ _, by rw [midW_zero]; exact hs⟩
  case round =>
    obtain ⟨j, hj, rfl, hk, hsb⟩ := hrel
    by_cases hlt : j < l.length
    · have hlw := block_lt hsb.out
      have hc : wr.cell? ⟨s, j, none⟩ = some (.int .u8 ((gd l j).1 : Int)) := by
        rw [block_cell hsb.out, arrB_at, midW_at hlt (Nat.le_refl _)]; rfl
      go_wp2_with fail
      refine (fmul_F fb (gd l j) x _ (hk.field hf)).mono ?_
      rintro e w5 ⟨rfl, hk5⟩
      have hsb5 := (hk5.block _ hlw hne).trans hsb.out
      have hc5 : w5.cell? ⟨s, j, none⟩ = some (.int .u8 ((gd l j).1 : Int)) := by
        rw [block_cell hsb5, arrB_at, midW_at hlt (Nat.le_refl _)]; rfl
      have hf5 : w5.frozen? ⟨s, j, none⟩ = false := block_free hsb5
      have hk6 := hk.trans (Keep2.of hk5)
      clear hk hk5 hsb hc
      go_wp2
      refine ⟨⟨j + 1, by omega, by go_num, hk6.set hne _, ?_⟩, by simp [intOf]; omega⟩
      rw [← midW_set, ← arrB_set]
      exact block_set hsb5 _
    · go_wp2
      go_end0
      obtain rfl : j = l.length := by omega
      refine ⟨rfl, ?_, hk⟩
      have e : l.map (fun b => fmul b x) = midW l (fun k => fmul (gd l k) x) l.length := by
        rw [midW_end]
        apply List.ext_getElem
        · simp
        · intro k h1 h2
          simp only [List.length_map] at h1
          simp only [List.getElem_map, List.getElem_range]
          rw [gd_eq h1]
      rw [e]; exact hsb
set_option maxRecDepth 100000 in
set_option maxHeartbeats 1600000 in
theorem take_any (fb s s2 : Nat) (c c2 : Nat) (l l2 : List F) (hl : l.length ≤ 1048576) (hll : l2.length = l.length) (x : F) (w : World) (hf : FieldIn fb w) (hs : w.heap[s]? = some (.cells (arrB l) 5 (0, 0))) (hne : s ≠ fb)
    (hs2 : w.heap[s2]? = some (.cells (arrB l2) 5 (0, 0))) (hne2 : s2 ≠ fb) (hss : s2 ≠ s) :
    Calls Try.prog 32 #[.pointer (some ⟨fb, 0, none⟩), .slice (some ⟨s, 0, none⟩) l.length c, .slice (some ⟨s2, 0, none⟩) l2.length c2, .int .u8 (x.1 : Int)] w fun e w' =>
      e = .returned (.tuple #[]) ∧ w'.heap[s]? = some (.cells (arrB ((List.range l.length).map fun k => fadd (gd l k) (fmul (gd l2 k) x))) 5 (0, 0)) ∧ Keep2 fb s w w' := by
  have HLL := Lib.hid hll
  clear hll
  go_enter Try.func32, Try.ntmps32
  go_wp2
  go_loopw [8, 9, 12] (fun _ _ i wr => ∃ j : Nat, j ≤ l.length ∧ i = .int .i64 j ∧ Keep2 fb s w wr ∧ Hid (wr.heap[s]? = some (.cells (arrB (midW l (fun k => fadd (gd l k) (fmul (gd l2 k) x)) j)) 5 (0, 0)))) (fun _ _ i _ => l.length - (intOf i).toNat)
  case atStart => exact ⟨0, by omega, rfl, Keep2.refl _ _ _, by rw [midW_zero]; exact hs⟩
  case round =>
    obtain ⟨j, hj, rfl, hk, hsb⟩ := hrel
    by_cases hlt : j < l.length
    · have hlt2 : j < l2.length := by rw [HLL.out]; exact hlt
      have hlw := block_lt hsb.out
      have hc : wr.cell? ⟨s, j, none⟩ = some (.int .u8 ((gd l j).1 : Int)) := by
        rw [block_cell hsb.out, arrB_at, midW_at hlt (Nat.le_refl _)]; rfl
      have hc2 : wr.cell? ⟨s2, j, none⟩ = some (.int .u8 ((gd l2 j).1 : Int)) :=
        hk.cell hne2 hss (by rw [block_cell hs2, arrB_at, getD_at hlt2]; rfl)
      have hfi : FieldIn fb wr.drew := hk.field hf
      have hcd : wr.drew.cell? ⟨s, j, none⟩ = some (.int .u8 ((gd l j).1 : Int)) := hc
      have hsd : wr.drew.heap[s]? = _ := hsb.out
      go_wp2
      go_region_law (first | (go_simp; go_at_call 8; refine (fmul_F fb (gd l2 j) x _ hfi).mono ?_; rintro e w5 ⟨rfl, hk5⟩; have hc5 := hk5.cell hne hcd; have hs5 := (hk5.block _ hlw hne).trans hsd; have hf5 := block_free (o := j) hs5) | (go_simp; go_at_call 11; refine (fadd_F fb (gd l j) (fmul (gd l2 j) x) _).mono ?_; rintro e w6 ⟨rfl, rfl⟩))
      all_goals
        have hkA : Keep2 fb s w w5 := hk.trans ((Keep2.of (Keep.refl fb wr).drew).trans (Keep2.of hk5))
        clear hk hk5 hsb hc hc2 hcd hsd
        go_wp2
        refine ⟨⟨j + 1, by omega, by go_num, hkA.set hne _, ?_⟩, by simp [intOf]; omega⟩
        rw [← midW_set, ← arrB_set]
        exact block_set hs5 _
    · have hge : ¬ j < l2.length := by rw [HLL.out]; exact hlt
      go_wp2
      go_end0
      obtain rfl : j = l.length := by omega
      refine ⟨rfl, ?_, hk⟩
      rw [← midW_end]; exact hsb
end Go.Proofs.Ytdeopklgdemnfaa
