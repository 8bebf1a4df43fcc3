/- Text by text; twins of texts. Condition: the texts read. -/
import Derived.Test.YtdeopklgdemnfaaRsOut
import Derived.Test.YtdeopklgdemnfaaRsSpec
import Derived.Laws.BytesArg
import Derived.Deep.QuietTactic
import Derived.BigQuiet
namespace Go.Proofs.Ytdeopklgdemnfaa
open Go.RowKit Gf Rs

/-- A list of bytes as a string. -/
def strF (l : List F) : ByteArray := strOfNums (l.map fun x => (x.1 : Int))
theorem conv_rd {fb : Nat} {w : World} {A : Option Addr} {l : List F} (h : RdB fb w A l) (c : Nat) : (convert 37 9 (.slice A l.length c)).run Try.prog w = .ok (.string (strF l)) w := by
  cases A with
  | none =>
    have : l = [] := by
      cases l with
      | nil => rfl
      | cons x l =>
        obtain ⟨b, o, e, _⟩ := h 0 (B x) rfl
        cases e
    subst this
    exact run_convert_bytes_nil w 37 5 Try.underlying37 Try.underlying5 _ _ 9 Try.underlying9
  | some a =>
    by_cases hl : l = []
    · subst hl
      rw [run_convert_bytes_string w 37 9 5 _ _ c Try.underlying37 Try.underlying5 Try.underlying9]
      exact run_bytesToString w a 0 c [] (by simp [loadCells, loadCellsFrom])
    · have h0 : 0 < l.length := List.length_pos_iff.2 hl
      obtain ⟨b, o, e, _⟩ := RdB.at h h0
      cases e
      refine run_convert_bytes_arg w 37 5 Try.underlying37 Try.underlying5 b o l.length c (l.map fun x => (x.1 : Int)) (by simp) (fun i hi => ?_) 9 Try.underlying9
      obtain ⟨b', o', e, _, hc⟩ := RdB.at h hi
      cases e
      rw [hc]
      simp [B, List.getD, hi]
theorem strF_inj {l l' : List F} (h : strF l = strF l') : l = l' := by
  have h2 := congrArg (fun s : ByteArray => s.data.toList) h
  simp only [strF, strOfNums_data, List.map_map] at h2
  have hi : ∀ x y : F, UInt8.ofNat x.1 = UInt8.ofNat y.1 → x = y := fun x y e => by
    have := congrArg UInt8.toNat e
    simp at this
    exact Fin.ext (by have := x.2; have := y.2; omega)
  exact (List.map_inj_right (f := (fun n : Int => UInt8.ofNat n.toNat) ∘ fun x : F => (x.1 : Int)) fun x y e => hi x y (by simpa using e)).1 h2
theorem strF_eq (l l' : List F) : ((strF l).toList == (strF l').toList) = decide (l = l') := by
  by_cases h : l = l'
  · subst h; simp
  · have : (strF l).toList ≠ (strF l').toList := fun e => h (strF_inj (by
      rw [ByteArray.toList_eq, ByteArray.toList_eq] at e
      unfold strF strOfNums at *
      simpa using e))
    simp [this, h]
def ListsPost (la lb : List (List F)) (w : World) (e : Ending) (w' : World) : Prop := e = .returned (.bool (decide (la = lb))) ∧ Below w.heap.size w w'
theorem ListsPost.of {la lb : List (List F)} {w w' : World} {b : Bool} (h : decide (la = lb) = b) (k : Below w.heap.size w w') : ListsPost la lb w (.returned (.bool b)) w' := ⟨by rw [h], k⟩
set_option maxRecDepth 100000 in
set_option maxHeartbeats 800000 in
theorem lists_any (fb fb2 : Nat) (A A' : Option Addr) (c c' : Nat) (la lb : List (List F)) (hq : la.length ≤ 9223372036854775807) (w : World) (h1 : RdM fb w A la) (h2 : RdM fb2 w A' lb) :
    Calls Try.prog 19 #[.slice A la.length c, .slice A' lb.length c'] w (ListsPost la lb w) := by
  by_cases hl : la.length = lb.length
  · have hlb : ((la.length : Int) != (lb.length : Int)) = false := by rw [hl]; simp
    have HL := Lib.hid hl
    clear hl
    go_enter Try.func19, Try.ntmps19
    go_wp2
    go_loopw [5] (fun i wr => ∃ j : Nat, j ≤ la.length ∧ i = .int .i64 j ∧ Below w.heap.size w wr ∧ Hid (∀ i, i < j → la[i]? = lb[i]?)) (fun i _ => la.length - (intOf i).toNat)
    case atStart => exact ⟨0, by omega, rfl, Below.refl _ _, fun i h => by omega⟩
    case round =>
      obtain ⟨j, hj, rfl, hb, hall⟩ := hrel
      by_cases hlt : j < la.length
      · have hlt2 : j < lb.length := by rw [← HL.out]; exact hlt
        obtain ⟨b1, o1, A1, c1, rfl, _, hc1, _, hr1⟩ := (h1.below hb).at hlt
        obtain ⟨b2, o2, A2, c2, rfl, _, hc2, _, hr2⟩ := (h2.below hb).at hlt2
        have hk1 : ∀ n, (convert 37 9 (.slice A1 la[j].length c1)).run Try.prog (wr.drewN n) = .ok (.string (strF la[j])) (wr.drewN n) := fun n => conv_rd (RdB.below hr1 (below_drewN (Below.refl _ _) n)) c1
        have hk2 : ∀ n, (convert 37 9 (.slice A2 lb[j].length c2)).run Try.prog (wr.drewN n) = .ok (.string (strF lb[j])) (wr.drewN n) := fun n => conv_rd (RdB.below hr2 (below_drewN (Below.refl _ _) n)) c2
        have hja := List.getElem?_eq_getElem hlt
        have hjb := List.getElem?_eq_getElem hlt2
        have HJA := Lib.hid hja
        have HJB := Lib.hid hjb
        have hji : (j : Int) < (la.length : Int) := by omega
        have hji2 : (j : Int) < (lb.length : Int) := by omega
        clear hja hjb hr1 hr2
        generalize la[j] = x at *
        generalize lb[j] = y at *
        have hne := strF_eq x y
        by_cases hxy : x = y
        · have HXY := Lib.hid hxy
          rw [decide_eq_true hxy] at hne
          clear hxy
          go_wp2
          go_quiet (fail)
          clear hk1 hk2
          go_wp2
          refine ⟨⟨j + 1, by omega, by go_num, below_drewN hb _, fun i hi => ?_⟩, by simp [intOf]; omega⟩
          by_cases e : i = j
          · rw [e, HJA.out, HJB.out, HXY.out]
          · exact hall.out i (by omega)
        · have hd : decide (la = lb) = false := decide_eq_false fun e => hxy (by
            have := HJA.out
            rw [e, HJB.out] at this
            exact (Option.some.inj this).symm)
          rw [decide_eq_false hxy] at hne
          have HD := Lib.hid hd
          clear hxy hd
          go_wp2
          go_quiet (fail)
          clear hk1 hk2
          go_wp2
          go_ret
          exact ListsPost.of HD.out (below_drewN hb _)
      · have hje : j = la.length := by omega
        have hd : decide (la = lb) = true := decide_eq_true (List.ext_getElem? fun i => by
          rcases Nat.lt_or_ge i la.length with h | h
          · exact hall.out i (by omega)
          · rw [List.getElem?_eq_none h, List.getElem?_eq_none (by rw [← HL.out]; exact h)])
        have HD := Lib.hid hd
        clear hje hd
        go_wp2
        go_ret
        exact ListsPost.of HD.out hb
  · have hlb : ((la.length : Int) != (lb.length : Int)) = true := by rw [bne_iff_ne]; omega
    have hd : decide (la = lb) = false := by simp; exact fun e => hl (by rw [e])
    have HD := Lib.hid hd
    clear hl hd
    go_enter Try.func19, Try.ntmps19
    go_wp2
    go_ret
    exact ListsPost.of HD.out (Below.refl _ _)
end Go.Proofs.Ytdeopklgdemnfaa
