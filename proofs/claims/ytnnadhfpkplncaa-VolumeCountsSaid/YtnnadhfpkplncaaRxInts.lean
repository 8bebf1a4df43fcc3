/- Numbers as they lie; are two lists of them the same? Condition: they read. -/
import Derived.Test.YtnnadhfpkplncaaRxDiff
import Derived.Deep.QuietTactic
import Derived.BigQuiet
namespace Go.Proofs.Ytnnadhfpkplncaa
open Go.RowKit

/-- A slice's cells as they lie. -/
def RdA (w : World) (A : Option Addr) (vs : List Value) : Prop := ∀ i u, vs[i]? = some u → ∃ b o, A = some ⟨b, o, none⟩ ∧ w.cell? ⟨b, o + i, none⟩ = some u
theorem RdA.below {w w' : World} {A : Option Addr} {vs : List Value} (h : RdA w A vs) (k : Below w.heap.size w w') : RdA w' A vs := fun i u hi => by
  obtain ⟨b, o, e, hc⟩ := h i u hi
  refine ⟨b, o, e, ?_⟩
  rw [← hc]
  exact World.cell?_of_block (k.block b (cell_lt hc))
theorem own_rdA {w : World} {base n s : Nat} {E : TypeId} {v : Value} {xs : List Value} (h : w.ownsRow base E s v n xs) : ∃ A c, v = .slice A n c ∧ n ≤ c ∧ RdA w A xs ∧ (∀ b, A = some b → base ≤ b.block ∧ b.block < w.heap.size) := by
  rcases h.2 with ⟨e1, e2⟩ | ⟨g, c, cur, rfl, hg, hh, hc, _, _, ht⟩
  · subst e2
    have : xs = [] := List.eq_nil_of_length_eq_zero (by simpa using h.1)
    subst this
    exact ⟨none, 0, e1, Nat.le_refl _, fun i u hi => by simp at hi, fun b e => by cases e⟩
  · refine ⟨_, c, rfl, hc, fun i u hi => ⟨g, 0, rfl, ?_⟩, fun b e => by cases e; exact ⟨hg, block_lt hh⟩⟩
    have hlt : i < n * s := by rw [← h.1]; exact (List.getElem?_eq_some_iff.1 hi).1
    rw [← ht, List.getElem?_take, if_pos hlt] at hi
    rw [Nat.zero_add, block_cell hh]
    simpa using hi
def zs (l : List Int) : List Value := l.map (Value.int .i64)
theorem zs_at {l : List Int} {i : Nat} {x : Int} (h : l[i]? = some x) : (zs l)[i]? = some (.int .i64 x) := by
  unfold zs
  rw [List.getElem?_map, h]; rfl
def BoolPost (b : Bool) (w : World) (e : Ending) (w' : World) : Prop := e = .returned (.bool b) ∧ Below w.heap.size w w'
theorem below_drewN {b : Nat} {w w' : World} (h : Below b w w') (n : Nat) : Below b w (w'.drewN n) := ⟨h.os, h.tape, h.output, h.size, h.block⟩
set_option maxRecDepth 100000 in
set_option maxHeartbeats 1600000 in
theorem ints_any (A B : Option Addr) (c d : Nat) (xs ys : List Int) (w : World) (hA : RdA w A (zs xs)) (hB : RdA w B (zs ys)) (hx : xs.length ≤ 9223372036854775807) :
    Calls Try.prog 15 #[.slice A xs.length c, .slice B ys.length d] w (BoolPost (decide (xs = ys)) w) := by
  by_cases hl : xs.length = ys.length
  · have HL := Lib.hid hl
    rw [← hl]
    clear hl
    go_enter Try.func15, Try.ntmps15
    go_wp2
    go_loopw [5] (fun i wr => ∃ j : Nat, j ≤ xs.length ∧ i = .int .i64 j ∧ Below w.heap.size w wr ∧ Hid (xs.take j = ys.take j)) (fun i _ => xs.length - (intOf i).toNat)
    case atStart => exact ⟨0, by omega, rfl, Below.refl _ _, rfl⟩
    case round =>
      obtain ⟨j, hj, rfl, hb, hall⟩ := hrel
      by_cases hlt : j < xs.length
      · obtain ⟨x, hxj⟩ : ∃ x, xs[j]? = some x := ⟨_, List.getElem?_eq_getElem hlt⟩
        obtain ⟨y, hyj⟩ : ∃ y, ys[j]? = some y := ⟨_, List.getElem?_eq_getElem (by rw [← HL.out]; exact hlt)⟩
        obtain ⟨b1, o1, rfl, hc1⟩ := (hA.below hb) j _ (zs_at hxj)
        obtain ⟨b2, o2, rfl, hc2⟩ := (hB.below hb) j _ (zs_at hyj)
        have hji : (j : Int) < (xs.length : Int) := by omega
        have HX := Lib.hid hxj
        have HY := Lib.hid hyj
        have HB := Lib.hid hb
        clear hxj hyj hb hA hB
        by_cases hxy : x = y
        · subst hxy
          go_wp2
          go_quiet (fail)
          go_wp2
          refine ⟨⟨j + 1, by omega, by go_num, below_drewN HB.out _, ?_⟩, by simp [intOf]; omega⟩
          show xs.take (j + 1) = ys.take (j + 1)
          rw [List.take_add_one, List.take_add_one, HX.out, HY.out, hall.out]
        · have hne : (x != y) = true := by simp [hxy]
          have hd : decide (xs = ys) = false := decide_eq_false fun e => hxy (by
            have h1 := HX.out
            rw [e, HY.out] at h1
            exact (Option.some.inj h1).symm)
          have HD := Lib.hid hd
          clear hd hxy
          go_wp2
          go_quiet (fail)
          go_wp2
          go_ret
          exact ⟨by rw [HD.out]; rfl, below_drewN HB.out _⟩
      · have hd : decide (xs = ys) = true := decide_eq_true (by
          have h1 := hall.out
          rwa [List.take_of_length_le (by omega), List.take_of_length_le (by rw [← HL.out]; omega)] at h1)
        have HD := Lib.hid hd
        have HB := Lib.hid hb
        clear hd hb
        go_wp2
        go_ret
        exact ⟨by rw [HD.out]; rfl, HB.out⟩
  · have hd : decide (xs = ys) = false := decide_eq_false fun e => hl (by rw [e])
    have hne : ((xs.length : Int) != (ys.length : Int)) = true := by simp; omega
    have HD := Lib.hid hd
    clear hd hl
    go_enter Try.func15, Try.ntmps15
    go_wp2
    go_ret
    exact ⟨by rw [HD.out]; rfl, Below.refl _ _⟩
end Go.Proofs.Ytnnadhfpkplncaa
