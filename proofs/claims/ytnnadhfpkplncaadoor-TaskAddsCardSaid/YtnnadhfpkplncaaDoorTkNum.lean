/- The law's num and ints. Condition: the library's handle of the type 'error' reads as the program lays it; the numbers read. -/
import Derived.Test.YtnnadhfpkplncaaDoorTkEnd
namespace Go.Proofs.YtnnadhfpkplncaaDoor
open Go.RowKit

set_option maxHeartbeats 800000 in
theorem numt_nil (w : World) : Calls Tryd.prog 25 #[.nilIface] w fun e w' => e = .returned (.int .i64 0) ∧ Below w.heap.size w w' := by
  go_enter Tryd.func25, Tryd.ntmps25
  go_wp2
  go_ret
  exact ⟨rfl, (Below.refl _ _).alloc (Nat.le_refl _) _⟩
set_option maxHeartbeats 800000 in
theorem numt_hit (x : Int) (w : World) (hg : Handle w) : Calls Tryd.prog 25 #[.iface 78 (.int .i64 x)] w fun e w' => e = .returned (.int .i64 x) ∧ Below w.heap.size w w' := by
  have hlt := hg.lt
  have hgA : (w.alloc (.cells #[.int .i64 0] 78)).cell? ⟨0, 0, none⟩ = _ := (World.cell?_alloc_lt _ _ ⟨0, 0, none⟩ hlt).trans hg
  have htA : (w.alloc (.cells #[.int .i64 0] 78)).cell? ⟨w.heap.size, 0, none⟩ = some (.int .i64 0) := by simp
  have hfA : (w.alloc (.cells #[.int .i64 0] 78)).frozen? ⟨w.heap.size, 0, none⟩ = false := by simp
  go_enter Tryd.func25, Tryd.ntmps25
  go_wp2_with (go_at_call 31; refine (as_hit _ _ (.int .i64 0) _ hgA htA hfA).mono ?_; rintro e w' ⟨rfl, rfl⟩)
  go_ret
  exact ⟨rfl, (((((Below.refl _ _).alloc (Nat.le_refl _) _).alloc (by simp) _).alloc (by simp; omega) _).alloc (by simp; omega) _).alloc (by simp; omega) _⟩
theorem numt_any (n : Int) (w : World) (hg : Handle w) : Calls Tryd.prog 25 #[errV n] w fun e w' => e = .returned (.int .i64 n) ∧ Below w.heap.size w w' := by
  unfold errV
  by_cases h : n = 0
  · subst h; exact numt_nil w
  · rw [if_neg h]; exact numt_hit n w hg
set_option maxRecDepth 100000 in
set_option maxHeartbeats 1600000 in
theorem intst_any (A B : Option Addr) (c d : Nat) (xs ys : List Int) (w : World) (hA : RdA w A (zs xs)) (hB : RdA w B (zs ys)) (hx : xs.length ≤ 9223372036854775807) :
    Calls Tryd.prog 37 #[.slice A xs.length c, .slice B ys.length d] w (BoolPost (decide (xs = ys)) w) := by
  by_cases hl : xs.length = ys.length
  · have HL := Lib.hid hl
    rw [← hl]
    clear hl
    go_enter Tryd.func37, Tryd.ntmps37
    go_wp2
    go_loopw [5] (fun i wr => ∃ j : Nat, j ≤ xs.length ∧ i = .int .i64 j ∧ Below w.heap.size w wr ∧ Hid (xs.take j = ys.take j)) (fun i _ => xs.length - (intOf i).toNat)
    case atStart => exact ⟨0, by omega, rfl, Below.refl _ _, rfl⟩
    case round =>
      obtain ⟨j, hj, rfl, hb, hall⟩ := hrel
      by_cases hlt : j < xs.length
      · obtain ⟨x, hxj⟩ : ∃ x, xs[j]? = some x := ⟨_, List.getElem?_eq_getElem hlt⟩
        obtain ⟨y, hyj⟩ : ∃ y, ys[j]? = some y := ⟨_, List.getElem?_eq_getElem (by rw [← HL.out]; exact hlt)⟩
        obtain ⟨b1, o1, rfl, hc1⟩ := (hA.below hb) j _ (zs_at hxj)
        obtain ⟨b2, o2, rfl, hc2⟩ := (hB.below hb) j _ (zs_at hyj)
        have hji : (j : Int) < (xs.length : Int) := by omega
        have HX := Lib.hid hxj
        have HY := Lib.hid hyj
        have HB := Lib.hid hb
        clear hxj hyj hb hA hB
        by_cases hxy : x = y
        · subst hxy
          go_wp2
          go_quiet (fail)
          go_wp2
          refine ⟨⟨j + 1, by omega, by go_num, below_drewN HB.out _, ?_⟩, by simp [intOf]; omega⟩
          show xs.take (j + 1) = ys.take (j + 1)
          rw [List.take_add_one, List.take_add_one, HX.out, HY.out, hall.out]
        · have hne : (x != y) = true := by simp [hxy]
          have hd : decide (xs = ys) = false := decide_eq_false fun e => hxy (by
            have h1 := HX.out
            rw [e, HY.out] at h1
            exact (Option.some.inj h1).symm)
          have HD := Lib.hid hd
          clear hd hxy
          go_wp2
          go_quiet (fail)
          go_wp2
          go_ret
          exact ⟨by rw [HD.out]; rfl, below_drewN HB.out _⟩
      · have hd : decide (xs = ys) = true := decide_eq_true (by
          have h1 := hall.out
          rwa [List.take_of_length_le (by omega), List.take_of_length_le (by rw [← HL.out]; omega)] at h1)
        have HD := Lib.hid hd
        have HB := Lib.hid hb
        clear hd hb
        go_wp2
        go_ret
        exact ⟨by rw [HD.out]; rfl, HB.out⟩
  · have hd : decide (xs = ys) = false := decide_eq_false fun e => hl (by rw [e])
    have hne : ((xs.length : Int) != (ys.length : Int)) = true := by simp; omega
    have HD := Lib.hid hd
    clear hd hl
    go_enter Tryd.func37, Tryd.ntmps37
    go_wp2
    go_ret
    exact ⟨by rw [HD.out]; rfl, Below.refl _ _⟩
end Go.Proofs.YtnnadhfpkplncaaDoor
