/- Is a number among them that may not be put? Condition: the numbers read. -/
import Derived.Test.YtnnadhfpkplncaaVoPutP
namespace Go.Proofs.Ytnnadhfpkplncaa
open Go.RowKit

theorem put1_any (y : Int) (w : World) : Calls Try.prog 53 #[.int .i64 y] w fun e w' => e = .returned (.bool (badN y)) ∧ w' = w := by
  unfold badN
  by_cases h1 : y < 0
  · have hd : decide (y < 0) = true := decide_eq_true h1
    rw [hd]
    go_enter Try.func53, Try.ntmps53
    go_wp2
    go_ret
    exact ⟨rfl, rfl⟩
  · have hd : decide (y < 0) = false := decide_eq_false h1
    rw [hd]
    by_cases h2 : 1099511627776 < y
    · have hd2 : decide (1099511627776 < y) = true := decide_eq_true h2
      rw [hd2]
      go_enter Try.func53, Try.ntmps53
      go_wp2
      go_ret
      exact ⟨rfl, rfl⟩
    · have hd2 : decide (1099511627776 < y) = false := decide_eq_false h2
      rw [hd2]
      go_enter Try.func53, Try.ntmps53
      go_wp2
      go_ret
      exact ⟨rfl, rfl⟩
def IdxPost (xs : List Int) (w : World) (e : Ending) (w' : World) : Prop := ∃ r : Int, e = .returned (.int .i64 r) ∧ (0 ≤ r ↔ ∃ y ∈ xs, badN y = true) ∧ Below w.heap.size w w'
set_option maxRecDepth 100000 in
set_option maxHeartbeats 1600000 in
theorem idxf_any (A : Option Addr) (c : Nat) (xs : List Int) (w : World) (h : RdA w A (zs xs)) (hl : xs.length ≤ 140737488355328) : Calls Try.prog 74 #[.slice A xs.length c, .func (.func 53) #[] #[]] w (IdxPost xs w) := by
  have HR := Lib.hid h
  obtain ⟨n, hn⟩ : ∃ n, n = xs.length := ⟨_, rfl⟩
  rw [← hn] at hl ⊢
  have HN := Lib.hid hn
  clear h hn
  go_enter Try.func74, Try.ntmps74
  go_wp2_with fail
  go_loopg [8] n (fun gg i wr => ∃ k : Nat, k ≤ n ∧ gg = n - k ∧ i = .int .i64 k ∧ Hid (∀ j y, j < k → xs[j]? = some y → badN y = false) ∧ Hid (Below w.heap.size w wr))
  case atStart => exact ⟨0, by omega, by omega, rfl, fun j y h => by omega, Below.refl _ _⟩
  case round =>
    obtain ⟨k, hk, hgk, rfl, HA, HB⟩ := hrel
    by_cases hlt : k < n
    · have hki : (k : Int) < (n : Int) := by omega
      have hw1 : IntKind.i64.wrap ((k : Int) + 1) = (k : Int) + 1 := IntWalk.i64_in _ (by omega)
      obtain ⟨y, hy⟩ : ∃ y, xs[k]? = some y := ⟨_, List.getElem?_eq_getElem (by rw [← HN.out]; omega)⟩
      obtain ⟨b, o, rfl, c0⟩ := (HR.out.below HB.out) k _ (zs_at hy)
      have HY := Lib.hid hy
      clear hy
      go_wp2_with fail
      refine (put1_any y wr).mono ?_
      rintro e w5 ⟨rfl, rfl⟩
      cases hbad : badN y with
      | true =>
        have HBD := Lib.hid hbad
        clear hbad
        go_wp2_with fail
        go_ret
        exact ⟨(k : Int), rfl, ⟨fun _ => ⟨y, List.mem_of_getElem? HY.out, HBD.out⟩, fun _ => by omega⟩, HB.out⟩
      | false =>
        have HBD := Lib.hid hbad
        clear hbad
        go_wp2_with fail
        go_roundg (n - (k + 1))
        case measure => omega
        case rel =>
          refine ⟨k + 1, by omega, rfl, by congr 1, fun j z hj hz => ?_, HB.out⟩
          rcases Nat.lt_or_ge j k with h | h
          · exact HA.out j z h hz
          · obtain rfl : j = k := by omega
            rw [HY.out] at hz
            cases hz
            exact HBD.out
    · have hke : k = n := by omega
      subst hke
      have hki : ¬ (k : Int) < (k : Int) := by omega
      clear hlt
      go_wp2_with fail
      go_ret
      refine ⟨-1, rfl, ⟨fun h => by omega, fun ⟨y, hy, hb⟩ => ?_⟩, HB.out⟩
      obtain ⟨j, hj⟩ := List.getElem?_of_mem hy
      have hjl := (List.getElem?_eq_some_iff.1 hj).1
      rw [HA.out j y (by rw [HN.out]; exact hjl) hj] at hb
      cases hb
def ContPost (xs : List Int) (w : World) (e : Ending) (w' : World) : Prop := ∃ b, e = .returned (.bool b) ∧ (b = true ↔ ∃ y ∈ xs, badN y = true) ∧ Below w.heap.size w w'
set_option maxHeartbeats 800000 in
theorem cont_any (A : Option Addr) (c : Nat) (xs : List Int) (w : World) (h : RdA w A (zs xs)) (hl : xs.length ≤ 140737488355328) : Calls Try.prog 52 #[.slice A xs.length c, .func (.func 53) #[] #[]] w (ContPost xs w) := by
  have HI := Lib.hid (idxf_any A c xs w h hl)
  clear h
  go_enter Try.func52, Try.ntmps52
  go_wp2_with fail
  refine HI.out.mono ?_
  rintro e w1 ⟨r, rfl, hr, hb⟩
  have HR := Lib.hid hr
  have HB := Lib.hid hb
  clear hr hb
  go_wp2_with fail
  go_ret
  exact ⟨decide (0 ≤ r), rfl, by rw [decide_eq_true_iff]; exact HR.out, HB.out⟩
end Go.Proofs.Ytnnadhfpkplncaa
