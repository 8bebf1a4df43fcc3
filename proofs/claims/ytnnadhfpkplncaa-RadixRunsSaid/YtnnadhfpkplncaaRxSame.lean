/- A tree holds just what the reference's list says. Condition: both read. -/
import Derived.Test.YtnnadhfpkplncaaRxRDif
import Derived.Test.YtnnadhfpkplncaaRxLStays
namespace Go.Proofs.Ytnnadhfpkplncaa
open Go.RowKit

set_option maxRecDepth 100000 in
set_option maxHeartbeats 1600000 in
theorem same_any (f : Nat → Int) (S : Nat → Nat → Option Nat) (A : Option Addr) (v : Value) (w : World) (h : RdR f S w A) (h2 : OwnI 0 w v (lstF f)) :
    Calls Try.prog 18 #[.pointer A, v] w (BoolPost true w) := by
  obtain ⟨B, c, rfl, hc, hr⟩ := h2.read
  have hle := lst_le f
  have HA := Lib.hid (all_any f S A w h)
  have HL := Lib.hid (fun w0 (h0 : Below w.heap.size w w0) => len_any f S A w0 (h.below h0))
  obtain ⟨m, hm⟩ : ∃ m, m = (itemsL f 2 0).length := ⟨_, rfl⟩
  rw [lst_len, ← hm] at hc hle ⊢
  rw [← hm] at HL
  have HR := Lib.hid hr
  have HM := Lib.hid hm
  clear h h2 hr hm
  go_enter Try.func18, Try.ntmps18
  go_wp2_with fail
  refine HA.out.mono ?_
  rintro e w3 ⟨x1, x2, rfl, ho1, ho2, hb3⟩
  obtain ⟨X1, k1, rfl, hk1, rx1, _⟩ := own_rdA ho1
  obtain ⟨X2, k2, rfl, hk2, rx2, _⟩ := own_rdA ho2
  rw [← HM.out] at hk1 hk2 ⊢
  have hmm : ((m : Int) != (m : Int)) = false := by simp
  have HB := Lib.hid hb3
  have H1 := Lib.hid rx1
  have H2 := Lib.hid rx2
  clear ho1 ho2 hb3 rx1 rx2
  go_wp2_with fail
  refine (HL.out _ HB.out).mono ?_
  rintro e w4 ⟨rfl, hb4⟩
  have HB4 := Lib.hid (HB.out.trans (hb4.mono HB.out.size))
  have H14 := Lib.hid (RdA.below H1.out hb4)
  have H24 := Lib.hid (RdA.below H2.out hb4)
  clear hb4 H1 H2
  go_wp2_with fail
  go_loopw [7] (fun i wr => ∃ k : Nat, k ≤ m ∧ i = .int .i64 k ∧ Below w4.heap.size w4 wr) (fun i _ => m - (intOf i).toNat)
  case atStart => exact ⟨0, by omega, rfl, Below.refl _ _⟩
  case round =>
    obtain ⟨k, hk, rfl, hbk⟩ := hrel
    rcases Nat.lt_or_ge k m with hkm | hkm
    · obtain ⟨a, ha⟩ : ∃ a, (itemsL f 2 0)[k]? = some a := ⟨_, List.getElem?_eq_getElem (by rw [← HM.out]; omega)⟩
      obtain ⟨b, o, rfl, c1, c2⟩ := (HR.out.below (HB4.out.trans (hbk.mono HB4.out.size))).at (lst_at ha)
      obtain ⟨b1, o1, rfl, d1⟩ := (RdA.below H14.out hbk) k (.int .i64 (a : Int)) (by rw [List.getElem?_map, ha]; rfl)
      obtain ⟨b2, o2, rfl, d2⟩ := (RdA.below H24.out hbk) k (.int .i64 (f a)) (by rw [List.getElem?_map, ha]; rfl)
      have hw : IntKind.i64.wrap ((k : Int) + 1) = (k : Int) + 1 := IntWalk.i64_in _ (by omega)
      have hki : (k : Int) < (m : Int) := by omega
      have e1 : ((a : Int) != (a : Int)) = false := by simp
      have e2 : (f a != f a) = false := by simp
      have HK := Lib.hid hbk
      clear ha hbk
      go_wp2
      go_quiet (fail)
      go_wp2
      exact ⟨⟨k + 1, by omega, by congr 1, below_drewN HK.out _⟩, by simp [intOf]; omega⟩
    · obtain rfl : k = m := by omega
      have hki : ¬ (k : Int) < (k : Int) := by omega
      go_wp2
      go_ret
      exact ⟨rfl, HB4.out.trans (hbk.mono HB4.out.size)⟩
end Go.Proofs.Ytnnadhfpkplncaa
