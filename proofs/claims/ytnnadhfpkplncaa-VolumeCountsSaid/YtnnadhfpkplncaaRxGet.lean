/- The number at a place of a tree. No condition but that the tree reads. -/
import Derived.Test.YtnnadhfpkplncaaRxArm
import Derived.Deep.QuietTactic
import Derived.Deep.RegionLaw
import Derived.BigQuiet
namespace Go.Proofs.Ytnnadhfpkplncaa
open Go.RowKit

theorem span_eq (d : Nat) : span d = 16 ^ (d + 1) := by
  induction d with
  | zero => rfl
  | succ d ih => rw [span, ih, Nat.pow_succ 16 (d + 1), Nat.mul_comm]
theorem Bare.get {d a : Nat} {f : Nat → Int} (h : Bare d (a / 16 ^ (d + 1)) f) : f a = 0 := by
  have h1 := h (a % 16 ^ (d + 1)) (by rw [span_eq]; exact Nat.mod_lt _ (Nat.pow_pos (by decide)))
  rw [span_eq, Nat.mul_comm, Nat.div_add_mod] at h1
  exact h1
theorem arm_group (a d : Nat) : a / 16 ^ (d + 1) * 16 + a / 16 ^ d % 16 = a / 16 ^ d := by
  rw [Nat.pow_succ, ← Nat.div_div_eq_div_mul, Nat.mul_comm]
  exact Nat.div_add_mod _ _
theorem armC_at {S : Nat → Nat → Option Nat} {d g i : Nat} (hi : i < 16) : (armC S d g)[i]? = some (ptr (S d (g * 16 + i))) := by
  unfold armC
  rw [List.getElem?_map, List.getElem?_range hi]; rfl
theorem numC_at {f : Nat → Int} {g i : Nat} (hi : i < 16) : (numC f g)[i]? = some (f (g * 16 + i)) := by
  unfold numC
  rw [List.getElem?_map, List.getElem?_range hi]; rfl
@[simp] theorem armC_len {S : Nat → Nat → Option Nat} {d g : Nat} : (armC S d g).length = 16 := by simp [armC]
@[simp] theorem numC_len {f : Nat → Int} {g : Nat} : (numC f g).length = 16 := by simp [numC]
/-- A node of a rank ahead of the last: its arm to a place. -/
theorem RdD.arm {D d a : Nat} {f : Nat → Int} {S : Nat → Nat → Option Nat} {w : World} (h : RdD D f S w) (hd : d + 1 ≤ D) :
    (ptr (S (d + 1) (a / 16 ^ (d + 2))) = none ∧ f a = 0) ∨ ∃ b, ptr (S (d + 1) (a / 16 ^ (d + 2))) = some ⟨b, 0, none⟩ ∧ w.cell? ⟨b, a / 16 ^ (d + 1) % 16, none⟩ = some (.pointer (ptr (S d (a / 16 ^ (d + 1))))) := by
  cases hs : S (d + 1) (a / 16 ^ (d + 2)) with
  | none => exact Or.inl ⟨rfl, ((h.can _ _ hd).1 hs).get⟩
  | some b =>
    refine Or.inr ⟨b, rfl, (block_cell (h.node _ _ _ hd hs)).trans (nodeC_arm ?_)⟩
    rw [armC_at (Nat.mod_lt _ (by decide)), arm_group a (d + 1)]
theorem RdD.num {D a : Nat} {f : Nat → Int} {S : Nat → Nat → Option Nat} {w : World} (h : RdD D f S w) :
    (ptr (S 0 (a / 16)) = none ∧ f a = 0) ∨ ∃ b, ptr (S 0 (a / 16)) = some ⟨b, 0, none⟩ ∧ w.cell? ⟨b, 16 + a % 16, none⟩ = some (.int .i64 (f a)) := by
  cases hs : S 0 (a / 16) with
  | none => exact Or.inl ⟨rfl, Bare.get (d := 0) (by simpa using (h.can 0 _ (Nat.zero_le _)).1 hs)⟩
  | some b =>
    refine Or.inr ⟨b, rfl, (block_cell (h.leaf _ _ hs)).trans (nodeC_num (by simp) ?_)⟩
    rw [numC_at (Nat.mod_lt _ (by decide)), Nat.mul_comm, Nat.div_add_mod]
/-- What Get answers. -/
def getF (f : Nat → Int) (z : Int) : Int := if 0 ≤ z ∧ z ≤ 4095 then f z.toNat else 0
set_option maxRecDepth 100000 in
set_option maxHeartbeats 1600000 in
theorem get_any (f : Nat → Int) (S : Nat → Nat → Option Nat) (A : Option Addr) (z : Int) (w : World) (h : RdR f S w A) : Calls Try.prog 13 #[.pointer A, .int .i64 z] w fun e w' => e = .returned (.int .i64 (getF f z)) ∧ Below w.heap.size w w' := by
  by_cases hz : 0 ≤ z ∧ z ≤ 4095
  · obtain ⟨a, rfl⟩ := Int.eq_ofNat_of_zero_le hz.1
    have ha : a ≤ 4095 := by omega
    have hget : getF f (a : Int) = f a := by unfold getF; rw [if_pos hz]; rfl
    rw [hget]
    have HH := Lib.hid (has_any (a : Int) w)
    rw [decide_eq_true hz] at HH
    clear hget hz
    go_enter Try.func13, Try.ntmps13
    go_wp2_with fail
    refine (of_any f S A w h).mono ?_
    rintro e w' ⟨rfl, rfl⟩
    have HR := Lib.hid h.1
    clear h
    obtain ⟨R, hR⟩ : ∃ R, R = ptr (S 2 0) := ⟨_, rfl⟩
    rw [← hR]
    have HR0 := Lib.hid hR
    clear hR
    go_wp2_with fail
    refine HH.out.mono ?_
    rintro e w' ⟨rfl, rfl⟩
    clear HH
    go_wp2
    go_loopw [5, 6, 12] (fun x _ i wr => ∃ (k : Nat) (X : Option Addr), k ≤ 2 ∧ i = .int .i64 k ∧ x = .pointer X ∧ Below w.heap.size w wr ∧ Hid (X = ptr (S (2 - k) (a / 16 ^ (3 - k))))) (fun _ _ i _ => 2 - (intOf i).toNat)
    case atStart =>
      refine ⟨0, R, by omega, rfl, rfl, Below.refl _ _, ?_⟩
      have := HR0.out
      rw [show (0 : Nat) = a / 16 ^ (3 - 0) by omega] at this
      exact this
    case round =>
      obtain ⟨k, X, hk, rfl, rfl, hb, hx⟩ := hrel
      by_cases hlt : k < 2
      · have hki : (k : Int) < 2 := by omega
        obtain ⟨d, hd⟩ : ∃ d, d = 1 - k := ⟨_, rfl⟩
        have e2 : 2 - k = d + 1 := by omega
        have e3 : 3 - k = d + 2 := by omega
        have hx' := hx.out
        rw [e2, e3] at hx'
        have harm : ∀ w, Calls Try.prog 39 #[.int .i64 k, .int .i64 a] w fun e w' => e = .returned (.int .i64 ((a / 16 ^ (d + 1) % 16 : Nat) : Int)) ∧ w = w' := fun w => by
          have := arm_any k a hk ha w
          rwa [e2] at this
        have hr := (HR.out.below hb).arm (a := a) (d := d) (by omega)
        rw [← hx'] at hr
        rcases hr with ⟨rfl, h0⟩ | ⟨b, rfl, hcp⟩
        · have HZ := Lib.hid h0
          clear h0 hx' harm hx e2 e3 hd
          go_wp2
          go_ret
          exact ⟨by rw [HZ.out]; rfl, hb⟩
        · have hq : a / 16 ^ (d + 1) % 16 < 16 := Nat.mod_lt _ (by decide)
          obtain ⟨p, hp⟩ : ∃ p, p = ptr (S d (a / 16 ^ (d + 1))) := ⟨_, rfl⟩
          rw [← hp] at hcp
          generalize a / 16 ^ (d + 1) % 16 = q at *
          have HR' := Lib.hid hp
          have HA := Lib.hid harm
          have hqi : (q : Int) < 16 := by omega
          have HD := Lib.hid hd
          clear hx' hx hp harm e2 e3 HR HR0 hd
          go_wp2
          go_region_law (first | (go_simp; go_at_call 39; refine (HA.out _).mono ?_; rintro e w5 ⟨rfl, rfl⟩))
          all_goals
            go_wp2
            have hd := HD.out
            refine ⟨⟨k + 1, p, by omega, by go_num, rfl, hb.drew, ?_⟩, by simp [intOf]; omega⟩
            rw [show 2 - (k + 1) = d by omega, show 3 - (k + 1) = d + 1 by omega]
            exact HR'.out
      · have hki : ¬ (k : Int) < 2 := by omega
        obtain rfl : k = 2 := by omega
        have hx' : X = ptr (S 0 (a / 16)) := by simpa using hx.out
        have harm : ∀ w, Calls Try.prog 39 #[.int .i64 2, .int .i64 a] w fun e w' => e = .returned (.int .i64 ((a % 16 : Nat) : Int)) ∧ w = w' := fun w => by
          have := arm_any 2 a (by omega) ha w
          simpa using this
        have hr := (HR.out.below hb).num (a := a)
        rw [← hx'] at hr
        rcases hr with ⟨rfl, h0⟩ | ⟨b, rfl, hcp⟩
        · have HZ := Lib.hid h0
          clear h0 hx' harm hx
          go_wp2
          go_ret
          exact ⟨by rw [HZ.out]; rfl, hb⟩
        · have hq : a % 16 < 16 := Nat.mod_lt _ (by decide)
          generalize a % 16 = q at *
          have HA := Lib.hid harm
          have hqi : (q : Int) < 16 := by omega
          clear hx' hx harm HR HR0
          go_wp2
          go_region_law (first | (go_simp; go_at_call 39; refine (HA.out _).mono ?_; rintro e w5 ⟨rfl, rfl⟩))
          all_goals
            go_wp2
            go_ret
            exact ⟨rfl, hb.drew⟩
  · have hget : getF f z = 0 := by unfold getF; rw [if_neg hz]
    rw [hget]
    have HH := Lib.hid (has_any z w)
    rw [decide_eq_false hz] at HH
    clear hget hz
    go_enter Try.func13, Try.ntmps13
    go_wp2_with fail
    refine (of_any f S A w h).mono ?_
    rintro e w' ⟨rfl, rfl⟩
    clear h
    go_wp2_with fail
    refine HH.out.mono ?_
    rintro e w' ⟨rfl, rfl⟩
    go_wp2
    go_ret
    exact ⟨rfl, Below.refl _ _⟩
end Go.Proofs.Ytnnadhfpkplncaa
