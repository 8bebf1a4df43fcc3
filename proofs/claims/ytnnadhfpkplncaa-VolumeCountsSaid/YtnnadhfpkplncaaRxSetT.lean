/- A number at a place of a tree, as the program sets it. Condition: the tree reads. -/
import Derived.Test.YtnnadhfpkplncaaRxSetD
namespace Go.Proofs.Ytnnadhfpkplncaa
open Go.RowKit

def setF (f : Nat → Int) (z n : Int) : Nat → Int := if 0 ≤ z ∧ z ≤ 4095 then updF f z.toNat n else f
theorem setF_in {f : Nat → Int} {a : Nat} {n : Int} (h : a ≤ 4095) : setF f (a : Int) n = updF f a n := by
  unfold setF
  rw [if_pos ⟨by omega, by omega⟩]; rfl
theorem updF_same {f : Nat → Int} {a : Nat} : updF f a (f a) = f := by
  funext b
  unfold updF
  by_cases h : b = a
  · rw [if_pos h, h]
  · rw [if_neg h]
/-- What has become of a tree: it is the one that it was, or the nodes on the way are new. -/
def SetSame (f : Nat → Int) (S S' : Nat → Nat → Option Nat) (A A' : Option Addr) (z n : Int) (B : Nat) : Prop :=
  (setF f z n = f ∧ S' = S ∧ A' = A) ∨ (0 ≤ z ∧ z ≤ 4095 ∧ f z.toNat ≠ n ∧ ∃ nb, New B nb 2 ∧ S' = updS (setF f z n) S z.toNat 2 nb)
def SetTree (f : Nat → Int) (S : Nat → Nat → Option Nat) (A : Option Addr) (z n : Int) (w : World) (e : Ending) (w' : World) : Prop :=
  ∃ A' S', e = .returned (.pointer A') ∧ RdR (setF f z n) S' w' A' ∧ SetSame f S S' A A' z n w.heap.size ∧ Below w.heap.size w w'
set_option maxRecDepth 100000 in
set_option maxHeartbeats 1600000 in
theorem set_out (f : Nat → Int) (S : Nat → Nat → Option Nat) (A : Option Addr) (z n : Int) (w : World) (h : RdR f S w A) (hz : ¬ (0 ≤ z ∧ z ≤ 4095)) :
    Calls Try.prog 10 #[.pointer A, .int .i64 z, .int .i64 n] w (SetTree f S A z n w) := by
  have HF := Lib.hid (show setF f z n = f by unfold setF; rw [if_neg hz])
  have HH := Lib.hid (has_any z w)
  rw [decide_eq_false hz] at HH
  have H := Lib.hid h
  clear hz h
  go_enter Try.func10, Try.ntmps10
  go_wp2_with fail
  refine HH.out.mono ?_
  rintro e w' ⟨rfl, rfl⟩
  go_wp2
  go_ret
  exact ⟨A, S, rfl, by rw [HF.out]; exact H.out, Or.inl ⟨HF.out, rfl, rfl⟩, Below.refl _ _⟩
set_option maxRecDepth 100000 in
set_option maxHeartbeats 1600000 in
theorem set_same (f : Nat → Int) (S : Nat → Nat → Option Nat) (A : Option Addr) (a : Nat) (n : Int) (w : World) (h : RdR f S w A) (ha : a ≤ 4095) (hn : f a = n) :
    Calls Try.prog 10 #[.pointer A, .int .i64 a, .int .i64 n] w (SetTree f S A a n w) := by
  have HF := Lib.hid (show setF f a n = f by rw [setF_in ha, ← hn, updF_same])
  have HH := Lib.hid (has_any a w)
  rw [decide_eq_true ⟨by omega, by omega⟩] at HH
  have HG := Lib.hid (get_any f S A a w h)
  rw [show getF f a = n by unfold getF; rw [if_pos ⟨by omega, by omega⟩]; exact hn] at HG
  have H := Lib.hid h
  clear ha hn h
  go_enter Try.func10, Try.ntmps10
  go_wp2_with fail
  refine HH.out.mono ?_
  rintro e w' ⟨rfl, rfl⟩
  go_wp2_with fail
  refine HG.out.mono ?_
  rintro e w' ⟨rfl, hb⟩
  go_wp2
  go_ret
  exact ⟨A, S, rfl, by rw [HF.out]; exact H.out.below hb, Or.inl ⟨HF.out, rfl, rfl⟩, hb⟩
set_option maxRecDepth 100000 in
set_option maxHeartbeats 1600000 in
theorem set_new (f : Nat → Int) (S : Nat → Nat → Option Nat) (A : Option Addr) (a : Nat) (n : Int) (w : World) (h : RdR f S w A) (ha : a ≤ 4095) (hn : f a ≠ n) :
    Calls Try.prog 10 #[.pointer A, .int .i64 a, .int .i64 n] w (SetTree f S A a n w) := by
  have HF := Lib.hid (setF_in (f := f) (n := n) ha)
  have HH := Lib.hid (has_any a w)
  rw [decide_eq_true ⟨by omega, by omega⟩] at HH
  have HG := Lib.hid (get_any f S A a w h)
  rw [show getF f a = f a by unfold getF; rw [if_pos ⟨by omega, by omega⟩]; rfl] at HG
  have H := Lib.hid h
  have HA := Lib.hid ha
  have HN := Lib.hid hn
  have hnb : (f a == n) = false := by simp [hn]
  obtain ⟨v, hv⟩ : ∃ v, v = f a := ⟨_, rfl⟩
  rw [← hv] at HG hnb
  clear ha hn h hv
  go_enter Try.func10, Try.ntmps10
  go_wp2_with fail
  refine HH.out.mono ?_
  rintro e w' ⟨rfl, rfl⟩
  go_wp2_with fail
  refine HG.out.mono ?_
  rintro e w1 ⟨rfl, hb1⟩
  have HB1 := Lib.hid hb1
  clear hb1
  go_wp2_with fail
  refine (of_any f S A _ (H.out.below HB1.out)).mono ?_
  rintro e w' ⟨rfl, rfl⟩
  go_wp2_with fail
  refine (nset_any f S a n HA.out _ (H.out.below HB1.out).1).mono ?_
  rintro e w2 ⟨nb, hnew, rfl, hr, hb2⟩
  have e0 : a / 16 ^ (2 + 1) = 0 := by have := HA.out; omega
  rw [e0]
  have hnew' : New w.heap.size nb 2 := ⟨fun e he => Nat.le_trans HB1.out.size (hnew.1 e he), hnew.2⟩
  have hb : Below w.heap.size w w2 := HB1.out.trans (hb2.mono HB1.out.size)
  have HR := Lib.hid hr
  have HB := Lib.hid hb
  have HW := Lib.hid hnew'
  clear hr hb hb2 hnew hnew' hnb
  cases hs : updS (updF f a n) S a 2 nb 2 0 with
  | none =>
    have HS := Lib.hid hs
    clear hs e0
    go_wp2
    go_ret
    refine ⟨none, updS (updF f a n) S a 2 nb, rfl, ?_, Or.inr ⟨by omega, by have := HA.out; omega, HN.out, nb, HW.out, by rw [HF.out]; rfl⟩, HB.out⟩
    rw [HF.out]
    exact ⟨HR.out, Or.inl ⟨HS.out, rfl⟩⟩
  | some b =>
    have HS := Lib.hid hs
    clear hs e0
    go_wp2
    go_ret
    refine ⟨_, updS (updF f a n) S a 2 nb, rfl, ?_, Or.inr ⟨by omega, by have := HA.out; omega, HN.out, nb, HW.out, by rw [HF.out]; rfl⟩, HB.out.alloc HB.out.size _⟩
    rw [HF.out]
    exact ⟨HR.out.below ((Below.refl _ _).alloc (Nat.le_refl _) _), Or.inr ⟨b, _, HS.out, rfl, heap_alloc_new _ _⟩⟩
theorem set_any (f : Nat → Int) (S : Nat → Nat → Option Nat) (A : Option Addr) (z n : Int) (w : World) (h : RdR f S w A) :
    Calls Try.prog 10 #[.pointer A, .int .i64 z, .int .i64 n] w (SetTree f S A z n w) := by
  by_cases hz : 0 ≤ z ∧ z ≤ 4095
  · obtain ⟨a, rfl⟩ := Int.eq_ofNat_of_zero_le hz.1
    by_cases hn : f a = n
    · exact set_same f S A a n w h (by omega) hn
    · exact set_new f S A a n w h (by omega) hn
  · exact set_out f S A z n w h hz
end Go.Proofs.Ytnnadhfpkplncaa
