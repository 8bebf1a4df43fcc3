/- What must come whatever the input is. No condition. -/
import Derived.Test.YtnnadhfpkplncaaRxCount
namespace Go.Proofs.Ytnnadhfpkplncaa
open Go.RowKit

def bareB (d g : Nat) (f : Nat → Int) : Bool := (List.range (span d)).all fun i => f (g * span d + i) == 0
theorem bareB_iff {d g : Nat} {f : Nat → Int} : bareB d g f = true ↔ Bare d g f := by
  unfold bareB Bare
  simp [List.all_eq_true, List.mem_range]
/-- How many nodes a tree of the function has beneath a group. -/
def nn (f : Nat → Int) : Nat → Nat → Nat
  | 0, g => if bareB 0 g f then 0 else 1
  | D + 1, g => if bareB (D + 1) g f then 0 else 1 + ((List.range 16).map fun i => nn f D (g * 16 + i)).sum
theorem nodes_len {f : Nat → Int} {S : Nat → Nat → Option Nat} {w : World} (hr : RdD 2 f S w) : ∀ D, D ≤ 2 → ∀ g, (nodesL S D g).length = nn f D g
  | 0, _, g => by
    have hc := hr.can 0 g (by omega)
    unfold nodesL nn
    by_cases hb : Bare 0 g f
    · rw [hc.2 hb, if_pos (bareB_iff.2 hb)]; rfl
    · rw [if_neg (fun k => hb (bareB_iff.1 k))]
      cases hs : S 0 g with
      | none => exact absurd (hc.1 hs) hb
      | some b => rfl
  | D + 1, hD, g => by
    have hc := hr.can (D + 1) g hD
    unfold nodesL nn
    by_cases hb : Bare (D + 1) g f
    · rw [hc.2 hb, if_pos (bareB_iff.2 hb)]; rfl
    · rw [if_neg (fun k => hb (bareB_iff.1 k))]
      cases hs : S (D + 1) g with
      | none => exact absurd (hc.1 hs) hb
      | some b =>
        simp only [List.length_cons, List.length_flatMap]
        rw [Nat.add_comm]
        congr 2
        exact List.map_congr_left fun i _ => nodes_len hr D (by omega) _
theorem onp_full {f : Nat → Int} {a : Nat} (h : f a ≠ 0) : ∀ D, onp f a D = D + 1
  | 0 => by
    unfold onp
    rw [if_neg]
    intro k
    exact h (Bare.get (d := 0) (by simpa using k))
  | D + 1 => by
    unfold onp
    rw [if_neg (fun k => h (Bare.get k)), onp_full h D, Nat.add_comm]
theorem rdR_nil (w : World) : RdR (fun _ => 0) (fun _ _ => none) w none :=
  ⟨⟨fun _ _ => rfl, fun _ _ _ => ⟨fun _ _ _ => rfl, fun _ => rfl⟩, fun g b h => (by cases h), fun d g b _ h => (by cases h)⟩, Or.inl ⟨rfl, rfl⟩⟩
theorem injS_nil : InjS (fun _ _ => none) := fun d h d' h' b _ _ e => by cases e
def sureF (k : Nat) : Nat → Int := fun p => if p = 4095 ∧ 3 ≤ k then 3 else if p = 1 ∧ 2 ≤ k then 2 else if p = 0 ∧ 1 ≤ k then 1 else 0
theorem sure1 : setF (fun _ => 0) 0 1 = sureF 1 := by
  have h0 : setF (fun _ => 0) 0 1 = updF (fun _ => 0) 0 1 := setF_in (a := 0) (by omega)
  rw [h0]
  funext p
  simp only [updF, sureF]
  by_cases h : p = 0 <;> simp [h]
theorem sure2 : setF (sureF 1) 1 2 = sureF 2 := by
  have h0 : setF (sureF 1) 1 2 = updF (sureF 1) 1 2 := setF_in (a := 1) (by omega)
  rw [h0]
  funext p
  simp only [updF, sureF]
  by_cases h : p = 1 <;> simp [h]
theorem sure3 : setF (sureF 2) 4095 3 = sureF 3 := by
  have h0 : setF (sureF 2) 4095 3 = updF (sureF 2) 4095 3 := setF_in (a := 4095) (by omega)
  rw [h0]
  funext p
  simp only [updF, sureF]
  by_cases h : p = 4095 <;> simp [h]
theorem sureN1 : nn (sureF 1) 2 0 = 3 := by decide +kernel
theorem sureN2 : nn (sureF 2) 2 0 = 3 := by decide +kernel
theorem sureN3 : nn (sureF 3) 2 0 = 5 := by decide +kernel
theorem SetSame.new {f : Nat → Int} {S S' : Nat → Nat → Option Nat} {A A' : Option Addr} {z n : Int} {B : Nat} (h : SetSame f S S' A A' z n B) (hne : setF f z n ≠ f) : 0 ≤ z ∧ z ≤ 4095 ∧ ∃ nb, New B nb 2 ∧ S' = updS (setF f z n) S z.toNat 2 nb := by
  rcases h with ⟨h, _⟩ | ⟨h1, h2, _, h3⟩
  · exact absurd h hne
  · exact ⟨h1, h2, h3⟩
set_option maxRecDepth 100000 in
set_option maxHeartbeats 3200000 in
theorem sure_any (w : World) : Calls Try.prog 16 #[] w (BoolPost true w) := by
  go_enter Try.func16, Try.ntmps16
  go_wp2_with fail
  refine (set_any _ _ _ 0 1 _ (rdR_nil _)).mono ?_
  rintro e w1 ⟨A1, S1, rfl, hr1, hs1, hb1⟩
  rw [sure1] at hr1
  have H1 := Lib.hid hr1
  have HS1 := Lib.hid hs1
  have HB1 := Lib.hid hb1
  clear hr1 hs1 hb1
  go_wp2_with fail
  refine (set_any _ _ _ 1 2 _ H1.out).mono ?_
  rintro e w2 ⟨A2, S2, rfl, hr2, hs2, hb2⟩
  have H2' := Lib.hid (show RdR (sureF 2) S2 w2 A2 by rw [← sure2]; exact hr2)
  have HI2 : Hid (inBoth (nodesL S1 2 0) (nodesL S2 2 0) = 0) := by
    obtain ⟨_, _, nb, hn, rfl⟩ := hs2.new (by rw [sure2]; intro e; have := congrFun e 1; simp [sureF] at this)
    have h := shared_upd (f' := setF (sureF 1) 1 2) (a := (1 : Int).toNat) H1.out.1 (by decide) hn
    rw [nodes_len hr2.1 2 (by omega), onp_full (by rw [sure2]; decide), sure2, sureN2] at h
    exact Lib.hid (by rw [sure2]; omega)
  have HB2 := Lib.hid (HB1.out.trans (hb2.mono HB1.out.size))
  have H12 := Lib.hid (H1.out.below hb2)
  clear hr2 hs2 hb2
  go_wp2_with fail
  refine (set_any _ _ _ 4095 3 _ H2'.out).mono ?_
  rintro e w3 ⟨A3, S3, rfl, hr3, hs3, hb3⟩
  have H3' := Lib.hid (show RdR (sureF 3) S3 w3 A3 by rw [← sure3]; exact hr3)
  have HI3 : Hid (inBoth (nodesL S2 2 0) (nodesL S3 2 0) = 2) := by
    obtain ⟨_, _, nb, hn, rfl⟩ := hs3.new (by rw [sure3]; intro e; have := congrFun e 4095; simp [sureF] at this)
    have h := shared_upd (f' := setF (sureF 2) 4095 3) (a := (4095 : Int).toNat) H2'.out.1 (by decide) hn
    rw [nodes_len hr3.1 2 (by omega), onp_full (by rw [sure3]; decide), sure3, sureN3] at h
    exact Lib.hid (by rw [sure3]; omega)
  have HB3 := Lib.hid (HB2.out.trans (hb3.mono HB2.out.size))
  have H13 := Lib.hid (H12.out.below hb3)
  have H23 := Lib.hid (H2'.out.below hb3)
  clear hr3 hs3 hb3 H12
  go_wp2_with fail
  refine (tnodes_any _ _ _ _ H13.out).mono ?_
  rintro e w4 ⟨rfl, hb4⟩
  rw [nodes_len H13.out.1 2 (by omega), sureN1]
  have H24 := Lib.hid (H23.out.below hb4)
  have H34 := Lib.hid (H3'.out.below hb4)
  have H14 := Lib.hid (H13.out.below hb4)
  have HB4 := Lib.hid (HB3.out.trans (hb4.mono HB3.out.size))
  clear hb4
  go_wp2_with fail
  refine (tnodes_any _ _ _ _ H24.out).mono ?_
  rintro e w5 ⟨rfl, hb5⟩
  rw [nodes_len H24.out.1 2 (by omega), sureN2]
  have H25 := Lib.hid (H24.out.below hb5)
  have H35 := Lib.hid (H34.out.below hb5)
  have H15 := Lib.hid (H14.out.below hb5)
  have HB5 := Lib.hid (HB4.out.trans (hb5.mono HB4.out.size))
  clear hb5
  go_wp2_with fail
  refine (shared_any _ _ _ _ _ _ _ H15.out H25.out).mono ?_
  rintro e w6 ⟨rfl, hb6⟩
  rw [HI2.out]
  have H26 := Lib.hid (H25.out.below hb6)
  have H36 := Lib.hid (H35.out.below hb6)
  have HB6 := Lib.hid (HB5.out.trans (hb6.mono HB5.out.size))
  clear hb6
  go_wp2_with fail
  refine (tnodes_any _ _ _ _ H36.out).mono ?_
  rintro e w7 ⟨rfl, hb7⟩
  rw [nodes_len H36.out.1 2 (by omega), sureN3]
  have H27 := Lib.hid (H26.out.below hb7)
  have H37 := Lib.hid (H36.out.below hb7)
  have HB7 := Lib.hid (HB6.out.trans (hb7.mono HB6.out.size))
  clear hb7
  go_wp2_with fail
  refine (shared_any _ _ _ _ _ _ _ H27.out H37.out).mono ?_
  rintro e w8 ⟨rfl, hb8⟩
  rw [HI3.out]
  have H38 := Lib.hid (H37.out.below hb8)
  have HB8 := Lib.hid (HB7.out.trans (hb8.mono HB7.out.size))
  clear hb8
  go_wp2_with fail
  refine (get_any _ _ _ 1 _ H38.out).mono ?_
  rintro e w9 ⟨rfl, hb9⟩
  rw [show getF (sureF 3) 1 = 2 by decide]
  have HB9 := Lib.hid (HB8.out.trans (hb9.mono HB8.out.size))
  clear hb9
  go_wp2
  go_ret
  exact ⟨rfl, HB9.out⟩
end Go.Proofs.Ytnnadhfpkplncaa
