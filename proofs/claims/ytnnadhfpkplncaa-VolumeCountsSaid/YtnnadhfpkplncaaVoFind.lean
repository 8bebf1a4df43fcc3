/- Where a name stands; a volume of a name. Condition: the set reads, its names go up. -/
import Derived.Test.YtnnadhfpkplncaaVoMem
namespace Go.Proofs.Ytnnadhfpkplncaa
open Go.RowKit

/-- What the search gives. -/
def FindPost (l : List Vol) (t : List UInt8) (w : World) (e : Ending) (w' : World) : Prop := ∃ i, Cut l t i ∧ e = .returned (.tuple #[.int .i64 (i : Nat), .bool (hasAt l i t)]) ∧ Below w.heap.size w w'
def Split (l : List Vol) (t : List UInt8) (i j : Nat) : Prop := i ≤ j ∧ j ≤ l.length ∧ (∀ k x, k < i → l[k]? = some x → cmpB x.name t < 0) ∧ (∀ k x, j ≤ k → l[k]? = some x → ¬ cmpB x.name t < 0)
theorem Split.lo {l : List Vol} {t : List UInt8} {i j h : Nat} {x : Vol} (hs : Split l t i j) (hu : Up l) (h2 : h < j) (hx : l[h]? = some x) (hc : cmpB x.name t < 0) : Split l t (h + 1) j :=
  ⟨by omega, hs.2.1, fun k y hk hy => by
    rcases Nat.lt_or_ge k h with h3 | h3
    · exact cmp_trans (hu.at hy hx h3) hc
    · obtain rfl : k = h := by omega
      rw [hx] at hy
      cases hy
      exact hc, hs.2.2.2⟩
theorem Split.hi {l : List Vol} {t : List UInt8} {i j h : Nat} {x : Vol} (hs : Split l t i j) (hu : Up l) (h1 : i ≤ h) (h2 : h < j) (hx : l[h]? = some x) (hc : ¬ cmpB x.name t < 0) : Split l t i h :=
  ⟨h1, by have := hs.2.1; omega, hs.2.2.1, fun k y hk hy c => by
    rcases Nat.lt_or_ge h k with h3 | h3
    · exact hc (cmp_trans (hu.at hx hy h3) c)
    · obtain rfl : k = h := by omega
      rw [hx] at hy
      cases hy
      exact hc c⟩
set_option maxRecDepth 100000 in
set_option maxHeartbeats 3200000 in
theorem vsearch_any (A : Option Addr) (l : List Vol) (c : Nat) (t : List UInt8) (w : World) (h : RdV w A l c) (hu : Up l) (hl : l.length ≤ 1000) :
    Calls Try.prog 69 #[.slice A l.length c, .string ⟨t.toArray⟩, .func (.func 70) #[] #[]] w (FindPost l t w) := by
  have HR := Lib.hid h
  have HU := Lib.hid hu
  obtain ⟨n, hn⟩ : ∃ n, n = l.length := ⟨_, rfl⟩
  rw [← hn] at hl ⊢
  have HN := Lib.hid hn
  clear h hu hn
  go_enter Try.func69, Try.ntmps69
  go_wp2_with fail
  go_loopg [9, 10] n (fun gg u v wr => ∃ i j : Nat, j ≤ n ∧ gg = j - i ∧ u = .int .i64 i ∧ v = .int .i64 j ∧ Hid (Split l t i j) ∧ Hid (Below w.heap.size w wr))
  case atStart => exact ⟨0, n, Nat.le_refl _, rfl, rfl, rfl, ⟨Nat.zero_le _, Nat.le_of_eq HN.out, fun k x hk => by omega, fun k x hk hx => by
    have := (List.getElem?_eq_some_iff.1 hx).1
    have := HN.out
    omega⟩, Below.refl _ _⟩
  case round =>
    obtain ⟨i, j, hj, hg, rfl, rfl, HS, HB⟩ := hrel
    by_cases hij : i < j
    · have hiji : (i : Int) < (j : Int) := by omega
      obtain ⟨hh, hhe⟩ : ∃ hh, hh = (i + j) / 2 := ⟨_, rfl⟩
      have hh1 : i ≤ hh := by omega
      have hh2 : hh < j := by omega
      have hw1 : IntKind.i64.wrap ((i : Int) + (j : Int)) = (i : Int) + (j : Int) := IntWalk.i64_in _ (by omega)
      obtain ⟨x, hx⟩ : ∃ x, l[hh]? = some x := ⟨_, List.getElem?_eq_getElem (by rw [← HN.out]; omega)⟩
      obtain ⟨b, o, rfl, c0, c1, c2, c3, c4, c5⟩ := (HR.out.below HB.out).at hx
      have HX := Lib.hid hx
      have HDIV := Lib.hid (show ((i : Int) + (j : Int)) / 2 = (hh : Int) by omega)
      have hhn : (hh : Int) < (n : Int) := by omega
      clear hx hhe
      go_upto_region 5 with fail
      rw [HDIV.out]
      clear HDIV
      go_wp2_with fail
      refine (vcmp_any x t wr).mono ?_
      rintro e w5 ⟨rfl, hb5⟩
      have HB5 := Lib.hid (HB.out.trans (hb5.mono HB.out.size))
      clear hb5 c0 c1 c2 c3 c4 c5
      by_cases hc : cmpB x.name t < 0
      · have hw2 : IntKind.i64.wrap ((hh : Int) + 1) = (hh : Int) + 1 := IntWalk.i64_in _ (by omega)
        have HS2 := Lib.hid (HS.out.lo HU.out hh2 HX.out hc)
        go_wp2_with fail
        go_roundg (j - (hh + 1))
        case measure => omega
        case rel => exact ⟨hh + 1, j, hj, rfl, by congr 1, rfl, HS2.out, HB5.out⟩
      · have HS2 := Lib.hid (HS.out.hi HU.out hh1 hh2 HX.out hc)
        go_wp2_with fail
        go_roundg (hh - i)
        case measure => omega
        case rel => exact ⟨i, hh, by omega, rfl, rfl, rfl, HS2.out, HB5.out⟩
    · have hei : i = j := by have := HS.out.1; omega
      subst hei
      have hni : ¬ (i : Int) < (i : Int) := by omega
      have HC := Lib.hid (show Cut l t i from ⟨HS.out.2.1, HS.out.2.2.1, HS.out.2.2.2⟩)
      clear hij hg
      by_cases hin : i < n
      · have hini : (i : Int) < (n : Int) := by omega
        obtain ⟨x, hx⟩ : ∃ x, l[i]? = some x := ⟨_, List.getElem?_eq_getElem (by rw [← HN.out]; omega)⟩
        obtain ⟨b, o, rfl, c0, c1, c2, c3, c4, c5⟩ := (HR.out.below HB.out).at hx
        have HHA := Lib.hid (show hasAt l i t = decide (x.name = t) from by unfold hasAt; rw [hx])
        clear hx
        go_wp2_with fail
        refine (vcmp_any x t wr).mono ?_
        rintro e w5 ⟨rfl, hb5⟩
        have HB5 := Lib.hid (HB.out.trans (hb5.mono HB.out.size))
        clear hb5 c0 c1 c2 c3 c4 c5
        by_cases hc : x.name = t
        · have hz : cmpB x.name t = 0 := cmp_zero.2 hc
          have HHB := Lib.hid (show hasAt l i t = true from HHA.out.trans (decide_eq_true hc))
          rw [hz]
          go_wp2_with fail
          go_ret2
          exact ⟨i, HC.out, by rw [HHB.out]; rfl, HB5.out⟩
        · have hz : (cmpB x.name t == 0) = false := by
            simp only [beq_eq_false_iff_ne, ne_eq]
            exact fun h => hc (cmp_zero.1 h)
          have HHB := Lib.hid (show hasAt l i t = false from HHA.out.trans (decide_eq_false hc))
          go_wp2_with fail
          go_ret2
          exact ⟨i, HC.out, by rw [HHB.out]; rfl, HB5.out⟩
      · have hini : ¬ (i : Int) < (n : Int) := by omega
        have HHB := Lib.hid (show hasAt l i t = false from by
          unfold hasAt
          rw [List.getElem?_eq_none (by rw [← HN.out]; omega)])
        go_wp2_with fail
        go_ret2
        exact ⟨i, HC.out, by rw [HHB.out]; rfl, HB.out⟩
set_option maxHeartbeats 800000 in
theorem vfind_any (s : Option Addr) (l : List Vol) (t : List UInt8) (w : World) (h : RdS w s l) (hu : Up l) (hl : l.length ≤ 1000) :
    Calls Try.prog 46 #[.pointer s, .string ⟨t.toArray⟩] w (FindPost l t w) := by
  have HA := Lib.hid (vall_any s l w h)
  have HU := Lib.hid hu
  have HL := Lib.hid hl
  clear h hu hl
  go_enter Try.func46, Try.ntmps46
  go_wp2_with fail
  refine HA.out.mono ?_
  rintro e w1 ⟨A, c, rfl, hr, rfl⟩
  have HS := Lib.hid (vsearch_any A l c t w1 hr HU.out HL.out)
  clear hr
  go_wp2_with fail
  refine HS.out.mono ?_
  rintro e w2 ⟨i, hc, rfl, hb⟩
  have HC := Lib.hid hc
  have HB := Lib.hid hb
  clear hc hb
  go_wp2_with fail
  go_ret2
  exact ⟨i, HC.out, rfl, HB.out⟩
end Go.Proofs.Ytnnadhfpkplncaa
