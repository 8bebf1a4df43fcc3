/- 'RadixSets': after one more Set the tree holds what the reference says, and the old one what it held. Condition: the items read. -/
import Derived.Test.YtnnadhfpkplncaaRxSame
namespace Go.Proofs.Ytnnadhfpkplncaa
open Go.RowKit

/-- A tree and the reference's list of the same function. -/
def Same2 (w : World) (A : Option Addr) (v : Value) (f : Nat → Int) : Prop := (∃ S, RdR f S w A) ∧ OwnI 0 w v (lstF f)
theorem Same2.below {w w' : World} {A : Option Addr} {v : Value} {f : Nat → Int} (h : Same2 w A v f) (k : Below w.heap.size w w') : Same2 w' A v f := ⟨h.1.imp fun _ h => h.below k, h.2.below k⟩
theorem Same2.nil (w : World) : Same2 w none (.slice none 0 0) (fun _ => 0) := ⟨⟨_, rdR_nil w⟩, by rw [lst_nil]; exact OwnI.nil _ _⟩
set_option maxRecDepth 100000 in
set_option maxHeartbeats 3200000 in
theorem sets_walk (v : Value) (z n : Int) (W : World) (hin : ItemsIn W v) : Calls Try.prog 4 #[v, .int .i64 z, .int .i64 n] W (BoolPost true W) := by
  obtain ⟨B, c, l, rfl, hlc, hll, hrd⟩ := hin
  have HRD := Lib.hid hrd
  have H0 := Lib.hid (Same2.nil W)
  obtain ⟨m, hm⟩ : ∃ m, m = l.length := ⟨_, rfl⟩
  rw [← hm] at hlc hll ⊢
  have HN := Lib.hid hm
  clear hrd hm
  go_enter Try.func4, Try.ntmps4
  go_wp2
  go_loopw [7, 8, 9] (fun t r i wr => ∃ (k : Nat) (A : Option Addr) (v1 : Value), k ≤ m ∧ k ≤ 30 ∧ i = .int .i64 k ∧ t = .pointer A ∧ r = v1 ∧ Below W.heap.size W wr ∧ Hid (∃ f, Same2 wr A v1 f)) (fun _ _ i _ => 30 - (intOf i).toNat)
  case atStart => exact ⟨0, none, _, by omega, by omega, rfl, rfl, rfl, Below.refl _ _, ⟨_, H0.out⟩⟩
  case round =>
    obtain ⟨k, A, v1, hk, hk30, rfl, rfl, rfl, hbl, hst⟩ := hrel
    obtain ⟨f, hst⟩ := hst.out
    have HST := Lib.hid hst
    have HBL := Lib.hid hbl
    clear hst hbl
    by_cases hgo : k < m ∧ k < 30
    · obtain ⟨hkm, hk3⟩ := hgo
      obtain ⟨x, hx⟩ : ∃ x, l[k]? = some x := ⟨_, List.getElem?_eq_getElem (by rw [← HN.out]; omega)⟩
      have hki : (k : Int) < (m : Int) := by omega
      have hki2 : (k : Int) < 30 := by omega
      obtain ⟨b, o, rfl, c1, c2⟩ := (RdItems.below HRD.out HBL.out).at hx
      obtain ⟨S, hr⟩ := HST.out.1
      have HX := Lib.hid hx
      obtain ⟨at0, n0⟩ := x
      have HSET := Lib.hid (set_to f (setF f at0 n0) S A at0 n0 wr.drew (hr.below (Below.refl _ _).drew) rfl)
      clear hr hx
      go_wp2
      go_region_held3 (fun w' => w'.cell? ⟨b, o + k * 2, none⟩ = some (.int .i64 at0) ∧ w'.cell? ⟨b, o + k * 2 + 1, none⟩ = some (.int .i64 n0)) (first | exact ⟨c1, c2⟩ | exact ⟨c15, c25⟩)
        (first
        | (go_at_call 10; refine HSET.out.mono ?_; rintro e w5 ⟨A', rfl, hr5, hb5⟩; have hs5 := (below_drewN (Below.refl wr.heap.size wr) 1).trans hb5; have hbl5 := HBL.out.trans (hs5.mono HBL.out.size); have hrd5 := RdItems.at (RdItems.below HRD.out hbl5) HX.out; obtain ⟨b', o', eb, c15, c25⟩ := hrd5; cases eb; have HR5 := Lib.hid hr5; have HS5 := Lib.hid hs5; have HBL5 := Lib.hid hbl5; clear hr5 hb5 hs5 hbl5))
      have HRS := Lib.hid (rset_any f at0 n0 _ w5.drew (HST.out.2.below (HS5.out.trans ((Below.refl _ _).drew.mono HS5.out.size))))
      clear c1 c2 HSET
      go_wp2
      go_region_held3 (fun w' => w'.cell? ⟨b, o + k * 2, none⟩ = some (.int .i64 at0) ∧ w'.cell? ⟨b, o + k * 2 + 1, none⟩ = some (.int .i64 n0)) (first | exact ⟨c15, c25⟩ | exact ⟨c16, c26⟩)
        (first
        | (go_at_call 17; refine HRS.out.mono ?_; rintro e w6 ⟨v6, rfl, hr6, hb6⟩; have hs6 := (below_drewN (Below.refl w5.heap.size w5) 1).trans hb6; have hbl6 := HBL5.out.trans (hs6.mono HBL5.out.size); have hrd6 := RdItems.at (RdItems.below HRD.out hbl6) HX.out; obtain ⟨b', o', eb, c16, c26⟩ := hrd6; cases eb; have HR6 := Lib.hid hr6; have HS6 := Lib.hid hs6; have HBL6 := Lib.hid hbl6; clear hr6 hb6 hs6 hbl6))
      have hw : IntKind.i64.wrap ((k : Int) + 1) = (k : Int) + 1 := IntWalk.i64_in _ (by omega)
      have HF := Lib.hid (show Same2 w6 A' v6 (setF f at0 n0) from ⟨HR5.out.imp fun _ h => h.below HS6.out, HR6.out⟩)
      go_wp2
      exact ⟨⟨k + 1, A', v6, by omega, by omega, by congr 1, rfl, rfl, HBL6.out, ⟨_, HF.out⟩⟩, by simp [intOf]; omega⟩
    · have hor : (m : Int) ≤ (k : Int) ∨ ((k : Int) < (m : Int) ∧ (30 : Int) ≤ (k : Int)) := by omega
      clear hgo
      obtain ⟨S, hr⟩ := HST.out.1
      have HST1 := Lib.hid (set_to f (setF f z n) S A z n wr hr rfl)
      rcases hor with h1 | ⟨h1, h2⟩
      all_goals
        first
        | (have h1' : ¬ (k : Int) < (m : Int) := by omega
           clear h1)
        | (have h2' : ¬ (k : Int) < 30 := by omega
           clear h2)
        go_wp2_with fail
        refine HST1.out.mono ?_
        rintro e w2 ⟨A2, rfl, ⟨S2, hr2⟩, hb2⟩
        have HRS := Lib.hid (rset_any f z n _ w2 (HST.out.2.below hb2))
        have HR2 := Lib.hid hr2
        have HA2 := Lib.hid (hr.below hb2)
        have HB2 := Lib.hid (HBL.out.trans (hb2.mono HBL.out.size))
        have HV2 := Lib.hid (HST.out.2.below hb2)
        clear hr2 hb2
        go_wp2_with fail
        refine HRS.out.mono ?_
        rintro e w3 ⟨v3, rfl, hr3, hb3⟩
        have HC := Lib.hid (fun w0 (h0 : Below w3.heap.size w3 w0) => And.intro (same_any _ _ A2 v3 w0 ((HR2.out.below hb3).below h0) (hr3.below h0)) (And.intro (same_any _ _ A _ w0 ((HA2.out.below hb3).below h0) ((HV2.out.below hb3).below h0))
          (And.intro (get_any _ _ A2 z w0 ((HR2.out.below hb3).below h0)) (And.intro (rget_any _ z v3 w0 (hr3.below h0)) (And.intro (tnodes_any _ _ A2 w0 ((HR2.out.below hb3).below h0)) (rnodes_any _ v3 w0 (hr3.below h0)))))))
        rw [nodes_len HR2.out.1 2 (by omega)] at HC
        have HB3 := Lib.hid (HB2.out.trans (hb3.mono HB2.out.size))
        obtain ⟨q, hq⟩ : ∃ q, q = getF (setF f z n) z := ⟨_, rfl⟩
        obtain ⟨N, hN⟩ : ∃ N, N = nn (setF f z n) 2 0 := ⟨_, rfl⟩
        rw [← hq, ← hN] at HC
        have hqq : (q == q) = true := by simp
        have hNN : ((N : Int) == (N : Int)) = true := by simp
        clear hr3 hb3 hq hN hr
        go_wp2_with fail
        refine (HC.out _ (Below.refl _ _)).1.mono ?_
        rintro e w4 ⟨rfl, hb4⟩
        have HB4 := Lib.hid hb4
        clear hb4
        go_wp2_with fail
        refine (HC.out _ HB4.out).2.1.mono ?_
        rintro e w5 ⟨rfl, hb5⟩
        have HB5 := Lib.hid (HB4.out.trans (hb5.mono HB4.out.size))
        clear hb5
        go_wp2_with fail
        refine (HC.out _ HB5.out).2.2.1.mono ?_
        rintro e w6 ⟨rfl, hb6⟩
        have HB6 := Lib.hid (HB5.out.trans (hb6.mono HB5.out.size))
        clear hb6
        go_wp2_with fail
        refine (HC.out _ HB6.out).2.2.2.1.mono ?_
        rintro e w7 ⟨rfl, hb7⟩
        have HB7 := Lib.hid (HB6.out.trans (hb7.mono HB6.out.size))
        clear hb7
        go_wp2_with fail
        refine (HC.out _ HB7.out).2.2.2.2.1.mono ?_
        rintro e w8 ⟨rfl, hb8⟩
        have HB8 := Lib.hid (HB7.out.trans (hb8.mono HB7.out.size))
        clear hb8
        go_wp2_with fail
        refine (HC.out _ HB8.out).2.2.2.2.2.mono ?_
        rintro e w9 ⟨rfl, hb9⟩
        have HB9 := Lib.hid (HB8.out.trans (hb9.mono HB8.out.size))
        clear hb9
        go_wp2_with fail
        refine (sure_any w9).mono ?_
        rintro e w10 ⟨rfl, hb10⟩
        have HB10 := Lib.hid (HB9.out.trans (hb10.mono HB9.out.size))
        clear hb10
        go_wp2_with fail
        go_ret
        exact ⟨rfl, HB3.out.trans (HB10.out.mono HB3.out.size)⟩
end Go.Proofs.Ytnnadhfpkplncaa
