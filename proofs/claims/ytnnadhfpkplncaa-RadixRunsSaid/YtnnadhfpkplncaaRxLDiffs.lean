/- 'RadixDiffs': where two trees differ is what the reference says, the other way round too; nothing from itself. Condition: the items read. -/
import Derived.Test.YtnnadhfpkplncaaRxLSets
namespace Go.Proofs.Ytnnadhfpkplncaa
open Go.RowKit

theorem diffL_comm (f g : Nat → Int) : diffL g f = diffL f g := by
  unfold diffL
  refine List.filter_congr fun a _ => ?_
  by_cases h : f a = g a
  · simp [h]
  · have : ¬ g a = f a := fun e => h e.symm
    simp [h, this]
theorem diffL_le (f g : Nat → Int) : (ints (diffL f g)).length ≤ 4096 := by
  unfold ints diffL
  rw [List.length_map]
  have := List.length_filter_le (fun a => decide (f a ≠ g a)) (List.range 4096)
  simpa using this
/-- A list of numbers handed back. -/
def ZsPost (xs : List Int) (n : Nat) (w : World) (e : Ending) (w' : World) : Prop := ∃ X c, e = .returned (.slice X n c) ∧ RdA w' X (zs xs) ∧ Below w.heap.size w w'
theorem diff_zs {f g : Nat → Int} {S T : Nat → Nat → Option Nat} {A B : Option Addr} {w : World} {xs : List Int} {n : Nat} (h : RdR f S w A) (h2 : RdR g T w B) (hx : ints (diffL f g) = xs) (hn : xs.length = n) :
    Calls Try.prog 21 #[.pointer A, .pointer B] w (ZsPost xs n w) := by
  subst hx hn
  refine (diff_any f g S T A B w h h2).mono ?_
  rintro e w' ⟨u, rfl, ho, hb⟩
  obtain ⟨X, c, rfl, _, hr, _⟩ := own_rdA ho
  refine ⟨X, c, by rw [show (ints (diffL f g)).length = (diffL f g).length by simp [ints]], ?_, hb⟩
  have e1 : zs (ints (diffL f g)) = (diffL f g).map fun x : Nat => .int .i64 (x : Int) := ints_map _
  rw [e1]; exact hr
theorem rdiff_zs {f g : Nat → Int} {u v : Value} {w : World} {xs : List Int} {n : Nat} (h : OwnI 0 w u (lstF f)) (h2 : OwnI 0 w v (lstF g)) (hx : ints (diffL f g) = xs) (hn : xs.length = n) :
    Calls Try.prog 22 #[u, v] w (ZsPost xs n w) := by
  subst hx hn
  refine (rdiff_any f g u v w h h2).mono ?_
  rintro e w' ⟨y, rfl, ho, hb⟩
  obtain ⟨X, c, rfl, _, hr, _⟩ := own_rdA ho
  exact ⟨X, c, rfl, hr, hb⟩
set_option maxRecDepth 100000 in
set_option maxHeartbeats 3200000 in
theorem diffs_walk (v1 v2 : Value) (W : World) (hin : ItemsIn W v1) (hin2 : ItemsIn W v2) : Calls Try.prog 5 #[v1, v2] W (BoolPost true W) := by
  obtain ⟨B, c, l, rfl, hlc, hll, hrd⟩ := hin
  obtain ⟨B2, d, l2, rfl, hld, hll2, hrd2⟩ := hin2
  have HRD := Lib.hid hrd
  have HRD2 := Lib.hid hrd2
  have H0 := Lib.hid (Same2.nil W)
  obtain ⟨m, hm⟩ : ∃ m, m = l.length := ⟨_, rfl⟩
  rw [← hm] at hlc hll ⊢
  have HN := Lib.hid hm
  obtain ⟨n, hn⟩ : ∃ n, n = l2.length := ⟨_, rfl⟩
  rw [← hn] at hld hll2 ⊢
  have HN2 := Lib.hid hn
  clear hrd hm hrd2 hn
  go_enter Try.func5, Try.ntmps5
  go_wp2

  go_loopw [5, 7, 9] (fun t r i wr => ∃ (k : Nat) (A : Option Addr) (v1 : Value), k ≤ m ∧ k ≤ 30 ∧ i = .int .i64 k ∧ t = .pointer A ∧ r = v1 ∧ Below W.heap.size W wr ∧ Hid (∃ f, Same2 wr A v1 f)) (fun _ _ i _ => 30 - (intOf i).toNat)
  case atStart => exact ⟨0, none, _, by omega, by omega, rfl, rfl, rfl, Below.refl _ _, ⟨_, H0.out⟩⟩
  case round =>
    obtain ⟨k, A, v1, hk, hk30, rfl, rfl, rfl, hbl, hst⟩ := hrel
    obtain ⟨f, hst⟩ := hst.out
    have HST := Lib.hid hst
    have HBL := Lib.hid hbl
    clear hst hbl
    by_cases hgo : k < m ∧ k < 30
    · obtain ⟨hkm, hk3⟩ := hgo
      obtain ⟨x, hx⟩ : ∃ x, l[k]? = some x := ⟨_, List.getElem?_eq_getElem (by rw [← HN.out]; omega)⟩
      have hki : (k : Int) < (m : Int) := by omega
      have hki2 : (k : Int) < 30 := by omega
      have hblw := HBL.out
      obtain ⟨b, o, rfl, c1, c2⟩ := (RdItems.below HRD.out hblw).at hx
      obtain ⟨S, hr⟩ := HST.out.1
      have HX := Lib.hid hx
      have HBW := Lib.hid hblw
      obtain ⟨at0, n0⟩ := x
      have HSET := Lib.hid (set_to f (setF f at0 n0) S A at0 n0 wr.drew (hr.below (Below.refl _ _).drew) rfl)
      clear hr hx hblw
      go_wp2
      go_region_held3 (fun w' => w'.cell? ⟨b, o + k * 2, none⟩ = some (.int .i64 at0) ∧ w'.cell? ⟨b, o + k * 2 + 1, none⟩ = some (.int .i64 n0)) (first | exact ⟨c1, c2⟩ | exact ⟨c15, c25⟩)
        (first
        | (go_at_call 10; refine HSET.out.mono ?_; rintro e w5 ⟨A', rfl, hr5, hb5⟩; have hs5 := (below_drewN (Below.refl wr.heap.size wr) 1).trans hb5; have hbl5 := HBL.out.trans (hs5.mono HBL.out.size); have hrd5 := RdItems.at (RdItems.below HRD.out (HBW.out.trans (hs5.mono HBW.out.size))) HX.out; obtain ⟨b', o', eb, c15, c25⟩ := hrd5; cases eb; have HR5 := Lib.hid hr5; have HS5 := Lib.hid hs5; have HBL5 := Lib.hid hbl5; clear hr5 hb5 hs5 hbl5))
      have HRS := Lib.hid (rset_any f at0 n0 _ w5.drew (HST.out.2.below (HS5.out.trans ((Below.refl _ _).drew.mono HS5.out.size))))
      clear c1 c2 HSET
      go_wp2
      go_region_held3 (fun w' => w'.cell? ⟨b, o + k * 2, none⟩ = some (.int .i64 at0) ∧ w'.cell? ⟨b, o + k * 2 + 1, none⟩ = some (.int .i64 n0)) (first | exact ⟨c15, c25⟩ | exact ⟨c16, c26⟩)
        (first
        | (go_at_call 17; refine HRS.out.mono ?_; rintro e w6 ⟨v6, rfl, hr6, hb6⟩; have hs6 := (below_drewN (Below.refl w5.heap.size w5) 1).trans hb6; have hbl6 := HBL5.out.trans (hs6.mono HBL5.out.size); have hbw6 := HS5.out.trans (hs6.mono HS5.out.size); have hrd6 := RdItems.at (RdItems.below HRD.out (HBW.out.trans (hbw6.mono HBW.out.size))) HX.out; obtain ⟨b', o', eb, c16, c26⟩ := hrd6; cases eb; have HR6 := Lib.hid hr6; have HS6 := Lib.hid hs6; have HBL6 := Lib.hid hbl6; clear hr6 hb6 hs6 hbl6 hbw6))
      have hw : IntKind.i64.wrap ((k : Int) + 1) = (k : Int) + 1 := IntWalk.i64_in _ (by omega)
      have HF := Lib.hid (show Same2 w6 A' v6 (setF f at0 n0) from ⟨HR5.out.imp fun _ h => h.below HS6.out, HR6.out⟩)
      go_wp2
      exact ⟨⟨k + 1, A', v6, by omega, by omega, by congr 1, rfl, rfl, HBL6.out, ⟨_, HF.out⟩⟩, by simp [intOf]; omega⟩
    · have hor : (m : Int) ≤ (k : Int) ∨ ((k : Int) < (m : Int) ∧ (30 : Int) ≤ (k : Int)) := by omega
      clear hgo
      rcases hor with h1 | ⟨h1, h2⟩
      all_goals
        first
        | (have h1' : ¬ (k : Int) < (m : Int) := by omega
           clear h1)
        | (have h2' : ¬ (k : Int) < 30 := by omega
           clear h2)
        have HSTA := Lib.hid HST.out
        have HBLA := Lib.hid HBL.out
        obtain ⟨fA, hfA⟩ : ∃ g, g = f := ⟨_, rfl⟩
        rw [← hfA] at HSTA
        clear hfA HST HBL hst
        go_wp2_with fail
        rename_i vA
        obtain ⟨wA, hwA⟩ : ∃ w0, w0 = wr := ⟨_, rfl⟩
        subst hwA
        have H0 := Lib.hid (Same2.nil wA)
        go_loopw [6, 8, 10] (fun t r i wr => ∃ (k : Nat) (A : Option Addr) (v1 : Value), k ≤ n ∧ k ≤ 30 ∧ i = .int .i64 k ∧ t = .pointer A ∧ r = v1 ∧ Below wA.heap.size wA wr ∧ Hid (∃ f, Same2 wr A v1 f)) (fun _ _ i _ => 30 - (intOf i).toNat)
        case atStart => exact ⟨0, none, _, by omega, by omega, rfl, rfl, rfl, Below.refl _ _, ⟨_, H0.out⟩⟩
        case round =>
          obtain ⟨k, A, v1, hk, hk30, rfl, rfl, rfl, hbl, hst⟩ := hrel
          obtain ⟨f, hst⟩ := hst.out
          have HST := Lib.hid hst
          have HBL := Lib.hid hbl
          clear hst hbl
          by_cases hgo : k < n ∧ k < 30
          · obtain ⟨hkm, hk3⟩ := hgo
            obtain ⟨x, hx⟩ : ∃ x, l2[k]? = some x := ⟨_, List.getElem?_eq_getElem (by rw [← HN2.out]; omega)⟩
            have hki : (k : Int) < (n : Int) := by omega
            have hki2 : (k : Int) < 30 := by omega
            have hblw := (HBLA.out.trans (HBL.out.mono HBLA.out.size))
            obtain ⟨b, o, rfl, c1, c2⟩ := (RdItems.below HRD2.out hblw).at hx
            obtain ⟨S, hr⟩ := HST.out.1
            have HX := Lib.hid hx
            have HBW := Lib.hid hblw
            obtain ⟨at0, n0⟩ := x
            have HSET := Lib.hid (set_to f (setF f at0 n0) S A at0 n0 wr.drew (hr.below (Below.refl _ _).drew) rfl)
            clear hr hx hblw
            go_wp2
            go_region_held3 (fun w' => w'.cell? ⟨b, o + k * 2, none⟩ = some (.int .i64 at0) ∧ w'.cell? ⟨b, o + k * 2 + 1, none⟩ = some (.int .i64 n0)) (first | exact ⟨c1, c2⟩ | exact ⟨c15, c25⟩)
              (first
              | (go_at_call 10; refine HSET.out.mono ?_; rintro e w5 ⟨A', rfl, hr5, hb5⟩; have hs5 := (below_drewN (Below.refl wr.heap.size wr) 1).trans hb5; have hbl5 := HBL.out.trans (hs5.mono HBL.out.size); have hrd5 := RdItems.at (RdItems.below HRD2.out (HBW.out.trans (hs5.mono HBW.out.size))) HX.out; obtain ⟨b', o', eb, c15, c25⟩ := hrd5; cases eb; have HR5 := Lib.hid hr5; have HS5 := Lib.hid hs5; have HBL5 := Lib.hid hbl5; clear hr5 hb5 hs5 hbl5))
            have HRS := Lib.hid (rset_any f at0 n0 _ w5.drew (HST.out.2.below (HS5.out.trans ((Below.refl _ _).drew.mono HS5.out.size))))
            clear c1 c2 HSET
            go_wp2
            go_region_held3 (fun w' => w'.cell? ⟨b, o + k * 2, none⟩ = some (.int .i64 at0) ∧ w'.cell? ⟨b, o + k * 2 + 1, none⟩ = some (.int .i64 n0)) (first | exact ⟨c15, c25⟩ | exact ⟨c16, c26⟩)
              (first
              | (go_at_call 17; refine HRS.out.mono ?_; rintro e w6 ⟨v6, rfl, hr6, hb6⟩; have hs6 := (below_drewN (Below.refl w5.heap.size w5) 1).trans hb6; have hbl6 := HBL5.out.trans (hs6.mono HBL5.out.size); have hbw6 := HS5.out.trans (hs6.mono HS5.out.size); have hrd6 := RdItems.at (RdItems.below HRD2.out (HBW.out.trans (hbw6.mono HBW.out.size))) HX.out; obtain ⟨b', o', eb, c16, c26⟩ := hrd6; cases eb; have HR6 := Lib.hid hr6; have HS6 := Lib.hid hs6; have HBL6 := Lib.hid hbl6; clear hr6 hb6 hs6 hbl6 hbw6))
            have hw : IntKind.i64.wrap ((k : Int) + 1) = (k : Int) + 1 := IntWalk.i64_in _ (by omega)
            have HF := Lib.hid (show Same2 w6 A' v6 (setF f at0 n0) from ⟨HR5.out.imp fun _ h => h.below HS6.out, HR6.out⟩)
            go_wp2
            exact ⟨⟨k + 1, A', v6, by omega, by omega, by congr 1, rfl, rfl, HBL6.out, ⟨_, HF.out⟩⟩, by simp [intOf]; omega⟩
          · have hor : (n : Int) ≤ (k : Int) ∨ ((k : Int) < (n : Int) ∧ (30 : Int) ≤ (k : Int)) := by omega
            clear hgo
            rcases hor with h1 | ⟨h1, h2⟩
            all_goals
              first
              | (have h1' : ¬ (k : Int) < (n : Int) := by omega
                 clear h1)
              | (have h2' : ¬ (k : Int) < 30 := by omega
                 clear h2)
              obtain ⟨S, hS⟩ := HSTA.out.1
              obtain ⟨T, hT⟩ := HST.out.1
              have hS := hS.below HBL.out
              have hV := HSTA.out.2.below HBL.out
              have hU := HST.out.2
              have HBW := Lib.hid (HBLA.out.trans (HBL.out.mono HBLA.out.size))
              obtain ⟨xs, hxs⟩ : ∃ xs, ints (diffL fA f) = xs := ⟨_, rfl⟩
              obtain ⟨nx, hnx⟩ : ∃ nx, xs.length = nx := ⟨_, rfl⟩
              have hlx : nx ≤ 9223372036854775807 := by have := diffL_le fA f; rw [hxs, hnx] at this; omega
              have HD1 := Lib.hid (fun w0 (h0 : Below wr.heap.size wr w0) => diff_zs (hS.below h0) (hT.below h0) hxs hnx)
              have HD2 := Lib.hid (fun w0 (h0 : Below wr.heap.size wr w0) => rdiff_zs (hV.below h0) (hU.below h0) hxs hnx)
              have HD3 := Lib.hid (fun w0 (h0 : Below wr.heap.size wr w0) => diff_zs (hT.below h0) (hS.below h0) (by rw [diffL_comm]; exact hxs) hnx)
              have HD4 := Lib.hid (fun w0 (h0 : Below wr.heap.size wr w0) => diff_zs (xs := []) (n := 0) (hS.below h0) (hS.below h0) (by rw [diffL_self]; rfl) rfl)
              have HX := Lib.hid hnx
              clear hS hT hV hU hxs hnx
              go_wp2_with fail
              refine (HD1.out _ (Below.refl _ _)).mono ?_
              rintro e w1 ⟨X1, e1, rfl, hx1, hb1⟩
              have HB1 := Lib.hid hb1
              have HX1 := Lib.hid hx1
              clear hb1 hx1
              go_wp2_with fail
              refine (HD2.out _ HB1.out).mono ?_
              rintro e w2 ⟨X2, e2, rfl, hx2, hb2⟩
              have HI := Lib.hid (ints_same X1 X2 e1 e2 xs w2 HX.out HX.out (RdA.below HX1.out hb2) hx2 hlx)
              have HB2 := Lib.hid (HB1.out.trans (hb2.mono HB1.out.size))
              clear hb2 hx2 HX1
              go_wp2_with fail
              refine HI.out.mono ?_
              rintro e w3 ⟨rfl, hb3⟩
              have HB3 := Lib.hid (HB2.out.trans (hb3.mono HB2.out.size))
              clear hb3 HI
              go_wp2_with fail
              refine (HD3.out _ HB3.out).mono ?_
              rintro e w4 ⟨X3, e3, rfl, hx3, hb4⟩
              have HB4 := Lib.hid (HB3.out.trans (hb4.mono HB3.out.size))
              have HX3 := Lib.hid hx3
              clear hb4 hx3
              go_wp2_with fail
              refine (HD2.out _ HB4.out).mono ?_
              rintro e w5 ⟨X4, e4, rfl, hx4, hb5⟩
              have HI := Lib.hid (ints_same X3 X4 e3 e4 xs w5 HX.out HX.out (RdA.below HX3.out hb5) hx4 hlx)
              have HB5 := Lib.hid (HB4.out.trans (hb5.mono HB4.out.size))
              clear hb5 hx4 HX3
              go_wp2_with fail
              refine HI.out.mono ?_
              rintro e w6 ⟨rfl, hb6⟩
              have HB6 := Lib.hid (HB5.out.trans (hb6.mono HB5.out.size))
              clear hb6 HI
              go_wp2_with fail
              refine (HD4.out _ HB6.out).mono ?_
              rintro e w7 ⟨X5, e5, rfl, hx5, hb7⟩
              have HB7 := Lib.hid (HB6.out.trans (hb7.mono HB6.out.size))
              clear hb7 hx5
              go_wp2_with fail
              refine (sure_any w7).mono ?_
              rintro e w8 ⟨rfl, hb8⟩
              have HB8 := Lib.hid (HB7.out.trans (hb8.mono HB7.out.size))
              clear hb8
              go_wp2_with fail
              go_ret
              exact ⟨rfl, HBW.out.trans (HB8.out.mono HBW.out.size)⟩
end Go.Proofs.Ytnnadhfpkplncaa
