/- 'RadixBack': the order in which unlike places are set changes nothing; what is set and taken away again leaves the tree without it. Condition: the items read. -/
import Derived.Test.YtnnadhfpkplncaaRxBackP
namespace Go.Proofs.Ytnnadhfpkplncaa
open Go.RowKit

theorem atL_at {l : List (Int × Int)} {i : Nat} {x : Int × Int} (h : l[i]? = some x) : x.1 = atL l i := by unfold atL; rw [h]; rfl
theorem back_end {f : Nat → Int} {S T : Nat → Nat → Option Nat} {A B : Option Addr} {w : World} (hA : RdR f S w A) (hB : RdR f T w B) : ∃ N L : Nat,
    (∀ w0, Below w.heap.size w w0 → Calls Try.prog 21 #[.pointer A, .pointer B] w0 fun e w' => (∃ D c, e = .returned (.slice D 0 c)) ∧ Below w0.heap.size w0 w') ∧ (∀ w0, Below w.heap.size w w0 → Calls Try.prog 23 #[.pointer A] w0 fun e w' => e = .returned (.int .i64 (L : Nat)) ∧ Below w0.heap.size w0 w') ∧
    (∀ w0, Below w.heap.size w w0 → Calls Try.prog 23 #[.pointer B] w0 fun e w' => e = .returned (.int .i64 (L : Nat)) ∧ Below w0.heap.size w0 w') ∧ (∀ w0, Below w.heap.size w w0 → Calls Try.prog 11 #[.pointer A] w0 fun e w' => e = .returned (.int .i64 (N : Nat)) ∧ Below w0.heap.size w0 w') ∧
    (∀ w0, Below w.heap.size w w0 → Calls Try.prog 11 #[.pointer B] w0 fun e w' => e = .returned (.int .i64 (N : Nat)) ∧ Below w0.heap.size w0 w') := by
  refine ⟨nn f 2 0, (itemsL f 2 0).length, fun w0 h0 => ?_, fun w0 h0 => len_any _ _ _ _ (hA.below h0), fun w0 h0 => len_any _ _ _ _ (hB.below h0), fun w0 h0 => ?_, fun w0 h0 => ?_⟩
  · refine (diff_any f f S T A B w0 (hA.below h0) (hB.below h0)).mono ?_
    rintro e w' ⟨u, rfl, ho, hb⟩
    rw [diffL_self] at ho
    obtain ⟨D, c, rfl, _⟩ := own_rdA ho
    exact ⟨⟨D, c, rfl⟩, hb⟩
  · have := tnodes_any f S A w0 (hA.below h0)
    rwa [nodes_len hA.1 2 (by omega)] at this
  · have := tnodes_any f T B w0 (hB.below h0)
    rwa [nodes_len hB.1 2 (by omega)] at this
theorem getF_back {f : Nat → Int} {z n : Int} (h : setF (setF f z n) z 0 = f) : getF f z = 0 := by
  rw [← h]
  unfold getF
  by_cases hz : 0 ≤ z ∧ z ≤ 4095
  · rw [if_pos hz, setF_eq, if_pos ⟨by omega, by omega⟩]
  · rw [if_neg hz]
theorem set_to (f g : Nat → Int) (S : Nat → Nat → Option Nat) (A : Option Addr) (z n : Int) (w : World) (h : RdR f S w A) (hg : setF f z n = g) :
    Calls Try.prog 10 #[.pointer A, .int .i64 z, .int .i64 n] w fun e w' => ∃ A', e = .returned (.pointer A') ∧ (∃ S', RdR g S' w' A') ∧ Below w.heap.size w w' := by
  subst hg
  exact (set_any f S A z n w h).mono fun e w' ⟨A', S', e1, hr, _, hb⟩ => ⟨A', e1, ⟨S', hr⟩, hb⟩
set_option maxRecDepth 100000 in
set_option maxHeartbeats 3200000 in
theorem back_walk (v : Value) (z n : Int) (W : World) (hin : ItemsIn W v) : Calls Try.prog 6 #[v, .int .i64 z, .int .i64 n] W (BoolPost true W) := by
  obtain ⟨B, c, l, rfl, hlc, hll, hrd⟩ := hin
  have HRD := Lib.hid hrd
  clear hrd
  have H0 := Lib.hid (rdR_nil W)
  obtain ⟨m, hm⟩ : ∃ m, m = l.length := ⟨_, rfl⟩
  rw [← hm] at hlc hll ⊢
  obtain ⟨kk, hkk⟩ : ∃ kk : Nat, kk = min m 30 := ⟨_, rfl⟩
  have hk1 : kk ≤ 30 := by omega
  have hk2 : kk ≤ m := by omega
  have hmin : min (m : Int) 30 = (kk : Int) := by omega
  clear hkk
  have HN := Lib.hid hm
  clear hm
  go_enter Try.func6, Try.ntmps6
  go_wp2
  go_loopw [7, 10] (fun t i wr => ∃ (k : Nat) (A : Option Addr), k ≤ kk ∧ i = .int .i64 k ∧ t = .pointer A ∧ Below W.heap.size W wr ∧ Hid (∃ S, RdR (FT l k) S wr A)) (fun _ i _ => kk - (intOf i).toNat)
  case atStart => exact ⟨0, none, by omega, rfl, rfl, Below.refl _ _, ⟨_, H0.out⟩⟩
  case round =>
    obtain ⟨k, A, hk, rfl, rfl, hbl, hst⟩ := hrel
    by_cases hgo : k < kk
    · obtain ⟨S, hst⟩ := hst.out
      obtain ⟨x, hx⟩ : ∃ x, l[k]? = some x := ⟨_, List.getElem?_eq_getElem (by rw [← HN.out]; omega)⟩
      have hki : (k : Int) < (kk : Int) := by omega
      have hw1 : IntKind.i64.wrap ((k : Int) + 1) = (k : Int) + 1 := IntWalk.i64_in _ (by omega)
      have hrdk : RdItems wr B l := RdItems.below HRD.out hbl
      obtain ⟨b, o, rfl, c1, c2⟩ := RdItems.at hrdk hx
      have HSET := Lib.hid (set_to (FT l k) (FT l (k + 1)) S A x.1 ((k : Int) + 1) wr hst (by rw [atL_at hx]; rfl))
      have HBL := Lib.hid hbl
      clear hst hx hrdk c2 hbl
      go_wp2_with fail
      refine HSET.out.mono ?_
      rintro e w5 ⟨A', rfl, hr5, hb5⟩
      have HR5 := Lib.hid hr5
      have HB5 := Lib.hid (HBL.out.trans (hb5.mono HBL.out.size))
      clear hr5 hb5
      go_wp2_with fail
      exact ⟨⟨k + 1, A', by omega, rfl, rfl, HB5.out, HR5⟩, by simp [intOf]; omega⟩
    · have hke : k = kk := by omega
      subst hke
      obtain ⟨S, hst⟩ := hst.out
      have HA := Lib.hid hst
      have HBL := Lib.hid hbl
      have hki : ¬ (k : Int) < (k : Int) := by omega
      have hw2 : IntKind.i64.wrap ((k : Int) - 1) = (k : Int) - 1 := IntWalk.i64_in _ (by omega)
      clear hst hbl hgo
      go_wp2_with fail
      go_loopw [8, 11] (fun u i w2 => ∃ (j : Nat) (C : Option Addr), j ≤ k ∧ i = .int .i64 ((j : Int) - 1) ∧ u = .pointer C ∧ Below wr.heap.size wr w2 ∧ Hid (∃ T, RdR (UF l k j) T w2 C)) (fun _ i _ => (intOf i + 1).toNat)
      case atStart => exact ⟨k, none, by omega, rfl, rfl, Below.refl _ _, ⟨_, by rw [UF_top]; exact rdR_nil _⟩⟩
      case round =>
        obtain ⟨j, C, hj, rfl, rfl, hb2, hst⟩ := hrel
        have HB2 := Lib.hid hb2
        have HBW := Lib.hid (HBL.out.trans (hb2.mono HBL.out.size))
        have HC := Lib.hid hst.out
        clear hb2 hst
        rcases j with _ | j
        · rw [show ((0 : Nat) : Int) - 1 = -1 from rfl]
          have hA := HA.out.below HB2.out
          obtain ⟨T, hT⟩ := HC.out
          rw [UF_end] at hT
          obtain ⟨NN, LL, e1, e2, e3, e4, e5⟩ := back_end hA hT
          have HD := Lib.hid e1
          have HL1 := Lib.hid e2
          have HL2 := Lib.hid e3
          have HN1 := Lib.hid e4
          have HN2 := Lib.hid e5
          have HA2 := Lib.hid hA
          clear hA hT e1 e2 e3 e4 e5
          go_wp2_with fail
          refine (HD.out _ (Below.refl _ _)).mono ?_
          rintro e w3 ⟨⟨D, dc, rfl⟩, hb3⟩
          have HB3 := Lib.hid hb3
          clear hb3
          go_wp2_with fail
          refine (HL1.out _ HB3.out).mono ?_
          rintro e w4 ⟨rfl, hb4⟩
          have HB4 := Lib.hid (HB3.out.trans (hb4.mono HB3.out.size))
          clear hb4
          go_wp2_with fail
          refine (HL2.out _ HB4.out).mono ?_
          rintro e w5 ⟨rfl, hb5⟩
          have HB5 := Lib.hid (HB4.out.trans (hb5.mono HB4.out.size))
          clear hb5
          go_wp2_with fail
          refine (HN1.out _ HB5.out).mono ?_
          rintro e w6 ⟨rfl, hb6⟩
          have HB6 := Lib.hid (HB5.out.trans (hb6.mono HB5.out.size))
          clear hb6
          go_wp2_with fail
          refine (HN2.out _ HB6.out).mono ?_
          rintro e w7 ⟨rfl, hb7⟩
          have HB7 := Lib.hid (HB6.out.trans (hb7.mono HB6.out.size))
          clear hb7
          have HA7 := Lib.hid (HA2.out.below HB7.out)
          have HBW7 := Lib.hid (HBW.out.trans (HB7.out.mono HBW.out.size))
          have HG := Lib.hid (get_any _ _ A z w7 HA7.out)
          obtain ⟨q, hq⟩ : ∃ q, q = getF (FT l k) z := ⟨_, rfl⟩
          rw [← hq] at HG
          clear HD HL1 HL2 HN1 HN2 HB3 HB4 HB5 HB6 HB7 HA2 HA HC
          have hll : ((LL : Int) != (LL : Int)) = false := by simp
          have hnn : ((NN : Int) != (NN : Int)) = false := by simp
          go_wp2_with fail
          refine HG.out.mono ?_
          rintro e w8 ⟨rfl, hb8⟩
          have HA8 := Lib.hid (HA7.out.below hb8)
          have HB8 := Lib.hid (HBW7.out.trans (hb8.mono HBW7.out.size))
          clear hb8 HA7 HBW7 HG hll hnn
          by_cases hq0 : q = 0
          · have hq1 : getF (FT l k) z = 0 := by rw [← hq]; exact hq0
            have HBA := Lib.hid (back_again (n := n) hq1)
            have HS := Lib.hid (set_to _ (setF (FT l k) z n) _ A z n w8 HA8.out rfl)
            subst hq0
            clear hq hq1
            go_wp2_with fail
            refine HS.out.mono ?_
            rintro e w9 ⟨C', rfl, hr9, hb9⟩
            obtain ⟨S9, hr9⟩ := hr9
            have HS2 := Lib.hid (set_to _ (FT l k) _ C' z 0 w9 hr9 HBA.out)
            have HA9 := Lib.hid (HA8.out.below hb9)
            have HB9 := Lib.hid (HB8.out.trans (hb9.mono HB8.out.size))
            clear hr9 hb9 HS HA8 HB8
            go_wp2_with fail
            refine HS2.out.mono ?_
            rintro e w10 ⟨C2, rfl, ⟨S10, hr10⟩, hb10⟩
            have hA10 := HA9.out.below hb10
            have HB10 := Lib.hid (HB9.out.trans (hb10.mono HB9.out.size))
            have hz0 := getF_back (f := FT l k) (z := z) (n := n) HBA.out
            obtain ⟨NN, LL, e1, e2, e3, e4, e5⟩ := back_end hr10 hA10
            have HD := Lib.hid e1
            have HN1 := Lib.hid e4
            have HN2 := Lib.hid e5
            have HG := Lib.hid (fun w0 h0 => get_any _ _ C2 z w0 (hr10.below h0))
            rw [hz0] at HG
            have hnn : ((NN : Int) == (NN : Int)) = true := by simp
            clear hA10 hr10 hb10 e1 e2 e3 e4 e5 HS2 HA9 HB9
            go_wp2_with fail
            refine (HD.out _ (Below.refl _ _)).mono ?_
            rintro e w11 ⟨⟨D2, dc2, rfl⟩, hb11⟩
            have HB11 := Lib.hid hb11
            clear hb11
            go_wp2_with fail
            refine (HN1.out _ HB11.out).mono ?_
            rintro e w12 ⟨rfl, hb12⟩
            have HB12 := Lib.hid (HB11.out.trans (hb12.mono HB11.out.size))
            clear hb12
            go_wp2_with fail
            refine (HN2.out _ HB12.out).mono ?_
            rintro e w13 ⟨rfl, hb13⟩
            have HB13 := Lib.hid (HB12.out.trans (hb13.mono HB12.out.size))
            clear hb13
            go_wp2_with fail
            refine (HG.out _ HB13.out).mono ?_
            rintro e w14 ⟨rfl, hb14⟩
            have HB14 := Lib.hid (HB13.out.trans (hb14.mono HB13.out.size))
            clear hb14
            go_wp2_with fail
            refine (sure_any w14).mono ?_
            rintro e w15 ⟨rfl, hb15⟩
            have HB15 := Lib.hid (HB14.out.trans (hb15.mono HB14.out.size))
            have HBE := Lib.hid (HB10.out.trans (HB15.out.mono HB10.out.size))
            clear hb15
            go_wp2_with fail
            go_ret
            exact ⟨rfl, HBE.out⟩
          · have hqb : (q != 0) = true := by simp [hq0]
            clear hq
            go_wp2_with fail
            refine (sure_any w8).mono ?_
            rintro e w9 ⟨rfl, hb9⟩
            have HB9 := Lib.hid (HB8.out.trans (hb9.mono HB8.out.size))
            clear hb9
            go_wp2_with fail
            go_ret
            exact ⟨rfl, HB9.out⟩
        · have hji : ((j + 1 : Nat) : Int) - 1 = (j : Int) := by omega
          rw [hji]
          obtain ⟨x, hx⟩ : ∃ x, l[j]? = some x := ⟨_, List.getElem?_eq_getElem (by rw [← HN.out]; omega)⟩
          obtain ⟨b, o, rfl, c1, c2⟩ := RdItems.at (RdItems.below HRD.out HBW.out) hx
          obtain ⟨T, hT⟩ := HC.out
          have hx1 := atL_at hx
          obtain ⟨hu1, hu2⟩ := UF_step l k j (by omega)
          rw [← hx1] at hu1 hu2
          have HG := Lib.hid (get_any (UF l k (j + 1)) T C x.1 _ hT)
          obtain ⟨q, hq⟩ : ∃ q, q = getF (UF l k (j + 1)) x.1 := ⟨_, rfl⟩
          rw [← hq] at HG hu1 hu2
          have h0j : (0 : Int) ≤ (j : Int) := by omega
          have hw1 : IntKind.i64.wrap ((j : Int) + 1) = (j : Int) + 1 := IntWalk.i64_in _ (by omega)
          have hw3 : IntKind.i64.wrap ((j : Int) - 1) = (j : Int) - 1 := IntWalk.i64_in _ (by omega)
          have HU1 := Lib.hid hu1
          have HU2 := Lib.hid hu2
          have HT := Lib.hid hT
          have HX := Lib.hid hx
          clear hu1 hu2 hT hx hx1 hq c2
          go_wp2_with fail
          refine HG.out.mono ?_
          rintro e w3 ⟨rfl, hb3⟩
          have HB3 := Lib.hid (HBW.out.trans (hb3.mono HBW.out.size))
          have HB3' := Lib.hid (HB2.out.trans (hb3.mono HB2.out.size))
          have HT3 := Lib.hid (HT.out.below hb3)
          clear hb3
          by_cases hq0 : q = 0
          · have HS := Lib.hid (set_to (UF l k (j + 1)) (UF l k j) T C x.1 ((j : Int) + 1) w3 HT3.out (HU1.out hq0))
            obtain ⟨b', o', eb, c13, c23⟩ := RdItems.at (RdItems.below HRD.out HB3.out) HX.out
            cases eb
            subst hq0
            clear c23 c1
            go_wp2_with fail
            refine HS.out.mono ?_
            rintro e w4 ⟨C', rfl, hr4, hb4⟩
            have HR4 := Lib.hid hr4
            have HB4 := Lib.hid (HB3'.out.trans (hb4.mono HB3'.out.size))
            clear hr4 hb4
            go_wp2_with fail
            exact ⟨⟨j, C', by omega, rfl, rfl, HB4.out, ⟨_, HR4.out.choose_spec⟩⟩, by simp [intOf]⟩
          · have hqb : (q == 0) = false := by simp [hq0]
            have HR3 := Lib.hid (show RdR (UF l k j) T w3 C by rw [← HU2.out hq0]; exact HT3.out)
            clear c1
            go_wp2_with fail
            exact ⟨⟨j, C, by omega, rfl, rfl, HB3'.out, ⟨_, HR3.out⟩⟩, by simp [intOf]⟩
end Go.Proofs.Ytnnadhfpkplncaa
