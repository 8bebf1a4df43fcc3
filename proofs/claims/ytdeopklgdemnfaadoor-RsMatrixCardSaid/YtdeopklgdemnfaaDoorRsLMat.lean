/- The walk of the law on the inverse of every matrix. Condition: the library's handle of the type 'error' reads as the program lays it. -/
import Derived.Test.YtdeopklgdemnfaaDoorRsHelp
import Derived.Test.YtdeopklgdemnfaaDoorRsSure
import Derived.Test.YtdeopklgdemnfaaDoorRsOpen
import Derived.Test.YtdeopklgdemnfaaDoorRsMatP
namespace Go.Proofs.YtdeopklgdemnfaaDoor
open Go.RowKit Gf Rs

theorem mat_row {n i : Nat} {X : Mat} (h : i < n) : (sq n X)[i]'(by rw [sq_length]; exact h) = rowL n (X i) := by simp [sq]
set_option maxRecDepth 100000 in
set_option maxHeartbeats 1600000 in
theorem rsmatrix (v1 : Value) (W : World) (hH : Handle W) (h1 : BssIn W v1) : Calls Tryd.prog 9 #[v1] W (LawEnd W) := by
  obtain ⟨A, c, ls, rfl, hc, hq, hrd, hlen⟩ := h1
  have hb0 := hH.lt
  have HLEN := Lib.hid hlen
  clear hlen
  go_enter Tryd.func9, Tryd.ntmps9
  go_wp2_with fail
  refine (long_any W.heap.size A c ls hq HLEN.out W hrd).mono ?_
  rintro e w' ⟨b, rfl, rfl, hshort⟩
  have HSH := Lib.hid hshort
  clear hshort
  cases b with
  | true =>
    go_wp2_with fail
    refine (sure8_any _).mono ?_
    rintro e w6 ⟨rfl, hb6⟩
    go_wp2
    go_ret
    exact ⟨rfl, hb6⟩
  | false =>
    obtain ⟨hl65, htot⟩ := HSH.out rfl
    have hlen : ∀ (i : Nat) (l : List F), ls[i]? = some l → l.length ≤ 1048576 := fun i l hi => by have := cat_part hi; omega
    have HLN := Lib.hid hlen
    clear hlen htot HSH HLEN
    go_wp2_with fail
    refine (twins_any W.heap.size A c ls (by omega) HLN.out W hrd).mono ?_
    rintro e w5 ⟨v5, rfl, ho5, hb5⟩
    obtain ⟨A5, c5, rfl⟩ := ho5.shape
    have hr5 : RdM 0 w5 A5 ls := by
      obtain ⟨_, _, e, _, hr⟩ := ho5.hdm hb0
      cases e; exact hr
    clear ho5
    go_wp2_with fail
    refine (xinvert_S 0 A5 c5 ls (by omega) HLN.out w5 hr5).mono ?_
    rintro e w6 ⟨v6, rfl, ⟨A6, c6, rfl, hl6, hd6⟩, hb6⟩
    have hbw6 := hb5.trans (hb6.mono hb5.size)
    clear hb5 hb6 hr5
    go_wp2_with fail
    refine (rinvert_S W.heap.size A c ls (by omega) HLN.out w6 (hrd.below hbw6)).mono ?_
    rintro e w7 ⟨v7, rfl, hd7, hb7⟩
    obtain ⟨A7, c7, rfl, hl7, hd7⟩ := hd7 0 (by have := hbw6.size; omega)
    have hd67 := hd6.below hb7
    have hbw7 := hbw6.trans (hb7.mono hbw6.size)
    clear hbw6 hb7 hd6
    have hRl : (invS ls).1.length ≤ 65 := by
      rcases invS_cases ls with e | e | ⟨X, _, _, e⟩
      · rw [e]; simp
      · rw [e]; simp
      · rw [e]; rw [sq_length]; exact hl65
    go_wp2_with fail
    refine (lists_any _ _ A6 A7 c6 c7 (invS ls).1 (invS ls).1 (by omega) w7 hd67 hd7).mono ?_
    rintro e w8 ⟨rfl, hb8⟩
    rw [decide_eq_true rfl]
    have hbw8 := hbw7.trans (hb8.mono hbw7.size)
    have hd68 := hd67.below hb8
    have hd78 := hd7.below hb8
    clear hbw7 hb8 hd67 hd7
    go_wp2_with fail
    refine (num8_S _ _ (hH.below hb0 hbw8)).mono ?_
    rintro e w9 ⟨rfl, hb9⟩
    have hbw9 := hbw8.trans (hb9.mono hbw8.size)
    have hd69 := hd68.below hb9
    have hd79 := hd78.below hb9
    clear hbw8 hb9 hd68 hd78
    have bad : ∀ n : Int, n ≠ 0 → invS ls = ([], n) → True := fun _ _ _ => trivial
    rcases invS_cases ls with e | e | ⟨X, hsq, hX, e⟩
    · rw [e]
      unfold errV
      rw [if_neg (by decide)]
      clear e
      unfold errN
      go_wp2_with fail
      refine (sure8_any _).mono ?_
      rintro e w10 ⟨rfl, hb10⟩
      have hbw10 := hbw9.trans (hb10.mono hbw9.size)
      clear hb10 hbw9
      go_wp2
      go_ret
      exact ⟨rfl, hbw10⟩
    · rw [e]
      unfold errV
      rw [if_neg (by decide)]
      clear e
      unfold errN
      go_wp2_with fail
      refine (sure8_any _).mono ?_
      rintro e w10 ⟨rfl, hb10⟩
      have hbw10 := hbw9.trans (hb10.mono hbw9.size)
      clear hb10 hbw9
      go_wp2
      go_ret
      exact ⟨rfl, hbw10⟩
    · have htw := invS_twice hsq hX
      rw [e] at hd69 hd79 hl6 hl7 ⊢
      have hxi := xinvert_S w5.heap.size A6 c6 (sq ls.length X) (by rw [sq_length]; omega) (fun i l hi => by rw [(sq_Sq hsq.1 hsq.2.1).2.2 i l hi, sq_length]; omega) w9 hd69
      rw [htw] at hxi
      have HXI := Lib.hid hxi
      rw [sq_length] at hl6 hl7 ⊢
      rw [show (sq ls.length X).length = ls.length from sq_length _ _] at HXI
      have hS := hsq.2.2
      have HS := Lib.hid hS
      have hxr := (minv_some hX).2
      have HXR := Lib.hid hxr
      have h0n := hsq.1
      unfold errV
      rw [if_pos rfl]
      clear htw hxi e hX hsq hS hxr hRl bad
      go_wp2_with fail
      refine HXI.out.mono ?_
      rintro e w10 ⟨v10, rfl, ⟨A10, c10, rfl, hl10, hd10⟩, hb10⟩
      have hbw10 := hbw9.trans (hb10.mono hbw9.size)
      have hd710 := hd79.below hb10
      have hrd10 := hrd.below hbw10
      clear hbw9 hb10 hd69 hd79 HXI
      unfold errV
      rw [if_pos rfl]
      go_wp2
      obtain ⟨wo, rfl⟩ : ∃ wo : World, wo = w10 := ⟨_, rfl⟩
      go_loopw [9, 10, 11, 12, 13] (fun i _ _ _ _ wr => ∃ p : Nat, p ≤ ls.length ∧ i = .int .i64 p ∧ Below wo.heap.size wo wr) (fun i _ _ _ _ _ => ls.length - (intOf i).toNat)
      case atStart => exact ⟨0, by omega, rfl, Below.refl _ _⟩
      case round =>
        obtain ⟨i, hi, rfl, hb⟩ := hrel
        by_cases hilt : i < ls.length
        · go_wp2
          go_loopw [10, 11, 12, 13] (fun j _ _ _ wr => ∃ p : Nat, p ≤ ls.length ∧ j = .int .i64 p ∧ Below wo.heap.size wo wr) (fun j _ _ _ _ => ls.length - (intOf j).toNat)
          case atStart => exact ⟨0, by omega, rfl, hb⟩
          case round =>
            clear hb
            obtain ⟨j, hj, rfl, hb⟩ := hrel
            by_cases hjlt : j < ls.length
            · go_wp2
              go_loopw [11, 13] (fun s k wr => ∃ q : Nat, q ≤ ls.length ∧ k = .int .i64 q ∧ s = .int .u8 ((sm q fun l => fmul (mf ls i l) (X l j)).1 : Int) ∧ Below wo.heap.size wo wr) (fun _ k _ => ls.length - (intOf k).toNat)
              case atStart => exact ⟨0, by omega, rfl, rfl, hb⟩
              case round =>
                clear hb
                obtain ⟨q, hq', rfl, rfl, hb⟩ := hrel
                by_cases hqlt : q < ls.length
                · obtain ⟨b1, o1, B1, q1, e1, _, hc1, _, hr1⟩ := (hrd10.below hb).at hilt
                  have hlen1 := HS.out i _ (List.getElem?_eq_getElem hilt)
                  rw [hlen1] at hc1
                  have hq1 : q < ls[i].length := by rw [hlen1]; exact hqlt
                  obtain ⟨b2, o2, e2, _, hc2⟩ := RdB.at hr1 hq1
                  obtain ⟨b3, o3, B3, q3, e3, _, hc3, _, hr3⟩ := (hd710.below hb).at (i := q) (by rw [sq_length]; exact hqlt)
                  rw [mat_row hqlt, rowL_length] at hc3
                  rw [mat_row hqlt] at hr3
                  obtain ⟨b4, o4, e4, _, hc4⟩ := RdB.at (i := j) hr3 (by rw [rowL_length]; exact hjlt)
                  subst e1 e2 e3 e4
                  have hv2 : ls[i][q] = mf ls i q := by
                    unfold mf
                    rw [List.getD_eq_getElem?_getD, List.getElem?_eq_getElem hilt, Option.getD_some, gd_eq hq1]
                  have hv4 : (rowL ls.length (X q))[j]'(by rw [rowL_length]; exact hjlt) = X q j := by simp [rowL]
                  rw [hv2] at hc2
                  rw [hv4] at hc4
                  unfold B at hc2 hc4
                  have hsm : (sm (q + 1) fun l => fmul (mf ls i l) (X l j)) = fadd (sm q fun l => fmul (mf ls i l) (X l j)) (fmul (mf ls i q) (X q j)) := sm_succ _ _
                  have HSM := Lib.hid hsm
                  have i1 : (i : Int) < (ls.length : Int) := by omega
                  have i2 : (j : Int) < (ls.length : Int) := by omega
                  have i3 : (q : Int) < (ls.length : Int) := by omega
                  clear hsm hv2 hv4 hr1 hr3 hlen1 hq1
                  generalize mf ls i q = x at *
                  generalize X q j = y at *
                  generalize (sm q fun l => fmul (mf ls i l) (X l j)) = t at *
                  go_wp2
                  go_quiet ((go_at_call 29; exact Calls.quiet_of_same (rmul_F _ _ _)))
                  rw [u8_xor_nat _ _ t.2 (fmul x y).2]
                  clear hc1 hc2 hc3 hc4
                  go_wp2
                  exact ⟨⟨q + 1, by omega, by go_num, by rw [HSM.out]; rfl, below_drewN hb _⟩, by simp [intOf]; omega⟩
                · have hqe : q = ls.length := by omega
                  have hfin := HXR.out i j hilt hjlt
                  have hval : (sm q fun l => fmul (mf ls i l) (X l j)) = dl i j := by rw [hqe]; exact hfin
                  rw [hval]
                  clear hqe hfin hval
                  by_cases hij : i = j
                  · have hd1 : ((dl i j).1 : Int) = 1 := by simp [dl, hij, fo]
                    rw [hd1]
                    have hbe : ((i : Int) == (j : Int)) = true := by rw [hij]; simp
                    clear hd1 hij
                    go_wp2
                    exact ⟨⟨j + 1, by omega, by go_num, hb⟩, by simp [intOf]; omega⟩
                  · have hd1 : ((dl i j).1 : Int) = 0 := by simp [dl, hij, fz]
                    rw [hd1]
                    have hbe : ((i : Int) == (j : Int)) = false := by simp; omega
                    clear hd1 hij
                    go_wp2
                    exact ⟨⟨j + 1, by omega, by go_num, hb⟩, by simp [intOf]; omega⟩
            · go_wp2
              exact ⟨⟨i + 1, by omega, by go_num, hb⟩, by simp [intOf]; omega⟩
        · have hbw := hbw10.trans (hb.mono hbw10.size)
          have hd10' := hd10.below hb
          have hrdb := hrd.below hbw
          clear hbw10 hb hd10 hd710 hrd10
          go_wp2_with fail
          refine (lists_any _ _ A10 A c10 c ls ls hq wr hd10' hrdb).mono ?_
          rintro e w11 ⟨rfl, hb11⟩
          rw [decide_eq_true rfl]
          have hbw11 := hbw.trans (hb11.mono hbw.size)
          clear hb11 hbw hd10' hrdb
          go_wp2_with fail
          refine (sure8_any _).mono ?_
          rintro e w12 ⟨rfl, hb12⟩
          have hbw12 := hbw11.trans (hb12.mono hbw11.size)
          clear hb12 hbw11
          go_wp2
          go_ret
          exact ⟨rfl, hbw12⟩
end Go.Proofs.YtdeopklgdemnfaaDoor
