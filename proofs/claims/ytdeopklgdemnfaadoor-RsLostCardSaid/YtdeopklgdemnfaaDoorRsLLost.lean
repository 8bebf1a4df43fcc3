/- The walk of the law on lost parts. Condition: the library's handle of the type 'error' reads as the program lays it. -/
import Derived.Test.YtdeopklgdemnfaaDoorRsHelp
import Derived.Test.YtdeopklgdemnfaaDoorRsCx
import Derived.Test.YtdeopklgdemnfaaDoorRsOpenI
import Derived.Deep.QuietTactic
import Derived.BigQuiet
namespace Go.Proofs.YtdeopklgdemnfaaDoor
open Go.RowKit Gf Rs

theorem errV0' : errV 0 = .nilIface := rfl
set_option maxRecDepth 100000 in
set_option maxHeartbeats 3200000 in
theorem rslost (k m : Int) (v1 v2 : Value) (W : World) (hH : Handle W) (h1 : BsIn W v1) (h2 : NumsIn W v2) : Calls Tryd.prog 12 #[.agg #[.int .i64 k, .int .i64 m], v1, v2] W (LawEnd W) := by
  obtain ⟨A, c, text, rfl, hc, hq, hrd⟩ := h1
  obtain ⟨At, ct, zs, rfl, hzl, hrz⟩ := h2
  have hb0 := hH.lt
  obtain ⟨K, hK, hK8, hKe⟩ := small8 k
  obtain ⟨M, hM5, hMe⟩ := small6 m
  have HKE := Lib.hid hKe
  have HME := Lib.hid hMe
  have HRZ := Lib.hid hrz
  clear hKe hMe hrz
  go_enter Tryd.func12, Tryd.ntmps12
  go_wp2
  go_quiet (fail)
  go_wp2_with fail
  rw [HKE.out, HME.out]
  have hbx : Below W.heap.size W ((W.alloc (.cells #[.int .i64 k, .int .i64 m] 47)).drewN nq) := below_drewN ((Below.refl _ _).alloc (Nat.le_refl _) _) nq
  have hz0 : ((W.alloc (.cells #[.int .i64 k, .int .i64 m] 47)).drewN nq).heap.size = W.heap.size + 1 := World.size_alloc _ _
  generalize (W.alloc (.cells #[.int .i64 k, .int .i64 m] 47)).drewN nq = w0 at *
  refine (new_good K M hK (by omega) w0).mono ?_
  rintro e w1 ⟨rfl, hc1, hb1, _⟩
  rw [hz0] at hc1 hb1 ⊢
  have hx1 : Cx W w1 K M (W.heap.size + 1 + 1) (W.heap.size + 1) := ⟨hbx.trans (hb1.mono (Nat.le_succ _)), hc1, Nat.lt_succ_self _⟩
  clear hc1 hb1 hbx hz0
  by_cases hlong : 2000 < text.length
  · have hli : (2000 : Int) < (text.length : Int) := by omega
    go_wp2_with fail
    refine (sure8_any _).mono ?_
    rintro e w2 ⟨rfl, hb2⟩
    have hx2 := hx1.next hb2
    clear hx1 hb2
    go_wp2
    go_ret
    exact ⟨rfl, hx2.below⟩
  · have hli : ¬ (2000 : Int) < (text.length : Int) := by omega
    have hpn := partN_le (len := text.length) hK
    go_wp2_with fail
    refine (split_S _ K M _ hK (by omega) A c text (by omega) hc w1 hx1.code (hx1.bs hrd)).mono ?_
    rintro e w2 ⟨v2, rfl, ⟨A2, c2, rfl, hl2, hd2⟩, hk2⟩
    have hx2 := hx1.keep hk2
    clear hx1 hk2
    have henc := encode_S _ K M _ hK (by omega) A2 c2 (splitF K text) (fun i l hi => by
      have hlt := (List.getElem?_eq_some_iff.1 hi).1
      rw [splitF_length] at hlt
      have := splitF_row (l := text) hlt
      rw [List.getD_eq_getElem?_getD, hi, Option.getD_some] at this
      omega) w2 hx2.code hd2
    rw [encS_split hK] at henc
    have hjo := join_out (M := M) hK text
    have hdl : ∀ j, j < K → ((splitF K text).getD j []).length = partN K text.length := fun j hj => splitF_row hj
    have hDl := splitF_length K text
    have HE := Lib.hid henc
    have HJO := Lib.hid hjo
    have HDL := Lib.hid hdl
    have HD := Lib.hid hDl
    clear henc hjo hdl hDl hd2
    rw [HD.out] at hl2 HE ⊢
    generalize splitF K text = D at *
    generalize partN K text.length = n at *
    go_wp2_with fail
    refine HE.out.mono ?_
    rintro e w3 ⟨v3, rfl, ⟨A3, c3, rfl, hl3, hd3⟩, hk3⟩
    have hx3 := hx2.keep hk3
    have hol := outF_length K (K + M) D n
    have HOL := Lib.hid hol
    simp only [hol] at hl3 ⊢
    clear hx2 hk3 hol HE
    have hne : (((K + M : Nat) : Int) != (K : Int) + (M : Int)) = false := by simp
    unfold errV
    rw [if_pos rfl]
    have htw := twins_any (W.heap.size + 1) A3 c3 (outF K (K + M) D n) (by rw [HOL.out]; omega) (fun i l hi => by
      have hlt := (List.getElem?_eq_some_iff.1 hi).1
      rw [HOL.out] at hlt
      rw [outF_at hlt] at hi
      cases hi
      rw [mixL_length]; omega) w3 hd3
    rw [HOL.out] at htw
    have HTW := Lib.hid htw
    clear htw
    go_wp2_with fail
    refine HTW.out.mono ?_
    rintro e w4 ⟨v4, rfl, ho4, hb4⟩
    obtain ⟨A4, c4, rfl⟩ := ho4.shape
    rw [HOL.out] at ho4 ⊢
    have hs34 := hb4.size
    have hmk : ∀ w : World, (Instr.makeSlice 74 (.int .i64 ((K : Int) + (M : Int))) (.int .i64 ((K : Int) + (M : Int)))).run Tryd.prog w
        = .ok (.slice (some ⟨w.heap.size, 0, none⟩) (K + M) (K + M)) (w.alloc (.cells (arrV (flagsA (K + M) 0)) 4)) := fun w => by
      have := run_makeBool (K + M) (by omega) w
      simpa using this
    go_wp2
    go_loopw [15] (fun i wr => ∃ j : Nat, j ≤ K + M ∧ i = .int .i64 j ∧ Below w4.heap.size w4 wr ∧ Hid (wr.heap[w4.heap.size]? = some (.cells (arrV (flagsA (K + M) j)) 4 (0, 0)))) (fun i _ => K + M - (intOf i).toNat)
    case atStart => exact ⟨0, by omega, rfl, (Below.refl _ _).alloc (Nat.le_refl _) _, heap_new _ _ _ rfl⟩
    case round =>
      obtain ⟨j, hj, rfl, hbo, hfl⟩ := hrel
      by_cases hlt : j < K + M
      · have hji : (j : Int) < (K : Int) + (M : Int) := by omega
        have hcf : wr.cell? ⟨w4.heap.size, j, none⟩ = some (.bool false) := (block_cell hfl.out).trans ((arrV_at _ _).trans (flagsA_at hlt))
        have hff : wr.frozen? ⟨w4.heap.size, j, none⟩ = false := block_free hfl.out
        have q1 := block_set (o := j) hfl.out (.bool true)
        rw [arrV_set, flagsA_set] at q1
        have Q1 := Lib.hid q1
        have hb5 := hbo.setCell (p := ⟨w4.heap.size, j, none⟩) (Nat.le_refl _) (.bool true)
        clear q1 hfl hbo
        go_wp2
        exact ⟨⟨j + 1, by omega, by go_num, hb5, Q1.out⟩, by simp [intOf]; omega⟩
      · have hji : ¬ (j : Int) < (K : Int) + (M : Int) := by omega
        have hje : j = K + M := by omega
        have hfl2 : wr.heap[w4.heap.size]? = some (.cells (arrV ((List.replicate (K + M) true).map Value.bool)) 4 (0, 0)) := by rw [← flagsA_all, ← hje]; rw [hje]; have := hfl.out; rw [hje] at this; exact this
        have HFL := Lib.hid hfl2
        have hbw : Below w3.heap.size w3 wr := hb4.trans (hbo.mono hs34)
        have ho5 := ho4.below hbo
        have hleft := Left.start (K := K) (M := M) (n := n) (D := D)
        have HL := Lib.hid hleft
        clear hje hfl2 hfl hbo ho4 hb4 hleft
        go_wp2
        go_loopw [16, 17, 18] (fun nv i _ wr => ∃ (q cnt : Nat) (ts : List Bool) (lst : List (List F)), q ≤ zs.length ∧ q ≤ 40 ∧ cnt ≤ q ∧ i = .int .i64 q ∧ nv = .int .i64 cnt ∧ Below w3.heap.size w3 wr ∧ OutR w3.heap.size wr (.slice A4 (K + M) c4) lst ∧ Hid (wr.heap[w4.heap.size]? = some (.cells (arrV (ts.map Value.bool)) 4 (0, 0))) ∧ Hid (Left K M n D lst ts cnt)) (fun _ i _ _ => 40 - (intOf i).toNat)
        case atStart => exact ⟨0, 0, _, _, by omega, by omega, by omega, rfl, rfl, hbw, ho5, HFL, HL⟩
        case round =>
          clear hbw ho5 HFL HL
          obtain ⟨q, cnt, ts, lst, hq1, hq2, hcq, rfl, rfl, hbw, ho, hfl, hleft⟩ := hrel
          by_cases hlt1 : q < zs.length
          · by_cases hlt2 : q < 40
            · obtain ⟨bz, oz, ez, hcz⟩ := HRZ.out q hlt1
              subst ez
              have hczr : wr.cell? ⟨bz, oz + q, none⟩ = some (.int .i64 zs[q]) := by
                rw [← hcz]
                exact World.cell?_of_block ((hbw.block bz (by have := cell_lt hcz; have := hx3.below.size; omega)).trans (hx3.below.block bz (cell_lt hcz)))
              have hqi : (q : Int) < (zs.length : Int) := by omega
              generalize zs[q] = z at *
              obtain ⟨a, haKM, hae⟩ := smallN z hK (show K + M ≤ 32 by omega)
              have hat : a < ts.length := by rw [hleft.out.tl]; exact haKM
              have hcf : wr.cell? ⟨w4.heap.size, a, none⟩ = some (.bool ts[a]) := (block_cell hfl.out).trans ((arrV_at _ _).trans (by rw [List.getElem?_map, List.getElem?_eq_getElem hat]; rfl))
              have hff : wr.frozen? ⟨w4.heap.size, a, none⟩ = false := block_free hfl.out
              have hai : (a : Int) < (K : Int) + (M : Int) := by omega
              cases hta : ts[a] with
              | false =>
                rw [hta] at hcf
                clear hta
                go_wp2
                exact ⟨⟨q + 1, cnt, ts, lst, by omega, by omega, by omega, by go_num, rfl, hbw, ho, hfl.out, hleft.out⟩, by simp [intOf]; omega⟩
              | true =>
                rw [hta] at hcf
                have hfa : fl ts a = true := by rw [fl_eq hat]; exact hta
                have hlo := hleft.out.lose haKM hfa
                have hll := hleft.out.ll
                have q1 := block_set (o := a) hfl.out (.bool false)
                rw [arrV_set, ← List.map_set] at q1
                have ho1 : OutR w3.heap.size (wr.setCell ⟨w4.heap.size, a, none⟩ (.bool false)) (.slice A4 (K + M) c4) lst := ho.other hfl.out (by decide) (by decide)
                obtain ⟨g, A', c', e1, hg1, hg2, hcg, hfg, _⟩ := ho1.at (i := a) (by rw [hll]; exact haKM)
                subst e1
                have hcx : ∃ v, (wr.setCell ⟨w4.heap.size, a, none⟩ (.bool false)).cell? ⟨g, a, none⟩ = some v := ⟨_, hcg⟩
                clear hcg
                obtain ⟨vg, hcg⟩ := hcx
                have ho2 := (ho1.set (i := a) (u := .slice none 0 0) (l := []) (Or.inl ⟨rfl, rfl⟩)).1
                have hgt : g ≠ w4.heap.size := fun e => by
                  obtain ⟨hs, o1, _⟩ := ho1
                  exact ownsRow_ne o1 q1 (by decide) (by rw [← e]; rfl)
                have q2 := (Below.heap_setCell (wr.setCell ⟨w4.heap.size, a, none⟩ (.bool false)) ⟨g, a, none⟩ (.slice none 0 0) w4.heap.size (Ne.symm hgt)).trans q1
                have hb6 := (hbw.setCell (p := ⟨w4.heap.size, a, none⟩) hs34 (.bool false)).setCell (p := ⟨g, a, none⟩) hg1 (.slice none 0 0)
                have HLO := Lib.hid hlo
                have Q2 := Lib.hid q2
                have HO2 := Lib.hid ho2
                have HB6 := Lib.hid hb6
                clear hta hfa hlo q1 q2 ho1 ho2 hb6 ho hfl hbw hleft hgt
                go_wp2
                exact ⟨⟨q + 1, cnt + 1, ts.set a false, lst.set a [], by omega, by omega, by omega, by go_num, by go_num, HB6.out, HO2.out, Q2.out, HLO.out⟩, by simp [intOf]; omega⟩
            · have hqi : (q : Int) < (zs.length : Int) := by omega
              have hq40 : ¬ (q : Int) < 40 := by omega
              have hx5 := hx3.next hbw
              have hd5 := hd3.below hbw
              have hlt3 := hx3.lt
              have hrl : RdM (W.heap.size + 1) wr A4 lst := by
                obtain ⟨_, _, e, _, hr⟩ := ho.hdm hlt3
                injection e with e1; rw [e1]; exact hr
              have hll := hleft.out.ll
              have htl := hleft.out.tl
              have hw4s := hs34
              have hrf : RdV (W.heap.size + 1) wr (some ⟨w4.heap.size, 0, none⟩) (ts.map Value.bool) := RdV.whole hfl.out (by omega)
              have hdec := decode_S _ K M _ hK (by omega) A4 (some ⟨w4.heap.size, 0, none⟩) c4 (K + M) lst ts (fun i l hi => by have := hleft.out.short i l hi; omega) wr hx5.code hrl hrf
              rw [hll, htl] at hdec
              have HDEC := Lib.hid hdec
              clear hdec hrl hrf hll htl ho hfl hbw
              by_cases hcm : M < cnt
              · have hS := hleft.out.few hcm
                have HS := Lib.hid hS
                have hci : (M : Int) < (cnt : Int) := by omega
                clear hS hleft
                go_wp2_with fail
                refine HDEC.out.mono ?_
                rintro e w6 ⟨v6, rfl, ⟨A6, c6, rfl, hl6, hd6⟩, hk6⟩
                rw [HS.out] at hd6 hl6 ⊢
                have hx6 := hx5.keep hk6
                clear hx5 hk6 HDEC HS
                go_wp2_with fail
                refine (num8_S 20 _ (hH.below hb0 hx6.below)).mono ?_
                rintro e w7 ⟨rfl, hb7⟩
                have hx7 := hx6.next hb7
                clear hx6 hb7
                go_wp2_with fail
                refine (sure8_any _).mono ?_
                rintro e w8 ⟨rfl, hb8⟩
                have hx8 := hx7.next hb8
                clear hx7 hb8
                go_wp2
                go_ret
                exact ⟨rfl, hx8.below⟩
              · have hS := hleft.out.all hK (by omega) HD.out HDL.out (by omega)
                have HS := Lib.hid hS
                have hci : ¬ (M : Int) < (cnt : Int) := by omega
                clear hS hleft
                go_wp2_with fail
                refine HDEC.out.mono ?_
                rintro e w6 ⟨v6, rfl, ⟨A6, c6, rfl, hl6, hd6⟩, hk6⟩
                rw [HS.out] at hd6 hl6 ⊢
                have hx6 := hx5.keep hk6
                have hd56 := hd5.keep hk6
                have hli := lists_any _ _ A6 A3 c6 c3 (outF K (K + M) D n) (outF K (K + M) D n) (by rw [HOL.out]; omega) w6 hd6 hd56
                simp only [HOL.out] at hli hl6 ⊢
                have HLI := Lib.hid hli
                clear hx5 hk6 HDEC HS hli
                simp only [errV0']
                go_wp2_with fail
                refine HLI.out.mono ?_
                rintro e w7 ⟨rfl, hb7⟩
                rw [decide_eq_true rfl]
                have hx7 := hx6.next hb7
                have hd7 := hd6.below hb7
                have hjn := join_S _ K M _ hK (by omega) A6 c6 (outF K (K + M) D n) (by rw [HOL.out]; exact hl6) (text.length : Int) (by have := HJO.out.2; omega) w7 hx7.code hd7
                rw [HJO.out.1, HOL.out] at hjn
                have HJ := Lib.hid hjn
                clear hx6 hb7 hd6 hd56 hjn HLI
                go_wp2_with fail
                refine HJ.out.mono ?_
                rintro e w8 ⟨v8, rfl, ⟨A8, c8, rfl, hl8, hd8⟩, hk8⟩
                have hx8 := hx7.keep hk8
                have hk1 : (convert 54 9 (.slice A8 text.length c8)).run Tryd.prog w8 = .ok (.string (strF text)) w8 := conv_rd hd8 c8
                have hk2 : (convert 54 9 (.slice A text.length c)).run Tryd.prog w8 = .ok (.string (strF text)) w8 := conv_rd (RdB.below hrd hx8.below) c
                have hst : ((strF text).toList == (strF text).toList) = true := by simp
                clear hx7 hk8 HJ hd8
                simp only [errV0']
                go_wp2_with fail
                refine (sure8_any _).mono ?_
                rintro e w9 ⟨rfl, hb9⟩
                have hx9 := hx8.next hb9
                clear hx8 hb9 hk1 hk2
                go_wp2
                go_ret
                exact ⟨rfl, hx9.below⟩
          · have hqi : ¬ (q : Int) < (zs.length : Int) := by omega
            have hx5 := hx3.next hbw
            have hd5 := hd3.below hbw
            have hlt3 := hx3.lt
            have hrl : RdM (W.heap.size + 1) wr A4 lst := by
              obtain ⟨_, _, e, _, hr⟩ := ho.hdm hlt3
              injection e with e1; rw [e1]; exact hr
            have hll := hleft.out.ll
            have htl := hleft.out.tl
            have hw4s := hs34
            have hrf : RdV (W.heap.size + 1) wr (some ⟨w4.heap.size, 0, none⟩) (ts.map Value.bool) := RdV.whole hfl.out (by omega)
            have hdec := decode_S _ K M _ hK (by omega) A4 (some ⟨w4.heap.size, 0, none⟩) c4 (K + M) lst ts (fun i l hi => by have := hleft.out.short i l hi; omega) wr hx5.code hrl hrf
            rw [hll, htl] at hdec
            have HDEC := Lib.hid hdec
            clear hdec hrl hrf hll htl ho hfl hbw
            by_cases hcm : M < cnt
            · have hS := hleft.out.few hcm
              have HS := Lib.hid hS
              have hci : (M : Int) < (cnt : Int) := by omega
              clear hS hleft
              go_wp2_with fail
              refine HDEC.out.mono ?_
              rintro e w6 ⟨v6, rfl, ⟨A6, c6, rfl, hl6, hd6⟩, hk6⟩
              rw [HS.out] at hd6 hl6 ⊢
              have hx6 := hx5.keep hk6
              clear hx5 hk6 HDEC HS
              go_wp2_with fail
              refine (num8_S 20 _ (hH.below hb0 hx6.below)).mono ?_
              rintro e w7 ⟨rfl, hb7⟩
              have hx7 := hx6.next hb7
              clear hx6 hb7
              go_wp2_with fail
              refine (sure8_any _).mono ?_
              rintro e w8 ⟨rfl, hb8⟩
              have hx8 := hx7.next hb8
              clear hx7 hb8
              go_wp2
              go_ret
              exact ⟨rfl, hx8.below⟩
            · have hS := hleft.out.all hK (by omega) HD.out HDL.out (by omega)
              have HS := Lib.hid hS
              have hci : ¬ (M : Int) < (cnt : Int) := by omega
              clear hS hleft
              go_wp2_with fail
              refine HDEC.out.mono ?_
              rintro e w6 ⟨v6, rfl, ⟨A6, c6, rfl, hl6, hd6⟩, hk6⟩
              rw [HS.out] at hd6 hl6 ⊢
              have hx6 := hx5.keep hk6
              have hd56 := hd5.keep hk6
              have hli := lists_any _ _ A6 A3 c6 c3 (outF K (K + M) D n) (outF K (K + M) D n) (by rw [HOL.out]; omega) w6 hd6 hd56
              simp only [HOL.out] at hli hl6 ⊢
              have HLI := Lib.hid hli
              clear hx5 hk6 HDEC HS hli
              simp only [errV0']
              go_wp2_with fail
              refine HLI.out.mono ?_
              rintro e w7 ⟨rfl, hb7⟩
              rw [decide_eq_true rfl]
              have hx7 := hx6.next hb7
              have hd7 := hd6.below hb7
              have hjn := join_S _ K M _ hK (by omega) A6 c6 (outF K (K + M) D n) (by rw [HOL.out]; exact hl6) (text.length : Int) (by have := HJO.out.2; omega) w7 hx7.code hd7
              rw [HJO.out.1, HOL.out] at hjn
              have HJ := Lib.hid hjn
              clear hx6 hb7 hd6 hd56 hjn HLI
              go_wp2_with fail
              refine HJ.out.mono ?_
              rintro e w8 ⟨v8, rfl, ⟨A8, c8, rfl, hl8, hd8⟩, hk8⟩
              have hx8 := hx7.keep hk8
              have hk1 : (convert 54 9 (.slice A8 text.length c8)).run Tryd.prog w8 = .ok (.string (strF text)) w8 := conv_rd hd8 c8
              have hk2 : (convert 54 9 (.slice A text.length c)).run Tryd.prog w8 = .ok (.string (strF text)) w8 := conv_rd (RdB.below hrd hx8.below) c
              have hst : ((strF text).toList == (strF text).toList) = true := by simp
              clear hx7 hk8 HJ hd8
              simp only [errV0']
              go_wp2_with fail
              refine (sure8_any _).mono ?_
              rintro e w9 ⟨rfl, hb9⟩
              have hx9 := hx8.next hb9
              clear hx8 hb9 hk1 hk2
              go_wp2
              go_ret
              exact ⟨rfl, hx9.below⟩
end Go.Proofs.YtdeopklgdemnfaaDoor
