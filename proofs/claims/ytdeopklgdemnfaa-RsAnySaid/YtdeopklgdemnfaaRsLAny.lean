/- The walk of the law on any parts that are there. No condition of its own. -/
import Derived.Test.YtdeopklgdemnfaaRsAnyP
import Derived.Test.YtdeopklgdemnfaaRsOpenP
import Derived.Deep.QuietTactic
import Derived.BigQuiet
namespace Go.Proofs.Ytdeopklgdemnfaa
open Go.RowKit Gf Rs

set_option maxRecDepth 100000 in
set_option maxHeartbeats 3200000 in
theorem rsany (k m : Int) (v1 v2 : Value) (W : World) (h1 : BsIn W v1) (h2 : PicksIn W v2) : Calls Try.prog 6 #[.agg #[.int .i64 k, .int .i64 m], v1, v2] W (LawEnd W) := by
  obtain ⟨A, c, text, rfl, hc, hq, hrd⟩ := h1
  obtain ⟨P0, P1, pc0, pc1, t0, t1, rfl, hp0, hp1, hq0, hq1⟩ := h2
  obtain ⟨K, hK, hK5, hKe⟩ := small5 k
  obtain ⟨M, hM4, hMe⟩ := small4 m
  have HKE := Lib.hid hKe
  have HME := Lib.hid hMe
  clear hKe hMe
  go_enter Try.func6, Try.ntmps6
  go_wp2
  go_quiet (fail)
  go_wp2_with fail
  rw [HKE.out, HME.out]
  have hbx : Below W.heap.size W (((W.alloc (.cells #[.int .i64 k, .int .i64 m] 36)).alloc (.cells #[.slice P0 t0.length pc0, .slice P1 t1.length pc1] 39)).drewN nq) := below_drewN (((Below.refl _ _).alloc (Nat.le_refl _) _).alloc (by simp) _) nq
  have hz0 : (((W.alloc (.cells #[.int .i64 k, .int .i64 m] 36)).alloc (.cells #[.slice P0 t0.length pc0, .slice P1 t1.length pc1] 39)).drewN nq).heap.size = W.heap.size + 2 := by simp
  have hpb : (((W.alloc (.cells #[.int .i64 k, .int .i64 m] 36)).alloc (.cells #[.slice P0 t0.length pc0, .slice P1 t1.length pc1] 39)).drewN nq).heap[W.heap.size + 1]? = some (.cells #[.slice P0 t0.length pc0, .slice P1 t1.length pc1] 39 (0, 0)) := heap_new _ _ _ (by simp)
  generalize ((W.alloc (.cells #[.int .i64 k, .int .i64 m] 36)).alloc (.cells #[.slice P0 t0.length pc0, .slice P1 t1.length pc1] 39)).drewN nq = w0 at *
  refine (new_good K M hK (by omega) w0).mono ?_
  rintro e w1 ⟨rfl, hc1, hb1, _⟩
  rw [hz0] at hc1 hb1 ⊢
  have hx1 : Cx W w1 K M (W.heap.size + 2 + 1) (W.heap.size + 2) := ⟨hbx.trans (hb1.mono (by omega)), hc1, by omega⟩
  have hp1' : w1.heap[W.heap.size + 1]? = some (.cells #[.slice P0 t0.length pc0, .slice P1 t1.length pc1] 39 (0, 0)) := (hb1.block _ (by omega)).trans hpb
  clear hc1 hb1 hbx hz0 hpb
  by_cases hlong : 1000 < text.length
  · have hli : (1000 : Int) < (text.length : Int) := by omega
    go_wp2_with fail
    refine (sure8_any _).mono ?_
    rintro e w2 ⟨rfl, hb2⟩
    have hx2 := hx1.next hb2
    clear hx1 hb2
    go_wp2
    go_ret
    exact ⟨rfl, hx2.below⟩
  · have hli : ¬ (1000 : Int) < (text.length : Int) := by omega
    have hpn := partN_le (len := text.length) hK
    go_wp2_with fail
    refine (split_S _ K M _ hK (by omega) A c text (by omega) hc w1 hx1.code (hx1.bs hrd)).mono ?_
    rintro e w2 ⟨v2, rfl, ⟨A2, c2, rfl, hl2, hd2⟩, hk2⟩
    have hx2 := hx1.keep hk2
    have hp2 := (hk2.block (W.heap.size + 1) (block_lt hp1') (by omega)).trans hp1'
    clear hx1 hk2 hp1'
    have henc := encode_S _ K M _ hK (by omega) A2 c2 (splitF K text) (fun i l hi => by
      have hlt := (List.getElem?_eq_some_iff.1 hi).1
      rw [splitF_length] at hlt
      have := splitF_row (l := text) hlt
      rw [List.getD_eq_getElem?_getD, hi, Option.getD_some] at this
      omega) w2 hx2.code hd2
    rw [encS_split hK] at henc
    have hdl : ∀ j, j < K → ((splitF K text).getD j []).length = partN K text.length := fun j hj => splitF_row hj
    have hDl := splitF_length K text
    have HE := Lib.hid henc
    have HDL := Lib.hid hdl
    have HD := Lib.hid hDl
    clear henc hdl hDl hd2
    rw [HD.out] at hl2 HE ⊢
    generalize splitF K text = D at *
    generalize partN K text.length = n at *
    go_wp2_with fail
    refine HE.out.mono ?_
    rintro e w3 ⟨v3, rfl, ⟨A3, c3, rfl, hl3, hd3⟩, hk3⟩
    have hx3 := hx2.keep hk3
    have hp3 := (hk3.block (W.heap.size + 1) (block_lt hp2) (by omega)).trans hp2
    have hol := outF_length K (K + M) D n
    have HOL := Lib.hid hol
    simp only [hol] at hl3 ⊢
    clear hx2 hk3 hol HE hp2
    have hag : ∀ i, i < K + M → (outF K (K + M) D n).getD i [] = mixL (rowF K i) D n := fun i hi => by rw [List.getD_eq_getElem?_getD, outF_at hi]; rfl
    have HAG := Lib.hid hag
    have hRl : ∀ (i : Nat) (l : List F), (outF K (K + M) D n)[i]? = some l → l.length ≤ 1048576 := fun i l hi => by
      have hlt := (List.getElem?_eq_some_iff.1 hi).1
      rw [HOL.out] at hlt
      rw [outF_at hlt] at hi
      cases hi
      rw [mixL_length]; omega
    have HRL := Lib.hid hRl
    clear hag hRl
    have hfl3 := hx3.lt
    unfold errV
    rw [if_pos rfl]
    have hpick : ∀ p, p < 2 → ∃ (Ap : Option Addr) (cp : Nat) (t : List Bool), (#[.slice P0 t0.length pc0, .slice P1 t1.length pc1] : Array Value)[p]? = some (.slice Ap t.length cp) ∧ t.length ≤ 9223372036854775807 ∧ RdV W.heap.size W Ap (t.map Value.bool) := fun p hp => by
      match p, hp with
      | 0, _ => exact ⟨P0, pc0, t0, rfl, hp0, hq0⟩
      | 1, _ => exact ⟨P1, pc1, t1, rfl, hp1, hq1⟩
    have HP := Lib.hid hpick
    clear hpick hp0 hp1 hq0 hq1
    go_wp2
    go_loopw [14, 15, 16, 17, 18, 19, 20] (fun i _ _ _ _ _ _ wr => ∃ (p : Nat) (ms : List Value), p ≤ 2 ∧ i = .int .i64 p ∧ Keep (W.heap.size + 2) w3 wr ∧ Hid (Made 48 (W.heap.size + 2) w3.heap.size (K + M) p wr ms (outF K (K + M) D n))) (fun i _ _ _ _ _ _ _ => 2 - (intOf i).toNat)
    case atStart =>
      exact ⟨0, [.slice none 0 0, .slice none 0 0], by omega, rfl, (Keep.refl _ _).alloc _, ⟨rfl, fun u hu => by simp at hu; exact ⟨_, _, _, hu⟩, heap_new _ _ _ rfl, fun j hj => by omega⟩⟩
    case round =>
      obtain ⟨p, ms, hp, rfl, hbw, hmade⟩ := hrel
      have hgm : w3.heap.size < wr.heap.size := block_lt hmade.out.at_
      have hxw := hx3.keep hbw
      have hdw := hd3.keep hbw
      have hlw := hxw.lt
      by_cases hp2 : p < 2
      · have hpi : (p : Int) < 2 := by omega
        obtain ⟨Ap, cp, t, hat, htl, hrt⟩ := HP.out p hp2
        have hcp : wr.cell? ⟨W.heap.size + 1, p, none⟩ = some (.slice Ap t.length cp) := by
          have hb1 := (hbw.block (W.heap.size + 1) (block_lt hp3) (by omega)).trans hp3
          exact (block_cell hb1).trans hat
        have HRT := Lib.hid hrt
        clear hat hrt
        go_wp2
        obtain ⟨wo, rfl⟩ : ∃ wo : World, wo = wr := ⟨_, rfl⟩
        go_loopw [15, 16, 17, 18] (fun v cn i _ wr => ∃ (j : Nat), j ≤ K + M ∧ i = .int .i64 j ∧ cn = .int .i64 (cntF t j) ∧ Below wo.heap.size wo wr ∧ wr.ownsRow wo.heap.size 4 1 v j ((flF t j).map Value.bool)) (fun _ _ i _ _ => K + M - (intOf i).toNat)
        case atStart => exact ⟨0, by omega, rfl, rfl, Below.refl _ _, World.ownsRow_nil _ _ _ _⟩
        case round =>
          obtain ⟨j, hj, rfl, rfl, hbo, hown⟩ := hrel
          have hcl := cntF_le t j
          by_cases hlt : j < K + M
          · have hji : (j : Int) < (K : Int) + (M : Int) := by omega
            have hcq : wr.cell? ⟨W.heap.size + 1, p, none⟩ = some (.slice Ap t.length cp) := by
              rw [← hcp]
              exact World.cell?_of_block (hbo.block (W.heap.size + 1) (by omega))
            by_cases hge : t.length ≤ j
            · have hgi : (t.length : Int) ≤ (j : Int) := by omega
              have hisF : isF t j = true := by simp [isF, hge]
              have hfs := flF_snoc t j
              rw [hisF] at hfs
              have hcs := cntF_yes hisF
              have HFS := Lib.hid hfs
              have HCS := Lib.hid hcs
              clear hfs hcs hisF hge
              go_wp2_with (at_builtin; refine Hid.out ?_)
              unfold Hid
              refine app_flag rfl _ _ rfl wo.heap.size _ _ _ rfl (hown.alloc _) wr.heap.size true rfl (by simp) (by omega) (by have := hbo.size; simp; omega) ?_
              intro v5 w5 hown5 hgrow5
              have hb5 := (hbo.alloc hbo.size _).grown hgrow5 (by have := hbo.size; simp; omega) (fun k e => (hown.lt k e).1)
              rw [← HFS.out] at hown5
              clear hown hgrow5 hbo hcq
              go_wp2
              exact ⟨⟨j + 1, by omega, by go_num, by rw [HCS.out]; go_num, hb5, hown5⟩, by simp [intOf]; omega⟩
            · have hgi : ¬ (t.length : Int) ≤ (j : Int) := by omega
              have hgi2 : (j : Int) < (t.length : Int) := by omega
              have hjt : j < t.length := by omega
              obtain ⟨tb, to, e1, e2, e3⟩ := HRT.out j (.bool t[j]) (by rw [List.getElem?_map, List.getElem?_eq_getElem hjt]; rfl)
              subst e1
              have hct : wr.cell? ⟨tb, to + j, none⟩ = some (.bool t[j]) := by
                rw [← e3]
                have h1 := cell_lt e3
                have h2 := hxw.below.size
                exact World.cell?_of_block ((hbo.block tb (by omega)).trans (hxw.below.block tb h1))
              have hisE : isF t j = t[j] := by simp [isF, hjt, hge]
              clear e3
              have hfs := flF_snoc t j
              cases htj : t[j] with
              | true =>
                rw [htj] at hct hisE
                rw [hisE] at hfs
                have hcs := cntF_yes hisE
                have HFS := Lib.hid hfs
                have HCS := Lib.hid hcs
                clear hfs hcs hisE hge htj
                go_wp2_with (at_builtin; refine Hid.out ?_)
                unfold Hid
                refine app_flag rfl _ _ rfl wo.heap.size _ _ _ rfl (hown.alloc _) wr.heap.size true rfl (by simp) (by omega) (by have := hbo.size; simp; omega) ?_
                intro v5 w5 hown5 hgrow5
                have hb5 := (hbo.alloc hbo.size _).grown hgrow5 (by have := hbo.size; simp; omega) (fun k e => (hown.lt k e).1)
                rw [← HFS.out] at hown5
                clear hown hgrow5 hbo hcq
                go_wp2
                exact ⟨⟨j + 1, by omega, by go_num, by rw [HCS.out]; go_num, hb5, hown5⟩, by simp [intOf]; omega⟩
              | false =>
                rw [htj] at hct hisE
                rw [hisE] at hfs
                have hcs := cntF_no hisE
                have HFS := Lib.hid hfs
                have HCS := Lib.hid hcs
                clear hfs hcs hisE hge htj
                go_wp2_with (at_builtin; refine Hid.out ?_)
                unfold Hid
                refine app_flag rfl _ _ rfl wo.heap.size _ _ _ rfl (hown.alloc _) wr.heap.size false rfl (by simp) (by omega) (by have := hbo.size; simp; omega) ?_
                intro v5 w5 hown5 hgrow5
                have hb5 := (hbo.alloc hbo.size _).grown hgrow5 (by have := hbo.size; simp; omega) (fun k e => (hown.lt k e).1)
                rw [← HFS.out] at hown5
                clear hown hgrow5 hbo hcq
                go_wp2
                exact ⟨⟨j + 1, by omega, by go_num, by rw [HCS.out], hb5, hown5⟩, by simp [intOf]; omega⟩
          · have hji : ¬ (j : Int) < (K : Int) + (M : Int) := by omega
            obtain rfl : j = K + M := by omega
            obtain ⟨Af, cf, rfl⟩ := ownsRow_shape hown
            have hrf : RdV (W.heap.size + 2) wr Af ((flF t (K + M)).map Value.bool) := own_rdv hown hlw
            have hxo := hxw.next hbo
            have hdo := hdw.below hbo
            have hfll := flF_length t (K + M)
            have hso := hbo.size
            have hmo : Made 48 (W.heap.size + 2) w3.heap.size (K + M) p wr ms (outF K (K + M) D n) := hmade.out.stay (by omega) (Keep.of_below hbo)
            have HMO := Lib.hid hmo
            have hbwo : Keep (W.heap.size + 2) w3 wr := hbw.trans (Keep.of_below hbo)
            by_cases hcm : K ≤ cntF t (K + M)
            · have hci : (K : Int) ≤ (cntF t (K + M) : Int) := by omega
              have hS := decS_all (K := K) (M := M) (n := n) (D := D) (ls := outF K (K + M) D n) (ts := flF t (K + M)) hK (by omega) HD.out HDL.out HOL.out hfll (fun i hi _ => HAG.out i hi) (by rw [flF_cnt]; exact hcm)
              have hdec := decode_any _ K M _ hK (by omega) A3 Af c3 cf (outF K (K + M) D n) (flF t (K + M)) HOL.out hfll HRL.out wr hxo.code hdo hrf
              have hdec2 := hdec.mono fun e w' hp => dec_mat HOL.out hfll hp hS
              rw [HOL.out, hfll] at hdec2
              have HDEC := Lib.hid hdec2
              clear hdec hdec2 hS hown hmade hmo hbw hbo hxw hdw hrf hcp
              go_wp2_with fail
              refine HDEC.out.mono ?_
              rintro e w6 ⟨g, rfl, hg6, hr6, hk6⟩
              have hm6 := (HMO.out.stay (by omega) hk6).put (c := K + M) hp2 hr6 (by omega)
              have hb6 := hbwo.trans hk6
              obtain ⟨vg, hcg⟩ : ∃ v, w6.cell? ⟨w3.heap.size, p, none⟩ = some v := by
                have hm := (HMO.out.stay (by omega) hk6)
                exact ⟨ms[p]'(by rw [hm.len]; exact hp2), (block_cell hm.at_).trans ((arrV_at _ _).trans (List.getElem?_eq_getElem (by rw [hm.len]; exact hp2)))⟩
              have hfz6 : w6.frozen? ⟨w3.heap.size, p, none⟩ = false := block_free (HMO.out.stay (by omega) hk6).at_
              have HM6 := Lib.hid hm6
              clear hm6 HDEC HMO hxo hdo hk6
              go_wp2
              exact ⟨⟨p + 1, _, by omega, by go_num, hb6.set (Nat.le_refl _) (by omega) _, HM6.out⟩, by simp [intOf]; omega⟩
            · have hci : ¬ (K : Int) ≤ (cntF t (K + M) : Int) := by omega
              have hS := decS_lost (K := K) (M := M) (n := n) (ls := outF K (K + M) D n) (ts := flF t (K + M)) HOL.out hfll (fun i hi _ => by rw [HAG.out i hi, mixL_length]) (by rw [flF_cnt]; omega)
              have hdec := decode_S _ K M _ hK (by omega) A3 Af c3 cf (outF K (K + M) D n) (flF t (K + M)) HRL.out wr hxo.code hdo hrf
              rw [hS, HOL.out, hfll] at hdec
              have HDEC := Lib.hid hdec
              clear hdec hS hown hmade hmo hbw hbo hxw hdw hrf hcp HMO
              go_wp2_with fail
              refine HDEC.out.mono ?_
              rintro e w6 ⟨v6, rfl, ⟨A6, c6, rfl, hl6, hd6⟩, hk6⟩
              have hx6 := hxo.keep hk6
              unfold errV
              rw [if_neg (by decide)]
              unfold errN
              clear hxo hk6 HDEC hd6
              go_wp2_with fail
              refine (sure8_any _).mono ?_
              rintro e w8 ⟨rfl, hb8⟩
              have hx8 := hx6.next hb8
              clear hx6 hb8
              go_wp2
              go_ret
              exact ⟨rfl, hx8.below⟩
      · have hpi : ¬ (p : Int) < 2 := by omega
        obtain ⟨X0, y0, e0, hB0⟩ := hmade.out.rd 0 (by omega)
        obtain ⟨X1, y1, e1, hB1⟩ := hmade.out.rd 1 (by omega)
        have hc0 : wr.cell? ⟨w3.heap.size, 0, none⟩ = some (.slice X0 (K + M) y0) := (block_cell hmade.out.at_).trans ((arrV_at _ _).trans e0)
        have hc1 : wr.cell? ⟨w3.heap.size, 1, none⟩ = some (.slice X1 (K + M) y1) := (block_cell hmade.out.at_).trans ((arrV_at _ _).trans e1)
        have hli1 := lists_any _ _ X0 X1 y0 y1 (outF K (K + M) D n) (outF K (K + M) D n) (by rw [HOL.out]; omega) wr hB0.rdm hB1.rdm
        simp only [HOL.out] at hli1
        have HLI := Lib.hid hli1
        have hB0r := hB0.rdm
        clear hli1 hB0 hB1 hmade e0 e1
        go_wp2_with fail
        refine HLI.out.mono ?_
        rintro e w7 ⟨rfl, hb7⟩
        rw [decide_eq_true rfl]
        have hx7 := hxw.next hb7
        have hc07 : w7.cell? ⟨w3.heap.size, 0, none⟩ = some (.slice X0 (K + M) y0) := by rw [← hc0]; exact World.cell?_of_block (hb7.block _ hgm)
        have hli2 := lists_any _ _ X0 A3 y0 c3 (outF K (K + M) D n) (outF K (K + M) D n) (by rw [HOL.out]; omega) w7 (hB0r.below hb7) (hdw.below hb7)
        simp only [HOL.out] at hli2
        have HLI2 := Lib.hid hli2
        clear hli2 HLI hc0 hc1 hB0r hdw hxw hbw
        go_wp2_with fail
        refine HLI2.out.mono ?_
        rintro e w8 ⟨rfl, hb8⟩
        rw [decide_eq_true rfl]
        have hx8 := hx7.next hb8
        clear hx7 hb8 hc07 HLI2
        go_wp2_with fail
        refine (sure8_any _).mono ?_
        rintro e w9 ⟨rfl, hb9⟩
        have hx9 := hx8.next hb9
        clear hx8 hb9
        go_wp2
        go_ret
        exact ⟨rfl, hx9.below⟩
end Go.Proofs.Ytdeopklgdemnfaa
