/- 'LockAlone': nobody holds alone what another one holds; a name above all is free. Condition: the acts read; the handle of 'error'. -/
import Derived.Test.YtnnadhfpkplncaaDoorLkAloneP
import Derived.Test.YtnnadhfpkplncaaDoorLkOpen2
namespace Go.Proofs.YtnnadhfpkplncaaDoor
open Go.RowKit Go.Maps

theorem own_max {B s n : Nat} {E : TypeId} {w : World} {v : Value} {xs : List Value} (h : w.ownsRow B E s v n xs) : n ≤ 9223372036854775807 := by
  rcases h.2 with ⟨_, e⟩ | ⟨g, c, cur, _, _, _, h1, h2, _⟩
  · omega
  · unfold maxLen at h2; omega
def InS (l : List Act4) (kk : Nat) (a : List UInt8) : Prop := ∃ j x, j < kk ∧ l[j]? = some x ∧ x.2.2.1 = a
set_option maxRecDepth 100000 in
set_option maxHeartbeats 6400000 in
theorem alone_walk (v : Value) (W : World) (hg : Handle W) (hin : ActsIn2 W v) : Calls Tryd.prog 5 #[v] W (BoolPost true W) := by
  obtain ⟨B, c, l, rfl, hlc, hll, hrd, hok⟩ := hin
  have HG := Lib.hid hg
  have HRD := Lib.hid hrd
  have HOK := Lib.hid hok
  obtain ⟨m, hm⟩ : ∃ m, m = l.length := ⟨_, rfl⟩
  rw [← hm] at hlc hll ⊢
  have HN := Lib.hid hm
  clear hrd hm hok hg
  rcases Nat.lt_or_ge 60 m with hc40 | hc40
  · obtain ⟨kk, hkk⟩ : ∃ kk : Nat, kk = 60 := ⟨_, rfl⟩
    have hkm : kk ≤ m := by omega
    have hk40 : kk ≤ 60 := by omega
    go_enter Tryd.func5, Tryd.ntmps5
    go_wp2_with fail
    refine (new_any W).mono ?_
    rintro e w1 ⟨t, rfl, ht, hlt, hb1⟩
    have HT0 := Lib.hid (show ∃ F, Tab W.heap.size (3 * 0) w1 t F ∧ LockInv (InS l kk) F from ⟨_, ht, LockInv.nil _⟩)
    have HK0 := Lib.hid (Keep.of hb1 (Nat.le_refl _))
    clear ht hb1
    go_wp2_with fail
    go_loopw [4] (fun i wr => ∃ k : Nat, k ≤ kk ∧ i = .int .i64 k ∧ Hid (∃ F, Tab W.heap.size (3 * k) wr t F ∧ LockInv (InS l kk) F) ∧ Hid (Keep W.heap.size W wr)) (fun i _ => kk - (intOf i).toNat)
    case atStart => exact ⟨0, by omega, rfl, HT0.out, HK0.out⟩
    case round =>
      obtain ⟨k, hk, rfl, HT, HK⟩ := hrel
      by_cases hgo : k < kk
      · obtain ⟨F, hF, hI⟩ := HT.out
        obtain ⟨x, hx⟩ : ∃ x, l[k]? = some x := ⟨_, List.getElem?_eq_getElem (by rw [← HN.out]; omega)⟩
        have hox := HOK.out x (List.mem_of_getElem? hx)
        have hki : (k : Int) < (m : Int) := by omega
        have hki2 : (k : Int) < 60 := by omega
        obtain ⟨b, o, rfl, c0, c1, c2, c3⟩ := act_at (HRD.out.keep HK.out) hx
        have HIS := Lib.hid (show InS l kk x.2.2.1 from ⟨k, x, hgo, hx, rfl⟩)
        obtain ⟨x0, x1, x2, x3⟩ := x
        have hx1 : wfI x1 := hox.1
        have hx2 : okS x2 := hox.2.1
        have hkw : IntKind.i64.wrap ((k : Int) + 1) = (k : Int) + 1 := IntWalk.i64_in _ (by omega)
        obtain ⟨w0, hw0⟩ : ∃ w0, w0 = wr.alloc (.cells #[.int .i64 x0, .int .i64 x1, .string ⟨x2.toArray⟩, .bool x3] 24) := ⟨_, rfl⟩
        have HB0 := Lib.hid (show Below wr.heap.size wr w0 by rw [hw0]; exact (Below.refl _ _).alloc (Nat.le_refl _) _)
        have HP0 := Lib.hid (show w0.heap[wr.heap.size]? = some (.cells #[.int .i64 x0, .int .i64 x1, .string ⟨x2.toArray⟩, .bool x3] 24 (0, 0)) by rw [hw0]; exact alloc_new _ _)
        have HTK := Lib.hid (take_any x1 x2 x3 w0 (hF.below HB0.out) hx1 hx2 (Nat.le_trans HK.out.bl.size HB0.out.size) (by omega))
        have HFR := Lib.hid (free_any x1 w0 (hF.below HB0.out) hx1)
        have HI := Lib.hid hI
        rw [hw0] at HTK HFR
        have hw0x := hw0
        clear hx hox hF hI hw0
        go_wp2_with fail
        · refine HFR.out.mono ?_
          rintro e w5 ⟨rfl, ht5, hk5⟩
          have HINV := Lib.hid (HI.out.free x1)
          obtain ⟨F5, hF5⟩ : ∃ F5, F5 = fun (i : Int) (l : List UInt8) => if i = x1 then 0 else F i l := ⟨_, rfl⟩
          rw [← hF5] at ht5 HINV
          have HT5 := Lib.hid (ht5.mono (N' := 3 * k + 3) (by omega))
          have HK5 := Lib.hid ((HK.out.trans (Keep.of HB0.out HK.out.bl.size)).trans (by rw [← hw0x] at hk5; exact hk5))
          have HP5 := Lib.hid (hk5.cells _ _ _ _ (by rw [hw0x] at HP0; exact HP0.out))
          obtain ⟨p, hp⟩ : ∃ p, p = wr.heap.size := ⟨_, rfl⟩
          rw [← hp] at HP5 ⊢
          clear ht5 hk5 hF5 hp HTK HFR
          have HNM := Lib.hid (holders_any x2 w5 HT5.out hx2 (by omega))
          have e51 : w5.cell? ⟨p, 1, none⟩ = some (.int .i64 x1) := block_cell (HP5.out)
          have e52 : w5.cell? ⟨p, 2, none⟩ = some (.string ⟨x2.toArray⟩) := block_cell (HP5.out)
          go_wp2_with fail
          refine HNM.out.mono ?_
          rintro e w6 ⟨v6, H, rfl, hrow6, hH, hb6⟩
          have hnmax := own_max hrow6
          obtain ⟨X6, c6, rfl, hc6, hr6⟩ := own_rdA hrow6
          have HR6 := Lib.hid hr6
          have HH := Lib.hid hH
          have HK6 := Lib.hid (HK5.out.trans (Keep.of hb6 HK5.out.bl.size))
          have HT6 := Lib.hid (HT5.out.below hb6)
          have HP6 := Lib.hid ((hb6.block p (block_lt HP5.out)).trans HP5.out)
          obtain ⟨nh, hnh⟩ : ∃ nh, nh = H.length := ⟨_, rfl⟩
          rw [← hnh] at hc6 hnmax ⊢
          have HNH := Lib.hid hnh
          clear hrow6 hH hb6 hr6 hnh e51 e52
          go_wp2_with fail
          obtain ⟨wA, hwA⟩ : ∃ w0, w0 = w6 := ⟨_, rfl⟩
          subst hwA
          go_loopw [7] (fun i wr => ∃ q : Nat, q ≤ nh ∧ i = .int .i64 q ∧ Hid (Below wA.heap.size wA wr)) (fun i _ => nh - (intOf i).toNat)
          case atStart => exact ⟨0, by omega, rfl, Below.refl _ _⟩
          case round =>
            obtain ⟨q, hq, rfl, HB⟩ := hrel
            by_cases hgo2 : q < nh
            · obtain ⟨y, hy⟩ : ∃ y, H[q]? = some y := ⟨_, List.getElem?_eq_getElem (by rw [← HNH.out]; omega)⟩
              have hmem := List.mem_of_getElem? hy
              have hwy := ((HH.out.mem y).1 hmem).1
              obtain ⟨b2, o2, rfl, d1⟩ := (HR6.out.below HB.out) q (.int .i64 y) (by unfold zs; rw [List.getElem?_map, hy]; rfl)
              have d2 : wr.cell? ⟨p, 2, none⟩ = some (.string ⟨x2.toArray⟩) := block_cell ((HB.out.block p (block_lt HP6.out)).trans HP6.out)
              have HHD := Lib.hid (holds_any y x2 wr.drew (tab_drew (HT6.out.below HB.out)) hwy hx2)
              have HAL := Lib.hid (show F5 y x2 = 2 → nh ≤ 1 from fun h2 => by rw [HNH.out]; exact alone_len HINV.out HH.out hmem h2)
              have hqi : (q : Int) < (nh : Int) := by omega
              have hw1 : IntKind.i64.wrap ((q : Int) + 1) = (q : Int) + 1 := IntWalk.i64_in _ (by omega)
              obtain ⟨fy, hfy⟩ : ∃ fy, fy = F5 y x2 := ⟨_, rfl⟩
              rw [← hfy] at HHD HAL
              clear hy hmem hfy
              go_wp2
              go_region_held3 (fun w' => w'.cell? ⟨b2, o2 + q, none⟩ = some (.int .i64 y) ∧ w'.cell? ⟨p, 2, none⟩ = some (.string ⟨x2.toArray⟩)) (first | exact ⟨d1, d2⟩ | exact ⟨d15, d25⟩)
                (first
                | (go_at_call 18; refine HHD.out.mono ?_; rintro e w7 ⟨rfl, hb7⟩; have hs7 := HB.out.trans (((Below.refl _ _).drew : Below wr.heap.size wr wr.drew).trans hb7 |>.mono HB.out.size); have d15 : w7.cell? ⟨b2, o2 + q, none⟩ = some (.int .i64 y) := (World.cell?_of_block (hb7.block b2 (cell_lt d1))).trans d1; have d25 : w7.cell? ⟨p, 2, none⟩ = some (.string ⟨x2.toArray⟩) := (World.cell?_of_block (hb7.block p (cell_lt d2))).trans d2; have HS7 := Lib.hid hs7; clear hb7 hs7))
              clear d1 d2 d15 d25
              by_cases hf2 : fy = 2
              · have hl1 := HAL.out hf2
                have hfb : (fy == 2) = true := by simpa using hf2
                have hl2 : ¬ (1 : Int) < (nh : Int) := by omega
                clear hf2
                go_wp2
                exact ⟨⟨q + 1, by omega, by congr 1, HS7⟩, by simp [intOf]; omega⟩
              · have hfb : (fy == 2) = false := by simpa using hf2
                clear hf2
                go_wp2
                exact ⟨⟨q + 1, by omega, by congr 1, HS7⟩, by simp [intOf]; omega⟩
            · have hqe : q = nh := by omega
              subst hqe
              have hqi : ¬ (q : Int) < (q : Int) := by omega
              clear hq hgo2
              have HKB := Lib.hid (HK6.out.trans (Keep.of HB.out HK6.out.bl.size))
              have HTB := Lib.hid (HT6.out.below HB.out)
              have HPB := Lib.hid ((HB.out.block p (block_lt HP6.out)).trans HP6.out)
              go_wp2
              obtain ⟨wC, hwC⟩ : ∃ w0, w0 = wr := ⟨_, rfl⟩
              subst hwC
              go_loopw [10, 11] (fun o i wr => ∃ j : Nat, j ≤ kk ∧ i = .int .i64 j ∧ o = .string ⟨(topL l j).toArray⟩ ∧ wr = wC) (fun _ i _ => kk - (intOf i).toNat)
              case atStart => exact ⟨0, by omega, rfl, rfl, rfl⟩
              case round =>
                obtain ⟨j, hj, rfl, rfl, rfl⟩ := hrel
                obtain ⟨tp, htp⟩ : ∃ tp, tp = topL l j := ⟨_, rfl⟩
                rw [← htp]
                have HTP := Lib.hid htp
                clear htp
                by_cases hgo3 : j < kk
                · obtain ⟨z, hz⟩ : ∃ z, l[j]? = some z := ⟨_, List.getElem?_eq_getElem (by rw [← HN.out]; omega)⟩
                  obtain ⟨b7, o7, eb7, _, _, e2, _⟩ := act_at (HRD.out.keep HKB.out) hz
                  cases eb7
                  have HTN := Lib.hid (show topL l (j + 1) = if tp < z.2.2.1 then z.2.2.1 else tp by rw [HTP.out, topL, hz]; rfl)
                  obtain ⟨z0, z1, z2, z3⟩ := z
                  have hji : (j : Int) < (m : Int) := by omega
                  have hji2 : (j : Int) < 60 := by omega
                  have hjw : IntKind.i64.wrap ((j : Int) + 1) = (j : Int) + 1 := IntWalk.i64_in _ (by omega)
                  clear hz
                  by_cases hlt : tp < z2
                  · have hn1 : ¬ z2 < tp := list_lt.2 (Or.inr hlt)
                    have hl1 := less_s (decide_eq_false hn1)
                    have hl2 := less_p (decide_eq_false hn1)
                    have he1 : (z2 == tp) = false := by
                      simp only [beq_eq_false_iff_ne, ne_eq]
                      rintro rfl
                      exact hn1 hlt
                    have HLT := Lib.hid hlt
                    clear hlt hn1
                    go_wp2
                    exact ⟨⟨j + 1, by omega, by congr 1, by rw [HTN.out, if_pos HLT.out], trivial⟩, by simp [intOf]; omega⟩
                  · have HLT := Lib.hid hlt
                    rcases list_lt.1 hlt with he | hl
                    · have he1 : (z2 == tp) = true := by simp [he]
                      clear hlt he
                      go_wp2
                      exact ⟨⟨j + 1, by omega, by congr 1, by rw [HTN.out, if_neg HLT.out], trivial⟩, by simp [intOf]; omega⟩
                    · have hl1 := less_s (decide_eq_true hl)
                      have hl2 := less_p (decide_eq_true hl)
                      clear hlt hl
                      go_wp2
                      exact ⟨⟨j + 1, by omega, by congr 1, by rw [HTN.out, if_neg HLT.out], trivial⟩, by simp [intOf]; omega⟩
                · have hje : j = kk := by omega
                  subst hje
                  have y1 : (j : Int) < (m : Int) := by omega
                  have y2 : ¬ (j : Int) < 60 := by omega
                  have HTOP := Lib.hid (show ∀ a, InS l j a → ¬ tp < a from fun a ⟨i, x, hi, hx, ha⟩ => by rw [HTP.out, ← ha]; exact topL_up l j i x hi hx)
                  have hlen : tp.length ≤ 140737488355328 := by rw [HTP.out]; exact topL_len l _ (fun x hx => (HOK.out x hx).2.2) j
                  have hok : okS (tp ++ [122]) := by unfold okS maxLen; simp; omega
                  have c71 : wr.cell? ⟨p, 1, none⟩ = some (.int .i64 x1) := block_cell HPB.out
                  have hsz : ¬ 9223372036854775807 < tp.length + 1 := by omega
                  have h2 : (ByteArray.mk tp.toArray ++ ByteArray.mk #[122]) = ByteArray.mk (tp ++ [122]).toArray := ByteArray.mk_append_mk tp [122]
                  obtain ⟨mB, BB, hTB, _⟩ := HTB.out
                  have HMAY := Lib.hid (may_any x1 (tp ++ [122]) true wr hTB hx1 hok)
                  rw [← h2] at HMAY
                  clear hTB hlen h2
                  go_wp2_with fail
                  all_goals
                    refine HMAY.out.mono ?_
                    rintro e w7 ⟨n7, rfl, hm7, hb7⟩
                    obtain rfl := top_free HINV.out HTOP.out hm7
                    rw [show errV 0 = .nilIface from rfl]
                    have HT7 := Lib.hid ((HTB.out.below hb7).mono (N' := 3 * (k + 1)) (by omega))
                    have HK7 := Lib.hid (HKB.out.trans (Keep.of hb7 HKB.out.bl.size))
                    clear hm7 hb7
                    go_wp2_with fail
                    refine (numk_nil w7).mono ?_
                    rintro e w8 ⟨rfl, hb8⟩
                    have HT8 := Lib.hid (HT7.out.below hb8)
                    have HK8 := Lib.hid (HK7.out.trans (Keep.of hb8 HK7.out.bl.size))
                    clear hb8
                    go_wp2_with fail
                    exact ⟨⟨k + 1, by omega, by congr 1, ⟨F5, HT8.out, HINV.out⟩, HK8⟩, by simp [intOf]; omega⟩
        · refine HTK.out.mono ?_
          rintro e w5 ⟨n5, rfl, hm5, ht5, hk5⟩
          have HINV := Lib.hid (HI.out.take hm5 hx1 hx2 HIS.out)
          obtain ⟨F5, hF5⟩ : ∃ F5, F5 = takeF F x1 x2 x3 n5 := ⟨_, rfl⟩
          rw [← hF5] at ht5 HINV
          have HT5 := Lib.hid (ht5.mono (N' := 3 * k + 3) (by omega))
          have HK5 := Lib.hid ((HK.out.trans (Keep.of HB0.out HK.out.bl.size)).trans (by rw [← hw0x] at hk5; exact hk5))
          have HP5 := Lib.hid (hk5.cells _ _ _ _ (by rw [hw0x] at HP0; exact HP0.out))
          obtain ⟨p, hp⟩ : ∃ p, p = wr.heap.size := ⟨_, rfl⟩
          rw [← hp] at HP5 ⊢
          clear ht5 hk5 hF5 hp HTK HFR
          have HNM := Lib.hid (holders_any x2 w5 HT5.out hx2 (by omega))
          have e51 : w5.cell? ⟨p, 1, none⟩ = some (.int .i64 x1) := block_cell (HP5.out)
          have e52 : w5.cell? ⟨p, 2, none⟩ = some (.string ⟨x2.toArray⟩) := block_cell (HP5.out)
          go_wp2_with fail
          refine HNM.out.mono ?_
          rintro e w6 ⟨v6, H, rfl, hrow6, hH, hb6⟩
          have hnmax := own_max hrow6
          obtain ⟨X6, c6, rfl, hc6, hr6⟩ := own_rdA hrow6
          have HR6 := Lib.hid hr6
          have HH := Lib.hid hH
          have HK6 := Lib.hid (HK5.out.trans (Keep.of hb6 HK5.out.bl.size))
          have HT6 := Lib.hid (HT5.out.below hb6)
          have HP6 := Lib.hid ((hb6.block p (block_lt HP5.out)).trans HP5.out)
          obtain ⟨nh, hnh⟩ : ∃ nh, nh = H.length := ⟨_, rfl⟩
          rw [← hnh] at hc6 hnmax ⊢
          have HNH := Lib.hid hnh
          clear hrow6 hH hb6 hr6 hnh e51 e52
          go_wp2_with fail
          obtain ⟨wA, hwA⟩ : ∃ w0, w0 = w6 := ⟨_, rfl⟩
          subst hwA
          go_loopw [7] (fun i wr => ∃ q : Nat, q ≤ nh ∧ i = .int .i64 q ∧ Hid (Below wA.heap.size wA wr)) (fun i _ => nh - (intOf i).toNat)
          case atStart => exact ⟨0, by omega, rfl, Below.refl _ _⟩
          case round =>
            obtain ⟨q, hq, rfl, HB⟩ := hrel
            by_cases hgo2 : q < nh
            · obtain ⟨y, hy⟩ : ∃ y, H[q]? = some y := ⟨_, List.getElem?_eq_getElem (by rw [← HNH.out]; omega)⟩
              have hmem := List.mem_of_getElem? hy
              have hwy := ((HH.out.mem y).1 hmem).1
              obtain ⟨b2, o2, rfl, d1⟩ := (HR6.out.below HB.out) q (.int .i64 y) (by unfold zs; rw [List.getElem?_map, hy]; rfl)
              have d2 : wr.cell? ⟨p, 2, none⟩ = some (.string ⟨x2.toArray⟩) := block_cell ((HB.out.block p (block_lt HP6.out)).trans HP6.out)
              have HHD := Lib.hid (holds_any y x2 wr.drew (tab_drew (HT6.out.below HB.out)) hwy hx2)
              have HAL := Lib.hid (show F5 y x2 = 2 → nh ≤ 1 from fun h2 => by rw [HNH.out]; exact alone_len HINV.out HH.out hmem h2)
              have hqi : (q : Int) < (nh : Int) := by omega
              have hw1 : IntKind.i64.wrap ((q : Int) + 1) = (q : Int) + 1 := IntWalk.i64_in _ (by omega)
              obtain ⟨fy, hfy⟩ : ∃ fy, fy = F5 y x2 := ⟨_, rfl⟩
              rw [← hfy] at HHD HAL
              clear hy hmem hfy
              go_wp2
              go_region_held3 (fun w' => w'.cell? ⟨b2, o2 + q, none⟩ = some (.int .i64 y) ∧ w'.cell? ⟨p, 2, none⟩ = some (.string ⟨x2.toArray⟩)) (first | exact ⟨d1, d2⟩ | exact ⟨d15, d25⟩)
                (first
                | (go_at_call 18; refine HHD.out.mono ?_; rintro e w7 ⟨rfl, hb7⟩; have hs7 := HB.out.trans (((Below.refl _ _).drew : Below wr.heap.size wr wr.drew).trans hb7 |>.mono HB.out.size); have d15 : w7.cell? ⟨b2, o2 + q, none⟩ = some (.int .i64 y) := (World.cell?_of_block (hb7.block b2 (cell_lt d1))).trans d1; have d25 : w7.cell? ⟨p, 2, none⟩ = some (.string ⟨x2.toArray⟩) := (World.cell?_of_block (hb7.block p (cell_lt d2))).trans d2; have HS7 := Lib.hid hs7; clear hb7 hs7))
              clear d1 d2 d15 d25
              by_cases hf2 : fy = 2
              · have hl1 := HAL.out hf2
                have hfb : (fy == 2) = true := by simpa using hf2
                have hl2 : ¬ (1 : Int) < (nh : Int) := by omega
                clear hf2
                go_wp2
                exact ⟨⟨q + 1, by omega, by congr 1, HS7⟩, by simp [intOf]; omega⟩
              · have hfb : (fy == 2) = false := by simpa using hf2
                clear hf2
                go_wp2
                exact ⟨⟨q + 1, by omega, by congr 1, HS7⟩, by simp [intOf]; omega⟩
            · have hqe : q = nh := by omega
              subst hqe
              have hqi : ¬ (q : Int) < (q : Int) := by omega
              clear hq hgo2
              have HKB := Lib.hid (HK6.out.trans (Keep.of HB.out HK6.out.bl.size))
              have HTB := Lib.hid (HT6.out.below HB.out)
              have HPB := Lib.hid ((HB.out.block p (block_lt HP6.out)).trans HP6.out)
              go_wp2
              obtain ⟨wC, hwC⟩ : ∃ w0, w0 = wr := ⟨_, rfl⟩
              subst hwC
              go_loopw [10, 11] (fun o i wr => ∃ j : Nat, j ≤ kk ∧ i = .int .i64 j ∧ o = .string ⟨(topL l j).toArray⟩ ∧ wr = wC) (fun _ i _ => kk - (intOf i).toNat)
              case atStart => exact ⟨0, by omega, rfl, rfl, rfl⟩
              case round =>
                obtain ⟨j, hj, rfl, rfl, rfl⟩ := hrel
                obtain ⟨tp, htp⟩ : ∃ tp, tp = topL l j := ⟨_, rfl⟩
                rw [← htp]
                have HTP := Lib.hid htp
                clear htp
                by_cases hgo3 : j < kk
                · obtain ⟨z, hz⟩ : ∃ z, l[j]? = some z := ⟨_, List.getElem?_eq_getElem (by rw [← HN.out]; omega)⟩
                  obtain ⟨b7, o7, eb7, _, _, e2, _⟩ := act_at (HRD.out.keep HKB.out) hz
                  cases eb7
                  have HTN := Lib.hid (show topL l (j + 1) = if tp < z.2.2.1 then z.2.2.1 else tp by rw [HTP.out, topL, hz]; rfl)
                  obtain ⟨z0, z1, z2, z3⟩ := z
                  have hji : (j : Int) < (m : Int) := by omega
                  have hji2 : (j : Int) < 60 := by omega
                  have hjw : IntKind.i64.wrap ((j : Int) + 1) = (j : Int) + 1 := IntWalk.i64_in _ (by omega)
                  clear hz
                  by_cases hlt : tp < z2
                  · have hn1 : ¬ z2 < tp := list_lt.2 (Or.inr hlt)
                    have hl1 := less_s (decide_eq_false hn1)
                    have hl2 := less_p (decide_eq_false hn1)
                    have he1 : (z2 == tp) = false := by
                      simp only [beq_eq_false_iff_ne, ne_eq]
                      rintro rfl
                      exact hn1 hlt
                    have HLT := Lib.hid hlt
                    clear hlt hn1
                    go_wp2
                    exact ⟨⟨j + 1, by omega, by congr 1, by rw [HTN.out, if_pos HLT.out], trivial⟩, by simp [intOf]; omega⟩
                  · have HLT := Lib.hid hlt
                    rcases list_lt.1 hlt with he | hl
                    · have he1 : (z2 == tp) = true := by simp [he]
                      clear hlt he
                      go_wp2
                      exact ⟨⟨j + 1, by omega, by congr 1, by rw [HTN.out, if_neg HLT.out], trivial⟩, by simp [intOf]; omega⟩
                    · have hl1 := less_s (decide_eq_true hl)
                      have hl2 := less_p (decide_eq_true hl)
                      clear hlt hl
                      go_wp2
                      exact ⟨⟨j + 1, by omega, by congr 1, by rw [HTN.out, if_neg HLT.out], trivial⟩, by simp [intOf]; omega⟩
                · have hje : j = kk := by omega
                  subst hje
                  have y1 : (j : Int) < (m : Int) := by omega
                  have y2 : ¬ (j : Int) < 60 := by omega
                  have HTOP := Lib.hid (show ∀ a, InS l j a → ¬ tp < a from fun a ⟨i, x, hi, hx, ha⟩ => by rw [HTP.out, ← ha]; exact topL_up l j i x hi hx)
                  have hlen : tp.length ≤ 140737488355328 := by rw [HTP.out]; exact topL_len l _ (fun x hx => (HOK.out x hx).2.2) j
                  have hok : okS (tp ++ [122]) := by unfold okS maxLen; simp; omega
                  have c71 : wr.cell? ⟨p, 1, none⟩ = some (.int .i64 x1) := block_cell HPB.out
                  have hsz : ¬ 9223372036854775807 < tp.length + 1 := by omega
                  have h2 : (ByteArray.mk tp.toArray ++ ByteArray.mk #[122]) = ByteArray.mk (tp ++ [122]).toArray := ByteArray.mk_append_mk tp [122]
                  obtain ⟨mB, BB, hTB, _⟩ := HTB.out
                  have HMAY := Lib.hid (may_any x1 (tp ++ [122]) true wr hTB hx1 hok)
                  rw [← h2] at HMAY
                  clear hTB hlen h2
                  go_wp2_with fail
                  all_goals
                    refine HMAY.out.mono ?_
                    rintro e w7 ⟨n7, rfl, hm7, hb7⟩
                    obtain rfl := top_free HINV.out HTOP.out hm7
                    rw [show errV 0 = .nilIface from rfl]
                    have HT7 := Lib.hid ((HTB.out.below hb7).mono (N' := 3 * (k + 1)) (by omega))
                    have HK7 := Lib.hid (HKB.out.trans (Keep.of hb7 HKB.out.bl.size))
                    clear hm7 hb7
                    go_wp2_with fail
                    refine (numk_nil w7).mono ?_
                    rintro e w8 ⟨rfl, hb8⟩
                    have HT8 := Lib.hid (HT7.out.below hb8)
                    have HK8 := Lib.hid (HK7.out.trans (Keep.of hb8 HK7.out.bl.size))
                    clear hb8
                    go_wp2_with fail
                    exact ⟨⟨k + 1, by omega, by congr 1, ⟨F5, HT8.out, HINV.out⟩, HK8⟩, by simp [intOf]; omega⟩
      · have hke : k = kk := by omega
        subst hke
        have y1 : (k : Int) < (m : Int) := by omega
        have y2 : ¬ (k : Int) < 60 := by omega
        go_wp2_with fail
        refine (sure_any wr (HG.out.keep HK.out)).mono ?_
        rintro e w8 ⟨rfl, hb8⟩
        have HB8 := Lib.hid (HK.out.bl.trans (hb8.mono HK.out.bl.size))
        clear hb8
        go_wp2_with fail
        go_ret
        exact ⟨rfl, HB8.out⟩
  · obtain ⟨kk, hkk⟩ : ∃ kk : Nat, kk = m := ⟨_, rfl⟩
    have hkm : kk ≤ m := by omega
    have hk40 : kk ≤ 60 := by omega
    go_enter Tryd.func5, Tryd.ntmps5
    go_wp2_with fail
    refine (new_any W).mono ?_
    rintro e w1 ⟨t, rfl, ht, hlt, hb1⟩
    have HT0 := Lib.hid (show ∃ F, Tab W.heap.size (3 * 0) w1 t F ∧ LockInv (InS l kk) F from ⟨_, ht, LockInv.nil _⟩)
    have HK0 := Lib.hid (Keep.of hb1 (Nat.le_refl _))
    clear ht hb1
    go_wp2_with fail
    go_loopw [4] (fun i wr => ∃ k : Nat, k ≤ kk ∧ i = .int .i64 k ∧ Hid (∃ F, Tab W.heap.size (3 * k) wr t F ∧ LockInv (InS l kk) F) ∧ Hid (Keep W.heap.size W wr)) (fun i _ => kk - (intOf i).toNat)
    case atStart => exact ⟨0, by omega, rfl, HT0.out, HK0.out⟩
    case round =>
      obtain ⟨k, hk, rfl, HT, HK⟩ := hrel
      by_cases hgo : k < kk
      · obtain ⟨F, hF, hI⟩ := HT.out
        obtain ⟨x, hx⟩ : ∃ x, l[k]? = some x := ⟨_, List.getElem?_eq_getElem (by rw [← HN.out]; omega)⟩
        have hox := HOK.out x (List.mem_of_getElem? hx)
        have hki : (k : Int) < (m : Int) := by omega
        have hki2 : (k : Int) < 60 := by omega
        obtain ⟨b, o, rfl, c0, c1, c2, c3⟩ := act_at (HRD.out.keep HK.out) hx
        have HIS := Lib.hid (show InS l kk x.2.2.1 from ⟨k, x, hgo, hx, rfl⟩)
        obtain ⟨x0, x1, x2, x3⟩ := x
        have hx1 : wfI x1 := hox.1
        have hx2 : okS x2 := hox.2.1
        have hkw : IntKind.i64.wrap ((k : Int) + 1) = (k : Int) + 1 := IntWalk.i64_in _ (by omega)
        obtain ⟨w0, hw0⟩ : ∃ w0, w0 = wr.alloc (.cells #[.int .i64 x0, .int .i64 x1, .string ⟨x2.toArray⟩, .bool x3] 24) := ⟨_, rfl⟩
        have HB0 := Lib.hid (show Below wr.heap.size wr w0 by rw [hw0]; exact (Below.refl _ _).alloc (Nat.le_refl _) _)
        have HP0 := Lib.hid (show w0.heap[wr.heap.size]? = some (.cells #[.int .i64 x0, .int .i64 x1, .string ⟨x2.toArray⟩, .bool x3] 24 (0, 0)) by rw [hw0]; exact alloc_new _ _)
        have HTK := Lib.hid (take_any x1 x2 x3 w0 (hF.below HB0.out) hx1 hx2 (Nat.le_trans HK.out.bl.size HB0.out.size) (by omega))
        have HFR := Lib.hid (free_any x1 w0 (hF.below HB0.out) hx1)
        have HI := Lib.hid hI
        rw [hw0] at HTK HFR
        have hw0x := hw0
        clear hx hox hF hI hw0
        go_wp2_with fail
        · refine HFR.out.mono ?_
          rintro e w5 ⟨rfl, ht5, hk5⟩
          have HINV := Lib.hid (HI.out.free x1)
          obtain ⟨F5, hF5⟩ : ∃ F5, F5 = fun (i : Int) (l : List UInt8) => if i = x1 then 0 else F i l := ⟨_, rfl⟩
          rw [← hF5] at ht5 HINV
          have HT5 := Lib.hid (ht5.mono (N' := 3 * k + 3) (by omega))
          have HK5 := Lib.hid ((HK.out.trans (Keep.of HB0.out HK.out.bl.size)).trans (by rw [← hw0x] at hk5; exact hk5))
          have HP5 := Lib.hid (hk5.cells _ _ _ _ (by rw [hw0x] at HP0; exact HP0.out))
          obtain ⟨p, hp⟩ : ∃ p, p = wr.heap.size := ⟨_, rfl⟩
          rw [← hp] at HP5 ⊢
          clear ht5 hk5 hF5 hp HTK HFR
          have HNM := Lib.hid (holders_any x2 w5 HT5.out hx2 (by omega))
          have e51 : w5.cell? ⟨p, 1, none⟩ = some (.int .i64 x1) := block_cell (HP5.out)
          have e52 : w5.cell? ⟨p, 2, none⟩ = some (.string ⟨x2.toArray⟩) := block_cell (HP5.out)
          go_wp2_with fail
          refine HNM.out.mono ?_
          rintro e w6 ⟨v6, H, rfl, hrow6, hH, hb6⟩
          have hnmax := own_max hrow6
          obtain ⟨X6, c6, rfl, hc6, hr6⟩ := own_rdA hrow6
          have HR6 := Lib.hid hr6
          have HH := Lib.hid hH
          have HK6 := Lib.hid (HK5.out.trans (Keep.of hb6 HK5.out.bl.size))
          have HT6 := Lib.hid (HT5.out.below hb6)
          have HP6 := Lib.hid ((hb6.block p (block_lt HP5.out)).trans HP5.out)
          obtain ⟨nh, hnh⟩ : ∃ nh, nh = H.length := ⟨_, rfl⟩
          rw [← hnh] at hc6 hnmax ⊢
          have HNH := Lib.hid hnh
          clear hrow6 hH hb6 hr6 hnh e51 e52
          go_wp2_with fail
          obtain ⟨wA, hwA⟩ : ∃ w0, w0 = w6 := ⟨_, rfl⟩
          subst hwA
          go_loopw [7] (fun i wr => ∃ q : Nat, q ≤ nh ∧ i = .int .i64 q ∧ Hid (Below wA.heap.size wA wr)) (fun i _ => nh - (intOf i).toNat)
          case atStart => exact ⟨0, by omega, rfl, Below.refl _ _⟩
          case round =>
            obtain ⟨q, hq, rfl, HB⟩ := hrel
            by_cases hgo2 : q < nh
            · obtain ⟨y, hy⟩ : ∃ y, H[q]? = some y := ⟨_, List.getElem?_eq_getElem (by rw [← HNH.out]; omega)⟩
              have hmem := List.mem_of_getElem? hy
              have hwy := ((HH.out.mem y).1 hmem).1
              obtain ⟨b2, o2, rfl, d1⟩ := (HR6.out.below HB.out) q (.int .i64 y) (by unfold zs; rw [List.getElem?_map, hy]; rfl)
              have d2 : wr.cell? ⟨p, 2, none⟩ = some (.string ⟨x2.toArray⟩) := block_cell ((HB.out.block p (block_lt HP6.out)).trans HP6.out)
              have HHD := Lib.hid (holds_any y x2 wr.drew (tab_drew (HT6.out.below HB.out)) hwy hx2)
              have HAL := Lib.hid (show F5 y x2 = 2 → nh ≤ 1 from fun h2 => by rw [HNH.out]; exact alone_len HINV.out HH.out hmem h2)
              have hqi : (q : Int) < (nh : Int) := by omega
              have hw1 : IntKind.i64.wrap ((q : Int) + 1) = (q : Int) + 1 := IntWalk.i64_in _ (by omega)
              obtain ⟨fy, hfy⟩ : ∃ fy, fy = F5 y x2 := ⟨_, rfl⟩
              rw [← hfy] at HHD HAL
              clear hy hmem hfy
              go_wp2
              go_region_held3 (fun w' => w'.cell? ⟨b2, o2 + q, none⟩ = some (.int .i64 y) ∧ w'.cell? ⟨p, 2, none⟩ = some (.string ⟨x2.toArray⟩)) (first | exact ⟨d1, d2⟩ | exact ⟨d15, d25⟩)
                (first
                | (go_at_call 18; refine HHD.out.mono ?_; rintro e w7 ⟨rfl, hb7⟩; have hs7 := HB.out.trans (((Below.refl _ _).drew : Below wr.heap.size wr wr.drew).trans hb7 |>.mono HB.out.size); have d15 : w7.cell? ⟨b2, o2 + q, none⟩ = some (.int .i64 y) := (World.cell?_of_block (hb7.block b2 (cell_lt d1))).trans d1; have d25 : w7.cell? ⟨p, 2, none⟩ = some (.string ⟨x2.toArray⟩) := (World.cell?_of_block (hb7.block p (cell_lt d2))).trans d2; have HS7 := Lib.hid hs7; clear hb7 hs7))
              clear d1 d2 d15 d25
              by_cases hf2 : fy = 2
              · have hl1 := HAL.out hf2
                have hfb : (fy == 2) = true := by simpa using hf2
                have hl2 : ¬ (1 : Int) < (nh : Int) := by omega
                clear hf2
                go_wp2
                exact ⟨⟨q + 1, by omega, by congr 1, HS7⟩, by simp [intOf]; omega⟩
              · have hfb : (fy == 2) = false := by simpa using hf2
                clear hf2
                go_wp2
                exact ⟨⟨q + 1, by omega, by congr 1, HS7⟩, by simp [intOf]; omega⟩
            · have hqe : q = nh := by omega
              subst hqe
              have hqi : ¬ (q : Int) < (q : Int) := by omega
              clear hq hgo2
              have HKB := Lib.hid (HK6.out.trans (Keep.of HB.out HK6.out.bl.size))
              have HTB := Lib.hid (HT6.out.below HB.out)
              have HPB := Lib.hid ((HB.out.block p (block_lt HP6.out)).trans HP6.out)
              go_wp2
              obtain ⟨wC, hwC⟩ : ∃ w0, w0 = wr := ⟨_, rfl⟩
              subst hwC
              go_loopw [10, 11] (fun o i wr => ∃ j : Nat, j ≤ kk ∧ i = .int .i64 j ∧ o = .string ⟨(topL l j).toArray⟩ ∧ wr = wC) (fun _ i _ => kk - (intOf i).toNat)
              case atStart => exact ⟨0, by omega, rfl, rfl, rfl⟩
              case round =>
                obtain ⟨j, hj, rfl, rfl, rfl⟩ := hrel
                obtain ⟨tp, htp⟩ : ∃ tp, tp = topL l j := ⟨_, rfl⟩
                rw [← htp]
                have HTP := Lib.hid htp
                clear htp
                by_cases hgo3 : j < kk
                · obtain ⟨z, hz⟩ : ∃ z, l[j]? = some z := ⟨_, List.getElem?_eq_getElem (by rw [← HN.out]; omega)⟩
                  obtain ⟨b7, o7, eb7, _, _, e2, _⟩ := act_at (HRD.out.keep HKB.out) hz
                  cases eb7
                  have HTN := Lib.hid (show topL l (j + 1) = if tp < z.2.2.1 then z.2.2.1 else tp by rw [HTP.out, topL, hz]; rfl)
                  obtain ⟨z0, z1, z2, z3⟩ := z
                  have hji : (j : Int) < (m : Int) := by omega
                  have hji2 : (j : Int) < 60 := by omega
                  have hjw : IntKind.i64.wrap ((j : Int) + 1) = (j : Int) + 1 := IntWalk.i64_in _ (by omega)
                  clear hz
                  by_cases hlt : tp < z2
                  · have hn1 : ¬ z2 < tp := list_lt.2 (Or.inr hlt)
                    have hl1 := less_s (decide_eq_false hn1)
                    have hl2 := less_p (decide_eq_false hn1)
                    have he1 : (z2 == tp) = false := by
                      simp only [beq_eq_false_iff_ne, ne_eq]
                      rintro rfl
                      exact hn1 hlt
                    have HLT := Lib.hid hlt
                    clear hlt hn1
                    go_wp2
                    exact ⟨⟨j + 1, by omega, by congr 1, by rw [HTN.out, if_pos HLT.out], trivial⟩, by simp [intOf]; omega⟩
                  · have HLT := Lib.hid hlt
                    rcases list_lt.1 hlt with he | hl
                    · have he1 : (z2 == tp) = true := by simp [he]
                      clear hlt he
                      go_wp2
                      exact ⟨⟨j + 1, by omega, by congr 1, by rw [HTN.out, if_neg HLT.out], trivial⟩, by simp [intOf]; omega⟩
                    · have hl1 := less_s (decide_eq_true hl)
                      have hl2 := less_p (decide_eq_true hl)
                      clear hlt hl
                      go_wp2
                      exact ⟨⟨j + 1, by omega, by congr 1, by rw [HTN.out, if_neg HLT.out], trivial⟩, by simp [intOf]; omega⟩
                · have hje : j = kk := by omega
                  subst hje
                  have y1 : ¬ (j : Int) < (m : Int) := by omega
                  have HTOP := Lib.hid (show ∀ a, InS l j a → ¬ tp < a from fun a ⟨i, x, hi, hx, ha⟩ => by rw [HTP.out, ← ha]; exact topL_up l j i x hi hx)
                  have hlen : tp.length ≤ 140737488355328 := by rw [HTP.out]; exact topL_len l _ (fun x hx => (HOK.out x hx).2.2) j
                  have hok : okS (tp ++ [122]) := by unfold okS maxLen; simp; omega
                  have c71 : wr.cell? ⟨p, 1, none⟩ = some (.int .i64 x1) := block_cell HPB.out
                  have hsz : ¬ 9223372036854775807 < tp.length + 1 := by omega
                  have h2 : (ByteArray.mk tp.toArray ++ ByteArray.mk #[122]) = ByteArray.mk (tp ++ [122]).toArray := ByteArray.mk_append_mk tp [122]
                  obtain ⟨mB, BB, hTB, _⟩ := HTB.out
                  have HMAY := Lib.hid (may_any x1 (tp ++ [122]) true wr hTB hx1 hok)
                  rw [← h2] at HMAY
                  clear hTB hlen h2
                  go_wp2_with fail
                  all_goals
                    refine HMAY.out.mono ?_
                    rintro e w7 ⟨n7, rfl, hm7, hb7⟩
                    obtain rfl := top_free HINV.out HTOP.out hm7
                    rw [show errV 0 = .nilIface from rfl]
                    have HT7 := Lib.hid ((HTB.out.below hb7).mono (N' := 3 * (k + 1)) (by omega))
                    have HK7 := Lib.hid (HKB.out.trans (Keep.of hb7 HKB.out.bl.size))
                    clear hm7 hb7
                    go_wp2_with fail
                    refine (numk_nil w7).mono ?_
                    rintro e w8 ⟨rfl, hb8⟩
                    have HT8 := Lib.hid (HT7.out.below hb8)
                    have HK8 := Lib.hid (HK7.out.trans (Keep.of hb8 HK7.out.bl.size))
                    clear hb8
                    go_wp2_with fail
                    exact ⟨⟨k + 1, by omega, by congr 1, ⟨F5, HT8.out, HINV.out⟩, HK8⟩, by simp [intOf]; omega⟩
        · refine HTK.out.mono ?_
          rintro e w5 ⟨n5, rfl, hm5, ht5, hk5⟩
          have HINV := Lib.hid (HI.out.take hm5 hx1 hx2 HIS.out)
          obtain ⟨F5, hF5⟩ : ∃ F5, F5 = takeF F x1 x2 x3 n5 := ⟨_, rfl⟩
          rw [← hF5] at ht5 HINV
          have HT5 := Lib.hid (ht5.mono (N' := 3 * k + 3) (by omega))
          have HK5 := Lib.hid ((HK.out.trans (Keep.of HB0.out HK.out.bl.size)).trans (by rw [← hw0x] at hk5; exact hk5))
          have HP5 := Lib.hid (hk5.cells _ _ _ _ (by rw [hw0x] at HP0; exact HP0.out))
          obtain ⟨p, hp⟩ : ∃ p, p = wr.heap.size := ⟨_, rfl⟩
          rw [← hp] at HP5 ⊢
          clear ht5 hk5 hF5 hp HTK HFR
          have HNM := Lib.hid (holders_any x2 w5 HT5.out hx2 (by omega))
          have e51 : w5.cell? ⟨p, 1, none⟩ = some (.int .i64 x1) := block_cell (HP5.out)
          have e52 : w5.cell? ⟨p, 2, none⟩ = some (.string ⟨x2.toArray⟩) := block_cell (HP5.out)
          go_wp2_with fail
          refine HNM.out.mono ?_
          rintro e w6 ⟨v6, H, rfl, hrow6, hH, hb6⟩
          have hnmax := own_max hrow6
          obtain ⟨X6, c6, rfl, hc6, hr6⟩ := own_rdA hrow6
          have HR6 := Lib.hid hr6
          have HH := Lib.hid hH
          have HK6 := Lib.hid (HK5.out.trans (Keep.of hb6 HK5.out.bl.size))
          have HT6 := Lib.hid (HT5.out.below hb6)
          have HP6 := Lib.hid ((hb6.block p (block_lt HP5.out)).trans HP5.out)
          obtain ⟨nh, hnh⟩ : ∃ nh, nh = H.length := ⟨_, rfl⟩
          rw [← hnh] at hc6 hnmax ⊢
          have HNH := Lib.hid hnh
          clear hrow6 hH hb6 hr6 hnh e51 e52
          go_wp2_with fail
          obtain ⟨wA, hwA⟩ : ∃ w0, w0 = w6 := ⟨_, rfl⟩
          subst hwA
          go_loopw [7] (fun i wr => ∃ q : Nat, q ≤ nh ∧ i = .int .i64 q ∧ Hid (Below wA.heap.size wA wr)) (fun i _ => nh - (intOf i).toNat)
          case atStart => exact ⟨0, by omega, rfl, Below.refl _ _⟩
          case round =>
            obtain ⟨q, hq, rfl, HB⟩ := hrel
            by_cases hgo2 : q < nh
            · obtain ⟨y, hy⟩ : ∃ y, H[q]? = some y := ⟨_, List.getElem?_eq_getElem (by rw [← HNH.out]; omega)⟩
              have hmem := List.mem_of_getElem? hy
              have hwy := ((HH.out.mem y).1 hmem).1
              obtain ⟨b2, o2, rfl, d1⟩ := (HR6.out.below HB.out) q (.int .i64 y) (by unfold zs; rw [List.getElem?_map, hy]; rfl)
              have d2 : wr.cell? ⟨p, 2, none⟩ = some (.string ⟨x2.toArray⟩) := block_cell ((HB.out.block p (block_lt HP6.out)).trans HP6.out)
              have HHD := Lib.hid (holds_any y x2 wr.drew (tab_drew (HT6.out.below HB.out)) hwy hx2)
              have HAL := Lib.hid (show F5 y x2 = 2 → nh ≤ 1 from fun h2 => by rw [HNH.out]; exact alone_len HINV.out HH.out hmem h2)
              have hqi : (q : Int) < (nh : Int) := by omega
              have hw1 : IntKind.i64.wrap ((q : Int) + 1) = (q : Int) + 1 := IntWalk.i64_in _ (by omega)
              obtain ⟨fy, hfy⟩ : ∃ fy, fy = F5 y x2 := ⟨_, rfl⟩
              rw [← hfy] at HHD HAL
              clear hy hmem hfy
              go_wp2
              go_region_held3 (fun w' => w'.cell? ⟨b2, o2 + q, none⟩ = some (.int .i64 y) ∧ w'.cell? ⟨p, 2, none⟩ = some (.string ⟨x2.toArray⟩)) (first | exact ⟨d1, d2⟩ | exact ⟨d15, d25⟩)
                (first
                | (go_at_call 18; refine HHD.out.mono ?_; rintro e w7 ⟨rfl, hb7⟩; have hs7 := HB.out.trans (((Below.refl _ _).drew : Below wr.heap.size wr wr.drew).trans hb7 |>.mono HB.out.size); have d15 : w7.cell? ⟨b2, o2 + q, none⟩ = some (.int .i64 y) := (World.cell?_of_block (hb7.block b2 (cell_lt d1))).trans d1; have d25 : w7.cell? ⟨p, 2, none⟩ = some (.string ⟨x2.toArray⟩) := (World.cell?_of_block (hb7.block p (cell_lt d2))).trans d2; have HS7 := Lib.hid hs7; clear hb7 hs7))
              clear d1 d2 d15 d25
              by_cases hf2 : fy = 2
              · have hl1 := HAL.out hf2
                have hfb : (fy == 2) = true := by simpa using hf2
                have hl2 : ¬ (1 : Int) < (nh : Int) := by omega
                clear hf2
                go_wp2
                exact ⟨⟨q + 1, by omega, by congr 1, HS7⟩, by simp [intOf]; omega⟩
              · have hfb : (fy == 2) = false := by simpa using hf2
                clear hf2
                go_wp2
                exact ⟨⟨q + 1, by omega, by congr 1, HS7⟩, by simp [intOf]; omega⟩
            · have hqe : q = nh := by omega
              subst hqe
              have hqi : ¬ (q : Int) < (q : Int) := by omega
              clear hq hgo2
              have HKB := Lib.hid (HK6.out.trans (Keep.of HB.out HK6.out.bl.size))
              have HTB := Lib.hid (HT6.out.below HB.out)
              have HPB := Lib.hid ((HB.out.block p (block_lt HP6.out)).trans HP6.out)
              go_wp2
              obtain ⟨wC, hwC⟩ : ∃ w0, w0 = wr := ⟨_, rfl⟩
              subst hwC
              go_loopw [10, 11] (fun o i wr => ∃ j : Nat, j ≤ kk ∧ i = .int .i64 j ∧ o = .string ⟨(topL l j).toArray⟩ ∧ wr = wC) (fun _ i _ => kk - (intOf i).toNat)
              case atStart => exact ⟨0, by omega, rfl, rfl, rfl⟩
              case round =>
                obtain ⟨j, hj, rfl, rfl, rfl⟩ := hrel
                obtain ⟨tp, htp⟩ : ∃ tp, tp = topL l j := ⟨_, rfl⟩
                rw [← htp]
                have HTP := Lib.hid htp
                clear htp
                by_cases hgo3 : j < kk
                · obtain ⟨z, hz⟩ : ∃ z, l[j]? = some z := ⟨_, List.getElem?_eq_getElem (by rw [← HN.out]; omega)⟩
                  obtain ⟨b7, o7, eb7, _, _, e2, _⟩ := act_at (HRD.out.keep HKB.out) hz
                  cases eb7
                  have HTN := Lib.hid (show topL l (j + 1) = if tp < z.2.2.1 then z.2.2.1 else tp by rw [HTP.out, topL, hz]; rfl)
                  obtain ⟨z0, z1, z2, z3⟩ := z
                  have hji : (j : Int) < (m : Int) := by omega
                  have hji2 : (j : Int) < 60 := by omega
                  have hjw : IntKind.i64.wrap ((j : Int) + 1) = (j : Int) + 1 := IntWalk.i64_in _ (by omega)
                  clear hz
                  by_cases hlt : tp < z2
                  · have hn1 : ¬ z2 < tp := list_lt.2 (Or.inr hlt)
                    have hl1 := less_s (decide_eq_false hn1)
                    have hl2 := less_p (decide_eq_false hn1)
                    have he1 : (z2 == tp) = false := by
                      simp only [beq_eq_false_iff_ne, ne_eq]
                      rintro rfl
                      exact hn1 hlt
                    have HLT := Lib.hid hlt
                    clear hlt hn1
                    go_wp2
                    exact ⟨⟨j + 1, by omega, by congr 1, by rw [HTN.out, if_pos HLT.out], trivial⟩, by simp [intOf]; omega⟩
                  · have HLT := Lib.hid hlt
                    rcases list_lt.1 hlt with he | hl
                    · have he1 : (z2 == tp) = true := by simp [he]
                      clear hlt he
                      go_wp2
                      exact ⟨⟨j + 1, by omega, by congr 1, by rw [HTN.out, if_neg HLT.out], trivial⟩, by simp [intOf]; omega⟩
                    · have hl1 := less_s (decide_eq_true hl)
                      have hl2 := less_p (decide_eq_true hl)
                      clear hlt hl
                      go_wp2
                      exact ⟨⟨j + 1, by omega, by congr 1, by rw [HTN.out, if_neg HLT.out], trivial⟩, by simp [intOf]; omega⟩
                · have hje : j = kk := by omega
                  subst hje
                  have y1 : ¬ (j : Int) < (m : Int) := by omega
                  have HTOP := Lib.hid (show ∀ a, InS l j a → ¬ tp < a from fun a ⟨i, x, hi, hx, ha⟩ => by rw [HTP.out, ← ha]; exact topL_up l j i x hi hx)
                  have hlen : tp.length ≤ 140737488355328 := by rw [HTP.out]; exact topL_len l _ (fun x hx => (HOK.out x hx).2.2) j
                  have hok : okS (tp ++ [122]) := by unfold okS maxLen; simp; omega
                  have c71 : wr.cell? ⟨p, 1, none⟩ = some (.int .i64 x1) := block_cell HPB.out
                  have hsz : ¬ 9223372036854775807 < tp.length + 1 := by omega
                  have h2 : (ByteArray.mk tp.toArray ++ ByteArray.mk #[122]) = ByteArray.mk (tp ++ [122]).toArray := ByteArray.mk_append_mk tp [122]
                  obtain ⟨mB, BB, hTB, _⟩ := HTB.out
                  have HMAY := Lib.hid (may_any x1 (tp ++ [122]) true wr hTB hx1 hok)
                  rw [← h2] at HMAY
                  clear hTB hlen h2
                  go_wp2_with fail
                  all_goals
                    refine HMAY.out.mono ?_
                    rintro e w7 ⟨n7, rfl, hm7, hb7⟩
                    obtain rfl := top_free HINV.out HTOP.out hm7
                    rw [show errV 0 = .nilIface from rfl]
                    have HT7 := Lib.hid ((HTB.out.below hb7).mono (N' := 3 * (k + 1)) (by omega))
                    have HK7 := Lib.hid (HKB.out.trans (Keep.of hb7 HKB.out.bl.size))
                    clear hm7 hb7
                    go_wp2_with fail
                    refine (numk_nil w7).mono ?_
                    rintro e w8 ⟨rfl, hb8⟩
                    have HT8 := Lib.hid (HT7.out.below hb8)
                    have HK8 := Lib.hid (HK7.out.trans (Keep.of hb8 HK7.out.bl.size))
                    clear hb8
                    go_wp2_with fail
                    exact ⟨⟨k + 1, by omega, by congr 1, ⟨F5, HT8.out, HINV.out⟩, HK8⟩, by simp [intOf]; omega⟩
      · have hke : k = kk := by omega
        subst hke
        have y1 : ¬ (k : Int) < (m : Int) := by omega
        go_wp2_with fail
        refine (sure_any wr (HG.out.keep HK.out)).mono ?_
        rintro e w8 ⟨rfl, hb8⟩
        have HB8 := Lib.hid (HK.out.bl.trans (hb8.mono HK.out.bl.size))
        clear hb8
        go_wp2_with fail
        go_ret
        exact ⟨rfl, HB8.out⟩
end Go.Proofs.YtnnadhfpkplncaaDoor
