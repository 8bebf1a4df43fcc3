/- 'LockMay': whether any name may be taken by anybody, behind whatever was taken. Condition: the acts read; the handle of 'error'. -/
import Derived.Test.YtnnadhfpkplncaaDoorLkSure
import Derived.BigQuiet
import Derived.Deep.QuietTactic
import Derived.Deep.RegionHeld3
namespace Go.Proofs.YtnnadhfpkplncaaDoor
open Go.RowKit Go.Maps

/-- The table, the list, and what lay there. -/
structure LockAt (W : World) (k t : Nat) (v : Value) (F : Int → List UInt8 → Int) (r : List Held) (w : World) : Prop where
  tab : Tab W.heap.size (3 * k) w t F
  agr : Agr F r
  own : OwnH w v r
  len : r.length ≤ k
  keep : Keep W.heap.size W w
theorem rtake_len (r : List Held) (who : Int) (nm : List UInt8) (all : Bool) : (rtakeL r who nm all).length ≤ r.length + 1 := by
  unfold rtakeL
  split <;> simp
theorem keep_drew {L : Nat} (w : World) : Keep L w w.drew := ⟨⟨rfl, rfl, rfl, Nat.le_refl _, fun _ _ => rfl⟩, fun _ _ _ _ e => e⟩
theorem tab_drew {L N t : Nat} {w : World} {F : Int → List UInt8 → Int} (h : Tab L N w t F) : Tab L N w.drew t F := h.below ⟨rfl, rfl, rfl, Nat.le_refl _, fun _ _ => rfl⟩
set_option maxRecDepth 100000 in
set_option maxHeartbeats 6400000 in
theorem may_walk (v : Value) (z : Act4) (alone : Bool) (W : World) (hg : Handle W) (hin : ActsIn W v) (hz : okA z) :
    Calls Tryd.prog 3 #[v, .agg #[.int .i64 z.1, .int .i64 z.2.1, .string ⟨z.2.2.1.toArray⟩, .bool z.2.2.2], .bool alone] W (BoolPost true W) := by
  obtain ⟨B, c, l, rfl, hlc, hll, hrd, hok⟩ := hin
  have HG := Lib.hid hg
  have HRD := Lib.hid hrd
  have HOK := Lib.hid hok
  obtain ⟨m, hm⟩ : ∃ m, m = l.length := ⟨_, rfl⟩
  rw [← hm] at hlc hll ⊢
  have HN := Lib.hid hm
  obtain ⟨zk, who, nm, zb⟩ := z
  obtain ⟨hw, hn⟩ := hz
  have hw : wfI who := hw
  have hn : okS nm := hn
  clear hrd hm hok hg
  go_enter Tryd.func3, Tryd.ntmps3
  go_wp2_with fail
  go_quiet (fail)
  obtain ⟨w0, hw0⟩ : ∃ w0, w0 = (W.alloc (.cells #[.int .i64 zk, .int .i64 who, .string ⟨nm.toArray⟩, .bool zb] 24)).drewN nq := ⟨_, rfl⟩
  have HB0 := Lib.hid (show Below W.heap.size W w0 by rw [hw0]; exact ⟨rfl, rfl, rfl, ((Below.refl _ _).alloc (Nat.le_refl _) _ : Below W.heap.size W _).size, ((Below.refl _ _).alloc (Nat.le_refl _) _ : Below W.heap.size W _).block⟩)
  rw [← hw0]
  clear hw0
  go_wp2_with fail
  refine (new_any w0).mono ?_
  rintro e w1 ⟨t, rfl, ht, hlt, hb1⟩
  have HS := Lib.hid (show LockAt W 0 t (.slice none 0 0) (fun _ _ => 0) [] w1 from ⟨ht.lower HB0.out.size, Agr.nil, OwnH.nil _, Nat.le_refl _, (Keep.of HB0.out (Nat.le_refl _)).trans (Keep.of hb1 HB0.out.size)⟩)
  clear ht hb1
  go_wp2_with fail
  go_loopw [10, 11] (fun o i wr => ∃ (k : Nat) (v1 : Value), k ≤ m ∧ k ≤ 40 ∧ i = .int .i64 k ∧ o = v1 ∧ Hid (∃ F r, LockAt W k t v1 F r wr)) (fun _ i _ => 40 - (intOf i).toNat)
  case atStart => exact ⟨0, _, by omega, by omega, rfl, rfl, ⟨_, _, HS.out⟩⟩
  case round =>
    obtain ⟨k, v1, hk, hk40, rfl, rfl, hst⟩ := hrel
    obtain ⟨F, r, hst⟩ := hst.out
    have HST := Lib.hid hst
    clear hst HS
    by_cases hgo : k < m ∧ k < 40
    · obtain ⟨hkm, hk3⟩ := hgo
      obtain ⟨x, hx⟩ : ∃ x, l[k]? = some x := ⟨_, List.getElem?_eq_getElem (by rw [← HN.out]; omega)⟩
      have hox := HOK.out x (List.mem_of_getElem? hx)
      have hki : (k : Int) < (m : Int) := by omega
      have hki2 : (k : Int) < 40 := by omega
      obtain ⟨b, o, rfl, c0, c1, c2, c3⟩ := act_at (HRD.out.keep HST.out.keep) hx
      have HX := Lib.hid hx
      obtain ⟨x0, x1, x2, x3⟩ := x
      have hx1 : wfI x1 := hox.1
      have hx2 : okS x2 := hox.2
      have hlen := HST.out.len
      have HTK := Lib.hid (take_both x1 x2 x3 wr.drew (tab_drew HST.out.tab) HST.out.agr hx1 hx2 HST.out.keep.bl.size (by omega))
      clear hx hox
      go_wp2
      go_region_held3 (fun w' => w'.cell? ⟨b, o + k * 4 + 1, none⟩ = some (.int .i64 x1) ∧ w'.cell? ⟨b, o + k * 4 + 2, none⟩ = some (.string ⟨x2.toArray⟩) ∧ w'.cell? ⟨b, o + k * 4 + 3, none⟩ = some (.bool x3)) (first | exact ⟨c1, c2, c3⟩ | exact ⟨c15, c25, c35⟩)
        (first
        | (go_at_call 9; refine HTK.out.mono ?_; rintro e w5 ⟨rfl, ht5, hk5⟩; have hs5 := (keep_drew (L := W.heap.size) wr).trans hk5; have hkw5 := HST.out.keep.trans hs5; obtain ⟨b', o', eb, c05, c15, c25, c35⟩ := act_at (HRD.out.keep hkw5) HX.out; cases eb; have HT5 := Lib.hid ht5; have HS5 := Lib.hid hs5; have HK5 := Lib.hid hkw5; clear ht5 hk5 hs5 hkw5 c05))
      have HRS := Lib.hid (rtake_any r _ x1 x2 x3 w5.drew (HST.out.own.keep (HS5.out.trans (keep_drew _))) (by omega))
      clear c0 c1 c2 c3 HTK
      go_wp2
      go_region_held3 (fun w' => w'.cell? ⟨b, o + k * 4 + 1, none⟩ = some (.int .i64 x1) ∧ w'.cell? ⟨b, o + k * 4 + 2, none⟩ = some (.string ⟨x2.toArray⟩) ∧ w'.cell? ⟨b, o + k * 4 + 3, none⟩ = some (.bool x3)) (first | exact ⟨c15, c25, c35⟩ | exact ⟨c16, c26, c36⟩)
        (first
        | (go_at_call 10; refine HRS.out.mono ?_; rintro e w6 ⟨v6, rfl, hr6, hb6⟩; have hs6 := (keep_drew (L := W.heap.size) w5).trans (Keep.of hb6 HK5.out.bl.size); have hkw6 := HK5.out.trans hs6; obtain ⟨b', o', eb, c06, c16, c26, c36⟩ := act_at (HRD.out.keep hkw6) HX.out; cases eb; have HR6 := Lib.hid hr6; have HB6 := Lib.hid hb6; have HK6 := Lib.hid hkw6; clear hr6 hb6 hs6 hkw6 c06))
      have hw1 : IntKind.i64.wrap ((k : Int) + 1) = (k : Int) + 1 := IntWalk.i64_in _ (by omega)
      obtain ⟨F5, ht5, ha5⟩ := HT5.out
      have HF := Lib.hid (show LockAt W (k + 1) t v6 F5 (rtakeL r x1 x2 x3) w6 from ⟨(tab_drew ht5).below HB6.out, ha5, HR6.out, Nat.le_trans (rtake_len _ _ _ _) (Nat.succ_le_succ hlen), HK6.out⟩)
      clear ht5 ha5
      go_wp2
      exact ⟨⟨k + 1, v6, by omega, by omega, by congr 1, rfl, ⟨_, _, HF.out⟩⟩, by simp [intOf]; omega⟩
    · have hor : (m : Int) ≤ (k : Int) ∨ ((k : Int) < (m : Int) ∧ (40 : Int) ≤ (k : Int)) := by omega
      clear hgo
      have hlen := HST.out.len
      have HM := Lib.hid (may_both who nm alone wr HST.out.tab HST.out.agr hw hn)
      rcases hor with h1 | ⟨h1, h2⟩
      all_goals
        first
        | (have h1' : ¬ (k : Int) < (m : Int) := by omega
           clear h1)
        | (have h2' : ¬ (k : Int) < 40 := by omega
           clear h2)
        go_wp2_with fail
        refine HM.out.mono ?_
        rintro e w2 ⟨rfl, hb2⟩
        have HT2 := Lib.hid (HST.out.tab.below hb2)
        have HK2 := Lib.hid (HST.out.keep.trans (Keep.of hb2 HST.out.keep.bl.size))
        have HO2 := Lib.hid (HST.out.own.below hb2)
        have HTK := Lib.hid (take_both who nm alone w2 HT2.out HST.out.agr hw hn HK2.out.bl.size (by omega))
        clear hb2
        obtain ⟨E, hE⟩ : ∃ E, E = refMay r who nm alone := ⟨_, rfl⟩
        rw [← hE] at HTK ⊢
        have HE := Lib.hid hE
        clear hE
        obtain ⟨ev, hev⟩ : ∃ ev, ev = errV E := ⟨_, rfl⟩
        rw [← hev] at HTK ⊢
        have HEV := Lib.hid hev
        clear hev
        go_wp2_with fail
        refine HTK.out.mono ?_
        rintro e w3 ⟨rfl, _, hk3⟩
        have HK3 := Lib.hid (HK2.out.trans hk3)
        have HO3 := Lib.hid (HO2.out.keep hk3)
        have HNUM := Lib.hid (fun w0 (h0 : Below w3.heap.size w3 w0) => numk_any E w0 ((HG.out.keep HK3.out).keep (Keep.of h0 (Nat.zero_le _) : Keep 0 w3 w0)))
        rw [← HEV.out] at HNUM
        clear hk3
        go_wp2_with fail
        refine (HNUM.out _ (Below.refl _ _)).mono ?_
        rintro e w4 ⟨rfl, hb4⟩
        have HB4 := Lib.hid hb4
        obtain ⟨A5, c5, e5, hc5, hr5, _⟩ := (HO3.out.below hb4).read
        have HM5 := Lib.hid (rmay_any r A5 c5 who nm alone w4 hr5 hc5 (by omega))
        rw [← e5, ← HE.out] at HM5
        have hEE : (E == E) = true := by simp
        clear hb4 hr5 hc5 e5
        go_wp2_with fail
        refine HM5.out.mono ?_
        rintro e w5 ⟨rfl, hb5⟩
        have HB5 := Lib.hid (HB4.out.trans (hb5.mono HB4.out.size))
        clear hb5
        go_wp2_with fail
        refine (HNUM.out _ HB5.out).mono ?_
        rintro e w6 ⟨rfl, hb6⟩
        have HB6 := Lib.hid (HB5.out.trans (hb6.mono HB5.out.size))
        clear hb6
        go_wp2_with fail
        refine (HNUM.out _ HB6.out).mono ?_
        rintro e w7 ⟨rfl, hb7⟩
        have HB7 := Lib.hid (HB6.out.trans (hb7.mono HB6.out.size))
        clear hb7
        go_wp2_with fail
        refine (sure_any w7 ((HG.out.keep HK3.out).keep (Keep.of HB7.out (Nat.zero_le _) : Keep 0 w3 w7))).mono ?_
        rintro e w8 ⟨rfl, hb8⟩
        have HB8 := Lib.hid (HB7.out.trans (hb8.mono HB7.out.size))
        clear hb8
        go_wp2_with fail
        go_ret
        exact ⟨rfl, HK3.out.bl.trans (HB8.out.mono HK3.out.bl.size)⟩
end Go.Proofs.YtnnadhfpkplncaaDoor
