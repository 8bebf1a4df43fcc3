/- 'LockFree': who lets go holds nothing; all others hold what they held. Condition: the acts read; the handle of 'error'. -/
import Derived.Test.YtnnadhfpkplncaaDoorLkNames
namespace Go.Proofs.YtnnadhfpkplncaaDoor
open Go.RowKit Go.Maps

theorem infoTINT : (Tryd.prog.info? 3).map (fun i => (i.zero, i.size, i.bytes)) = some (some (.int .i64 0), 1, 8) := by kernel_rfl
theorem own_keepC {L B s n : Nat} {E : TypeId} {w w' : World} {v : Value} {xs : List Value} (h : w.ownsRow B E s v n xs) (k : Keep L w w') : w'.ownsRow B E s v n xs := by
  refine ⟨h.1, ?_⟩
  rcases h.2 with h2 | ⟨g, c, cur, e, hb, hg, x⟩
  · exact Or.inl h2
  · exact Or.inr ⟨g, c, cur, e, hb, k.cells g _ _ _ hg, x⟩
theorem own_rdA {w : World} {base n : Nat} {E : TypeId} {v : Value} {xs : List Value} (h : w.ownsRow base E 1 v n xs) : ∃ A c, v = .slice A n c ∧ n ≤ c ∧ RdA w A xs := by
  rcases h.2 with ⟨e1, e2⟩ | ⟨g, c, cur, rfl, hg, hh, hc, _, _, ht⟩
  · have : xs = [] := List.eq_nil_of_length_eq_zero (by rw [h.1, e2])
    subst this
    exact ⟨none, 0, by rw [e1, e2], by omega, fun i u hi => by simp at hi⟩
  · refine ⟨_, c, rfl, hc, fun i u hi => ⟨g, 0, rfl, ?_⟩⟩
    have hlt : i < n * 1 := by rw [← h.1]; exact (List.getElem?_eq_some_iff.1 hi).1
    rw [← ht, List.getElem?_take, if_pos hlt] at hi
    rw [Nat.zero_add, block_cell hh]
    simpa using hi
def zs (l : List Int) : List Value := l.map (Value.int .i64)
/-- How many names each one held. -/
def Counts (F : Int → List UInt8 → Int) (l : List Act4) (k : Nat) (D : List Int) : Prop := D.length = k ∧ ∀ j x, j < k → l[j]? = some x → ∃ L, NamesIs F x.2.1 L ∧ D[j]? = some (L.length : Int)
theorem Counts.next {F : Int → List UInt8 → Int} {l : List Act4} {k : Nat} {D : List Int} {x : Act4} {L : List (List UInt8)} (h : Counts F l k D) (hx : l[k]? = some x) (hn : NamesIs F x.2.1 L) : Counts F l (k + 1) (D ++ [(L.length : Int)]) := by
  refine ⟨by simp [h.1], fun j y hj hy => ?_⟩
  rcases Nat.lt_or_ge j k with hlt | hge
  · obtain ⟨M, h1, h2⟩ := h.2 j y hlt hy
    exact ⟨M, h1, by rw [List.getElem?_append_left (by rw [h.1]; exact hlt)]; exact h2⟩
  · obtain rfl : j = k := by omega
    rw [hx] at hy
    cases hy
    exact ⟨L, hn, by rw [List.getElem?_append_right (by rw [h.1]; exact Nat.le_refl _), h.1]; simp⟩
theorem one_new (w : World) (y : Value) : ∀ (j : Nat) (u : Value), [y][j]? = some u → (w.alloc (.cells #[y] 3)).cell? ((⟨w.heap.size, 0, none⟩ : Addr).add j) = some u := fun j u hj => by
  rw [WideShapes.add_plain, Nat.zero_add, block_cell (alloc_new _ _)]
  match j, hj with
  | 0, hj => cases hj; rfl
theorem own_ge {w : World} {B s n q : Nat} {E : TypeId} {v : Value} {xs : List Value} (h : w.ownsRow B E s v n xs) (e : v.ownBlock = some q) : B ≤ q := by
  rcases h.2 with ⟨rfl, _⟩ | ⟨g, c, cur, rfl, hb, _⟩
  · cases e
  · cases e; exact hb
theorem names_freed {F : Int → List UInt8 → Int} {who : Int} {L : List (List UInt8)} (h : NamesIs (fun i l => if i = who then 0 else F i l) who L) : L = [] :=
  List.eq_nil_iff_forall_not_mem.2 fun l hl => ((h.mem l).1 hl).2 (by simp)
theorem names_other {F : Int → List UInt8 → Int} {who i : Int} {L : List (List UInt8)} (h : NamesIs (fun i l => if i = who then 0 else F i l) i L) (hi : i ≠ who) : NamesIs F i L := ⟨h.one, fun l => by rw [h.mem l]; simp [hi], h.up⟩
set_option maxRecDepth 100000 in
set_option maxHeartbeats 6400000 in
theorem free_walk (v : Value) (who : Int) (W : World) (hg : Handle W) (hin : ActsIn W v) (hw : wfI who) : Calls Tryd.prog 4 #[v, .int .i64 who] W (BoolPost true W) := by
  obtain ⟨B, c, l, rfl, hlc, hll, hrd, hok⟩ := hin
  have HG := Lib.hid hg
  have HRD := Lib.hid hrd
  have HOK := Lib.hid hok
  obtain ⟨m, hm⟩ : ∃ m, m = l.length := ⟨_, rfl⟩
  rw [← hm] at hlc hll ⊢
  have HN := Lib.hid hm
  obtain ⟨iI, hiI, hz0, hz1, hz2⟩ := info_parts infoTINT
  clear hrd hm hok hg
  rcases Nat.lt_or_ge 40 m with hc40 | hc40
  · obtain ⟨kk, hkk⟩ : ∃ kk : Nat, kk = 40 := ⟨_, rfl⟩
    have hkm : kk ≤ m := by omega
    have hk40 : kk ≤ 40 := by omega
    go_enter Tryd.func4, Tryd.ntmps4
    go_wp2_with fail
    refine (new_any W).mono ?_
    rintro e w1 ⟨t, rfl, ht, hlt, hb1⟩
    have HT0 := Lib.hid (show Tab W.heap.size (3 * 0) w1 t (fun _ _ => 0) from ht)
    have HK0 := Lib.hid (Keep.of hb1 (Nat.le_refl _))
    clear ht hb1
    go_wp2_with fail
    go_loopw [6] (fun i wr => ∃ k : Nat, k ≤ kk ∧ i = .int .i64 k ∧ Hid (∃ F, Tab W.heap.size (3 * k) wr t F) ∧ Hid (Keep W.heap.size W wr)) (fun i _ => kk - (intOf i).toNat)
    case atStart => exact ⟨0, by omega, rfl, ⟨_, HT0.out⟩, HK0.out⟩
    case round =>
      obtain ⟨k, hk, rfl, HT, HK⟩ := hrel
      by_cases hgo : k < kk
      · obtain ⟨F, hF⟩ := HT.out
        obtain ⟨x, hx⟩ : ∃ x, l[k]? = some x := ⟨_, List.getElem?_eq_getElem (by rw [← HN.out]; omega)⟩
        have hox := HOK.out x (List.mem_of_getElem? hx)
        have hki : (k : Int) < (m : Int) := by omega
        have hki2 : (k : Int) < 40 := by omega
        obtain ⟨b, o, rfl, c0, c1, c2, c3⟩ := act_at (HRD.out.keep HK.out) hx
        have HX := Lib.hid hx
        obtain ⟨x0, x1, x2, x3⟩ := x
        have hx1 : wfI x1 := hox.1
        have hx2 : okS x2 := hox.2
        have HTK := Lib.hid (take_any x1 x2 x3 wr.drew (tab_drew hF) hx1 hx2 HK.out.bl.size (by omega))
        clear hx hox hF
        go_wp2
        go_region_held3 (fun w' => w'.cell? ⟨b, o + k * 4 + 1, none⟩ = some (.int .i64 x1) ∧ w'.cell? ⟨b, o + k * 4 + 2, none⟩ = some (.string ⟨x2.toArray⟩) ∧ w'.cell? ⟨b, o + k * 4 + 3, none⟩ = some (.bool x3)) (first | exact ⟨c1, c2, c3⟩ | exact ⟨c15, c25, c35⟩)
          (first
          | (go_at_call 9; refine HTK.out.mono ?_; rintro e w5 ⟨n5, rfl, _, ht5, hk5⟩; have hs5 := (keep_drew (L := W.heap.size) wr).trans hk5; have hkw5 := HK.out.trans hs5; obtain ⟨b', o', eb, c05, c15, c25, c35⟩ := act_at (HRD.out.keep hkw5) HX.out; cases eb; have HT5 := Lib.hid ht5; have HK5 := Lib.hid hkw5; clear ht5 hk5 hs5 hkw5 c05))
        have hw1 : IntKind.i64.wrap ((k : Int) + 1) = (k : Int) + 1 := IntWalk.i64_in _ (by omega)
        go_wp2
        exact ⟨⟨k + 1, by omega, by congr 1, ⟨_, HT5.out⟩, HK5⟩, by simp [intOf]; omega⟩
      · have hke : k = kk := by omega
        subst hke
        have x1 : (k : Int) < (m : Int) := by omega
        have x2 : ¬ (k : Int) < 40 := by omega
        obtain ⟨F, hF⟩ := HT.out
        have HF := Lib.hid (hF.mono (N' := 200) (by omega))
        clear hF HT0 HK0 HT hk hgo
        obtain ⟨wA, hwA⟩ : ∃ w0, w0 = wr := ⟨_, rfl⟩
        subst hwA
        go_wp2_with fail
        go_loopw [7, 8] (fun o i wr => ∃ (j : Nat) (v1 : Value), j ≤ k ∧ i = .int .i64 j ∧ o = v1 ∧ Hid (∃ D, Counts F l j D ∧ wr.ownsRow wA.heap.size 3 1 v1 j (zs D)) ∧ Hid (Below wA.heap.size wA wr)) (fun _ i _ => k - (intOf i).toNat)
        case atStart => exact ⟨0, _, by omega, rfl, rfl, ⟨[], ⟨rfl, fun j x hj => by omega⟩, World.ownsRow_nil _ _ _ _⟩, Below.refl _ _⟩
        case round =>
          obtain ⟨j, v1, hj, rfl, rfl, HD, HB⟩ := hrel
          by_cases hgo : j < k
          · obtain ⟨D, hD, hrow⟩ := HD.out
            obtain ⟨x, hx⟩ : ∃ x, l[j]? = some x := ⟨_, List.getElem?_eq_getElem (by rw [← HN.out]; omega)⟩
            have hox := HOK.out x (List.mem_of_getElem? hx)
            have hki : (j : Int) < (m : Int) := by omega
            have hki2 : (j : Int) < 40 := by omega
            have hkb := Keep.of HB.out (Nat.le_refl wA.heap.size)
            obtain ⟨b, o, rfl, c0, c1, c2, c3⟩ := act_at ((HRD.out.keep HK.out).keep hkb) hx
            have HX := Lib.hid hx
            obtain ⟨x0, x1, x2, x3⟩ := x
            have hx1 : wfI x1 := hox.1
            have HNM := Lib.hid (names_any x1 wr (HF.out.below HB.out) hx1 (by omega))
            have HDC := Lib.hid hD
            have HROW := Lib.hid hrow
            clear hx hox hD hrow hkb c0 c2 c3
            go_wp2_with fail
            refine HNM.out.mono ?_
            rintro e w5 ⟨v5, L, rfl, hrow5, hL, hb5⟩
            obtain ⟨X5, c5, rfl, _, _⟩ := own_rdA hrow5
            have HL := Lib.hid hL
            have HB5 := Lib.hid (HB.out.trans (hb5.mono HB.out.size))
            have HR5 := Lib.hid (own_keepC HROW.out (Keep.of hb5 (Nat.le_refl _)))
            clear hrow5 hL hb5
            go_wp2_with (at_builtin; refine Hid.out ?_)
            unfold Hid
            refine wpList_append_own _ rfl (.tmp 51) (.tmp 60) 37 rfl wA.heap.size 3 iI (.int .i64 0) 1 8 Tryd.underlying37 hiI hz0 hz1 hz2 rfl (by decide) _ j (zs D) rfl (own_keepC HR5.out (Keep.of ((Below.refl _ _).alloc (Nat.le_refl _) _) (Nat.le_refl _))) _ 1 1 [.int .i64 (L.length : Int)] rfl rfl (one_new _ _) (fun u hu => by rw [List.mem_singleton.1 hu]; rfl) (by unfold maxLen; omega) (by omega) (by have := HB5.out.size; rw [World.size_alloc]; omega) ?_
            intro v6 w6 hrow6 hg6 _
            have HB6 := Lib.hid ((HB5.out.alloc HB5.out.size _).grown hg6 (by have := HB5.out.size; rw [World.size_alloc]; omega) (fun q e => own_ge HR5.out e))
            have HE := Lib.hid (show ∃ D', Counts F l (j + 1) D' ∧ w6.ownsRow wA.heap.size 3 1 v6 (j + 1) (zs D') from ⟨_, HDC.out.next HX.out HL.out, by unfold zs; rw [List.map_append]; exact hrow6⟩)
            have hw1 : IntKind.i64.wrap ((j : Int) + 1) = (j : Int) + 1 := IntWalk.i64_in _ (by omega)
            clear hrow6 hg6
            go_wp2
            exact ⟨⟨j + 1, v6, by omega, by congr 1, rfl, HE.out, HB6⟩, by simp [intOf]; omega⟩
          · have hke : j = k := by omega
            subst hke
            obtain ⟨D, hD, hrow⟩ := HD.out
            have HDC := Lib.hid hD
            have HFB := Lib.hid (HF.out.below HB.out)
            have HKB := Lib.hid (HK.out.trans (Keep.of HB.out HK.out.bl.size))
            have HROW := Lib.hid hrow
            clear hD hrow HD hj hgo
            go_wp2_with fail
            refine (free_any who wr HFB.out hw).mono ?_
            rintro e w5 ⟨rfl, ht5, hk5⟩
            have HT5 := Lib.hid ht5
            have HK5 := Lib.hid (HKB.out.trans hk5)
            obtain ⟨X, cX, rfl, hcX, hrX⟩ := own_rdA (own_keepC HROW.out hk5)
            have HRX := Lib.hid hrX
            clear ht5 hk5 hrX
            go_wp2_with fail
            go_loopw [9, 10] (fun i _ wr => ∃ q : Nat, q ≤ j ∧ i = .int .i64 q ∧ Hid (Below w5.heap.size w5 wr)) (fun i _ _ => j - (intOf i).toNat)
            case atStart => exact ⟨0, by omega, rfl, Below.refl _ _⟩
            case round =>
              obtain ⟨q, hq, rfl, HB2⟩ := hrel
              by_cases hgo : q < j
              · obtain ⟨x, hx⟩ : ∃ x, l[q]? = some x := ⟨_, List.getElem?_eq_getElem (by rw [← HN.out]; omega)⟩
                have hox := HOK.out x (List.mem_of_getElem? hx)
                have hki : (q : Int) < (m : Int) := by omega
                have hki2 : (q : Int) < 40 := by omega
                have hkb := Keep.of HB2.out (Nat.le_refl w5.heap.size)
                obtain ⟨b, o, rfl, c0, c1, c2, c3⟩ := act_at ((HRD.out.keep HK5.out).keep hkb) hx
                obtain ⟨M, hM, hDM⟩ := HDC.out.2 q x hgo hx
                obtain ⟨x0, x1, x2, x3⟩ := x
                have hx1 : wfI x1 := hox.1
                have hM : NamesIs F x1 M := hM
                obtain ⟨b2, o2, rfl, d1⟩ := (HRX.out.below HB2.out) q (.int .i64 (M.length : Int)) (by unfold zs; rw [List.getElem?_map, hDM]; rfl)
                have HNM := Lib.hid (names_any x1 wr (HT5.out.below HB2.out) hx1 (by omega))
                have HM := Lib.hid hM
                have hw1 : IntKind.i64.wrap ((q : Int) + 1) = (q : Int) + 1 := IntWalk.i64_in _ (by omega)
                clear hx hox hkb c0 c2 c3 hM hDM
                by_cases hxw : x1 = who
                · have hxb : (x1 == who) = true := by simpa using hxw
                  have HXW := Lib.hid hxw
                  clear hxw
                  go_wp2_with fail
                  refine HNM.out.mono ?_
                  rintro e w6 ⟨v6, L, rfl, hrow6, hL, hb6⟩
                  obtain ⟨X6, c6, rfl, _, _⟩ := own_rdA hrow6
                  rw [HXW.out] at hL
                  obtain rfl := names_freed hL
                  have HB6 := Lib.hid (HB2.out.trans (hb6.mono HB2.out.size))
                  clear hrow6 hL hb6
                  simp only [List.length_nil]
                  go_wp2_with fail
                  exact ⟨⟨q + 1, by omega, by congr 1, HB6⟩, by simp [intOf]; omega⟩
                · have hxb : (x1 == who) = false := by simpa using hxw
                  have HXW := Lib.hid hxw
                  clear hxw
                  go_wp2_with fail
                  refine HNM.out.mono ?_
                  rintro e w6 ⟨v6, L, rfl, hrow6, hL, hb6⟩
                  obtain ⟨X6, c6, rfl, _, _⟩ := own_rdA hrow6
                  obtain rfl := names_one (names_other hL HXW.out) HM.out
                  have HB6 := Lib.hid (HB2.out.trans (hb6.mono HB2.out.size))
                  have hLL : ((L.length : Int) != (L.length : Int)) = false := by simp
                  clear hrow6 hL hb6
                  go_wp2_with fail
                  exact ⟨⟨q + 1, by omega, by congr 1, HB6⟩, by simp [intOf]; omega⟩
              · have hke : q = j := by omega
                subst hke
                have HNM := Lib.hid (names_any who wr (HT5.out.below HB2.out) hw (by omega))
                clear hq hgo
                go_wp2_with fail
                refine HNM.out.mono ?_
                rintro e w6 ⟨v6, L, rfl, hrow6, hL, hb6⟩
                obtain ⟨X6, c6, rfl, _, _⟩ := own_rdA hrow6
                obtain rfl := names_freed hL
                have HB6 := Lib.hid (HB2.out.trans (hb6.mono HB2.out.size))
                clear hrow6 hL hb6
                simp only [List.length_nil]
                go_wp2_with fail
                refine (sure_any w6 ((HG.out.keep HK5.out).keep (Keep.of HB6.out (Nat.le_refl _)))).mono ?_
                rintro e w8 ⟨rfl, hb8⟩
                have HB8 := Lib.hid (HB6.out.trans (hb8.mono HB6.out.size))
                clear hb8
                go_wp2_with fail
                go_ret
                exact ⟨rfl, HK5.out.bl.trans (HB8.out.mono HK5.out.bl.size)⟩
  · obtain ⟨kk, hkk⟩ : ∃ kk : Nat, kk = m := ⟨_, rfl⟩
    have hkm : kk ≤ m := by omega
    have hk40 : kk ≤ 40 := by omega
    go_enter Tryd.func4, Tryd.ntmps4
    go_wp2_with fail
    refine (new_any W).mono ?_
    rintro e w1 ⟨t, rfl, ht, hlt, hb1⟩
    have HT0 := Lib.hid (show Tab W.heap.size (3 * 0) w1 t (fun _ _ => 0) from ht)
    have HK0 := Lib.hid (Keep.of hb1 (Nat.le_refl _))
    clear ht hb1
    go_wp2_with fail
    go_loopw [6] (fun i wr => ∃ k : Nat, k ≤ kk ∧ i = .int .i64 k ∧ Hid (∃ F, Tab W.heap.size (3 * k) wr t F) ∧ Hid (Keep W.heap.size W wr)) (fun i _ => kk - (intOf i).toNat)
    case atStart => exact ⟨0, by omega, rfl, ⟨_, HT0.out⟩, HK0.out⟩
    case round =>
      obtain ⟨k, hk, rfl, HT, HK⟩ := hrel
      by_cases hgo : k < kk
      · obtain ⟨F, hF⟩ := HT.out
        obtain ⟨x, hx⟩ : ∃ x, l[k]? = some x := ⟨_, List.getElem?_eq_getElem (by rw [← HN.out]; omega)⟩
        have hox := HOK.out x (List.mem_of_getElem? hx)
        have hki : (k : Int) < (m : Int) := by omega
        have hki2 : (k : Int) < 40 := by omega
        obtain ⟨b, o, rfl, c0, c1, c2, c3⟩ := act_at (HRD.out.keep HK.out) hx
        have HX := Lib.hid hx
        obtain ⟨x0, x1, x2, x3⟩ := x
        have hx1 : wfI x1 := hox.1
        have hx2 : okS x2 := hox.2
        have HTK := Lib.hid (take_any x1 x2 x3 wr.drew (tab_drew hF) hx1 hx2 HK.out.bl.size (by omega))
        clear hx hox hF
        go_wp2
        go_region_held3 (fun w' => w'.cell? ⟨b, o + k * 4 + 1, none⟩ = some (.int .i64 x1) ∧ w'.cell? ⟨b, o + k * 4 + 2, none⟩ = some (.string ⟨x2.toArray⟩) ∧ w'.cell? ⟨b, o + k * 4 + 3, none⟩ = some (.bool x3)) (first | exact ⟨c1, c2, c3⟩ | exact ⟨c15, c25, c35⟩)
          (first
          | (go_at_call 9; refine HTK.out.mono ?_; rintro e w5 ⟨n5, rfl, _, ht5, hk5⟩; have hs5 := (keep_drew (L := W.heap.size) wr).trans hk5; have hkw5 := HK.out.trans hs5; obtain ⟨b', o', eb, c05, c15, c25, c35⟩ := act_at (HRD.out.keep hkw5) HX.out; cases eb; have HT5 := Lib.hid ht5; have HK5 := Lib.hid hkw5; clear ht5 hk5 hs5 hkw5 c05))
        have hw1 : IntKind.i64.wrap ((k : Int) + 1) = (k : Int) + 1 := IntWalk.i64_in _ (by omega)
        go_wp2
        exact ⟨⟨k + 1, by omega, by congr 1, ⟨_, HT5.out⟩, HK5⟩, by simp [intOf]; omega⟩
      · have hke : k = kk := by omega
        subst hke
        have x1 : ¬ (k : Int) < (m : Int) := by omega
        obtain ⟨F, hF⟩ := HT.out
        have HF := Lib.hid (hF.mono (N' := 200) (by omega))
        clear hF HT0 HK0 HT hk hgo
        obtain ⟨wA, hwA⟩ : ∃ w0, w0 = wr := ⟨_, rfl⟩
        subst hwA
        go_wp2_with fail
        go_loopw [7, 8] (fun o i wr => ∃ (j : Nat) (v1 : Value), j ≤ k ∧ i = .int .i64 j ∧ o = v1 ∧ Hid (∃ D, Counts F l j D ∧ wr.ownsRow wA.heap.size 3 1 v1 j (zs D)) ∧ Hid (Below wA.heap.size wA wr)) (fun _ i _ => k - (intOf i).toNat)
        case atStart => exact ⟨0, _, by omega, rfl, rfl, ⟨[], ⟨rfl, fun j x hj => by omega⟩, World.ownsRow_nil _ _ _ _⟩, Below.refl _ _⟩
        case round =>
          obtain ⟨j, v1, hj, rfl, rfl, HD, HB⟩ := hrel
          by_cases hgo : j < k
          · obtain ⟨D, hD, hrow⟩ := HD.out
            obtain ⟨x, hx⟩ : ∃ x, l[j]? = some x := ⟨_, List.getElem?_eq_getElem (by rw [← HN.out]; omega)⟩
            have hox := HOK.out x (List.mem_of_getElem? hx)
            have hki : (j : Int) < (m : Int) := by omega
            have hki2 : (j : Int) < 40 := by omega
            have hkb := Keep.of HB.out (Nat.le_refl wA.heap.size)
            obtain ⟨b, o, rfl, c0, c1, c2, c3⟩ := act_at ((HRD.out.keep HK.out).keep hkb) hx
            have HX := Lib.hid hx
            obtain ⟨x0, x1, x2, x3⟩ := x
            have hx1 : wfI x1 := hox.1
            have HNM := Lib.hid (names_any x1 wr (HF.out.below HB.out) hx1 (by omega))
            have HDC := Lib.hid hD
            have HROW := Lib.hid hrow
            clear hx hox hD hrow hkb c0 c2 c3
            go_wp2_with fail
            refine HNM.out.mono ?_
            rintro e w5 ⟨v5, L, rfl, hrow5, hL, hb5⟩
            obtain ⟨X5, c5, rfl, _, _⟩ := own_rdA hrow5
            have HL := Lib.hid hL
            have HB5 := Lib.hid (HB.out.trans (hb5.mono HB.out.size))
            have HR5 := Lib.hid (own_keepC HROW.out (Keep.of hb5 (Nat.le_refl _)))
            clear hrow5 hL hb5
            go_wp2_with (at_builtin; refine Hid.out ?_)
            unfold Hid
            refine wpList_append_own _ rfl (.tmp 51) (.tmp 60) 37 rfl wA.heap.size 3 iI (.int .i64 0) 1 8 Tryd.underlying37 hiI hz0 hz1 hz2 rfl (by decide) _ j (zs D) rfl (own_keepC HR5.out (Keep.of ((Below.refl _ _).alloc (Nat.le_refl _) _) (Nat.le_refl _))) _ 1 1 [.int .i64 (L.length : Int)] rfl rfl (one_new _ _) (fun u hu => by rw [List.mem_singleton.1 hu]; rfl) (by unfold maxLen; omega) (by omega) (by have := HB5.out.size; rw [World.size_alloc]; omega) ?_
            intro v6 w6 hrow6 hg6 _
            have HB6 := Lib.hid ((HB5.out.alloc HB5.out.size _).grown hg6 (by have := HB5.out.size; rw [World.size_alloc]; omega) (fun q e => own_ge HR5.out e))
            have HE := Lib.hid (show ∃ D', Counts F l (j + 1) D' ∧ w6.ownsRow wA.heap.size 3 1 v6 (j + 1) (zs D') from ⟨_, HDC.out.next HX.out HL.out, by unfold zs; rw [List.map_append]; exact hrow6⟩)
            have hw1 : IntKind.i64.wrap ((j : Int) + 1) = (j : Int) + 1 := IntWalk.i64_in _ (by omega)
            clear hrow6 hg6
            go_wp2
            exact ⟨⟨j + 1, v6, by omega, by congr 1, rfl, HE.out, HB6⟩, by simp [intOf]; omega⟩
          · have hke : j = k := by omega
            subst hke
            obtain ⟨D, hD, hrow⟩ := HD.out
            have HDC := Lib.hid hD
            have HFB := Lib.hid (HF.out.below HB.out)
            have HKB := Lib.hid (HK.out.trans (Keep.of HB.out HK.out.bl.size))
            have HROW := Lib.hid hrow
            clear hD hrow HD hj hgo
            go_wp2_with fail
            refine (free_any who wr HFB.out hw).mono ?_
            rintro e w5 ⟨rfl, ht5, hk5⟩
            have HT5 := Lib.hid ht5
            have HK5 := Lib.hid (HKB.out.trans hk5)
            obtain ⟨X, cX, rfl, hcX, hrX⟩ := own_rdA (own_keepC HROW.out hk5)
            have HRX := Lib.hid hrX
            clear ht5 hk5 hrX
            go_wp2_with fail
            go_loopw [9, 10] (fun i _ wr => ∃ q : Nat, q ≤ j ∧ i = .int .i64 q ∧ Hid (Below w5.heap.size w5 wr)) (fun i _ _ => j - (intOf i).toNat)
            case atStart => exact ⟨0, by omega, rfl, Below.refl _ _⟩
            case round =>
              obtain ⟨q, hq, rfl, HB2⟩ := hrel
              by_cases hgo : q < j
              · obtain ⟨x, hx⟩ : ∃ x, l[q]? = some x := ⟨_, List.getElem?_eq_getElem (by rw [← HN.out]; omega)⟩
                have hox := HOK.out x (List.mem_of_getElem? hx)
                have hki : (q : Int) < (m : Int) := by omega
                have hki2 : (q : Int) < 40 := by omega
                have hkb := Keep.of HB2.out (Nat.le_refl w5.heap.size)
                obtain ⟨b, o, rfl, c0, c1, c2, c3⟩ := act_at ((HRD.out.keep HK5.out).keep hkb) hx
                obtain ⟨M, hM, hDM⟩ := HDC.out.2 q x hgo hx
                obtain ⟨x0, x1, x2, x3⟩ := x
                have hx1 : wfI x1 := hox.1
                have hM : NamesIs F x1 M := hM
                obtain ⟨b2, o2, rfl, d1⟩ := (HRX.out.below HB2.out) q (.int .i64 (M.length : Int)) (by unfold zs; rw [List.getElem?_map, hDM]; rfl)
                have HNM := Lib.hid (names_any x1 wr (HT5.out.below HB2.out) hx1 (by omega))
                have HM := Lib.hid hM
                have hw1 : IntKind.i64.wrap ((q : Int) + 1) = (q : Int) + 1 := IntWalk.i64_in _ (by omega)
                clear hx hox hkb c0 c2 c3 hM hDM
                by_cases hxw : x1 = who
                · have hxb : (x1 == who) = true := by simpa using hxw
                  have HXW := Lib.hid hxw
                  clear hxw
                  go_wp2_with fail
                  refine HNM.out.mono ?_
                  rintro e w6 ⟨v6, L, rfl, hrow6, hL, hb6⟩
                  obtain ⟨X6, c6, rfl, _, _⟩ := own_rdA hrow6
                  rw [HXW.out] at hL
                  obtain rfl := names_freed hL
                  have HB6 := Lib.hid (HB2.out.trans (hb6.mono HB2.out.size))
                  clear hrow6 hL hb6
                  simp only [List.length_nil]
                  go_wp2_with fail
                  exact ⟨⟨q + 1, by omega, by congr 1, HB6⟩, by simp [intOf]; omega⟩
                · have hxb : (x1 == who) = false := by simpa using hxw
                  have HXW := Lib.hid hxw
                  clear hxw
                  go_wp2_with fail
                  refine HNM.out.mono ?_
                  rintro e w6 ⟨v6, L, rfl, hrow6, hL, hb6⟩
                  obtain ⟨X6, c6, rfl, _, _⟩ := own_rdA hrow6
                  obtain rfl := names_one (names_other hL HXW.out) HM.out
                  have HB6 := Lib.hid (HB2.out.trans (hb6.mono HB2.out.size))
                  have hLL : ((L.length : Int) != (L.length : Int)) = false := by simp
                  clear hrow6 hL hb6
                  go_wp2_with fail
                  exact ⟨⟨q + 1, by omega, by congr 1, HB6⟩, by simp [intOf]; omega⟩
              · have hke : q = j := by omega
                subst hke
                have HNM := Lib.hid (names_any who wr (HT5.out.below HB2.out) hw (by omega))
                clear hq hgo
                go_wp2_with fail
                refine HNM.out.mono ?_
                rintro e w6 ⟨v6, L, rfl, hrow6, hL, hb6⟩
                obtain ⟨X6, c6, rfl, _, _⟩ := own_rdA hrow6
                obtain rfl := names_freed hL
                have HB6 := Lib.hid (HB2.out.trans (hb6.mono HB2.out.size))
                clear hrow6 hL hb6
                simp only [List.length_nil]
                go_wp2_with fail
                refine (sure_any w6 ((HG.out.keep HK5.out).keep (Keep.of HB6.out (Nat.le_refl _)))).mono ?_
                rintro e w8 ⟨rfl, hb8⟩
                have HB8 := Lib.hid (HB6.out.trans (hb8.mono HB6.out.size))
                clear hb8
                go_wp2_with fail
                go_ret
                exact ⟨rfl, HK5.out.bl.trans (HB8.out.mono HK5.out.bl.size)⟩
end Go.Proofs.YtnnadhfpkplncaaDoor
