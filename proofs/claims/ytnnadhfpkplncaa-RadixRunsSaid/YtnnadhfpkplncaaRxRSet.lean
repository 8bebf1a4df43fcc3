/- The reference's Set and Get. Condition: the items read, no more than 4096 of them. -/
import Derived.Test.YtnnadhfpkplncaaRxIt
namespace Go.Proofs.Ytnnadhfpkplncaa
open Go.RowKit

theorem alloc_new (w : World) (o : Obj) : (w.alloc o).heap[w.heap.size]? = some o := by
  show (w.heap.push o)[w.heap.size]? = some o
  rw [Array.getElem?_push_size]
theorem rd_one (w : World) (z n : Int) : RdItems (w.alloc (.cells #[.int .i64 z, .int .i64 n] 28)) (some ⟨w.heap.size, 0, none⟩) [(z, n)] := by
  intro i u hi
  have hlen : (its [(z, n)]).length = 2 := rfl
  have hlt := (List.getElem?_eq_some_iff.1 hi).1
  rw [hlen] at hlt
  refine ⟨_, 0, rfl, ?_⟩
  match i, hlt, hi with
  | 0, _, hi => cases hi; rw [block_cell (alloc_new _ _)]; rfl
  | 1, _, hi => cases hi; rw [block_cell (alloc_new _ _)]; rfl
theorem RdItems.dropAt {w : World} {b o : Nat} {l : List (Int × Int)} (h : RdItems w (some ⟨b, o, none⟩) l) {k : Nat} (hk : k ≤ l.length) : RdItems w (some ⟨b, o + k * 2, none⟩) (l.drop k) := by
  have := h.drop hk
  rwa [Option.map_some, WideShapes.add_plain] at this
def SetIt (z n : Int) (L : List (Int × Int)) (w : World) (e : Ending) (w' : World) : Prop := ∃ v', e = .returned v' ∧ OwnI 0 w' v' (setL n L z) ∧ Below w.heap.size w w'
set_option maxRecDepth 100000 in
set_option maxHeartbeats 1600000 in
theorem rset_in (L : List (Int × Int)) (z n : Int) (v : Value) (w : World) (hz : 0 ≤ z ∧ z ≤ 4095) (hL : L.length ≤ 4096) (h : OwnI 0 w v L) :
    Calls Try.prog 17 #[v, .int .i64 z, .int .i64 n] w (SetIt z n L w) := by
  obtain ⟨A, c, rfl, hc, hr⟩ := h.read
  have HR := Lib.hid hr
  have h1 : ¬ z < 0 := by omega
  have h2 : ¬ 4095 < z := by omega
  obtain ⟨m, hm⟩ : ∃ m, m = L.length := ⟨_, rfl⟩
  rw [← hm] at hL hc ⊢
  have HM := Lib.hid hm
  have HP := Lib.hid (pos_le L z)
  clear hr h hm
  go_enter Try.func17, Try.ntmps17
  go_wp2
  go_loopw [8] (fun i wr => ∃ k : Nat, k ≤ pos L z ∧ i = .int .i64 k ∧ wr = w) (fun i _ => m - (intOf i).toNat)
  case atStart => exact ⟨0, by omega, rfl, rfl⟩
  case round =>
    obtain ⟨k, hk, rfl, rfl⟩ := hrel
    rcases Nat.lt_or_ge k m with hkm | hkm
    · obtain ⟨x, hx⟩ : ∃ x, L[k]? = some x := ⟨_, List.getElem?_eq_getElem (by rw [← HM.out]; omega)⟩
      have hpl := pos_lt hx hk
      obtain ⟨b, o, rfl, c1, c2⟩ := HR.out.at hx
      have hki : (k : Int) < (m : Int) := by omega
      have HX := Lib.hid hx
      clear hx c2
      by_cases hxz : x.1 < z
      · have hw : IntKind.i64.wrap ((k : Int) + 1) = (k : Int) + 1 := IntWalk.i64_in _ (by omega)
        have HK := Lib.hid (hpl.2 hxz)
        clear hpl
        go_wp2
        go_roundw
        case rel => exact ⟨k + 1, HK.out, rfl, trivial⟩
        case measure => simp [intOf]; omega
      · have hk2 : k = pos L z := by
          have := fun h => hxz (hpl.1 h)
          omega
        have HK := Lib.hid hk2
        by_cases hxe : x.1 = z
        · have HE := Lib.hid (show (if ((L[pos L z]?).any fun x => decide (x.1 = z)) = true then pos L z + 1 else pos L z) = pos L z + 1 by rw [← hk2, HX.out, if_pos (by simpa using hxe)])
          have hw : IntKind.i64.wrap ((k : Int) + 1) = (k : Int) + 1 := IntWalk.i64_in _ (by omega)
          have hxb : (x.1 == z) = true := by simpa using hxe
          clear hk hpl hk2 hxe
          go_wp2_with (at_builtin; refine Hid.out ?_)
          unfold Hid
          refine app_items rfl (.tmp 31) (.tmp 34) rfl wr.heap.size _ [] rfl (OwnI.nil _ _) _ _ _ (L.take k) rfl (by rw [List.length_take]; have := HM.out; omega) (HR.out.take k) (by simp; omega) (Nat.le_refl _) fun v1 w1 o1 b1 => ?_
          rw [List.nil_append] at o1
          have O1 := Lib.hid o1
          have B1 := Lib.hid b1
          have HR1 := Lib.hid (HR.out.below b1)
          have hx1 := (HR1.out.at HX.out)
          obtain ⟨b', o', eb, c11, c12⟩ := hx1
          cases eb
          clear c1 c12
          clear o1 b1
          by_cases hn : n = 0
          · have hnb : (n != 0) = false := by simp [hn]
            have HN := Lib.hid hn
            clear hn
            go_wp2_with (at_builtin; refine Hid.out ?_)
            all_goals
              unfold Hid
              refine app_items rfl (.tmp 59) (.tmp 62) rfl wr.heap.size _ _ rfl O1.out _ _ _ (L.drop (k + 1)) rfl (by rw [List.length_drop, ← HM.out]; try omega) (by first | exact RdItems.dropAt HR1.out (by have := HM.out; omega) | (rw [List.drop_eq_nil_iff.2 (by have := HM.out; omega)]; exact RdItems.nil _ _)) (by have := List.length_take_le k L; first | omega | (rw [List.length_append]; have e1 : [(z, n)].length = 1 := rfl; omega)) B1.out.size fun v3 w3 o3 b3 => ?_
              have B3 := Lib.hid (B1.out.trans b3)
              have O3 := Lib.hid o3
              clear o3 b3
              go_wp2
              go_ret
              refine ⟨_, rfl, ?_, B3.out⟩
              rw [setL_pos, HE.out]
              rw [← HK.out]
              unfold setAt
              rw [if_neg (fun c => c HN.out), List.append_nil]
              exact O3.out.base (Nat.zero_le _)
          · have hnb : (n != 0) = true := by simp [hn]
            have HN := Lib.hid hn
            clear hn
            go_wp2_with (at_builtin; refine Hid.out ?_)
            unfold Hid
            refine app_items rfl (.tmp 38) (.tmp 42) rfl wr.heap.size _ _ rfl (O1.out.below ((Below.refl _ _).alloc (Nat.le_refl _) _)) _ _ _ [(z, n)] rfl rfl (rd_one _ _ _) (by rw [List.length_take]; omega) (by have := B1.out.size; rw [World.size_alloc]; omega) fun v2 w2 o2 b2 => ?_
            have B2 := Lib.hid ((B1.out.alloc B1.out.size _).trans b2)
            have O2 := Lib.hid o2
            have HR2 := Lib.hid (HR.out.below B2.out)
            have hx1 := (HR2.out.at HX.out)
            obtain ⟨b', o', eb, c21, c22⟩ := hx1
            cases eb
            clear c11 c22
            clear o2 b2
            go_wp2_with (at_builtin; refine Hid.out ?_)
            all_goals
              unfold Hid
              refine app_items rfl (.tmp 59) (.tmp 62) rfl wr.heap.size _ _ rfl O2.out _ _ _ (L.drop (k + 1)) rfl (by rw [List.length_drop, ← HM.out]; try omega) (by first | exact RdItems.dropAt HR2.out (by have := HM.out; omega) | (rw [List.drop_eq_nil_iff.2 (by have := HM.out; omega)]; exact RdItems.nil _ _)) (by have := List.length_take_le k L; first | omega | (rw [List.length_append]; have e1 : [(z, n)].length = 1 := rfl; omega)) B2.out.size fun v3 w3 o3 b3 => ?_
              have B3 := Lib.hid (B2.out.trans b3)
              have O3 := Lib.hid o3
              clear o3 b3
              go_wp2
              go_ret
              refine ⟨_, rfl, ?_, B3.out⟩
              rw [setL_pos, HE.out]
              rw [← HK.out]
              unfold setAt
              rw [if_pos HN.out]
              exact O3.out.base (Nat.zero_le _)
        · have HE := Lib.hid (show (if ((L[pos L z]?).any fun x => decide (x.1 = z)) = true then pos L z + 1 else pos L z) = pos L z by rw [← hk2, HX.out, if_neg (by simpa using hxe)])
          have hxb : (x.1 == z) = false := by simpa using hxe
          clear hk hpl hk2 hxe
          go_wp2_with (at_builtin; refine Hid.out ?_)
          unfold Hid
          refine app_items rfl (.tmp 31) (.tmp 34) rfl wr.heap.size _ [] rfl (OwnI.nil _ _) _ _ _ (L.take k) rfl (by rw [List.length_take]; have := HM.out; omega) (HR.out.take k) (by simp; omega) (Nat.le_refl _) fun v1 w1 o1 b1 => ?_
          rw [List.nil_append] at o1
          have O1 := Lib.hid o1
          have B1 := Lib.hid b1
          have HR1 := Lib.hid (HR.out.below b1)
          have hx1 := (HR1.out.at HX.out)
          obtain ⟨b', o', eb, c11, c12⟩ := hx1
          cases eb
          clear c1 c12
          clear o1 b1
          by_cases hn : n = 0
          · have hnb : (n != 0) = false := by simp [hn]
            have HN := Lib.hid hn
            clear hn
            go_wp2_with (at_builtin; refine Hid.out ?_)
            all_goals
              unfold Hid
              refine app_items rfl (.tmp 59) (.tmp 62) rfl wr.heap.size _ _ rfl O1.out _ _ _ (L.drop (k)) rfl (by rw [List.length_drop, ← HM.out]; try omega) (by first | exact RdItems.dropAt HR1.out (by have := HM.out; omega) | (rw [List.drop_eq_nil_iff.2 (by have := HM.out; omega)]; exact RdItems.nil _ _)) (by have := List.length_take_le k L; first | omega | (rw [List.length_append]; have e1 : [(z, n)].length = 1 := rfl; omega)) B1.out.size fun v3 w3 o3 b3 => ?_
              have B3 := Lib.hid (B1.out.trans b3)
              have O3 := Lib.hid o3
              clear o3 b3
              go_wp2
              go_ret
              refine ⟨_, rfl, ?_, B3.out⟩
              rw [setL_pos, HE.out]
              rw [← HK.out]
              unfold setAt
              rw [if_neg (fun c => c HN.out), List.append_nil]
              exact O3.out.base (Nat.zero_le _)
          · have hnb : (n != 0) = true := by simp [hn]
            have HN := Lib.hid hn
            clear hn
            go_wp2_with (at_builtin; refine Hid.out ?_)
            unfold Hid
            refine app_items rfl (.tmp 38) (.tmp 42) rfl wr.heap.size _ _ rfl (O1.out.below ((Below.refl _ _).alloc (Nat.le_refl _) _)) _ _ _ [(z, n)] rfl rfl (rd_one _ _ _) (by rw [List.length_take]; omega) (by have := B1.out.size; rw [World.size_alloc]; omega) fun v2 w2 o2 b2 => ?_
            have B2 := Lib.hid ((B1.out.alloc B1.out.size _).trans b2)
            have O2 := Lib.hid o2
            have HR2 := Lib.hid (HR.out.below B2.out)
            have hx1 := (HR2.out.at HX.out)
            obtain ⟨b', o', eb, c21, c22⟩ := hx1
            cases eb
            clear c11 c22
            clear o2 b2
            go_wp2_with (at_builtin; refine Hid.out ?_)
            all_goals
              unfold Hid
              refine app_items rfl (.tmp 59) (.tmp 62) rfl wr.heap.size _ _ rfl O2.out _ _ _ (L.drop (k)) rfl (by rw [List.length_drop, ← HM.out]; try omega) (by first | exact RdItems.dropAt HR2.out (by have := HM.out; omega) | (rw [List.drop_eq_nil_iff.2 (by have := HM.out; omega)]; exact RdItems.nil _ _)) (by have := List.length_take_le k L; first | omega | (rw [List.length_append]; have e1 : [(z, n)].length = 1 := rfl; omega)) B2.out.size fun v3 w3 o3 b3 => ?_
              have B3 := Lib.hid (B2.out.trans b3)
              have O3 := Lib.hid o3
              clear o3 b3
              go_wp2
              go_ret
              refine ⟨_, rfl, ?_, B3.out⟩
              rw [setL_pos, HE.out]
              rw [← HK.out]
              unfold setAt
              rw [if_pos HN.out]
              exact O3.out.base (Nat.zero_le _)
    · have hk2 : k = m := by have := HP.out; have := HM.out; omega
      have hk3 : k = pos L z := by have := HP.out; have := HM.out; omega
      have HE := Lib.hid (show (if ((L[pos L z]?).any fun x => decide (x.1 = z)) = true then pos L z + 1 else pos L z) = pos L z by rw [← hk3, List.getElem?_eq_none (by have := HM.out; omega)]; rfl)
      have HK := Lib.hid hk3
      have hki : ¬ (k : Int) < (m : Int) := by omega
      subst hk2
      clear hk hk3 hkm
      rcases A with _ | A
      · go_wp2_with (at_builtin; refine Hid.out ?_)
        unfold Hid
        refine app_items rfl (.tmp 31) (.tmp 34) rfl wr.heap.size _ [] rfl (OwnI.nil _ _) _ _ _ (L.take k) rfl (by rw [List.length_take]; have := HM.out; omega) (HR.out.take k) (by simp; omega) (Nat.le_refl _) fun v1 w1 o1 b1 => ?_
        rw [List.nil_append] at o1
        have O1 := Lib.hid o1
        have B1 := Lib.hid b1
        have HR1 := Lib.hid (HR.out.below b1)
        clear o1 b1
        by_cases hn : n = 0
        · have hnb : (n != 0) = false := by simp [hn]
          have HN := Lib.hid hn
          clear hn
          go_wp2_with (at_builtin; refine Hid.out ?_)
          all_goals
            unfold Hid
            refine app_items rfl (.tmp 59) (.tmp 62) rfl wr.heap.size _ _ rfl O1.out _ _ _ (L.drop (k)) rfl (by rw [List.length_drop, ← HM.out]; try omega) (by first | exact RdItems.dropAt HR1.out (by have := HM.out; omega) | (rw [List.drop_eq_nil_iff.2 (by have := HM.out; omega)]; exact RdItems.nil _ _)) (by have := List.length_take_le k L; first | omega | (rw [List.length_append]; have e1 : [(z, n)].length = 1 := rfl; omega)) B1.out.size fun v3 w3 o3 b3 => ?_
            have B3 := Lib.hid (B1.out.trans b3)
            have O3 := Lib.hid o3
            clear o3 b3
            go_wp2
            go_ret
            refine ⟨_, rfl, ?_, B3.out⟩
            rw [setL_pos, HE.out]
            rw [← HK.out]
            unfold setAt
            rw [if_neg (fun c => c HN.out), List.append_nil]
            exact O3.out.base (Nat.zero_le _)
        · have hnb : (n != 0) = true := by simp [hn]
          have HN := Lib.hid hn
          clear hn
          go_wp2_with (at_builtin; refine Hid.out ?_)
          unfold Hid
          refine app_items rfl (.tmp 38) (.tmp 42) rfl wr.heap.size _ _ rfl (O1.out.below ((Below.refl _ _).alloc (Nat.le_refl _) _)) _ _ _ [(z, n)] rfl rfl (rd_one _ _ _) (by rw [List.length_take]; omega) (by have := B1.out.size; rw [World.size_alloc]; omega) fun v2 w2 o2 b2 => ?_
          have B2 := Lib.hid ((B1.out.alloc B1.out.size _).trans b2)
          have O2 := Lib.hid o2
          have HR2 := Lib.hid (HR.out.below B2.out)
          clear o2 b2
          go_wp2_with (at_builtin; refine Hid.out ?_)
          all_goals
            unfold Hid
            refine app_items rfl (.tmp 59) (.tmp 62) rfl wr.heap.size _ _ rfl O2.out _ _ _ (L.drop (k)) rfl (by rw [List.length_drop, ← HM.out]; try omega) (by first | exact RdItems.dropAt HR2.out (by have := HM.out; omega) | (rw [List.drop_eq_nil_iff.2 (by have := HM.out; omega)]; exact RdItems.nil _ _)) (by have := List.length_take_le k L; first | omega | (rw [List.length_append]; have e1 : [(z, n)].length = 1 := rfl; omega)) B2.out.size fun v3 w3 o3 b3 => ?_
            have B3 := Lib.hid (B2.out.trans b3)
            have O3 := Lib.hid o3
            clear o3 b3
            go_wp2
            go_ret
            refine ⟨_, rfl, ?_, B3.out⟩
            rw [setL_pos, HE.out]
            rw [← HK.out]
            unfold setAt
            rw [if_pos HN.out]
            exact O3.out.base (Nat.zero_le _)
      · go_wp2_with (at_builtin; refine Hid.out ?_)
        unfold Hid
        refine app_items rfl (.tmp 31) (.tmp 34) rfl wr.heap.size _ [] rfl (OwnI.nil _ _) _ _ _ (L.take k) rfl (by rw [List.length_take]; have := HM.out; omega) (HR.out.take k) (by simp; omega) (Nat.le_refl _) fun v1 w1 o1 b1 => ?_
        rw [List.nil_append] at o1
        have O1 := Lib.hid o1
        have B1 := Lib.hid b1
        have HR1 := Lib.hid (HR.out.below b1)
        clear o1 b1
        by_cases hn : n = 0
        · have hnb : (n != 0) = false := by simp [hn]
          have HN := Lib.hid hn
          clear hn
          go_wp2_with (at_builtin; refine Hid.out ?_)
          all_goals
            unfold Hid
            refine app_items rfl (.tmp 59) (.tmp 62) rfl wr.heap.size _ _ rfl O1.out _ _ _ (L.drop (k)) rfl (by rw [List.length_drop, ← HM.out]; try omega) (by first | exact RdItems.dropAt HR1.out (by have := HM.out; omega) | (rw [List.drop_eq_nil_iff.2 (by have := HM.out; omega)]; exact RdItems.nil _ _)) (by have := List.length_take_le k L; first | omega | (rw [List.length_append]; have e1 : [(z, n)].length = 1 := rfl; omega)) B1.out.size fun v3 w3 o3 b3 => ?_
            have B3 := Lib.hid (B1.out.trans b3)
            have O3 := Lib.hid o3
            clear o3 b3
            go_wp2
            go_ret
            refine ⟨_, rfl, ?_, B3.out⟩
            rw [setL_pos, HE.out]
            rw [← HK.out]
            unfold setAt
            rw [if_neg (fun c => c HN.out), List.append_nil]
            exact O3.out.base (Nat.zero_le _)
        · have hnb : (n != 0) = true := by simp [hn]
          have HN := Lib.hid hn
          clear hn
          go_wp2_with (at_builtin; refine Hid.out ?_)
          unfold Hid
          refine app_items rfl (.tmp 38) (.tmp 42) rfl wr.heap.size _ _ rfl (O1.out.below ((Below.refl _ _).alloc (Nat.le_refl _) _)) _ _ _ [(z, n)] rfl rfl (rd_one _ _ _) (by rw [List.length_take]; omega) (by have := B1.out.size; rw [World.size_alloc]; omega) fun v2 w2 o2 b2 => ?_
          have B2 := Lib.hid ((B1.out.alloc B1.out.size _).trans b2)
          have O2 := Lib.hid o2
          have HR2 := Lib.hid (HR.out.below B2.out)
          clear o2 b2
          go_wp2_with (at_builtin; refine Hid.out ?_)
          all_goals
            unfold Hid
            refine app_items rfl (.tmp 59) (.tmp 62) rfl wr.heap.size _ _ rfl O2.out _ _ _ (L.drop (k)) rfl (by rw [List.length_drop, ← HM.out]; try omega) (by first | exact RdItems.dropAt HR2.out (by have := HM.out; omega) | (rw [List.drop_eq_nil_iff.2 (by have := HM.out; omega)]; exact RdItems.nil _ _)) (by have := List.length_take_le k L; first | omega | (rw [List.length_append]; have e1 : [(z, n)].length = 1 := rfl; omega)) B2.out.size fun v3 w3 o3 b3 => ?_
            have B3 := Lib.hid (B2.out.trans b3)
            have O3 := Lib.hid o3
            clear o3 b3
            go_wp2
            go_ret
            refine ⟨_, rfl, ?_, B3.out⟩
            rw [setL_pos, HE.out]
            rw [← HK.out]
            unfold setAt
            rw [if_pos HN.out]
            exact O3.out.base (Nat.zero_le _)
theorem rset_out (z n : Int) (v : Value) (w : World) (hz : ¬ (0 ≤ z ∧ z ≤ 4095)) :
    Calls Try.prog 17 #[v, .int .i64 z, .int .i64 n] w fun e w' => e = .returned v ∧ w' = w := by
  by_cases h1 : z < 0
  · clear hz
    go_enter Try.func17, Try.ntmps17
    go_wp2
    go_ret
    exact ⟨rfl, rfl⟩
  · have h2 : 4095 < z := by omega
    clear hz
    go_enter Try.func17, Try.ntmps17
    go_wp2
    go_ret
    exact ⟨rfl, rfl⟩
/-- The reference's Set keeps step with a function. -/
theorem rset_any (f : Nat → Int) (z n : Int) (v : Value) (w : World) (h : OwnI 0 w v (lstF f)) :
    Calls Try.prog 17 #[v, .int .i64 z, .int .i64 n] w fun e w' => ∃ v', e = .returned v' ∧ OwnI 0 w' v' (lstF (setF f z n)) ∧ Below w.heap.size w w' := by
  by_cases hz : 0 ≤ z ∧ z ≤ 4095
  · refine (rset_in (lstF f) z n v w hz (lst_le f) h).mono ?_
    rintro e w' ⟨v', rfl, ho, hb⟩
    rw [lst_set f z n hz] at ho
    exact ⟨v', rfl, ho, hb⟩
  · refine (rset_out z n v w hz).mono ?_
    rintro e w' ⟨rfl, rfl⟩
    rw [← lst_out f z n hz]
    exact ⟨v, rfl, h, Below.refl _ _⟩
theorem getL_drop : ∀ {l : List (Int × Int)} {k : Nat} {x : Int × Int} {z : Int}, l[k]? = some x → getL (l.drop k) z = if x.1 = z then x.2 else getL (l.drop (k + 1)) z
  | [], k, x, z, h => by simp at h
  | y :: l, 0, x, z, h => by
    simp only [List.getElem?_cons_zero, Option.some.injEq] at h
    subst h; rfl
  | y :: l, k + 1, x, z, h => getL_drop (l := l) (by simpa using h)
set_option maxRecDepth 100000 in
set_option maxHeartbeats 1600000 in
theorem rget_any (f : Nat → Int) (z : Int) (v : Value) (w : World) (h : OwnI 0 w v (lstF f)) :
    Calls Try.prog 19 #[v, .int .i64 z] w fun e w' => e = .returned (.int .i64 (getF f z)) ∧ Below w.heap.size w w' := by
  obtain ⟨A, c, rfl, hc, hr⟩ := h.read
  have hL := lst_le f
  rw [← lst_get]
  obtain ⟨L, hLL⟩ : ∃ L, L = lstF f := ⟨_, rfl⟩
  rw [← hLL] at hc hr hL ⊢
  have HR := Lib.hid hr
  obtain ⟨m, hm⟩ : ∃ m, m = L.length := ⟨_, rfl⟩
  rw [← hm] at hL hc ⊢
  have HM := Lib.hid hm
  clear hr h hm hLL
  go_enter Try.func19, Try.ntmps19
  go_wp2
  go_loopw [5] (fun i wr => ∃ k : Nat, k ≤ m ∧ i = .int .i64 k ∧ wr = w ∧ Hid (getL L z = getL (L.drop k) z)) (fun i _ => m - (intOf i).toNat)
  case atStart => exact ⟨0, by omega, rfl, rfl, Lib.hid rfl⟩
  case round =>
    obtain ⟨k, hk, rfl, rfl, HG⟩ := hrel
    rcases Nat.lt_or_ge k m with hkm | hkm
    · obtain ⟨x, hx⟩ : ∃ x, L[k]? = some x := ⟨_, List.getElem?_eq_getElem (by rw [← HM.out]; omega)⟩
      have hgd := getL_drop (z := z) hx
      rw [← HG.out] at hgd
      obtain ⟨b, o, rfl, c1, c2⟩ := HR.out.at hx
      have hki : (k : Int) < (m : Int) := by omega
      have hw : IntKind.i64.wrap ((k : Int) + 1) = (k : Int) + 1 := IntWalk.i64_in _ (by omega)
      clear hx HG
      by_cases hxz : x.1 = z
      · rw [if_pos hxz] at hgd
        have HG := Lib.hid hgd
        have hxb : (x.1 == z) = true := by simpa using hxz
        clear hgd hxz
        go_wp2
        go_ret
        exact ⟨by rw [HG.out]; rfl, Below.refl _ _⟩
      · rw [if_neg hxz] at hgd
        have HG := Lib.hid hgd
        have hxb : (x.1 == z) = false := by simpa using hxz
        clear hgd hxz
        go_wp2
        go_roundw
        case rel => exact ⟨k + 1, by omega, rfl, trivial, HG⟩
        case measure => simp [intOf]; omega
    · obtain rfl : k = m := by omega
      have hki : ¬ (k : Int) < (k : Int) := by omega
      have HZ := Lib.hid (show getL L z = 0 by rw [HG.out, List.drop_eq_nil_iff.2 (by have := HM.out; omega)]; rfl)
      clear HG hk hkm
      go_wp2
      go_ret
      exact ⟨by rw [HZ.out]; rfl, Below.refl _ _⟩
end Go.Proofs.Ytnnadhfpkplncaa
