/- The reference's Decode: the walk. Condition: the numbers are such as a code can have, no part is too long. -/
import Derived.Test.YtdeopklgdemnfaaDoorRsRDec
namespace Go.Proofs.YtdeopklgdemnfaaDoor
open Go.RowKit Gf Rs

/-- What has been seen of lengths: n, and whether any. -/
def Seen (ls : List (List F)) (ts : List Bool) (j : Nat) (n : Nat) (any : Bool) : Prop := evF (-1) (evZ ls ts) = evF (if any then (n : Int) else -1) ((evZ ls ts).drop j)
theorem Seen.skip {ls : List (List F)} {ts : List Bool} {j n : Nat} {any : Bool} (h : Seen ls ts j n any) (h1 : j < ls.length) (h2 : j < ts.length) (ht : ts[j] = false) : Seen ls ts (j + 1) n any := by
  unfold Seen at *
  rw [h, evZ_drop h1 h2, ht]; rfl
theorem Seen.same {ls : List (List F)} {ts : List Bool} {j n : Nat} {any : Bool} (h : Seen ls ts j n any) (h1 : j < ls.length) (h2 : j < ts.length) (ht : ts[j] = true) (hn : any = true → ls[j].length = n) : Seen ls ts (j + 1) ls[j].length true := by
  unfold Seen at *
  rw [h, evZ_drop h1 h2, ht]
  simp only [evF, if_true]
  cases any with
  | false => simp
  | true =>
    have := hn rfl
    rw [if_pos rfl, if_neg (by omega), if_pos (by omega), this]
theorem Seen.bad {ls : List (List F)} {ts : List Bool} {j n : Nat} (h : Seen ls ts j n true) (h1 : j < ls.length) (h2 : j < ts.length) (ht : ts[j] = true) (hn : ls[j].length ≠ n) : evF (-1) (evZ ls ts) = none := by
  unfold Seen at *
  rw [h, evZ_drop h1 h2, ht]
  simp only [evF, if_true]
  rw [if_neg (by omega), if_neg (by omega)]
theorem decS_none {K M : Nat} {ls : List (List F)} {ts : List Bool} (h1 : ls.length = K + M) (h2 : ts.length = K + M) (h : evF (-1) (evZ ls ts) = none) : decS K M ls ts = ([], 2) := by
  unfold decS; rw [if_pos ⟨h1, h2⟩, h]
theorem decS_few {K M : Nat} {n : Int} {ls : List (List F)} {ts : List Bool} (h1 : ls.length = K + M) (h2 : ts.length = K + M) (h : evF (-1) (evZ ls ts) = some n) (h3 : (pick K ts (K + M)).length < K) : decS K M ls ts = ([], 20) := by
  unfold decS; rw [if_pos ⟨h1, h2⟩, h]; simp only; rw [if_pos h3]
theorem decS_zero {K M : Nat} {n : Int} {ls : List (List F)} {ts : List Bool} (h1 : ls.length = K + M) (h2 : ts.length = K + M) (h : evF (-1) (evZ ls ts) = some n) (h3 : ¬ (pick K ts (K + M)).length < K) (h4 : minv K (mf ((pick K ts (K + M)).map (rowF K))) = none) : decS K M ls ts = ([], 14) := by
  unfold decS; rw [if_pos ⟨h1, h2⟩, h]; simp only; rw [if_neg h3, h4]
theorem decS_yes {K M : Nat} {n : Int} {X : Mat} {ls : List (List F)} {ts : List Bool} (h1 : ls.length = K + M) (h2 : ts.length = K + M) (h : evF (-1) (evZ ls ts) = some n) (h3 : ¬ (pick K ts (K + M)).length < K) (h4 : minv K (mf ((pick K ts (K + M)).map (rowF K))) = some X) :
    decS K M ls ts = (outF K (K + M) (dataF K (sq K X) ((pick K ts (K + M)).map fun i => ls.getD i []) n.toNat) n.toNat, 0) := by
  unfold decS; rw [if_pos ⟨h1, h2⟩, h]; simp only; rw [if_neg h3, h4]
theorem dataF_snoc {K n p : Nat} {first parts : List (List F)} (h : p < K) : (dataF K first parts n).take (p + 1) = (dataF K first parts n).take p ++ [mixL (first.getD p []) parts n] := take_snoc_map _ K p h
theorem sq_row {K p : Nat} {X : Mat} (h : p < K) : (sq K X).getD p [] = rowL K (X p) := by simp [sq, h]
theorem rows_Sq {K : Nat} {ps : List Nat} (hK : 1 ≤ K) (h32 : K ≤ 32) (hp : ps.length = K) : Sq (ps.map (rowF K)) := by
  refine ⟨by rw [List.length_map]; omega, by rw [List.length_map]; omega, fun i l hl => ?_⟩
  rw [List.getElem?_map] at hl
  rw [List.length_map, hp]
  cases e : ps[i]? with
  | none => rw [e] at hl; cases hl
  | some p => rw [e] at hl; simp at hl; rw [← hl]; exact rowF_length _ _
theorem apart_symm {a b : Option Nat} (h : a = none ∨ a ≠ b) : b = none ∨ b ≠ a := by
  rcases h with rfl | h
  · cases b with
    | none => exact Or.inl rfl
    | some k => exact Or.inr (fun e => by cases e)
  · exact Or.inr (Ne.symm h)
set_option maxRecDepth 100000 in
set_option maxHeartbeats 1600000 in
theorem rdec_S (fb K M : Nat) (hK : 1 ≤ K) (hs0 : K + M ≤ 32) (A1 A2 : Option Addr) (c1 c2 : Nat) (ls : List (List F)) (ts : List Bool) (hlen : ∀ (i : Nat) (l : List F), ls[i]? = some l → l.length ≤ 1048576) (w : World) (hfl : fb < w.heap.size) (h1 : RdM fb w A1 ls) (h2 : RdV fb w A2 (ts.map Value.bool)) :
    Calls Tryd.prog 49 #[.agg #[.int .i64 K, .int .i64 M], .slice A1 ls.length c1, .slice A2 ts.length c2] w (RRes w (decS K M ls ts)) := by
  by_cases hl : ls.length = K + M
  · by_cases ht : ts.length = K + M
    · have hal1 : ((ls.length : Int) != (K : Int) + (M : Int)) = false := by rw [hl]; simp
      have hal2 : ((ts.length : Int) != (K : Int) + (M : Int)) = false := by rw [ht]; simp
      have hlt1 : ls.length ≤ ts.length := by omega
      have hlt2 : ls.length ≤ 32 := by omega
      have HL := Lib.hid hl
      have HT := Lib.hid ht
      have HLEN := Lib.hid hlen
      clear hl ht hlen
      obtain ⟨iS, hiS, hzS0, hzS1, hzS2⟩ := infoTBS
      go_enter Tryd.func49, Tryd.ntmps49
      go_wp2
      go_loopw [8, 9, 10, 11, 12, 13, 14] (fun v1 v2 n an i _ _ wr => ∃ (j m : Nat) (b : Bool), j ≤ ls.length ∧ i = .int .i64 j ∧ n = .int .i64 m ∧ an = .bool b ∧ m ≤ 1048576 ∧ Below w.heap.size w wr ∧ wr.heap[w.heap.size]? = some (.cells #[.int .i64 K, .int .i64 M] 51 (0, 0)) ∧ Rows3 fb w wr K ls (pick K ts j) v1 v2 ∧ Hid (Seen ls ts j m b)) (fun _ _ _ _ i _ _ _ => ls.length - (intOf i).toNat)
      case atStart =>
        refine ⟨0, 0, false, by omega, rfl, rfl, rfl, by omega, (Below.refl _ _).alloc (Nat.le_refl _) _, heap_new _ _ _ rfl, ?_, rfl⟩
        rw [pick_zero]
        exact ⟨OutR.nil _ _, ⟨[], World.ownsRow_nil _ _ _ _, fun p i h => by simp at h⟩, Or.inl rfl⟩
      case round =>
        obtain ⟨j, m, b, hj, rfl, rfl, rfl, hm, hb, hcb, hr3, hseen⟩ := hrel
        have hk0 : wr.cell? ⟨w.heap.size, 0, none⟩ = some (.int .i64 K) := block_cell hcb
        have hk1 : wr.cell? ⟨w.heap.size, 1, none⟩ = some (.int .i64 M) := block_cell hcb
        have hsz := block_lt hcb
        obtain ⟨A3, c3, e1⟩ := hr3.rows.shape
        obtain ⟨hs2, o2, q2⟩ := hr3.parts
        obtain ⟨A4, c4, e2⟩ := ownsRow_shape o2
        rw [List.length_map] at e1
        subst e1
        subst e2
        have hple := pick_le K ts j
        by_cases hlt : j < ls.length
        · have hjt : j < ts.length := by omega
          obtain ⟨b2, o2', rfl, hb2, hc2⟩ := (h2.below hb).bool hjt
          obtain ⟨b5, o5, A5, c5, rfl, hb5, hc5w, hl5, h5⟩ := h1.at hlt
          have hc5 : wr.cell? ⟨b5, o5 + j, none⟩ = some (.slice A5 ls[j].length c5) := by rw [← hc5w]; exact World.cell?_of_block (hb.block b5 (cell_lt hc5w))
          have hlj := List.getElem?_eq_getElem hlt
          have hnj := HLEN.out _ _ hlj
          have HLJ := Lib.hid hlj
          clear hlj
          have hjti : (j : Int) < (ts.length : Int) := by omega
          cases htj : ts[j] with
          | false =>
            have hsk := hseen.out.skip hlt hjt htj
            have hpk := pick_no (K := K) (i := j) (ts := ts) (by rw [fl_eq hjt]; exact htj)
            have hr4 : Rows3 fb w wr K ls (pick K ts (j + 1)) (.slice A3 (pick K ts j).length c3) (.slice A4 (pick K ts j).length c4) := by rw [hpk]; exact hr3
            have HSK := Lib.hid hsk
            have HR := Lib.hid hr4
            rw [htj] at hc2
            clear htj hsk hr3 hr4 hpk hseen o2 q2
            generalize (pick K ts j).length = pl at *
            go_wp2
            exact ⟨⟨j + 1, m, b, by omega, by go_num, rfl, rfl, hm, hb, hcb, HR.out, HSK.out⟩, by simp [intOf]; omega⟩
          | true =>
            rw [htj] at hc2
            have HTJ := Lib.hid htj
            clear htj
            by_cases hbad : b = true ∧ ls[j].length ≠ m
            · obtain ⟨rfl, hne⟩ := hbad
              have hS := decS_none HL.out HT.out (hseen.out.bad hlt hjt HTJ.out hne)
              have HS := Lib.hid hS
              have hnb : ((ls[j].length : Int) != (m : Int)) = true := by rw [bne_iff_ne]; omega
              clear hS hne hseen hr3 o2 q2 HLJ h5
              generalize ls[j].length = L at *
              generalize (pick K ts j).length = pl at *
              go_wp2
              go_ret2
              exact RRes.no HS.out rfl hb
            · have hsame : b = true → ls[j].length = m := fun hbt => by
                rcases Nat.decEq ls[j].length m with h | h
                · exact absurd ⟨hbt, h⟩ hbad
                · exact h
              have hsk := hseen.out.same hlt hjt HTJ.out hsame
              have HSK := Lib.hid hsk
              have HSAME := Lib.hid hsame
              clear hsk hsame hbad hseen
              generalize hqj : ls[j] = l at *
              clear hqj
              have hnbb : b = true → ((l.length : Int) != (m : Int)) = false := fun hbt => by rw [HSAME.out hbt]; simp
              have HNB := Lib.hid hnbb
              clear hnbb
              by_cases hful : (pick K ts j).length < K
              · have hpk := pick_yes (K := K) (i := j) (ts := ts) (by rw [fl_eq hjt]; exact HTJ.out) hful
                have HPK := Lib.hid hpk
                clear hpk
                generalize hps : pick K ts j = ps at *
                clear hps
                have hjKM : j < K + M := by rw [← HL.out]; exact hlt
                have hps0 : ps.length ≤ 32 := by omega
                cases b
                case' true => have hnb := HNB.out rfl
                all_goals
                  go_wp2_with fail
                  refine (rrow_good K M hs0 j hjKM wr).mono ?_
                  rintro e w2 ⟨v2, rfl, ho2, hb2⟩
                  obtain ⟨A6, c6, rfl⟩ := ho2.shape
                  have hr5 := (hr3.below hb2).below ((Below.refl _ _).alloc (Nat.le_refl _) (.cells #[.slice A6 (rowF K j).length c6] 54))
                  have hbw2 := hb.trans (hb2.mono hb.size)
                  have hcb2 := (hb2.block _ hsz).trans hcb
                  have hs22 := hb2.size
                  have o2b := own_of_below (own_of_below o2 hb2 fun g e => (World.ownsRow.lt o2 g e).2) ((Below.refl w2.heap.size w2).alloc (Nat.le_refl _) (.cells #[.slice A6 (rowF K j).length c6] 54)) (fun g e => by have := (World.ownsRow.lt o2 g e).2; omega)
                  have HR5 := Lib.hid hr5
                  have HO2B := Lib.hid o2b
                  have Q2 := Lib.hid q2
                  clear hr3 hr5 o2 o2b hb hcb hk0 hk1 hc2 hc5 hb2 q2
                  go_wp2_with (at_builtin; refine Hid.out ?_)
                  unfold Hid
                  refine app_rowX rfl _ _ rfl (w.heap.size + 1) _ (ps.map (rowF K)) rfl HR5.out.rows w2.heap.size _ (rowF K j) rfl (by simp) ((ho2.v.base (by omega)).below ((Below.refl _ _).alloc (Nat.le_refl _) _)) (by rw [List.length_map]; omega) (by simp; omega) ?_
                  intro v1' w3 o1 g1 a1
                  have hbw3 := (hbw2.alloc (by omega) _).grown g1 (by simp; omega) (fun k e => by have := (HR5.out.rows.lt k e).1; omega)
                  have hlw := block_lt hcb2
                  have hcb3 := (g1.block w.heap.size (by simp; omega) (fun e => by have := (HR5.out.rows.lt _ e.symm).1; omega)).trans ((Below.heap_alloc _ _ _ hlw).trans hcb2)
                  have o23 := World.ownsRow.kept HO2B.out g1 (apart_symm HR5.out.apart)
                  have hc53 : w3.cell? ⟨b5, o5 + j, none⟩ = some (.slice A5 l.length c5) := by rw [← hc5w]; exact World.cell?_of_block (hbw3.block b5 (cell_lt hc5w))
                  have hs33 := g1.size
                  have O1 := Lib.hid o1
                  have G1 := Lib.hid g1
                  have AA1 := Lib.hid a1
                  have o23a := own_of_below o23 ((Below.refl w3.heap.size w3).alloc (Nat.le_refl _) (.cells #[.slice A5 l.length c5] 54)) (fun g e => (World.ownsRow.lt o23 g e).2)
                  have O23 := Lib.hid o23a
                  have o2lt := World.ownsRow.lt o23
                  have O2L := Lib.hid o2lt
                  clear o1 g1 a1 o23 o23a hcb2 hbw2 HO2B ho2 o2lt
                  simp only [World.size_alloc] at hs33
                  go_wp2_with (at_builtin; refine Hid.out ?_)
                  unfold Hid
                  refine wpList_append_at rfl _ _ 61 rfl (w.heap.size + 1) 54 iS (.slice none 0 0) 1 24 Tryd.underlying61 hiS hzS0 hzS1 hzS2 rfl (by decide) _ ps.length hs2 rfl O23.out ⟨w3.heap.size, 0, none⟩ 1 1 [.slice A5 l.length c5] rfl rfl (one_at (heap_new _ _ _ rfl)) (by intro u hu; simp at hu; subst hu; rfl) (by unfold maxLen; omega) (by omega) (by simp; omega) ?_
                  intro v2' w4 o2' g2 a2
                  have hlw3 := block_lt hcb3
                  have hb4 := (hbw3.alloc (by omega) _).grown g2 (by simp; omega) (fun k e => by have := (O2L.out k e).1; omega)
                  have hcb4 := (g2.block w.heap.size (by simp; omega) (fun e => by have := (O2L.out _ e.symm).1; omega)).trans ((Below.heap_alloc _ _ _ hlw3).trans hcb3)
                  have hst := HR5.out.step O1.out G1.out AA1.out ((Below.refl w3.heap.size w3).alloc (Nat.le_refl _) _) hs2 O23.out Q2.out o2' g2 a2 HLJ.out hl5 h5
                  rw [← HPK.out] at hst
                  have HST := Lib.hid hst
                  clear hst o2' g2 a2 O1 G1 AA1 O23 HR5 hcb3 hbw3 hc53 O2L
                  go_wp2
                  exact ⟨⟨j + 1, l.length, true, by omega, by go_num, rfl, rfl, hnj, hb4, hcb4, HST.out, HSK.out⟩, by simp [intOf]; omega⟩
              · have hpk := pick_full (K := K) (i := j) (ts := ts) (by omega)
                have hr4 : Rows3 fb w wr K ls (pick K ts (j + 1)) (.slice A3 (pick K ts j).length c3) (.slice A4 (pick K ts j).length c4) := by rw [hpk]; exact hr3
                have HR := Lib.hid hr4
                clear hr3 hr4 hpk o2 q2
                generalize (pick K ts j).length = pl at *
                cases b with
                | false =>
                  go_wp2
                  exact ⟨⟨j + 1, l.length, true, by omega, by go_num, rfl, rfl, hnj, hb, hcb, HR.out, HSK.out⟩, by simp [intOf]; omega⟩
                | true =>
                  have hnb := HNB.out rfl
                  go_wp2
                  exact ⟨⟨j + 1, l.length, true, by omega, by go_num, rfl, rfl, hnj, hb, hcb, HR.out, HSK.out⟩, by simp [intOf]; omega⟩
        · have hjl : j = ls.length := by omega
          have hjKM : j = K + M := by rw [hjl]; exact HL.out
          have hev : evF (-1) (evZ ls ts) = some (if b then (m : Int) else -1) := by
            have := hseen.out
            unfold Seen at this
            rw [this, List.drop_of_length_le (by simp [evZ]; omega)]; rfl
          subst hjKM
          have HEV := Lib.hid hev
          clear hev hseen hjl
          by_cases hful : (pick K ts (K + M)).length < K
          · have hS := decS_few HL.out HT.out HEV.out hful
            have HS := Lib.hid hS
            clear hS hr3 o2 q2
            generalize (pick K ts (K + M)).length = pl at *
            go_wp2
            go_ret2
            exact RRes.no HS.out rfl hb
          · have hpk : (pick K ts (K + M)).length = K := by omega
            have HFU := Lib.hid hful
            have hm1 : RdM fb wr A3 ((pick K ts (K + M)).map (rowF K)) := by
              obtain ⟨_, _, e, _, hr⟩ := hr3.rows.hdm (show fb < w.heap.size + 1 by omega)
              rw [List.length_map] at e
              cases e; exact hr
            have hm2 := hr3.mat2 hfl hb
            have hpl : ∀ (i p : Nat), (pick K ts (K + M))[i]? = some p → ∃ l, ls[p]? = some l ∧ (l.length : Int) = if b then (m : Int) else -1 := fun i p hp => by
              obtain ⟨h1, h2⟩ := pick_mem (List.mem_of_getElem? hp)
              have hpl : p < ls.length := by rw [HL.out]; exact h1
              exact ⟨ls[p], List.getElem?_eq_getElem hpl, (evF_there ts _ _ HEV.out).2 p _ (List.getElem?_eq_getElem hpl) (fl_some h2)⟩
            have hbt : b = true := by
              obtain ⟨l, _, h⟩ := hpl 0 _ (List.getElem?_eq_getElem (show 0 < (pick K ts (K + M)).length by omega))
              cases b with
              | true => rfl
              | false => simp at h
            subst hbt
            have hSZ := fun h4 => decS_zero HL.out HT.out HEV.out HFU.out h4
            have hSY := fun X h4 => decS_yes (X := X) HL.out HT.out HEV.out HFU.out h4
            simp only [if_true, Int.toNat_natCast] at hSY
            have HSZ := Lib.hid hSZ
            have HSY := Lib.hid hSY
            have HPL := Lib.hid hpl
            clear hSZ hSY hr3 o2 q2 hful hpl
            generalize hps : pick K ts (K + M) = ps at *
            clear hps HFU
            have hlen2 : ∀ i, i < K → ((ps.map fun i => ls.getD i []).getD i []).length = m := fun i hi => by
              have hip : i < ps.length := by rw [hpk]; exact hi
              obtain ⟨l, hl, hln⟩ := HPL.out i ps[i] (List.getElem?_eq_getElem hip)
              rw [List.getD_eq_getElem?_getD, List.getElem?_map, List.getElem?_eq_getElem hip, Option.map_some, Option.getD_some, List.getD_eq_getElem?_getD, hl]
              simp only [if_true] at hln
              show l.length = m
              omega
            have HLEN2 := Lib.hid hlen2
            have hsq := rows_Sq (ps := ps) hK (by omega) hpk
            have hinv := rinvert_S fb A3 c3 (ps.map (rowF K)) (by rw [List.length_map]; omega) (fun i l hl => by rw [hsq.2.2 i l hl, List.length_map]; omega) wr hm1
            have hi0 : minv K (mf (ps.map (rowF K))) = none → invS (ps.map (rowF K)) = ([], 14) := fun h => invS_none hsq (by rw [List.length_map, hpk]; exact h)
            have hi1 : ∀ X, minv K (mf (ps.map (rowF K))) = some X → invS (ps.map (rowF K)) = (sq K X, 0) := fun X h => by
              have := invS_some (X := X) hsq (by rw [List.length_map, hpk]; exact h)
              rw [List.length_map, hpk] at this; exact this
            rw [List.length_map] at hinv
            have HI := Lib.hid hinv
            have HI0 := Lib.hid hi0
            have HI1 := Lib.hid hi1
            have HPK := Lib.hid hpk
            have hge : ¬ (ps.length : Int) < (K : Int) := by omega
            clear hlen2 hsq hinv hi0 hi1 hpk hm1
            go_wp2_with fail
            refine HI.out.mono ?_
            rintro e w2 ⟨v2, rfl, hd2, hb2⟩
            cases hmi : minv K (mf (ps.map (rowF K))) with
            | none =>
              rw [HI0.out hmi]
              have HS := Lib.hid (HSZ.out hmi)
              clear hmi
              go_wp2
              go_ret2
              exact RRes.no HS.out rfl (hb.trans (hb2.mono hb.size))
            | some X =>
              rw [HI1.out X hmi] at hd2 ⊢
              have HS := Lib.hid (HSY.out X hmi)
              clear hmi
              obtain ⟨A7, c7, e7, _, hr7⟩ := hd2 w.heap.size hsz
              rw [sq_length] at e7
              subst e7
              have hbw2 := hb.trans (hb2.mono hb.size)
              have hcb2 := (hb2.block _ hsz).trans hcb
              have hm22 := hm2.below hb2
              clear hb hcb hb2 hm2 hd2 HI HI0 HI1 HSZ HSY hk0 hk1
              go_wp2
              obtain ⟨wo, rfl⟩ : ∃ wo : World, wo = w2 := ⟨_, rfl⟩
              go_loopw [17, 18] (fun v i wr => ∃ p : Nat, p ≤ K ∧ i = .int .i64 p ∧ Below wo.heap.size wo wr ∧ OutR wo.heap.size wr v ((dataF K (sq K X) (ps.map fun i => ls.getD i []) m).take p)) (fun _ i _ => K - (intOf i).toNat)
              case atStart => exact ⟨0, by omega, rfl, Below.refl _ _, OutR.nil _ _⟩
              case round =>
                obtain ⟨p, hp, rfl, hbo, hov⟩ := hrel
                generalize hDp : (dataF K (sq K X) (ps.map fun i => ls.getD i []) m).take p = D at hov
                have HDP := Lib.hid hDp
                clear hDp
                obtain ⟨A8, c8, rfl⟩ := hov.shape
                have hk0 : wr.cell? ⟨w.heap.size, 0, none⟩ = some (.int .i64 K) := (World.cell?_of_block (hbo.block _ (block_lt hcb2))).trans (block_cell hcb2 (o := 0))
                have hk1 : wr.cell? ⟨w.heap.size, 1, none⟩ = some (.int .i64 M) := (World.cell?_of_block (hbo.block _ (block_lt hcb2))).trans (block_cell hcb2 (o := 1))
                have hszo := hbo.size
                by_cases hplt : p < K
                · obtain ⟨b9, o9, A9, c9, rfl, hb9, hc9, hl9, h9⟩ := (hr7.below hbo).at (i := p) (by rw [sq_length]; exact hplt)
                  have hrow : (sq K X)[p]'(by rw [sq_length]; exact hplt) = rowL K (X p) := by rw [← sq_row hplt, List.getD_eq_getElem?_getD, List.getElem?_eq_getElem (by rw [sq_length]; exact hplt)]; rfl
                  rw [hrow] at h9
                  rw [hrow, rowL_length] at hc9
                  have hpt := part_any w.heap.size fb A9 A4 c9 c4 (rowL K (X p)) (ps.map fun i => ls.getD i []) m hm (by rw [rowL_length]; omega) (by rw [rowL_length, List.length_map, HPK.out]; exact Nat.le_refl _) (by rw [rowL_length]; exact HLEN2.out) wr h9 (hm22.below hbo)
                  rw [rowL_length, List.length_map] at hpt
                  have HPT := Lib.hid hpt
                  have hsn := dataF_snoc (first := sq K X) (parts := ps.map fun i => ls.getD i []) (n := m) hplt
                  rw [HDP.out, sq_row hplt] at hsn
                  have HSN := Lib.hid hsn
                  have hpi : (p : Int) < (K : Int) := by omega
                  have hlen3 : D.length ≤ 1048576 := by rw [← HDP.out, List.length_take, dataF_length]; omega
                  clear hpt hsn hrow h9
                  go_wp2_with fail
                  refine HPT.out.mono ?_
                  rintro e w3 ⟨v3, rfl, ho3, hb3⟩
                  obtain ⟨A10, c10, rfl⟩ := ho3.shape
                  have hbo3 := hbo.trans (hb3.mono hszo)
                  have hov3 := hov.below hb3
                  have hs33 := hb3.size
                  clear HPT hov hbo hb3 hc9 hk0 hk1
                  go_wp2_with (at_builtin; refine Hid.out ?_)
                  unfold Hid
                  refine app_row rfl _ _ rfl wo.heap.size _ _ rfl (hov3.below ((Below.refl _ _).alloc (Nat.le_refl _) _)) w3.heap.size _ _ rfl (by simp) ((ho3.base hszo).below ((Below.refl _ _).alloc (Nat.le_refl _) _)) hlen3 (by simp; omega) ?_
                  intro v5 w5 hov5 hgrow5
                  rw [← HSN.out] at hov5
                  have hb5 := (hbo3.alloc (by omega) _).grown hgrow5 (by simp; omega) (fun k e => (hov3.lt k e).1)
                  clear hgrow5 hov3 hbo3 ho3
                  go_wp2
                  exact ⟨⟨p + 1, by omega, by go_num, hb5, hov5⟩, by simp [intOf]; omega⟩
                · have hDe : D = dataF K (sq K X) (ps.map fun i => ls.getD i []) m := by rw [← HDP.out]; exact List.take_of_length_le (by rw [dataF_length]; omega)
                  have hsw := hbw2.size
                  have hdl : D.length = K := by rw [hDe, dataF_length]
                  have hdn : ∀ (i : Nat) (l : List F), D[i]? = some l → l.length = m := fun i l hi => by
                    rw [hDe, dataF, List.getElem?_map] at hi
                    cases e : (List.range K)[i]? with
                    | none => rw [e] at hi; cases hi
                    | some q => rw [e] at hi; simp at hi; rw [← hi, mixL_length]
                  have hrd : RdM w.heap.size wr A8 D := by
                    obtain ⟨_, _, e, _, hr⟩ := hov.hdm (show w.heap.size < wo.heap.size by have := block_lt hcb2; omega)
                    cases e; exact hr
                  have henc := renc_S w.heap.size K M hK hs0 A8 c8 D (fun i l hi => by rw [hdn i l hi]; exact hm) (by rw [hdl]; omega) wr hrd
                  rw [encS_ok hK hdl hdn] at henc
                  rw [hDe, ← HS.out] at henc
                  have HE := Lib.hid henc
                  have hpi : ¬ (p : Int) < (K : Int) := by omega
                  rw [hDe]
                  have hbf := hbw2.trans (hbo.mono hsw)
                  clear hdl hdn henc hDe hrd hov
                  go_wp2_with fail
                  refine HE.out.mono ?_
                  rintro e w6 ⟨v6, rfl, hd6, hb6⟩
                  have hR : RRes w (decS K M ls ts) (.returned (.tuple #[v6, .int .i64 (decS K M ls ts).2])) w6 := ⟨v6, rfl, fun fb hfb => hd6 fb (by omega), hbf.trans (hb6.mono hbf.size)⟩
                  have HR := Lib.hid hR
                  clear hR hd6
                  generalize (decS K M ls ts).2 = code at *
                  go_wp2
                  go_ret2
                  exact HR.out
    · have hal1 : ((ls.length : Int) != (K : Int) + (M : Int)) = false := by rw [hl]; simp
      have hal2 : ((ts.length : Int) != (K : Int) + (M : Int)) = true := by rw [bne_iff_ne]; omega
      have hS : decS K M ls ts = ([], 1) := by unfold decS; rw [if_neg (by omega)]
      have HS := Lib.hid hS
      clear hS hl ht
      go_enter Tryd.func49, Tryd.ntmps49
      go_wp2
      go_ret2
      exact RRes.no HS.out rfl ((Below.refl _ _).alloc (Nat.le_refl _) _)
  · have hal1 : ((ls.length : Int) != (K : Int) + (M : Int)) = true := by rw [bne_iff_ne]; omega
    have hS : decS K M ls ts = ([], 1) := by unfold decS; rw [if_neg (by omega)]
    have HS := Lib.hid hS
    clear hS hl
    go_enter Tryd.func49, Tryd.ntmps49
    go_wp2
    go_ret2
    exact RRes.no HS.out rfl ((Below.refl _ _).alloc (Nat.le_refl _) _)
end Go.Proofs.YtdeopklgdemnfaaDoor
