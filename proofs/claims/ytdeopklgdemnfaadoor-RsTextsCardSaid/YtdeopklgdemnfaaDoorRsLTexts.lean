/- The walk of the law on every text in parts, and the text of all parts. Condition: the library's handle of the type 'error' reads as the program lays it. -/
import Derived.Test.YtdeopklgdemnfaaDoorRsCtx
import Derived.Test.YtdeopklgdemnfaaDoorRsTxt
namespace Go.Proofs.YtdeopklgdemnfaaDoor
open Go.RowKit Gf Rs

theorem errV0 : errV 0 = .nilIface := rfl
theorem RdV.tail {fb b o : Nat} {w : World} {vs : List Value} (h : RdV fb w (some ⟨b, o, none⟩) vs) : RdV fb w (some ⟨b, o + 1, none⟩) (vs.drop 1) := fun i v hi => by
  rw [List.getElem?_drop] at hi
  obtain ⟨b', o', e1, e2, e3⟩ := h (1 + i) v hi
  cases e1
  exact ⟨b, o + 1, rfl, e2, by rw [← e3]; congr 2; omega⟩
theorem RdM.tail {fb b o : Nat} {w : World} {ls : List (List F)} (h : RdM fb w (some ⟨b, o, none⟩) ls) : RdM fb w (some ⟨b, o + 1, none⟩) (ls.drop 1) := by
  obtain ⟨hs, h1, h2, h3⟩ := h
  exact ⟨hs.drop 1, by rw [List.length_drop, List.length_drop, h1], h2.tail, fun i u l hi hl => h3 (1 + i) u l (by rw [List.getElem?_drop] at hi; exact hi) (by rw [List.getElem?_drop] at hl; exact hl)⟩
theorem RdM.nil (fb : Nat) (w : World) (A : Option Addr) : RdM fb w A [] := ⟨[], rfl, fun i v hi => by simp at hi, fun i h l hi => by simp at hi⟩
theorem RdB.nil (fb : Nat) (w : World) (A : Option Addr) : RdB fb w A [] := fun i v hi => by simp at hi
set_option maxRecDepth 100000 in
set_option maxHeartbeats 3200000 in
theorem rstexts (k m : Int) (v1 : Value) (n : Int) (W : World) (hH : Handle W) (h1 : BssIn W v1) : Calls Tryd.prog 13 #[.agg #[.int .i64 k, .int .i64 m], v1, .int .i64 n] W (LawEnd W) := by
  obtain ⟨A, c, ls, rfl, hc, hq, hrd, hlen⟩ := h1
  have hb0 := hH.lt
  have HLEN0 := Lib.hid hlen
  have hgood := good_or k m
  have HG := Lib.hid hgood
  clear hlen hgood
  by_cases h0 : ls = []
  · subst h0
    have hrt : RdB W.heap.size W none [] := RdB.nil _ _ _
    have hct : ([] : List F).length ≤ 0 := Nat.le_refl _
    have hrp : RdM W.heap.size W A [] := RdM.nil _ _ _
    have hqp : ([] : List (List F)).length ≤ 9223372036854775807 := hq
    have HLEN := HLEN0
    clear hrd hq hc HLEN0
    go_enter Tryd.func13, Tryd.ntmps13
    go_wp2_with fail
    have hbx : Below (W.heap.size + 1) (W.alloc (.cells #[.int .i64 k, .int .i64 m] 47)) (W.alloc (.cells #[.int .i64 k, .int .i64 m] 47)) := Below.refl _ _
    have hz0 : (W.alloc (.cells #[.int .i64 k, .int .i64 m] 47)).heap.size = W.heap.size + 1 := World.size_alloc _ _
    have hq0 : (W.alloc (.cells #[.int .i64 k, .int .i64 m] 47)).cell? ⟨W.heap.size, 0, none⟩ = some (.int .i64 k) := by simp
    have hq1 : (W.alloc (.cells #[.int .i64 k, .int .i64 m] 47)).cell? ⟨W.heap.size, 1, none⟩ = some (.int .i64 m) := by simp
    obtain ⟨w0, hw0⟩ : ∃ w0, (W.alloc (.cells #[.int .i64 k, .int .i64 m] 47)) = w0 := ⟨_, rfl⟩
    have hbx : Below (W.heap.size + 1) (W.alloc (.cells #[.int .i64 k, .int .i64 m] 47)) w0 := by rw [← hw0]; exact hbx
    rw [hw0] at hz0 hq0 hq1 ⊢
    clear hw0
    rcases HG.out with ⟨K, M, rfl, rfl, hK, hKM⟩ | hbad
    · have hq0 : w0.cell? ⟨W.heap.size, 0, none⟩ = some (.int .i64 K) := hq0
      have hb1' : Below (W.heap.size + 1) w0 w0 := Below.refl _ _
      go_wp2_with fail
      refine (new_good K M hK hKM _).mono ?_
      rintro e w1 ⟨rfl, hc1, hb1, _⟩
      rw [hz0] at hc1 hb1
      have hs0 : w1.cell? ⟨W.heap.size, 0, none⟩ = some (.int .i64 K) := (World.cell?_of_block (hb1.block _ (Nat.lt_succ_self _))).trans hq0
      have hs1 : w1.cell? ⟨W.heap.size, 1, none⟩ = some (.int .i64 M) := (World.cell?_of_block (hb1.block _ (Nat.lt_succ_self _))).trans hq1
      have hb01 := hbx.trans hb1
      rw [hz0]
      go_wp2_with fail
      refine (rnew_good K M hK hKM _).mono ?_
      rintro e w2 ⟨rfl, hb2⟩
      have hx := ctx_made hc1 hb01 hb2
      clear hc1 hb1 hb2 hs0 hs1 hb01 hb1' hbx hq0 hq1 hz0
      go_wp2_with fail
      generalize w2.alloc (.cells #[.int .i64 K, .int .i64 M] 51) = w4 at *
      generalize w2.heap.size = rb at *
      refine (long_any W.heap.size A c ([] : List (List F)) hqp HLEN.out w4 (hrp.below hx.below)).mono ?_
      rintro e w' ⟨b, rfl, rfl, hshort⟩
      have HSH := Lib.hid hshort
      clear hshort
      cases b with
      | true =>
        go_wp2_with fail
        refine (num8_nil _).mono ?_
        rintro e w5 ⟨rfl, hb5⟩
        have hx5 := hx.next hb5
        clear hx hb5
        go_wp2_with fail
        refine (sure8_any _).mono ?_
        rintro e w6 ⟨rfl, hb6⟩
        have hx6 := hx5.next hb6
        clear hx5 hb6
        go_wp2
        go_ret
        exact ⟨rfl, hx6.below⟩
      | false =>
        by_cases hlt : 3000 < ([] : List F).length
        · exact absurd hlt (by simp)
        · have hlti : ¬ (3000 : Int) < (([] : List F).length : Int) := by omega
          obtain ⟨hl65, htot⟩ := HSH.out rfl
          have hlen : ∀ (i : Nat) (l : List F), ([] : List (List F))[i]? = some l → l.length ≤ 1048576 := fun i l hi => by have := cat_part hi; omega
          have HLN := Lib.hid hlen
          have hcatK : (catF K ([] : List (List F))).length ≤ 4000 := Nat.le_trans cat_all htot
          clear hlen htot HSH
          have hfbs := hx.fbs
          go_wp2_with fail
          refine (twins_any W.heap.size A c ([] : List (List F)) (by omega) HLN.out w4 (hrp.below hx.below)).mono ?_
          rintro e w5 ⟨v5, rfl, ho5, hb5⟩
          have hx5 := hx.next hb5
          obtain ⟨A5, c5, rfl⟩ := ho5.shape
          have hd5 := ho5.hdm (show W.heap.size + 1 < w4.heap.size from hx.code.2.2.lt)
          have hr5 : RdM (W.heap.size + 1) w5 A5 ([] : List (List F)) := by
            obtain ⟨_, _, e, _, hr⟩ := hd5
            cases e; exact hr
          have hc5 : ([] : List (List F)).length ≤ c5 := by
            obtain ⟨_, _, e, hc, _⟩ := hd5
            cases e; exact hc
          clear hx hb5 ho5 hd5
          go_wp2_with fail
          refine (join_S _ K M _ hK (by omega) A5 c5 ([] : List (List F)) hc5 n (by omega) w5 hx5.code hr5).mono ?_
          rintro e w6 ⟨v6, rfl, ⟨A6, c6, rfl, hl6, hd6⟩, hk6⟩
          have hx6 := hx5.keep hk6
          have hr0 := hx6.r0
          have hr1 := hx6.r1
          clear hx5 hk6 hr5
          go_wp2_with fail
          refine (rjoin_S W.heap.size K M (by omega) A c ([] : List (List F)) n (by omega) w6 (hrp.below hx6.below)).mono ?_
          rintro e w7 ⟨v7, rfl, hd7, hb7⟩
          have hx7 := hx6.next hb7
          obtain ⟨A7, c7, rfl, hl7, hd7⟩ := hd7 (W.heap.size + 1) hx6.code.2.2.lt
          have hd67 := RdB.below hd6 hb7
          have hr7lt := cell_lt hr0
          clear hx6 hb7 hd6 hr0 hr1
          generalize (joinS K ([] : List (List F)) n).1 = R at *
          generalize (joinS K ([] : List (List F)) n).2 = code at *
          go_wp2_with fail
          refine (split_S _ K M _ hK (by omega) none 0 ([] : List F) (by omega) hct w7 hx7.code (hx7.bs hrt)).mono ?_
          rintro e w8 ⟨v8, rfl, ⟨A8, c8, rfl, hl8, hd8⟩, hk8⟩
          have hx8 := hx7.keep hk8
          have hd68 := RdB.keep hd67 hk8
          have hd78 := RdB.keep hd7 hk8
          obtain ⟨hjs1, hjs2⟩ := join_split (K := K) hK ([] : List F)
          have hjn := join_S _ K M _ hK (by omega) A8 c8 (splitF K ([] : List F)) hl8 (([] : List F).length : Int) (by omega) w8 hx8.code hd8
          rw [hjs1] at hjn
          have HJ := Lib.hid hjn
          clear hjn hjs1 hjs2 hx7 hk8 hd67 hd7
          go_wp2_with fail
          refine HJ.out.mono ?_
          rintro e w9 ⟨v9, rfl, ⟨A9, c9, rfl, hl9, hd9⟩, hk9⟩
          have hx9 := hx8.keep hk9
          have hd69 := RdB.keep hd68 hk9
          have hd79 := RdB.keep hd78 hk9
          have hd89 := RdM.keep hd8 hk9
          have hk1 : (convert 54 9 (.slice A6 R.length c6)).run Tryd.prog w9 = .ok (.string (strF R)) w9 := conv_rd hd69 c6
          have hk2 : (convert 54 9 (.slice A7 R.length c7)).run Tryd.prog w9 = .ok (.string (strF R)) w9 := conv_rd hd79 c7
          have hsr : ((strF R).toList == (strF R).toList) = true := by simp
          have hst : ((strF ([] : List F)).toList == (strF ([] : List F)).toList) = true := by simp
          have hcc : (code == code) = true := by simp
          clear hx8 hk9 hd68 hd78 hd8 HJ
          simp only [errV0]
          go_wp2_with fail
          refine (num8_S code _ (hH.below hb0 hx9.below)).mono ?_
          rintro e w10 ⟨rfl, hb10⟩
          have hx10 := hx9.next hb10
          have hd810 := hd89.below hb10
          have hd910 := RdB.below hd9 hb10
          have hr0 := hx10.r0
          have hr1 := hx10.r1
          clear hx9 hb10 hd89 hd9 hk1 hk2 hd69 hd79
          go_wp2_with fail
          refine (rsplit_S W.heap.size K M hK (by omega) none 0 ([] : List F) (by omega) w10 (RdB.below hrt hx10.below)).mono ?_
          rintro e w11 ⟨v11, rfl, hd11, hb11⟩
          have hx11 := hx10.next hb11
          obtain ⟨A11, c11, rfl, hl11, hd11⟩ := hd11 (W.heap.size + 1) hx10.code.2.2.lt
          have hd811 := hd810.below hb11
          have hd911 := RdB.below hd910 hb11
          clear hx10 hb11 hd810 hd910 hr0 hr1
          go_wp2_with fail
          refine (lists_any _ _ A8 A11 c8 c11 (splitF K ([] : List F)) (splitF K ([] : List F)) (by rw [splitF_length]; omega) w11 hd811 hd11).mono ?_
          rintro e w12 ⟨rfl, hb12⟩
          rw [decide_eq_true rfl]
          have hx12 := hx11.next hb12
          have hd912 := RdB.below hd911 hb12
          have hk3 : (convert 54 9 (.slice A9 0 c9)).run Tryd.prog w12 = .ok (.string (strF ([] : List F))) w12 := conv_rd hd912 c9
          have hk4 : (convert 54 9 (.slice none 0 0)).run Tryd.prog w12 = .ok (.string (strF ([] : List F))) w12 := conv_rd (RdB.below hrt hx12.below) 0
          clear hx11 hb12 hd811 hd11 hd911 hd912
          go_wp2_with fail
          refine (sure8_any _).mono ?_
          rintro e w13 ⟨rfl, hb13⟩
          have hx13 := hx12.next hb13
          clear hx12 hb13 hk3 hk4
          go_wp2
          go_ret
          exact ⟨rfl, hx13.below⟩
    · skip
      go_wp2_with fail
      refine (new_bad k m hbad _).mono ?_
      rintro e w1 ⟨rfl, rfl⟩
      go_wp2_with fail
      refine (rnew_bad k m hbad _).mono ?_
      rintro e w2 ⟨rfl, hb2⟩
      have hbw : Below W.heap.size W (w2.alloc (.cells #[.int .i64 0, .int .i64 0] 51)) := by
        have h1 : Below W.heap.size W (W.alloc (.cells #[.int .i64 k, .int .i64 m] 47)) := (Below.refl _ _).alloc (Nat.le_refl _) _
        have h2 := (h1.trans (hbx.mono (Nat.le_succ _))).trans (hb2.mono (by rw [hz0]; omega))
        exact h2.alloc h2.size _
      clear hbad hb2 hbx hq0 hq1 hz0
      unfold errN
      go_wp2_with fail
      generalize w2.alloc (.cells #[.int .i64 0, .int .i64 0] 51) = w4 at *
      refine (num8_hit 1 _ (hH.below hb0 hbw)).mono ?_
      rintro e w5 ⟨rfl, hb5⟩
      have hbw5 := hbw.trans (hb5.mono hbw.size)
      clear hbw hb5
      go_wp2_with fail
      refine (sure8_any _).mono ?_
      rintro e w6 ⟨rfl, hb6⟩
      have hbw6 := hbw5.trans (hb6.mono hbw5.size)
      clear hbw5 hb6
      go_wp2
      go_ret
      exact ⟨rfl, hbw6⟩
  · obtain ⟨text, parts, rfl⟩ : ∃ t p, ls = t :: p := by
      cases ls with
      | nil => exact absurd rfl h0
      | cons t p => exact ⟨t, p, rfl⟩
    obtain ⟨b0, o0, At, ct, rfl, hbb, hc0, hct, hrt⟩ := hrd.at (i := 0) (by simp)
    have hrp := hrd.tail
    have hqp : parts.length ≤ 9223372036854775807 := by simp at hq; omega
    have HLEN : Hid (∀ (i : Nat) (l : List F), parts[i]? = some l → l.length ≤ 140737488355328) := fun i l hi => HLEN0.out (i + 1) l (by simpa using hi)
    simp only [List.getElem_cons_zero, Nat.add_zero] at hc0 hct hrt
    simp only [List.drop_succ_cons, List.drop_zero] at hrp
    rw [List.length_cons] at hc hq ⊢
    have hc0lt := cell_lt hc0
    have hlp : (0 : Int) < ((parts.length + 1 : Nat) : Int) := by omega
    have hlp2 : (0 : Int) < (parts.length : Int) + 1 := by omega
    have h1c : (1 : Int) ≤ (c : Int) := by omega
    have h1l : (1 : Int) ≤ (parts.length : Int) + 1 := by omega
    have hp1 : parts.length + 1 - 1 = parts.length := by omega
    clear hrd hq HLEN0 h0
    by_cases hcap : c = 1
    · subst hcap
      have hpn : parts = [] := List.length_eq_zero_iff.1 (by omega)
      subst hpn
      clear hrp
      have hrp : RdM W.heap.size W (some ⟨b0, o0, none⟩) [] := RdM.nil _ _ _
      go_enter Tryd.func13, Tryd.ntmps13
      go_wp2
      go_quiet (fail)
      go_wp2_with fail
      have hbx : Below (W.heap.size + 1) (W.alloc (.cells #[.int .i64 k, .int .i64 m] 47)) ((W.alloc (.cells #[.int .i64 k, .int .i64 m] 47)).drewN nq) := below_drewN (Below.refl _ _) nq
      have hz0 : ((W.alloc (.cells #[.int .i64 k, .int .i64 m] 47)).drewN nq).heap.size = W.heap.size + 1 := World.size_alloc _ _
      have hq0 : ((W.alloc (.cells #[.int .i64 k, .int .i64 m] 47)).drewN nq).cell? ⟨W.heap.size, 0, none⟩ = some (.int .i64 k) := by simp
      have hq1 : ((W.alloc (.cells #[.int .i64 k, .int .i64 m] 47)).drewN nq).cell? ⟨W.heap.size, 1, none⟩ = some (.int .i64 m) := by simp
      obtain ⟨w0, hw0⟩ : ∃ w0, ((W.alloc (.cells #[.int .i64 k, .int .i64 m] 47)).drewN nq) = w0 := ⟨_, rfl⟩
      rw [hw0] at hbx hz0 hq0 hq1 ⊢
      clear hw0
      rcases HG.out with ⟨K, M, rfl, rfl, hK, hKM⟩ | hbad
      · have hq0 : w0.cell? ⟨W.heap.size, 0, none⟩ = some (.int .i64 K) := hq0
        have hb1' : Below (W.heap.size + 1) w0 w0 := Below.refl _ _
        go_wp2_with fail
        refine (new_good K M hK hKM _).mono ?_
        rintro e w1 ⟨rfl, hc1, hb1, _⟩
        rw [hz0] at hc1 hb1
        have hs0 : w1.cell? ⟨W.heap.size, 0, none⟩ = some (.int .i64 K) := (World.cell?_of_block (hb1.block _ (Nat.lt_succ_self _))).trans hq0
        have hs1 : w1.cell? ⟨W.heap.size, 1, none⟩ = some (.int .i64 M) := (World.cell?_of_block (hb1.block _ (Nat.lt_succ_self _))).trans hq1
        have hb01 := hbx.trans hb1
        rw [hz0]
        go_wp2_with fail
        refine (rnew_good K M hK hKM _).mono ?_
        rintro e w2 ⟨rfl, hb2⟩
        have hx := ctx_made hc1 hb01 hb2
        clear hc1 hb1 hb2 hs0 hs1 hb01 hb1' hbx hq0 hq1 hz0
        go_wp2_with fail
        generalize w2.alloc (.cells #[.int .i64 K, .int .i64 M] 51) = w4 at *
        generalize w2.heap.size = rb at *
        refine (long_any W.heap.size (some ⟨b0, o0, none⟩) 0 ([] : List (List F)) hqp HLEN.out w4 (hrp.below hx.below)).mono ?_
        rintro e w' ⟨b, rfl, rfl, hshort⟩
        have HSH := Lib.hid hshort
        clear hshort
        cases b with
        | true =>
          go_wp2_with fail
          refine (num8_nil _).mono ?_
          rintro e w5 ⟨rfl, hb5⟩
          have hx5 := hx.next hb5
          clear hx hb5
          go_wp2_with fail
          refine (sure8_any _).mono ?_
          rintro e w6 ⟨rfl, hb6⟩
          have hx6 := hx5.next hb6
          clear hx5 hb6
          go_wp2
          go_ret
          exact ⟨rfl, hx6.below⟩
        | false =>
          by_cases hlt : 3000 < text.length
          · have hlti : (3000 : Int) < (text.length : Int) := by omega
            go_wp2_with fail
            refine (num8_nil _).mono ?_
            rintro e w5 ⟨rfl, hb5⟩
            have hx5 := hx.next hb5
            clear hx hb5
            go_wp2_with fail
            refine (sure8_any _).mono ?_
            rintro e w6 ⟨rfl, hb6⟩
            have hx6 := hx5.next hb6
            clear hx5 hb6
            go_wp2
            go_ret
            exact ⟨rfl, hx6.below⟩
          · have hlti : ¬ (3000 : Int) < (text.length : Int) := by omega
            obtain ⟨hl65, htot⟩ := HSH.out rfl
            have hlen : ∀ (i : Nat) (l : List F), ([] : List (List F))[i]? = some l → l.length ≤ 1048576 := fun i l hi => by have := cat_part hi; omega
            have HLN := Lib.hid hlen
            have hcatK : (catF K ([] : List (List F))).length ≤ 4000 := Nat.le_trans cat_all htot
            clear hlen htot HSH
            have hfbs := hx.fbs
            go_wp2_with fail
            refine (twins_any W.heap.size (some ⟨b0, o0, none⟩) 0 ([] : List (List F)) (by omega) HLN.out w4 (hrp.below hx.below)).mono ?_
            rintro e w5 ⟨v5, rfl, ho5, hb5⟩
            have hx5 := hx.next hb5
            obtain ⟨A5, c5, rfl⟩ := ho5.shape
            have hd5 := ho5.hdm (show W.heap.size + 1 < w4.heap.size from hx.code.2.2.lt)
            have hr5 : RdM (W.heap.size + 1) w5 A5 ([] : List (List F)) := by
              obtain ⟨_, _, e, _, hr⟩ := hd5
              cases e; exact hr
            have hc5 : ([] : List (List F)).length ≤ c5 := by
              obtain ⟨_, _, e, hc, _⟩ := hd5
              cases e; exact hc
            clear hx hb5 ho5 hd5
            go_wp2_with fail
            refine (join_S _ K M _ hK (by omega) A5 c5 ([] : List (List F)) hc5 n (by omega) w5 hx5.code hr5).mono ?_
            rintro e w6 ⟨v6, rfl, ⟨A6, c6, rfl, hl6, hd6⟩, hk6⟩
            have hx6 := hx5.keep hk6
            have hr0 := hx6.r0
            have hr1 := hx6.r1
            clear hx5 hk6 hr5
            go_wp2_with fail
            refine (rjoin_S W.heap.size K M (by omega) (some ⟨b0, o0, none⟩) 0 ([] : List (List F)) n (by omega) w6 (hrp.below hx6.below)).mono ?_
            rintro e w7 ⟨v7, rfl, hd7, hb7⟩
            have hx7 := hx6.next hb7
            obtain ⟨A7, c7, rfl, hl7, hd7⟩ := hd7 (W.heap.size + 1) hx6.code.2.2.lt
            have hd67 := RdB.below hd6 hb7
            have hr7lt := cell_lt hr0
            clear hx6 hb7 hd6 hr0 hr1
            generalize (joinS K ([] : List (List F)) n).1 = R at *
            generalize (joinS K ([] : List (List F)) n).2 = code at *
            go_wp2_with fail
            refine (split_S _ K M _ hK (by omega) At ct text (by omega) hct w7 hx7.code (hx7.bs hrt)).mono ?_
            rintro e w8 ⟨v8, rfl, ⟨A8, c8, rfl, hl8, hd8⟩, hk8⟩
            have hx8 := hx7.keep hk8
            have hd68 := RdB.keep hd67 hk8
            have hd78 := RdB.keep hd7 hk8
            obtain ⟨hjs1, hjs2⟩ := join_split (K := K) hK text
            have hjn := join_S _ K M _ hK (by omega) A8 c8 (splitF K text) hl8 (text.length : Int) (by omega) w8 hx8.code hd8
            rw [hjs1] at hjn
            have HJ := Lib.hid hjn
            clear hjn hjs1 hjs2 hx7 hk8 hd67 hd7
            go_wp2_with fail
            refine HJ.out.mono ?_
            rintro e w9 ⟨v9, rfl, ⟨A9, c9, rfl, hl9, hd9⟩, hk9⟩
            have hx9 := hx8.keep hk9
            have hd69 := RdB.keep hd68 hk9
            have hd79 := RdB.keep hd78 hk9
            have hd89 := RdM.keep hd8 hk9
            have hk1 : (convert 54 9 (.slice A6 R.length c6)).run Tryd.prog w9 = .ok (.string (strF R)) w9 := conv_rd hd69 c6
            have hk2 : (convert 54 9 (.slice A7 R.length c7)).run Tryd.prog w9 = .ok (.string (strF R)) w9 := conv_rd hd79 c7
            have hsr : ((strF R).toList == (strF R).toList) = true := by simp
            have hst : ((strF text).toList == (strF text).toList) = true := by simp
            have hcc : (code == code) = true := by simp
            clear hx8 hk9 hd68 hd78 hd8 HJ
            simp only [errV0]
            go_wp2_with fail
            refine (num8_S code _ (hH.below hb0 hx9.below)).mono ?_
            rintro e w10 ⟨rfl, hb10⟩
            have hx10 := hx9.next hb10
            have hd810 := hd89.below hb10
            have hd910 := RdB.below hd9 hb10
            have hr0 := hx10.r0
            have hr1 := hx10.r1
            clear hx9 hb10 hd89 hd9 hk1 hk2 hd69 hd79
            go_wp2_with fail
            refine (rsplit_S W.heap.size K M hK (by omega) At ct text (by omega) w10 (RdB.below hrt hx10.below)).mono ?_
            rintro e w11 ⟨v11, rfl, hd11, hb11⟩
            have hx11 := hx10.next hb11
            obtain ⟨A11, c11, rfl, hl11, hd11⟩ := hd11 (W.heap.size + 1) hx10.code.2.2.lt
            have hd811 := hd810.below hb11
            have hd911 := RdB.below hd910 hb11
            clear hx10 hb11 hd810 hd910 hr0 hr1
            go_wp2_with fail
            refine (lists_any _ _ A8 A11 c8 c11 (splitF K text) (splitF K text) (by rw [splitF_length]; omega) w11 hd811 hd11).mono ?_
            rintro e w12 ⟨rfl, hb12⟩
            rw [decide_eq_true rfl]
            have hx12 := hx11.next hb12
            have hd912 := RdB.below hd911 hb12
            have hk3 : (convert 54 9 (.slice A9 text.length c9)).run Tryd.prog w12 = .ok (.string (strF text)) w12 := conv_rd hd912 c9
            have hk4 : (convert 54 9 (.slice At text.length ct)).run Tryd.prog w12 = .ok (.string (strF text)) w12 := conv_rd (RdB.below hrt hx12.below) ct
            clear hx11 hb12 hd811 hd11 hd911 hd912
            go_wp2_with fail
            refine (sure8_any _).mono ?_
            rintro e w13 ⟨rfl, hb13⟩
            have hx13 := hx12.next hb13
            clear hx12 hb13 hk3 hk4
            go_wp2
            go_ret
            exact ⟨rfl, hx13.below⟩
      · skip
        go_wp2_with fail
        refine (new_bad k m hbad _).mono ?_
        rintro e w1 ⟨rfl, rfl⟩
        go_wp2_with fail
        refine (rnew_bad k m hbad _).mono ?_
        rintro e w2 ⟨rfl, hb2⟩
        have hbw : Below W.heap.size W (w2.alloc (.cells #[.int .i64 0, .int .i64 0] 51)) := by
          have h1 : Below W.heap.size W (W.alloc (.cells #[.int .i64 k, .int .i64 m] 47)) := (Below.refl _ _).alloc (Nat.le_refl _) _
          have h2 := (h1.trans (hbx.mono (Nat.le_succ _))).trans (hb2.mono (by rw [hz0]; omega))
          exact h2.alloc h2.size _
        clear hbad hb2 hbx hq0 hq1 hz0
        unfold errN
        go_wp2_with fail
        generalize w2.alloc (.cells #[.int .i64 0, .int .i64 0] 51) = w4 at *
        refine (num8_hit 1 _ (hH.below hb0 hbw)).mono ?_
        rintro e w5 ⟨rfl, hb5⟩
        have hbw5 := hbw.trans (hb5.mono hbw.size)
        clear hbw hb5
        go_wp2_with fail
        refine (sure8_any _).mono ?_
        rintro e w6 ⟨rfl, hb6⟩
        have hbw6 := hbw5.trans (hb6.mono hbw5.size)
        clear hbw5 hb6
        go_wp2
        go_ret
        exact ⟨rfl, hbw6⟩
    · go_enter Tryd.func13, Tryd.ntmps13
      go_wp2
      go_quiet (fail)
      go_wp2_with fail
      have hbx : Below (W.heap.size + 1) (W.alloc (.cells #[.int .i64 k, .int .i64 m] 47)) ((W.alloc (.cells #[.int .i64 k, .int .i64 m] 47)).drewN nq) := below_drewN (Below.refl _ _) nq
      have hz0 : ((W.alloc (.cells #[.int .i64 k, .int .i64 m] 47)).drewN nq).heap.size = W.heap.size + 1 := World.size_alloc _ _
      have hq0 : ((W.alloc (.cells #[.int .i64 k, .int .i64 m] 47)).drewN nq).cell? ⟨W.heap.size, 0, none⟩ = some (.int .i64 k) := by simp
      have hq1 : ((W.alloc (.cells #[.int .i64 k, .int .i64 m] 47)).drewN nq).cell? ⟨W.heap.size, 1, none⟩ = some (.int .i64 m) := by simp
      obtain ⟨w0, hw0⟩ : ∃ w0, ((W.alloc (.cells #[.int .i64 k, .int .i64 m] 47)).drewN nq) = w0 := ⟨_, rfl⟩
      rw [hw0] at hbx hz0 hq0 hq1 ⊢
      clear hw0
      rcases HG.out with ⟨K, M, rfl, rfl, hK, hKM⟩ | hbad
      · have hq0 : w0.cell? ⟨W.heap.size, 0, none⟩ = some (.int .i64 K) := hq0
        have hb1' : Below (W.heap.size + 1) w0 w0 := Below.refl _ _
        go_wp2_with fail
        refine (new_good K M hK hKM _).mono ?_
        rintro e w1 ⟨rfl, hc1, hb1, _⟩
        rw [hz0] at hc1 hb1
        have hs0 : w1.cell? ⟨W.heap.size, 0, none⟩ = some (.int .i64 K) := (World.cell?_of_block (hb1.block _ (Nat.lt_succ_self _))).trans hq0
        have hs1 : w1.cell? ⟨W.heap.size, 1, none⟩ = some (.int .i64 M) := (World.cell?_of_block (hb1.block _ (Nat.lt_succ_self _))).trans hq1
        have hb01 := hbx.trans hb1
        rw [hz0]
        go_wp2_with fail
        refine (rnew_good K M hK hKM _).mono ?_
        rintro e w2 ⟨rfl, hb2⟩
        have hx := ctx_made hc1 hb01 hb2
        clear hc1 hb1 hb2 hs0 hs1 hb01 hb1' hbx hq0 hq1 hz0
        go_wp2_with fail
        generalize w2.alloc (.cells #[.int .i64 K, .int .i64 M] 51) = w4 at *
        generalize w2.heap.size = rb at *
        refine (long_any W.heap.size (some ⟨b0, o0 + 1, none⟩) (c - 1) parts hqp HLEN.out w4 (hrp.below hx.below)).mono ?_
        rintro e w' ⟨b, rfl, rfl, hshort⟩
        have HSH := Lib.hid hshort
        clear hshort
        cases b with
        | true =>
          go_wp2_with fail
          refine (num8_nil _).mono ?_
          rintro e w5 ⟨rfl, hb5⟩
          have hx5 := hx.next hb5
          clear hx hb5
          go_wp2_with fail
          refine (sure8_any _).mono ?_
          rintro e w6 ⟨rfl, hb6⟩
          have hx6 := hx5.next hb6
          clear hx5 hb6
          go_wp2
          go_ret
          exact ⟨rfl, hx6.below⟩
        | false =>
          by_cases hlt : 3000 < text.length
          · have hlti : (3000 : Int) < (text.length : Int) := by omega
            go_wp2_with fail
            refine (num8_nil _).mono ?_
            rintro e w5 ⟨rfl, hb5⟩
            have hx5 := hx.next hb5
            clear hx hb5
            go_wp2_with fail
            refine (sure8_any _).mono ?_
            rintro e w6 ⟨rfl, hb6⟩
            have hx6 := hx5.next hb6
            clear hx5 hb6
            go_wp2
            go_ret
            exact ⟨rfl, hx6.below⟩
          · have hlti : ¬ (3000 : Int) < (text.length : Int) := by omega
            obtain ⟨hl65, htot⟩ := HSH.out rfl
            have hlen : ∀ (i : Nat) (l : List F), parts[i]? = some l → l.length ≤ 1048576 := fun i l hi => by have := cat_part hi; omega
            have HLN := Lib.hid hlen
            have hcatK : (catF K parts).length ≤ 4000 := Nat.le_trans cat_all htot
            clear hlen htot HSH
            have hfbs := hx.fbs
            go_wp2_with fail
            refine (twins_any W.heap.size (some ⟨b0, o0 + 1, none⟩) (c - 1) parts (by omega) HLN.out w4 (hrp.below hx.below)).mono ?_
            rintro e w5 ⟨v5, rfl, ho5, hb5⟩
            have hx5 := hx.next hb5
            obtain ⟨A5, c5, rfl⟩ := ho5.shape
            have hd5 := ho5.hdm (show W.heap.size + 1 < w4.heap.size from hx.code.2.2.lt)
            have hr5 : RdM (W.heap.size + 1) w5 A5 parts := by
              obtain ⟨_, _, e, _, hr⟩ := hd5
              cases e; exact hr
            have hc5 : parts.length ≤ c5 := by
              obtain ⟨_, _, e, hc, _⟩ := hd5
              cases e; exact hc
            clear hx hb5 ho5 hd5
            go_wp2_with fail
            refine (join_S _ K M _ hK (by omega) A5 c5 parts hc5 n (by omega) w5 hx5.code hr5).mono ?_
            rintro e w6 ⟨v6, rfl, ⟨A6, c6, rfl, hl6, hd6⟩, hk6⟩
            have hx6 := hx5.keep hk6
            have hr0 := hx6.r0
            have hr1 := hx6.r1
            clear hx5 hk6 hr5
            go_wp2_with fail
            refine (rjoin_S W.heap.size K M (by omega) (some ⟨b0, o0 + 1, none⟩) (c - 1) parts n (by omega) w6 (hrp.below hx6.below)).mono ?_
            rintro e w7 ⟨v7, rfl, hd7, hb7⟩
            have hx7 := hx6.next hb7
            obtain ⟨A7, c7, rfl, hl7, hd7⟩ := hd7 (W.heap.size + 1) hx6.code.2.2.lt
            have hd67 := RdB.below hd6 hb7
            have hr7lt := cell_lt hr0
            clear hx6 hb7 hd6 hr0 hr1
            generalize (joinS K parts n).1 = R at *
            generalize (joinS K parts n).2 = code at *
            go_wp2_with fail
            refine (split_S _ K M _ hK (by omega) At ct text (by omega) hct w7 hx7.code (hx7.bs hrt)).mono ?_
            rintro e w8 ⟨v8, rfl, ⟨A8, c8, rfl, hl8, hd8⟩, hk8⟩
            have hx8 := hx7.keep hk8
            have hd68 := RdB.keep hd67 hk8
            have hd78 := RdB.keep hd7 hk8
            obtain ⟨hjs1, hjs2⟩ := join_split (K := K) hK text
            have hjn := join_S _ K M _ hK (by omega) A8 c8 (splitF K text) hl8 (text.length : Int) (by omega) w8 hx8.code hd8
            rw [hjs1] at hjn
            have HJ := Lib.hid hjn
            clear hjn hjs1 hjs2 hx7 hk8 hd67 hd7
            go_wp2_with fail
            refine HJ.out.mono ?_
            rintro e w9 ⟨v9, rfl, ⟨A9, c9, rfl, hl9, hd9⟩, hk9⟩
            have hx9 := hx8.keep hk9
            have hd69 := RdB.keep hd68 hk9
            have hd79 := RdB.keep hd78 hk9
            have hd89 := RdM.keep hd8 hk9
            have hk1 : (convert 54 9 (.slice A6 R.length c6)).run Tryd.prog w9 = .ok (.string (strF R)) w9 := conv_rd hd69 c6
            have hk2 : (convert 54 9 (.slice A7 R.length c7)).run Tryd.prog w9 = .ok (.string (strF R)) w9 := conv_rd hd79 c7
            have hsr : ((strF R).toList == (strF R).toList) = true := by simp
            have hst : ((strF text).toList == (strF text).toList) = true := by simp
            have hcc : (code == code) = true := by simp
            clear hx8 hk9 hd68 hd78 hd8 HJ
            simp only [errV0]
            go_wp2_with fail
            refine (num8_S code _ (hH.below hb0 hx9.below)).mono ?_
            rintro e w10 ⟨rfl, hb10⟩
            have hx10 := hx9.next hb10
            have hd810 := hd89.below hb10
            have hd910 := RdB.below hd9 hb10
            have hr0 := hx10.r0
            have hr1 := hx10.r1
            clear hx9 hb10 hd89 hd9 hk1 hk2 hd69 hd79
            go_wp2_with fail
            refine (rsplit_S W.heap.size K M hK (by omega) At ct text (by omega) w10 (RdB.below hrt hx10.below)).mono ?_
            rintro e w11 ⟨v11, rfl, hd11, hb11⟩
            have hx11 := hx10.next hb11
            obtain ⟨A11, c11, rfl, hl11, hd11⟩ := hd11 (W.heap.size + 1) hx10.code.2.2.lt
            have hd811 := hd810.below hb11
            have hd911 := RdB.below hd910 hb11
            clear hx10 hb11 hd810 hd910 hr0 hr1
            go_wp2_with fail
            refine (lists_any _ _ A8 A11 c8 c11 (splitF K text) (splitF K text) (by rw [splitF_length]; omega) w11 hd811 hd11).mono ?_
            rintro e w12 ⟨rfl, hb12⟩
            rw [decide_eq_true rfl]
            have hx12 := hx11.next hb12
            have hd912 := RdB.below hd911 hb12
            have hk3 : (convert 54 9 (.slice A9 text.length c9)).run Tryd.prog w12 = .ok (.string (strF text)) w12 := conv_rd hd912 c9
            have hk4 : (convert 54 9 (.slice At text.length ct)).run Tryd.prog w12 = .ok (.string (strF text)) w12 := conv_rd (RdB.below hrt hx12.below) ct
            clear hx11 hb12 hd811 hd11 hd911 hd912
            go_wp2_with fail
            refine (sure8_any _).mono ?_
            rintro e w13 ⟨rfl, hb13⟩
            have hx13 := hx12.next hb13
            clear hx12 hb13 hk3 hk4
            go_wp2
            go_ret
            exact ⟨rfl, hx13.below⟩
      · skip
        go_wp2_with fail
        refine (new_bad k m hbad _).mono ?_
        rintro e w1 ⟨rfl, rfl⟩
        go_wp2_with fail
        refine (rnew_bad k m hbad _).mono ?_
        rintro e w2 ⟨rfl, hb2⟩
        have hbw : Below W.heap.size W (w2.alloc (.cells #[.int .i64 0, .int .i64 0] 51)) := by
          have h1 : Below W.heap.size W (W.alloc (.cells #[.int .i64 k, .int .i64 m] 47)) := (Below.refl _ _).alloc (Nat.le_refl _) _
          have h2 := (h1.trans (hbx.mono (Nat.le_succ _))).trans (hb2.mono (by rw [hz0]; omega))
          exact h2.alloc h2.size _
        clear hbad hb2 hbx hq0 hq1 hz0
        unfold errN
        go_wp2_with fail
        generalize w2.alloc (.cells #[.int .i64 0, .int .i64 0] 51) = w4 at *
        refine (num8_hit 1 _ (hH.below hb0 hbw)).mono ?_
        rintro e w5 ⟨rfl, hb5⟩
        have hbw5 := hbw.trans (hb5.mono hbw.size)
        clear hbw hb5
        go_wp2_with fail
        refine (sure8_any _).mono ?_
        rintro e w6 ⟨rfl, hb6⟩
        have hbw6 := hbw5.trans (hb6.mono hbw5.size)
        clear hbw5 hb6
        go_wp2
        go_ret
        exact ⟨rfl, hbw6⟩
end Go.Proofs.YtdeopklgdemnfaaDoor
