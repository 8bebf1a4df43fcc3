/- The walk of the law on a code's rows and parts. Condition: the library's handle of the type 'error' reads as the program lays it. -/
import Derived.Test.YtdeopklgdemnfaaDoorRsRowS
import Derived.Deep.RegionLaw
import Derived.Deep.RegionHeld3
import Derived.Lib.SlBytesConst
import Derived.Deep.RegionHeld3
import Derived.Lib.SlBytesConst
import Derived.Deep.RegionHeld3
import Derived.Deep.RegionHeld3
namespace Go.Proofs.YtdeopklgdemnfaaDoor
open Go.RowKit Gf Rs

theorem encS_len {K M : Nat} {ls : List (List F)} : (encS K M ls).1.length ≤ K + M := by
  unfold encS
  split
  · split
    · simp
    · rw [outF_length]; omega
  · simp
theorem decS_len {K M : Nat} {ls : List (List F)} {ts : List Bool} : (decS K M ls ts).1.length ≤ K + M := by
  unfold decS
  split
  · split
    · simp
    · split
      · simp
      · split
        · simp
        · rw [outF_length]; omega
  · simp
theorem data_nil (w : World) : Calls Tryd.prog 36 #[.pointer none] w fun e w' => e = .returned (.int .i64 0) ∧ w = w' := by
  go_enter Tryd.func36, Tryd.ntmps36
  go_wp2
  go_ret
  exact ⟨rfl, rfl⟩
theorem parity_nil (w : World) : Calls Tryd.prog 37 #[.pointer none] w fun e w' => e = .returned (.int .i64 0) ∧ w = w' := by
  go_enter Tryd.func37, Tryd.ntmps37
  go_wp2
  go_ret
  exact ⟨rfl, rfl⟩
theorem all_nil (w : World) : Calls Tryd.prog 55 #[.pointer none] w fun e w' => e = .returned (.int .i64 0) ∧ w = w' := by
  go_enter Tryd.func55, Tryd.ntmps55
  go_wp2_with (first | (go_at_call 36; refine (data_nil _).mono ?_; rintro e w' ⟨rfl, rfl⟩) | (go_at_call 37; refine (parity_nil _).mono ?_; rintro e w' ⟨rfl, rfl⟩))
  go_ret
  exact ⟨rfl, rfl⟩
theorem row_nil0 (w : World) : Calls Tryd.prog 34 #[.pointer none, .int .i64 0] w fun e w' => e = .returned (.tuple #[.slice none 0 0, errN 1]) ∧ w = w' := by
  go_enter Tryd.func34, Tryd.ntmps34
  go_wp2_with (go_at_call 55; refine (all_nil _).mono ?_; rintro e w' ⟨rfl, rfl⟩)
  go_ret2
  exact ⟨rfl, rfl⟩
/-- What holds behind the parts that were made, and made again. -/
structure P5 (W w : World) (K M cb fb rb : Nat) (A5 A6 A7 A8 A9 : Option Addr) (ls X Y : List (List F)) : Prop where
  ctx : Ctx W w K M cb fb rb
  mine : RdM fb w A5 ls
  x : RdM fb w A6 X
  y : RdM fb w A7 X
  p : RdM fb w A8 Y
  q : RdM fb w A9 Y
theorem P5.next {W w w' : World} {K M cb fb rb : Nat} {A5 A6 A7 A8 A9 : Option Addr} {ls X Y : List (List F)} (h : P5 W w K M cb fb rb A5 A6 A7 A8 A9 ls X Y) (k : Below w.heap.size w w') : P5 W w' K M cb fb rb A5 A6 A7 A8 A9 ls X Y :=
  ⟨h.ctx.next k, h.mine.below k, h.x.below k, h.y.below k, h.p.below k, h.q.below k⟩
theorem P5.keep {W w w' : World} {K M cb fb rb : Nat} {A5 A6 A7 A8 A9 : Option Addr} {ls X Y : List (List F)} (h : P5 W w K M cb fb rb A5 A6 A7 A8 A9 ls X Y) (k : Keep fb w w') : P5 W w' K M cb fb rb A5 A6 A7 A8 A9 ls X Y :=
  ⟨h.ctx.keep k, h.mine.keep k, h.x.keep k, h.y.keep k, h.p.keep k, h.q.keep k⟩
theorem infoTBool : ∃ i : TypeInfo, Tryd.prog.info? 4 = some i ∧ i.zero = some (.bool false) ∧ i.size = 1 ∧ i.bytes = 1 := by
  obtain ⟨iB, h1, h2, h3, h4⟩ := info_parts infoBool
  exact ⟨iB, h1, h2, h3, h4⟩
set_option maxRecDepth 100000 in
set_option maxHeartbeats 3200000 in
theorem rsparts (k m : Int) (v1 v2 : Value) (W : World) (hH : Handle W) (h1 : BssIn W v1) (h2 : BoolsIn W v2) : Calls Tryd.prog 11 #[.agg #[.int .i64 k, .int .i64 m], v1, v2] W (LawEnd W) := by
  obtain ⟨A, c, ls, rfl, hc, hq, hrd, hlen⟩ := h1
  obtain ⟨At, ct, ts, rfl, htl, hrt⟩ := h2
  have hb0 := hH.lt
  have HLEN := Lib.hid hlen
  clear hlen
  obtain ⟨iO, hiO, hzO0, hzO1, hzO2⟩ := infoTBool
  rcases good_or k m with ⟨K, M, rfl, rfl, hK, hKM⟩ | hbad
  · skip
    go_enter Tryd.func11, Tryd.ntmps11
    go_wp2_with fail
    refine (new_good K M hK hKM _).mono ?_
    rintro e w1 ⟨rfl, hc1, hb1, _⟩
    rw [World.size_alloc] at hc1 hb1
    have hs0 : w1.cell? ⟨W.heap.size, 0, none⟩ = some (.int .i64 K) := (World.cell?_of_block (hb1.block _ (Nat.lt_succ_self _))).trans (by simp)
    have hs1 : w1.cell? ⟨W.heap.size, 1, none⟩ = some (.int .i64 M) := (World.cell?_of_block (hb1.block _ (Nat.lt_succ_self _))).trans (by simp)
    go_wp2_with fail
    refine (rnew_good K M hK hKM _).mono ?_
    rintro e w2 ⟨rfl, hb2⟩
    have hx := ctx_made hc1 hb1 hb2
    clear hc1 hb1 hb2 hs0 hs1
    go_wp2_with fail
    generalize w2.alloc (.cells #[.int .i64 K, .int .i64 M] 51) = w3 at *
    generalize w2.heap.size = rb at *
    refine (num8_nil _).mono ?_
    rintro e w4 ⟨rfl, hb4⟩
    have hx4 := hx.next hb4
    clear hx hb4
    go_wp2_with fail
    refine (long_any W.heap.size A c ls hq HLEN.out w4 (hrd.below hx4.below)).mono ?_
    rintro e w' ⟨b, rfl, rfl, hshort⟩
    have HSH := Lib.hid hshort
    clear hshort
    cases b with
    | true =>
      go_wp2_with fail
      refine (sure8_any _).mono ?_
      rintro e w6 ⟨rfl, hb6⟩
      have hx6 := hx4.next hb6
      clear hx4 hb6
      go_wp2
      go_ret
      exact ⟨rfl, hx6.below⟩
    | false =>
      obtain ⟨hl65, htot⟩ := HSH.out rfl
      have hlen : ∀ (i : Nat) (l : List F), ls[i]? = some l → l.length ≤ 1048576 := fun i l hi => by have := cat_part hi; omega
      have HLN := Lib.hid hlen
      clear hlen htot HSH HLEN
      have hfbs := hx4.fbs
      go_wp2_with fail
      refine (twins_any W.heap.size A c ls (by omega) HLN.out w4 (hrd.below hx4.below)).mono ?_
      rintro e w5 ⟨v5, rfl, ho5, hb5⟩
      have hx5 := hx4.next hb5
      obtain ⟨A5, c5, rfl⟩ := ho5.shape
      have hr5 : RdM (W.heap.size + 1) w5 A5 ls := by
        obtain ⟨_, _, e, _, hr⟩ := ho5.hdm (show W.heap.size + 1 < w4.heap.size from hx4.code.2.2.lt)
        cases e; exact hr
      clear hx4 hb5 ho5
      go_wp2_with (at_builtin; refine Hid.out ?_)
      unfold Hid
      refine wpList_append_rd rfl _ _ 74 rfl w5.heap.size 4 iO (.bool false) 1 Tryd.underlying74 hiO hzO0 hzO1 hzO2 rfl (.slice none 0 0) 0 [] rfl (World.ownsRow_nil _ _ _ _) (W.heap.size + 1) At ts.length ct (ts.map Value.bool) rfl (by simp) ((hx5.bs hrt)) (by intro u hu; obtain ⟨x, _, rfl⟩ := List.mem_map.1 hu; rfl) (by unfold maxLen; omega) (by omega) (Nat.le_refl _) ?_
      intro vf w6 hownf hgrowf
      have hbf : Below w5.heap.size w5 w6 := (Below.refl _ _).grown hgrowf (Nat.le_refl _) (fun k e => by simp [Value.ownBlock] at e)
      rw [Nat.zero_add, List.nil_append] at hownf
      obtain ⟨Af, cf, rfl⟩ := ownsRow_shape hownf
      have hrf : RdV (W.heap.size + 1) w6 Af (ts.map Value.bool) := own_rdv hownf hx5.code.2.2.lt
      have hx6 := hx5.next hbf
      have hr6 := hr5.below hbf
      clear hx5 hr5 hgrowf hbf hownf
      go_wp2_with fail
      refine (encode_S _ K M _ hK hKM A5 c5 ls HLN.out w6 hx6.code hr6).mono ?_
      rintro e w7 ⟨v7, rfl, ⟨A6, c6, rfl, hl6, hd6⟩, hk7⟩
      have hx7 := hx6.keep hk7
      have hr7 := hr6.keep hk7
      have hrf7 := hrf.keep hk7
      have hr0 := hx7.r0
      have hr1 := hx7.r1
      clear hx6 hk7 hr6 hrf
      go_wp2_with fail
      refine (renc_S W.heap.size K M hK hKM A c ls HLN.out (by omega) w7 (hrd.below hx7.below)).mono ?_
      rintro e w8 ⟨v8, rfl, hd8, hb8⟩
      have hx8 := hx7.next hb8
      obtain ⟨A7, c7, rfl, hl7, hd7⟩ := hd8 (W.heap.size + 1) hx7.code.2.2.lt
      have hd68 := hd6.below hb8
      have hr8 := hr7.below hb8
      have hrf8 := hrf7.below hb8
      have hlS := encS_len (K := K) (M := M) (ls := ls)
      generalize (encS K M ls).1 = X at *
      generalize (encS K M ls).2 = code at *
      clear hx7 hb8 hd6 hr0 hr1 hr7 hrf7 hd8
      go_wp2_with fail
      refine (decode_S _ K M _ hK hKM A5 Af c5 cf ls ts HLN.out w8 hx8.code hr8 hrf8).mono ?_
      rintro e w9 ⟨v9, rfl, ⟨A8, c8, rfl, hl8, hd8⟩, hk9⟩
      have hx9 := hx8.keep hk9
      have hd69 := hd68.keep hk9
      have hd79 := hd7.keep hk9
      have hr9 := hr8.keep hk9
      have hr0 := hx9.r0
      have hr1 := hx9.r1
      clear hx8 hk9 hd68 hd7 hr8 hrf8
      go_wp2_with fail
      refine (rdec_S W.heap.size K M hK hKM A At c ct ls ts HLN.out w9 hx9.lt (hrd.below hx9.below) (RdV.below hrt hx9.below)).mono ?_
      rintro e w10 ⟨v10, rfl, hd10, hb10⟩
      obtain ⟨A9, c9, rfl, hl9, hd9⟩ := hd10 (W.heap.size + 1) hx9.code.2.2.lt
      have hP : P5 W w10 K M (W.heap.size + 2) (W.heap.size + 1) rb A5 A6 A7 A8 A9 ls X (decS K M ls ts).1 := ⟨hx9.next hb10, hr9.below hb10, hd69.below hb10, hd79.below hb10, hd8.below hb10, hd9⟩
      have hlD := decS_len (K := K) (M := M) (ls := ls) (ts := ts)
      generalize (decS K M ls ts).1 = Y at *
      generalize (decS K M ls ts).2 = code2 at *
      clear hx9 hb10 hd69 hd79 hr9 hr0 hr1 hd8 hd9 hd10
      go_wp2
      go_loopw [30, 31, 32, 33, 34] (fun j _ _ _ _ wr => ∃ n : Int, -1 ≤ n ∧ n ≤ (K : Int) + (M : Int) + 1 ∧ j = .int .i64 n ∧ P5 W wr K M (W.heap.size + 2) (W.heap.size + 1) rb A5 A6 A7 A8 A9 ls X Y) (fun j _ _ _ _ _ => ((K : Int) + (M : Int) + 1 - intOf j).toNat)
      case atStart => exact ⟨-1, by omega, by omega, rfl, hP⟩
      case round =>
        clear hP
        obtain ⟨n, hn1, hn2, rfl, hP⟩ := hrel
        have hs0 := hP.ctx.s0
        have hs1 := hP.ctx.s1
        by_cases hlt : n < (K : Int) + (M : Int) + 1
        · go_wp2_with fail
          refine (row_S _ K M _ hKM n wr hP.ctx.code).mono ?_
          rintro e w11 ⟨v11, rfl, ⟨A11, c11, rfl, hl11, hd11⟩, hk11⟩
          have hP1 := hP.keep hk11
          have hr0 := hP1.ctx.r0
          have hr1 := hP1.ctx.r1
          clear hP hk11 hs0 hs1
          go_wp2_with fail
          refine (rrow_S K M hKM n w11).mono ?_
          rintro e w12 ⟨v12, rfl, hd12, hb12⟩
          obtain ⟨A12, c12, rfl, hl12, hd12⟩ := hd12 (W.heap.size + 1) hP1.ctx.code.2.2.lt
          have hP2 := hP1.next hb12
          have hd112 := RdB.below hd11 hb12
          generalize (rowS K M n).1 = R at *
          generalize (rowS K M n).2 = code3 at *
          have hk1 : (convert 54 9 (.slice A11 R.length c11)).run Tryd.prog w12 = .ok (.string (strF R)) w12 := conv_rd hd112 c11
          have hk2 : (convert 54 9 (.slice A12 R.length c12)).run Tryd.prog w12 = .ok (.string (strF R)) w12 := conv_rd hd12 c12
          have hsr : ((strF R).toList == (strF R).toList) = true := by simp
          have hcc : (code3 != code3) = false := by simp
          clear hP1 hb12 hd11 hd12 hd112 hr0 hr1
          go_wp2_with fail
          refine (num8_S code3 _ (hH.below hb0 hP2.ctx.below)).mono ?_
          rintro e w13 ⟨rfl, hb13⟩
          have hP3 := hP2.next hb13
          clear hP2 hb13 hk1 hk2
          go_wp2
          exact ⟨⟨n + 1, by omega, by omega, rfl, hP3⟩, by simp [intOf]; omega⟩
        · have hKK : ((K : Int) == (K : Int)) = true := by simp
          have hMM : ((M : Int) == (M : Int)) = true := by simp
          have hcc : (code == code) = true := by simp
          have hcc2 : (code2 == code2) = true := by simp
          have hPd : P5 W wr.drew K M (W.heap.size + 2) (W.heap.size + 1) rb A5 A6 A7 A8 A9 ls X Y := hP.next ⟨rfl, rfl, rfl, Nat.le_refl _, fun _ _ => rfl⟩
          have hXl : X.length ≤ 9223372036854775807 := by omega
          have hYl : Y.length ≤ 9223372036854775807 := by omega
          clear hP
          go_wp2
          go_region_held3 (fun w' => w'.cell? ⟨W.heap.size, 0, none⟩ = some (.int .i64 K) ∧ w'.cell? ⟨W.heap.size, 1, none⟩ = some (.int .i64 M)) (first | exact ⟨hPd.ctx.s0, hPd.ctx.s1⟩ | exact ⟨hP2.ctx.s0, hP2.ctx.s1⟩ | exact ⟨hP3.ctx.s0, hP3.ctx.s1⟩ | exact ⟨hP4.ctx.s0, hP4.ctx.s1⟩ | exact ⟨hP5.ctx.s0, hP5.ctx.s1⟩ | exact ⟨hP6.ctx.s0, hP6.ctx.s1⟩ | exact ⟨hP7.ctx.s0, hP7.ctx.s1⟩)
            (first
            | (go_at_call 36; refine (data_any _ K M _ _ hPd.ctx.code).mono ?_; rintro e w11 ⟨rfl, rfl⟩)
            | (go_at_call 37; refine (parity_any _ K M _ _ hPd.ctx.code).mono ?_; rintro e w11 ⟨rfl, rfl⟩)
            | (go_at_call 42; ((with_reducible refine (lists_any _ _ A6 A7 c6 c7 X X hXl _ hPd.x hPd.y).mono ?_); rintro e w12 ⟨rfl, hb12⟩; rw [decide_eq_true rfl]; have hP2 := hPd.next hb12))
            | (go_at_call 32; ((with_reducible refine (num8_S code _ (hH.below hb0 hP2.ctx.below)).mono ?_); rintro e w13 ⟨rfl, hb13⟩; have hP3 := hP2.next hb13))
            | (go_at_call 42; ((with_reducible refine (lists_any _ _ A8 A9 c8 c9 Y Y hYl _ hP3.p hP3.q).mono ?_); rintro e w14 ⟨rfl, hb14⟩; rw [decide_eq_true rfl]; have hP4 := hP3.next hb14))
            | (go_at_call 32; ((with_reducible refine (num8_S code2 _ (hH.below hb0 hP4.ctx.below)).mono ?_); rintro e w15 ⟨rfl, hb15⟩; have hP5 := hP4.next hb15))
            | (go_at_call 42; ((with_reducible refine (lists_any _ _ A5 A c5 c ls ls hq _ hP5.mine (hrd.below hP5.ctx.below)).mono ?_); rintro e w16 ⟨rfl, hb16⟩; rw [decide_eq_true rfl]; have hP6 := hP5.next hb16))
            | (go_at_call 33; refine (sure8_any _).mono ?_; rintro e w17 ⟨rfl, hb17⟩; have hP7 := hP6.next hb17))
          all_goals
            go_wp2
            go_ret
            exact ⟨rfl, hP7.ctx.below⟩
  · clear hrd HLEN hrt
    have hcv := fun (w : World) (C : Array Value) (n c : Nat) => Lib.run_convert_bytes_const (P := Tryd.prog) w 54 5 C n c Tryd.underlying54 Tryd.underlying5
    go_enter Tryd.func11, Tryd.ntmps11
    go_wp2_with fail
    refine (new_bad k m hbad _).mono ?_
    rintro e w1 ⟨rfl, rfl⟩
    go_wp2_with fail
    refine (rnew_bad k m hbad _).mono ?_
    rintro e w2 ⟨rfl, hb2⟩
    have hbw : Below W.heap.size W (w2.alloc (.cells #[.int .i64 0, .int .i64 0] 51)) := by
      have h1 : Below W.heap.size W (W.alloc (.cells #[.int .i64 k, .int .i64 m] 47)) := (Below.refl _ _).alloc (Nat.le_refl _) _
      have h2 := h1.trans (hb2.mono (by simp))
      exact h2.alloc h2.size _
    clear hbad hb2
    go_wp2_with fail
    generalize w2.alloc (.cells #[.int .i64 0, .int .i64 0] 51) = w3 at *
    refine (num8_S 1 _ (hH.below hb0 hbw)).mono ?_
    rintro e w4 ⟨rfl, hb4⟩
    have hbw4 := hbw.trans (hb4.mono hbw.size)
    clear hbw hb4
    go_wp2_with fail
    refine (encode_nil none 0 0 _).mono ?_
    rintro e w5 ⟨rfl, rfl⟩
    go_wp2_with fail
    refine (decode_nil none none 0 0 0 0 _).mono ?_
    rintro e w5 ⟨rfl, rfl⟩
    go_wp2_with fail
    refine (row_nil0 _).mono ?_
    rintro e w5 ⟨rfl, rfl⟩
    go_wp2_with fail
    refine (join_nil none 0 0 0 _).mono ?_
    rintro e w5 ⟨rfl, rfl⟩
    go_wp2_with fail
    refine (num8_S 1 _ (hH.below hb0 hbw4)).mono ?_
    rintro e w5 ⟨rfl, hb5⟩
    have hbw5 := hbw4.trans (hb5.mono hbw4.size)
    clear hbw4 hb5
    go_wp2_with fail
    refine (num8_S 1 _ (hH.below hb0 hbw5)).mono ?_
    rintro e w6 ⟨rfl, hb6⟩
    have hbw6 := hbw5.trans (hb6.mono hbw5.size)
    clear hbw5 hb6
    go_wp2_with fail
    refine (num8_S 1 _ (hH.below hb0 hbw6)).mono ?_
    rintro e w7 ⟨rfl, hb7⟩
    have hbw7 := hbw6.trans (hb7.mono hbw6.size)
    clear hbw6 hb7
    go_wp2_with fail
    refine (num8_S 1 _ (hH.below hb0 hbw7)).mono ?_
    rintro e w8 ⟨rfl, hb8⟩
    have hbw8 := hbw7.trans (hb8.mono hbw7.size)
    clear hbw7 hb8
    go_wp2_with fail
    refine (data_nil _).mono ?_
    rintro e w9 ⟨rfl, rfl⟩
    go_wp2_with fail
    refine (parity_nil _).mono ?_
    rintro e w9 ⟨rfl, rfl⟩
    go_wp2_with fail
    refine (split_nil _ _ _ _).mono ?_
    rintro e w9 ⟨rfl, rfl⟩
    have hbw9 := hbw8.alloc hbw8.size (.cells #[.int .u8 97] 5 (1, 2))
    clear hbw8
    go_wp2_with fail
    refine (sure8_any _).mono ?_
    rintro e w10 ⟨rfl, hb10⟩
    have hbw10 := hbw9.trans (hb10.mono hbw9.size)
    clear hbw9 hb10
    go_wp2
    go_ret
    exact ⟨rfl, hbw10⟩
end Go.Proofs.YtdeopklgdemnfaaDoor
