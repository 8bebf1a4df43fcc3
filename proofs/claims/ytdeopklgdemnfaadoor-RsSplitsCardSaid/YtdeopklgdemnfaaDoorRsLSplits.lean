/- The walk of the law on every text in parts. Condition: the library's handle of the type 'error' reads as the program lays it. -/
import Derived.Test.YtdeopklgdemnfaaDoorRsCtx
namespace Go.Proofs.YtdeopklgdemnfaaDoor
open Go.RowKit Gf Rs

set_option maxRecDepth 100000 in
set_option maxHeartbeats 1600000 in
theorem rssplits (k m : Int) (v1 : Value) (W : World) (hH : Handle W) (h1 : BsIn W v1) : Calls Tryd.prog 10 #[.agg #[.int .i64 k, .int .i64 m], v1] W (LawEnd W) := by
  obtain ⟨A, c, l, rfl, hc, hq, hrd⟩ := h1
  have hb0 := hH.lt
  rcases good_or k m with ⟨K, M, rfl, rfl, hK, hKM⟩ | hbad
  · by_cases hlong : 3000 < l.length
    · have hli : (3000 : Int) < (l.length : Int) := by omega
      go_enter Tryd.func10, Tryd.ntmps10
      go_wp2_with fail
      refine (new_good K M hK hKM _).mono ?_
      rintro e w1 ⟨rfl, hc1, hb1, _⟩
      rw [World.size_alloc] at hc1 hb1
      have hs0 : w1.cell? ⟨W.heap.size, 0, none⟩ = some (.int .i64 K) := (World.cell?_of_block (hb1.block _ (Nat.lt_succ_self _))).trans (by simp)
      have hs1 : w1.cell? ⟨W.heap.size, 1, none⟩ = some (.int .i64 M) := (World.cell?_of_block (hb1.block _ (Nat.lt_succ_self _))).trans (by simp)
      go_wp2_with fail
      refine (rnew_good K M hK hKM _).mono ?_
      rintro e w2 ⟨rfl, hb2⟩
      have hx := ctx_made hc1 hb1 hb2
      clear hc1 hb1 hb2 hs0 hs1
      go_wp2_with fail
      generalize w2.alloc (.cells #[.int .i64 K, .int .i64 M] 51) = w3 at *
      generalize w2.heap.size = rb at *
      refine (num8_nil _).mono ?_
      rintro e w4 ⟨rfl, hb4⟩
      have hx4 := hx.next hb4
      clear hx hb4
      go_wp2_with fail
      refine (num8_nil _).mono ?_
      rintro e w5 ⟨rfl, hb5⟩
      have hx5 := hx4.next hb5
      clear hx4 hb5
      go_wp2_with fail
      refine (sure8_any _).mono ?_
      rintro e w6 ⟨rfl, hb6⟩
      have hx6 := hx5.next hb6
      clear hx5 hb6
      go_wp2
      go_ret
      exact ⟨rfl, hx6.below⟩
    · have hli : ¬ (3000 : Int) < (l.length : Int) := by omega
      go_enter Tryd.func10, Tryd.ntmps10
      go_wp2_with fail
      refine (new_good K M hK hKM _).mono ?_
      rintro e w1 ⟨rfl, hc1, hb1, _⟩
      rw [World.size_alloc] at hc1 hb1
      have hs0 : w1.cell? ⟨W.heap.size, 0, none⟩ = some (.int .i64 K) := (World.cell?_of_block (hb1.block _ (Nat.lt_succ_self _))).trans (by simp)
      have hs1 : w1.cell? ⟨W.heap.size, 1, none⟩ = some (.int .i64 M) := (World.cell?_of_block (hb1.block _ (Nat.lt_succ_self _))).trans (by simp)
      go_wp2_with fail
      refine (rnew_good K M hK hKM _).mono ?_
      rintro e w2 ⟨rfl, hb2⟩
      have hx := ctx_made hc1 hb1 hb2
      clear hc1 hb1 hb2 hs0 hs1
      go_wp2_with fail
      generalize w2.alloc (.cells #[.int .i64 K, .int .i64 M] 51) = w3 at *
      generalize w2.heap.size = rb at *
      refine (num8_nil _).mono ?_
      rintro e w4 ⟨rfl, hb4⟩
      have hx4 := hx.next hb4
      clear hx hb4
      go_wp2_with fail
      refine (split_S _ K M _ hK (by omega) A c l (by omega) hc w4 hx4.code (hx4.bs hrd)).mono ?_
      rintro e w5 ⟨v5, rfl, ⟨A5, c5, rfl, hl5, hd5⟩, hk5⟩
      have hx5 := hx4.keep hk5
      rw [splitF_length] at hl5 ⊢
      have hrow : ∀ i, (hi : i < K) → ((splitF K l)[i]'(by rw [splitF_length]; exact hi)).length = partN K l.length := fun i hi => by
        have := splitF_row (l := l) hi
        rwa [List.getD_eq_getElem?_getD, List.getElem?_eq_getElem (by rw [splitF_length]; exact hi)] at this
      have HROW := Lib.hid hrow
      obtain ⟨b0, o0, B0, q0, rfl, hbb0, hc0, _, _⟩ := hd5.at (i := 0) (by rw [splitF_length]; omega)
      rw [hrow 0 (by omega), Nat.add_zero] at hc0
      have hb0lt := cell_lt hc0
      clear hx4 hk5 hrow
      go_wp2
      obtain ⟨wo, rfl⟩ : ∃ wo : World, wo = w5 := ⟨_, rfl⟩
      go_loopw [10] (fun i wr => ∃ j : Nat, 1 ≤ j ∧ j ≤ K ∧ i = .int .i64 j ∧ Below wo.heap.size wo wr) (fun i _ => K - (intOf i).toNat)
      case atStart => exact ⟨1, by omega, by omega, rfl, Below.refl _ _⟩
      case round =>
        obtain ⟨j, hj1, hj, rfl, hb⟩ := hrel
        by_cases hlt : j < K
        · obtain ⟨b2, o2, B2, q2, e2, hbb2, hc2, _, _⟩ := (hd5.below hb).at (i := j) (by rw [splitF_length]; exact hlt)
          cases e2
          rw [HROW.out j hlt] at hc2
          have hc0r : wr.cell? ⟨b0, o0, none⟩ = some (.slice B0 (partN K l.length) q0) := by rw [← hc0]; exact World.cell?_of_block (hb.block b0 hb0lt)
          have hji : (j : Int) < (K : Int) := by omega
          have h0i : (0 : Int) < (K : Int) := by omega
          have hne : (((partN K l.length : Nat) : Int) != ((partN K l.length : Nat) : Int)) = false := by simp
          generalize partN K l.length = n at *
          go_wp2
          go_quiet (fail)
          clear hc2 hc0r
          go_wp2
          exact ⟨⟨j + 1, by omega, by omega, by go_num, below_drewN hb _⟩, by simp [intOf]; omega⟩
        · have hji : ¬ (j : Int) < (K : Int) := by omega
          have hx6 := hx5.next hb
          have hd6 := hd5.below hb
          have hr0 := hx6.r0
          have hr1 := hx6.r1
          clear hx5 hb hc0 hd5 HROW hb0lt
          go_wp2_with fail
          refine (rsplit_S W.heap.size K M hK (by omega) A c l (by omega) wr (RdB.below hrd hx6.below)).mono ?_
          rintro e w7 ⟨v7, rfl, hd7, hb7⟩
          have hx7 := hx6.next hb7
          obtain ⟨A7, c7, rfl, hl7, hd7⟩ := hd7 W.heap.size hx6.lt
          have hd67 := hd6.below hb7
          have hlists := lists_any _ _ (some ⟨b0, o0, none⟩) A7 c5 c7 (splitF K l) (splitF K l) (by rw [splitF_length]; omega) w7 hd67 hd7
          rw [splitF_length] at hlists hl7 ⊢
          have HLI := Lib.hid hlists
          clear hlists hx6 hb7 hd6 hd67 hd7 hr0 hr1
          go_wp2_with fail
          refine HLI.out.mono ?_
          rintro e w8 ⟨rfl, hb8⟩
          rw [decide_eq_true rfl]
          have hx8 := hx7.next hb8
          have hs0 := hx8.s0
          have hkk : ((K : Int) == (K : Int)) = true := by simp
          clear hx7 hb8 HLI
          go_wp2_with fail
          refine (sure8_any _).mono ?_
          rintro e w9 ⟨rfl, hb9⟩
          have hx9 := hx8.next hb9
          clear hx8 hb9 hs0
          go_wp2
          go_ret
          exact ⟨rfl, hx9.below⟩
  · clear hrd
    go_enter Tryd.func10, Tryd.ntmps10
    go_wp2_with fail
    refine (new_bad k m hbad _).mono ?_
    rintro e w1 ⟨rfl, rfl⟩
    go_wp2_with fail
    refine (rnew_bad k m hbad _).mono ?_
    rintro e w2 ⟨rfl, hb2⟩
    have hbw : Below W.heap.size W (w2.alloc (.cells #[.int .i64 0, .int .i64 0] 51)) := by
      have h1 : Below W.heap.size W (W.alloc (.cells #[.int .i64 k, .int .i64 m] 47)) := (Below.refl _ _).alloc (Nat.le_refl _) _
      have h2 := h1.trans (hb2.mono (by simp))
      exact h2.alloc h2.size _
    clear hbad hb2
    go_wp2_with fail
    generalize w2.alloc (.cells #[.int .i64 0, .int .i64 0] 51) = w3 at *
    refine (num8_S 1 _ (hH.below hb0 hbw)).mono ?_
    rintro e w4 ⟨rfl, hb4⟩
    have hbw4 := hbw.trans (hb4.mono hbw.size)
    clear hbw hb4
    go_wp2_with fail
    refine (num8_S 1 _ (hH.below hb0 hbw4)).mono ?_
    rintro e w5 ⟨rfl, hb5⟩
    have hbw5 := hbw4.trans (hb5.mono hbw4.size)
    clear hbw4 hb5
    go_wp2_with fail
    refine (sure8_any _).mono ?_
    rintro e w6 ⟨rfl, hb6⟩
    have hbw6 := hbw5.trans (hb6.mono hbw5.size)
    clear hbw5 hb6
    go_wp2
    go_ret
    exact ⟨rfl, hbw6⟩
end Go.Proofs.YtdeopklgdemnfaaDoor
