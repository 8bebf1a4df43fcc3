/- The walk of the law on all parts of data. Condition: the library's handle of the type 'error' reads as the program lays it. -/
import Derived.Test.YtdeopklgdemnfaaDoorRsCtx
namespace Go.Proofs.YtdeopklgdemnfaaDoor
open Go.RowKit Gf Rs

set_option maxRecDepth 100000 in
set_option maxHeartbeats 1600000 in
theorem rsencodes (k m : Int) (v1 : Value) (W : World) (hH : Handle W) (h1 : BssIn W v1) : Calls Tryd.prog 8 #[.agg #[.int .i64 k, .int .i64 m], v1] W (LawEnd W) := by
  obtain ⟨A, c, ls, rfl, hc, hq, hrd, hlen⟩ := h1
  have hb0 := hH.lt
  rcases good_or k m with ⟨K, M, rfl, rfl, hK, hKM⟩ | hbad
  · have HLEN := Lib.hid hlen
    clear hlen
    go_enter Tryd.func8, Tryd.ntmps8
    go_wp2_with fail
    refine (new_good K M hK hKM _).mono ?_
    rintro e w1 ⟨rfl, hc1, hb1, _⟩
    rw [World.size_alloc] at hc1 hb1
    have hs0 : w1.cell? ⟨W.heap.size, 0, none⟩ = some (.int .i64 K) := (World.cell?_of_block (hb1.block _ (Nat.lt_succ_self _))).trans (by simp)
    have hs1 : w1.cell? ⟨W.heap.size, 1, none⟩ = some (.int .i64 M) := (World.cell?_of_block (hb1.block _ (Nat.lt_succ_self _))).trans (by simp)
    go_wp2_with fail
    refine (rnew_good K M hK hKM _).mono ?_
    rintro e w2 ⟨rfl, hb2⟩
    have hx := ctx_made hc1 hb1 hb2
    clear hc1 hb1 hb2 hs0 hs1
    go_wp2_with fail
    generalize w2.alloc (.cells #[.int .i64 K, .int .i64 M] 51) = w3 at *
    generalize w2.heap.size = rb at *
    refine (num8_nil _).mono ?_
    rintro e w4 ⟨rfl, hb4⟩
    have hx4 := hx.next hb4
    clear hx hb4
    go_wp2_with fail
    refine (long_any W.heap.size A c ls hq HLEN.out w4 (hrd.below hx4.below)).mono ?_
    rintro e w' ⟨b, rfl, rfl, hshort⟩
    have HSH := Lib.hid hshort
    clear hshort
    cases b with
    | true =>
      go_wp2_with fail
      refine (num8_nil _).mono ?_
      rintro e w5 ⟨rfl, hb5⟩
      have hx5 := hx4.next hb5
      clear hx4 hb5
      go_wp2_with fail
      refine (sure8_any _).mono ?_
      rintro e w6 ⟨rfl, hb6⟩
      have hx6 := hx5.next hb6
      clear hx5 hb6
      go_wp2
      go_ret
      exact ⟨rfl, hx6.below⟩
    | false =>
      obtain ⟨hl65, htot⟩ := HSH.out rfl
      have hlen : ∀ (i : Nat) (l : List F), ls[i]? = some l → l.length ≤ 1048576 := fun i l hi => by have := cat_part hi; omega
      have HLN := Lib.hid hlen
      clear hlen htot
      have hfbs := hx4.fbs
      go_wp2_with fail
      refine (twins_any W.heap.size A c ls (by omega) HLN.out w4 (hrd.below hx4.below)).mono ?_
      rintro e w5 ⟨v5, rfl, ho5, hb5⟩
      have hx5 := hx4.next hb5
      obtain ⟨A5, c5, rfl⟩ := ho5.shape
      have hr5 : RdM (W.heap.size + 1) w5 A5 ls := by
        obtain ⟨_, _, e, _, hr⟩ := ho5.hdm (show W.heap.size + 1 < w4.heap.size from hx4.code.2.2.lt)
        cases e; exact hr
      clear hx4 hb5 ho5
      go_wp2_with fail
      refine (encode_S _ K M _ hK hKM A5 c5 ls HLN.out w5 hx5.code hr5).mono ?_
      rintro e w6 ⟨v6, rfl, ⟨A6, c6, rfl, hl6, hd6⟩, hk6⟩
      have hx6 := hx5.keep hk6
      clear hx5 hk6 hr5
      have hr0 := hx6.r0
      have hr1 := hx6.r1
      go_wp2_with fail
      refine (renc_S W.heap.size K M hK hKM A c ls HLN.out (by omega) w6 (hrd.below hx6.below)).mono ?_
      rintro e w7 ⟨v7, rfl, hd7, hb7⟩
      have hx7 := hx6.next hb7
      obtain ⟨A7, c7, rfl, hl7, hd7⟩ := hd7 W.heap.size hx6.lt
      have hd67 := hd6.below hb7
      have hlS : (encS K M ls).1.length ≤ 9223372036854775807 := by
        unfold encS
        split
        · split
          · simp
          · rw [outF_length]; omega
        · simp
      generalize (encS K M ls).1 = R at *
      generalize (encS K M ls).2 = code at *
      clear hx6 hb7 hd6 hr0 hr1
      go_wp2_with fail
      refine (lists_any _ _ A6 A7 c6 c7 R R hlS w7 hd67 hd7).mono ?_
      rintro e w8 ⟨rfl, hb8⟩
      rw [decide_eq_true rfl]
      have hx8 := hx7.next hb8
      clear hx7 hb8 hd67 hd7 hl7 hl6 hlS
      go_wp2_with fail
      refine (num8_S code _ (hH.below hb0 hx8.below)).mono ?_
      rintro e w9 ⟨rfl, hb9⟩
      have hx9 := hx8.next hb9
      clear hx8 hb9
      go_wp2_with fail
      refine (sure8_any _).mono ?_
      rintro e w10 ⟨rfl, hb10⟩
      have hx10 := hx9.next hb10
      clear hx9 hb10
      go_wp2
      go_ret
      exact ⟨rfl, hx10.below⟩
  · clear hlen hrd
    go_enter Tryd.func8, Tryd.ntmps8
    go_wp2_with fail
    refine (new_bad k m hbad _).mono ?_
    rintro e w1 ⟨rfl, rfl⟩
    go_wp2_with fail
    refine (rnew_bad k m hbad _).mono ?_
    rintro e w2 ⟨rfl, hb2⟩
    have hbw : Below W.heap.size W (w2.alloc (.cells #[.int .i64 0, .int .i64 0] 51)) := by
      have h1 : Below W.heap.size W (W.alloc (.cells #[.int .i64 k, .int .i64 m] 47)) := (Below.refl _ _).alloc (Nat.le_refl _) _
      have h2 := h1.trans (hb2.mono (by simp))
      exact h2.alloc h2.size _
    clear hbad hb2
    go_wp2_with fail
    generalize w2.alloc (.cells #[.int .i64 0, .int .i64 0] 51) = w3 at *
    refine (num8_S 1 _ (hH.below hb0 hbw)).mono ?_
    rintro e w4 ⟨rfl, hb4⟩
    have hbw4 := hbw.trans (hb4.mono hbw.size)
    clear hbw hb4
    go_wp2_with fail
    refine (num8_S 1 _ (hH.below hb0 hbw4)).mono ?_
    rintro e w5 ⟨rfl, hb5⟩
    have hbw5 := hbw4.trans (hb5.mono hbw4.size)
    clear hbw4 hb5
    go_wp2_with fail
    refine (sure8_any _).mono ?_
    rintro e w6 ⟨rfl, hb6⟩
    have hbw6 := hbw5.trans (hb6.mono hbw5.size)
    clear hbw5 hb6
    go_wp2
    go_ret
    exact ⟨rfl, hbw6⟩
end Go.Proofs.YtdeopklgdemnfaaDoor
