/- The walk of the law on every row of every code. Condition: the library's handle of the type 'error' reads as the program lays it. -/
import Derived.Test.YtdeopklgdemnfaaDoorRsRowS
import Derived.Deep.RegionLaw
namespace Go.Proofs.YtdeopklgdemnfaaDoor
open Go.RowKit Gf Rs

set_option maxRecDepth 100000 in
set_option maxHeartbeats 1600000 in
theorem rsrows (k m i : Int) (W : World) (hH : Handle W) : Calls Tryd.prog 7 #[.agg #[.int .i64 k, .int .i64 m], .int .i64 i] W (LawEnd W) := by
  have hb0 := hH.lt
  rcases good_or k m with ⟨K, M, rfl, rfl, hK, hKM⟩ | hbad
  · skip
    go_enter Tryd.func7, Tryd.ntmps7
    go_wp2_with fail
    refine (new_good K M hK hKM _).mono ?_
    rintro e w1 ⟨rfl, hc1, hb1, _⟩
    rw [World.size_alloc] at hc1 hb1
    have hs0 : w1.cell? ⟨W.heap.size, 0, none⟩ = some (.int .i64 K) := (World.cell?_of_block (hb1.block _ (Nat.lt_succ_self _))).trans (by simp)
    have hs1 : w1.cell? ⟨W.heap.size, 1, none⟩ = some (.int .i64 M) := (World.cell?_of_block (hb1.block _ (Nat.lt_succ_self _))).trans (by simp)
    go_wp2_with fail
    refine (rnew_good K M hK hKM _).mono ?_
    rintro e w2 ⟨rfl, hb2⟩
    have hx := ctx_made hc1 hb1 hb2
    clear hc1 hb1 hb2 hs0 hs1
    go_wp2_with fail
    generalize w2.alloc (.cells #[.int .i64 K, .int .i64 M] 51) = w3 at *
    generalize w2.heap.size = rb at *
    refine (num8_nil _).mono ?_
    rintro e w4 ⟨rfl, hb4⟩
    have hx4 := hx.next hb4
    clear hx hb4
    go_wp2_with fail
    refine (row_S _ K M _ hKM i w4 hx4.code).mono ?_
    rintro e w5 ⟨v5, rfl, ⟨A5, c5, rfl, hl5, hd5⟩, hk5⟩
    have hx5 := hx4.keep hk5
    have hr0 := hx5.r0
    have hr1 := hx5.r1
    clear hx4 hk5
    go_wp2_with fail
    refine (rrow_S K M hKM i w5).mono ?_
    rintro e w6 ⟨v6, rfl, hd6, hb6⟩
    have hx6 := hx5.next hb6
    obtain ⟨A6, c6, rfl, hl6, hd6⟩ := hd6 W.heap.size hx5.lt
    have hd56 := RdB.below hd5 hb6
    clear hx5 hb6 hd5 hr0 hr1
    generalize (rowS K M i).1 = R at *
    generalize (rowS K M i).2 = code at *
    have hk1 : (convert 54 9 (.slice A5 R.length c5)).run Tryd.prog w6.drew = .ok (.string (strF R)) w6.drew := conv_rd (w := w6.drew) (RdB.below (w' := w6.drew) hd56 ⟨rfl, rfl, rfl, Nat.le_refl _, fun _ _ => rfl⟩) c5
    have hk2 : (convert 54 9 (.slice A6 R.length c6)).run Tryd.prog w6.drew = .ok (.string (strF R)) w6.drew := conv_rd (w := w6.drew) (RdB.below (w' := w6.drew) hd6 ⟨rfl, rfl, rfl, Nat.le_refl _, fun _ _ => rfl⟩) c6
    have hsr : ((strF R).toList == (strF R).toList) = true := by simp
    have hcc : (code == code) = true := by simp
    have hKK : ((K : Int) == (K : Int)) = true := by simp
    have hMM : ((M : Int) == (M : Int)) = true := by simp
    have hxd : Ctx W w6.drew K M (W.heap.size + 2) (W.heap.size + 1) rb := hx6.next ⟨rfl, rfl, rfl, Nat.le_refl _, fun _ _ => rfl⟩
    clear hd56 hd6 hx6
    go_wp2
    go_region_law (first
      | (go_simp; go_at_call 32; refine (num8_S code _ (hH.below hb0 hxd.below)).mono ?_; rintro e w7 ⟨rfl, hb7⟩; have hx7 := hxd.next hb7; have hs70 := hx7.s0; have hs71 := hx7.s1)
      | (go_simp; go_at_call 36; refine (data_any _ K M _ _ hx7.code).mono ?_; rintro e w8 ⟨rfl, rfl⟩)
      | (go_simp; go_at_call 37; refine (parity_any _ K M _ _ hx7.code).mono ?_; rintro e w8 ⟨rfl, rfl⟩)
      | (go_simp; go_at_call 33; refine (sure8_any _).mono ?_; rintro e w9 ⟨rfl, hb9⟩; have hx9 := hx7.next hb9))
    all_goals
      go_wp2
      go_ret
      exact ⟨rfl, hx9.below⟩
  · skip
    go_enter Tryd.func7, Tryd.ntmps7
    go_wp2_with fail
    refine (new_bad k m hbad _).mono ?_
    rintro e w1 ⟨rfl, rfl⟩
    go_wp2_with fail
    refine (rnew_bad k m hbad _).mono ?_
    rintro e w2 ⟨rfl, hb2⟩
    have hbw : Below W.heap.size W (w2.alloc (.cells #[.int .i64 0, .int .i64 0] 51)) := by
      have h1 : Below W.heap.size W (W.alloc (.cells #[.int .i64 k, .int .i64 m] 47)) := (Below.refl _ _).alloc (Nat.le_refl _) _
      have h2 := h1.trans (hb2.mono (by simp))
      exact h2.alloc h2.size _
    clear hbad hb2
    go_wp2_with fail
    generalize w2.alloc (.cells #[.int .i64 0, .int .i64 0] 51) = w3 at *
    refine (num8_S 1 _ (hH.below hb0 hbw)).mono ?_
    rintro e w4 ⟨rfl, hb4⟩
    have hbw4 := hbw.trans (hb4.mono hbw.size)
    clear hbw hb4
    go_wp2_with fail
    refine (num8_S 1 _ (hH.below hb0 hbw4)).mono ?_
    rintro e w5 ⟨rfl, hb5⟩
    have hbw5 := hbw4.trans (hb5.mono hbw4.size)
    clear hbw4 hb5
    go_wp2_with fail
    refine (sure8_any _).mono ?_
    rintro e w6 ⟨rfl, hb6⟩
    have hbw6 := hbw5.trans (hb6.mono hbw5.size)
    clear hbw5 hb6
    go_wp2
    go_ret
    exact ⟨rfl, hbw6⟩
end Go.Proofs.YtdeopklgdemnfaaDoor
