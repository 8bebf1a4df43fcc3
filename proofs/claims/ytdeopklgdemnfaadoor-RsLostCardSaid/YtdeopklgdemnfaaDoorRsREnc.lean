/- The reference's Encode, Join and Split. Condition: the numbers are such as a code can have, no part is too long. -/
import Derived.Test.YtdeopklgdemnfaaDoorRsOut
import Derived.Test.YtdeopklgdemnfaaDoorRsRef
import Derived.Test.YtdeopklgdemnfaaDoorRsSpec
namespace Go.Proofs.YtdeopklgdemnfaaDoor
open Go.RowKit Gf Rs

theorem evF_ok {n : Nat} {ls : List (List F)} : ∀ (K : Nat) (m : Int), ls.length = K → (∀ (i : Nat) (l : List F), ls[i]? = some l → l.length = n) → (m < 0 → 1 ≤ K) → (0 ≤ m → m = n) → evF m (evZ ls (List.replicate K true)) = some (n : Int) := by
  induction ls with
  | nil => intro K m hK _ h1 h2
           simp at hK
           subst hK
           have : 0 ≤ m := by omega
           simp [evZ, evF, h2 this]
  | cons a ls ih =>
    intro K m hK hl h1 h2
    cases K with
    | zero => simp at hK
    | succ K =>
      have ha : a.length = n := hl 0 a rfl
      simp only [evZ, List.map_cons, List.replicate_succ, List.zip_cons_cons, evF, if_true]
      have hr : ∀ (i : Nat) (l : List F), ls[i]? = some l → l.length = n := fun i l hi => hl (i + 1) l (by simpa using hi)
      by_cases hm : m < 0
      · rw [if_pos hm, ha]
        exact ih K _ (by simpa using hK) hr (by omega) (fun _ => rfl)
      · rw [if_neg hm, if_pos (by rw [ha]; exact h2 (by omega))]
        exact ih K _ (by simpa using hK) hr (by omega) h2
theorem encS_ok {K M n : Nat} {ls : List (List F)} (hK : 1 ≤ K) (h1 : ls.length = K) (h2 : ∀ (i : Nat) (l : List F), ls[i]? = some l → l.length = n) : encS K M ls = (outF K (K + M) ls n, 0) := by
  unfold encS
  rw [if_pos h1, evF_ok K (-1) h1 h2 (fun _ => hK) (by omega)]
  rfl
theorem encS_bad {K M i j : Nat} {ls : List (List F)} {l l' : List F} (h1 : ls.length = K) (hi : ls[i]? = some l) (hj : ls[j]? = some l') (h : l.length ≠ l'.length) : encS K M ls = ([], 2) := by
  unfold encS
  rw [if_pos h1]
  cases he : evF (-1) (evZ ls (List.replicate K true)) with
  | none => rfl
  | some n =>
    have := (evF_all K _ _ h1 he).2
    have e1 := this i l hi
    have e2 := this j l' hj
    exact absurd (by omega) h
theorem outF_snoc {K N p n : Nat} {D : List (List F)} (h : p < N) : (outF K N D n).take (p + 1) = (outF K N D n).take p ++ [mixL (rowF K p) D n] := take_snoc_map _ N p h
theorem box_at {w : World} {g : Nat} {x : Value} {T : TypeId} {p : Nat × Nat} (h : w.heap[g]? = some (.cells #[x] T p)) : w.cell? ⟨g, 0, none⟩ = some x := by simp [World.cell?, h]
set_option maxRecDepth 100000 in
set_option maxHeartbeats 1600000 in
theorem renc_S (fb K M : Nat) (hK : 1 ≤ K) (hs0 : K + M ≤ 32) (A1 : Option Addr) (c1 : Nat) (ls : List (List F)) (hlen : ∀ (i : Nat) (l : List F), ls[i]? = some l → l.length ≤ 1048576) (hq : ls.length ≤ 1048576) (w : World) (h1 : RdM fb w A1 ls) :
    Calls Tryd.prog 41 #[.agg #[.int .i64 K, .int .i64 M], .slice A1 ls.length c1] w (RRes w (encS K M ls)) := by
  by_cases hl : ls.length = K
  · have hb : ((ls.length : Int) != (K : Int)) = false := by rw [hl]; simp
    have hlp : 0 < ls.length := by omega
    have hlpi : (0 : Int) < (ls.length : Int) := by omega
    have HL := Lib.hid hl
    have HLEN := Lib.hid hlen
    clear hl hlen
    obtain ⟨b0, o0, A0, c0, rfl, hb0, hc0w, hl0, h0⟩ := h1.at hlp
    rw [Nat.add_zero] at hc0w
    clear h0
    have hl00 := List.getElem?_eq_getElem hlp
    have hn0 := HLEN.out 0 _ hl00
    have HL0 := Lib.hid hl00
    clear hl00
    generalize hll : ls[0] = l0 at *
    clear hll
    go_enter Tryd.func41, Tryd.ntmps41
    go_wp2
    go_loopw [6] (fun i wr => ∃ j : Nat, 1 ≤ j ∧ j ≤ ls.length ∧ i = .int .i64 j ∧ Below w.heap.size w wr ∧ wr.heap[w.heap.size]? = some (.cells #[.int .i64 K, .int .i64 M] 51 (0, 0)) ∧ Hid (∀ (i : Nat) (l : List F), i < j → ls[i]? = some l → l.length = l0.length)) (fun i _ => ls.length - (intOf i).toNat)
    case atStart => exact ⟨1, by omega, by omega, rfl, (Below.refl _ _).alloc (Nat.le_refl _) _, heap_new _ _ _ rfl, fun i l hi hl => by
      obtain rfl : i = 0 := by omega
      rw [HL0.out] at hl
      cases hl
      rfl⟩
    case round =>
      obtain ⟨j, hj1, hj, rfl, hb, hcb, hall⟩ := hrel
      by_cases hlt : j < ls.length
      · obtain ⟨b2, o2, A2, c2, e2, hb2, hc2, hl2, h2⟩ := (h1.below hb).at hlt
        cases e2
        have hc0 : wr.cell? ⟨b0, o0, none⟩ = some (.slice A0 l0.length c0) := by rw [← hc0w]; exact World.cell?_of_block (hb.block b0 (cell_lt hc0w))
        have hlj := List.getElem?_eq_getElem hlt
        have hnj := HLEN.out j _ hlj
        have HLJ := Lib.hid hlj
        clear hlj h2
        generalize hll : ls[j] = lj at *
        clear hll
        have hjl : (j : Int) < (ls.length : Int) := by omega
        by_cases hne : lj.length = l0.length
        · have hnb : ((lj.length : Int) != (l0.length : Int)) = false := by rw [hne]; simp
          have HNE := Lib.hid hne
          clear hne
          go_wp2
          go_quiet (fail)
          go_wp2
          refine ⟨⟨j + 1, by omega, by omega, by go_num, below_drewN hb _, hcb, fun i l h1 h2 => ?_⟩, by simp [intOf]; omega⟩
          by_cases e : i = j
          · subst e
            have := h2.symm.trans HLJ.out
            cases this
            exact HNE.out
          · exact hall.out i l (by omega) h2
        · have hnb : ((lj.length : Int) != (l0.length : Int)) = true := by rw [bne_iff_ne]; omega
          have HNE := Lib.hid hne
          clear hne
          go_wp2
          go_quiet (fail)
          go_wp2
          go_ret2
          exact RRes.no (encS_bad HL.out HLJ.out HL0.out HNE.out) rfl (below_drewN hb _)
      · have hall' : ∀ (i : Nat) (l : List F), ls[i]? = some l → l.length = l0.length := fun i l hi => hall.out i l (by have := (List.getElem?_eq_some_iff.1 hi).1; omega) hi
        have hS := encS_ok (M := M) hK HL.out hall'
        have HS := Lib.hid hS
        have hlen' : ∀ i, i < K → (ls.getD i []).length = l0.length := fun i hi => by
          have hi2 : i < ls.length := by rw [HL.out]; exact hi
          rw [List.getD_eq_getElem?_getD, List.getElem?_eq_getElem hi2]
          exact hall' i _ (List.getElem?_eq_getElem hi2)
        have HLN := Lib.hid hlen'
        clear hS hlen' hall'
        generalize hln : l0.length = n at *
        clear hall hln
        go_wp2
        go_loopw [7, 8, 9, 10] (fun v i _ _ wr => ∃ p : Nat, p ≤ K + M ∧ i = .int .i64 p ∧ Below w.heap.size w wr ∧ wr.heap[w.heap.size]? = some (.cells #[.int .i64 K, .int .i64 M] 51 (0, 0)) ∧ OutR (w.heap.size + 1) wr v ((outF K (K + M) ls n).take p)) (fun _ i _ _ _ => K + M - (intOf i).toNat)
        case atStart => exact ⟨0, by omega, rfl, hb, hcb, OutR.nil _ _⟩
        case round =>
          clear hb hcb
          obtain ⟨p, hp, rfl, hb, hcb, hout⟩ := hrel
          have hc0 : wr.cell? ⟨b0, o0, none⟩ = some (.slice A0 n c0) := by rw [← hc0w]; exact World.cell?_of_block (hb.block b0 (cell_lt hc0w))
          have hk0 : wr.cell? ⟨w.heap.size, 0, none⟩ = some (.int .i64 K) := block_cell hcb
          have hk1 : wr.cell? ⟨w.heap.size, 1, none⟩ = some (.int .i64 M) := block_cell hcb
          generalize hDp : (outF K (K + M) ls n).take p = D at hout
          have HDP := Lib.hid hDp
          clear hDp
          obtain ⟨A3, c3, rfl⟩ := hout.shape
          by_cases hlt : p < K + M
          · have hlti : (p : Int) < (K : Int) + (M : Int) := by omega
            go_wp2_with fail
            refine (rrow_good K M hs0 p hlt wr).mono ?_
            rintro e w2 ⟨v2, rfl, ho2, hb2⟩
            obtain ⟨A2, c2, rfl⟩ := ho2.shape
            obtain ⟨A2', c2', e2, _, hr2⟩ := ho2.hd (fb := w.heap.size) (block_lt hcb)
            cases e2
            have hpt := part_any w.heap.size fb A2 (some ⟨b0, o0, none⟩) c2 c1 (rowF K p) ls n hn0 (by rw [rowF_length]; omega) (by rw [rowF_length, HL.out]; exact Nat.le_refl _) (by rw [rowF_length]; exact HLN.out) w2 hr2 ((h1.below hb).below hb2)
            rw [rowF_length] at hpt
            have HPT := Lib.hid hpt
            clear hpt
            rw [rowF_length]
            have hc02 : w2.cell? ⟨b0, o0, none⟩ = some (.slice A0 n c0) := by rw [← hc0]; exact World.cell?_of_block (hb2.block b0 (cell_lt hc0))
            go_wp2_with fail
            refine HPT.out.mono ?_
            rintro e w3 ⟨v3, rfl, ho3, hb3⟩
            have hbw3 := (hb.trans (hb2.mono hb.size)).trans (hb3.mono (Nat.le_trans hb.size hb2.size))
            have hcb3 := (hb3.block _ (by have := hb2.size; have := block_lt hcb; omega)).trans ((hb2.block _ (block_lt hcb)).trans hcb)
            have hout3 := (hout.below hb2).below hb3
            have hsn := outF_snoc (K := K) (D := ls) (n := n) hlt
            rw [HDP.out] at hsn
            have HSN := Lib.hid hsn
            have hlw := block_lt hcb3
            have hlen3 : D.length ≤ 1048576 := by rw [← HDP.out, List.length_take, outF_length]; omega
            obtain ⟨A4, c4, rfl⟩ := ho3.shape
            have hs23 := hb2.size
            have hs33 := hb3.size
            have hs0 := block_lt hcb
            clear hsn HPT hout ho2 hb hcb hb2 hb3 hc0 hc02 hk0 hk1 hr2
            go_wp2_with (at_builtin; refine Hid.out ?_)
            unfold Hid
            refine app_row rfl _ _ rfl (w.heap.size + 1) _ _ rfl (hout3.below ((Below.refl _ _).alloc (Nat.le_refl _) _)) w3.heap.size _ _ rfl (by simp) ((ho3.base (by omega)).below ((Below.refl _ _).alloc (Nat.le_refl _) _)) hlen3 (by simp; omega) ?_
            intro v5 w5 hout5 hgrow5
            rw [← HSN.out] at hout5
            have hb5 := (hbw3.alloc (by omega) _).grown hgrow5 (by simp; omega) (fun k e => by have := (hout3.lt k e).1; omega)
            have hcb5 := (hgrow5.block w.heap.size (by simp; omega) (fun e => by have := (hout3.lt _ e.symm).1; omega)).trans ((Below.heap_alloc _ _ _ hlw).trans hcb3)
            clear hgrow5 hout3 hcb3 hbw3 ho3
            go_wp2
            exact ⟨⟨p + 1, by omega, by go_num, hb5, hcb5, hout5⟩, by simp [intOf]; omega⟩
          · have hpe : p = K + M := by omega
            have hDe : D = outF K (K + M) ls n := by rw [← HDP.out]; exact List.take_of_length_le (by rw [outF_length]; omega)
            have hR : RRes w (encS K M ls) (.returned (.tuple #[.slice A3 D.length c3, .int .i64 0])) wr := by
              rw [HS.out, ← hDe]; exact ⟨_, rfl, fun fb hfb => hout.hdm (by omega), hb⟩
            have HR := Lib.hid hR
            have hlti : ¬ (p : Int) < (K : Int) + (M : Int) := by omega
            clear hpe hR hDe
            go_wp2
            go_ret2
            exact HR.out
  · have hb : ((ls.length : Int) != (K : Int)) = true := by rw [bne_iff_ne]; omega
    have HL := Lib.hid hl
    clear hl
    go_enter Tryd.func41, Tryd.ntmps41
    go_wp2
    go_ret2
    exact RRes.no (by unfold encS; rw [if_neg HL.out]) rfl ((Below.refl _ _).alloc (Nat.le_refl _) _)
end Go.Proofs.YtdeopklgdemnfaaDoor
