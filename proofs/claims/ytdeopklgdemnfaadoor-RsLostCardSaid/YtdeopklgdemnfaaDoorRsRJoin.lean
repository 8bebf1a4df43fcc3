/- The reference's Join and Split. Condition: the numbers are such as a code can have, no part is too long. -/
import Derived.Test.YtdeopklgdemnfaaDoorRsREnc
namespace Go.Proofs.YtdeopklgdemnfaaDoor
open Go.RowKit Gf Rs

theorem own_Hd {b n : Nat} {w : World} {A : Option Addr} {c : Nat} {l : List F} (h : w.ownsRow b 5 1 (.slice A n c) n (l.map B)) {m : Nat} (hm : m ≤ n) {fb : Nat} (hb : fb < b) : Hd fb w (.slice A m c) (l.take m) := by
  obtain ⟨A', c', e1, e2, e3⟩ := ownsRow_hd h hb
  have hl : l.length = n := by simpa using h.1
  cases e1
  have e4 : (l.take m).length = m := by rw [List.length_take]; omega
  refine ⟨A, c, by rw [e4], by rw [e4]; omega, ?_⟩
  have := RdV.take (k := m) e3
  rwa [← List.map_take] at this
set_option maxRecDepth 100000 in
set_option maxHeartbeats 1600000 in
theorem rjoin_S (fb K M : Nat) (hK2 : K ≤ 32) (A1 : Option Addr) (c1 : Nat) (ls : List (List F)) (m : Int) (htot : (catF K ls).length ≤ 1048576) (w : World) (h1 : RdM fb w A1 ls) :
    Calls Tryd.prog 50 #[.agg #[.int .i64 K, .int .i64 M], .slice A1 ls.length c1, .int .i64 m] w (RRes1 w (joinS K ls m)) := by
  by_cases ha : ls.length < K
  · have hb : decide (ls.length < K) = true := by simp [ha]
    have hS : joinS K ls m = ([], 1) := by unfold joinS; rw [if_pos (Or.inl ha)]
    have HS := Lib.hid hS
    clear hS
    go_enter Tryd.func50, Tryd.ntmps50
    go_wp2
    go_ret2
    exact RRes1.no HS.out rfl ((Below.refl _ _).alloc (Nat.le_refl _) _)
  by_cases hm : m < 0
  · have hb : decide (ls.length < K) = false := by simp; omega
    have hS : joinS K ls m = ([], 1) := by unfold joinS; rw [if_pos (Or.inr hm)]
    have HS := Lib.hid hS
    clear hS
    go_enter Tryd.func50, Tryd.ntmps50
    go_wp2
    go_ret2
    exact RRes1.no HS.out rfl ((Below.refl _ _).alloc (Nat.le_refl _) _)
  obtain ⟨m, rfl⟩ := Int.eq_ofNat_of_zero_le (show 0 ≤ m by omega)
  have hb : decide (ls.length < K) = false := by simp; omega
  have hS : joinS K ls m = if (catF K ls).length < m then ([], 2) else ((catF K ls).take m, 0) := by unfold joinS; rw [if_neg (by omega), Int.toNat_natCast]
  have HS := Lib.hid hS
  have HT := Lib.hid htot
  clear hS htot
  obtain ⟨iB, hiB, hzB0, hzB1, hzB2⟩ := infoTB
  go_enter Tryd.func50, Tryd.ntmps50
  go_wp2
  go_loopw [8, 9] (fun v i wr => ∃ j : Nat, j ≤ K ∧ i = .int .i64 j ∧ Below w.heap.size w wr ∧ wr.heap[w.heap.size]? = some (.cells #[.int .i64 K, .int .i64 M] 51 (0, 0)) ∧ wr.ownsRow (w.heap.size + 1) 5 1 v (catF j ls).length ((catF j ls).map B)) (fun _ i _ => K - (intOf i).toNat)
  case atStart => exact ⟨0, by omega, rfl, (Below.refl _ _).alloc (Nat.le_refl _) _, heap_new _ _ _ rfl, World.ownsRow_nil _ _ _ _⟩
  case round =>
    obtain ⟨j, hj, rfl, hbw, hcb, hown⟩ := hrel
    have hk0 : wr.cell? ⟨w.heap.size, 0, none⟩ = some (.int .i64 K) := block_cell hcb
    obtain ⟨A3, c3, rfl⟩ := ownsRow_shape hown
    have hsz := block_lt hcb
    by_cases hlt : j < K
    · obtain ⟨b2, o2, A4, c4, rfl, hb2, hc2, hl4, h4⟩ := (h1.below hbw).at (i := j) (by omega)
      have hle := cat_le (ls := ls) (show j + 1 ≤ K from hlt)
      have hcs := cat_snoc (show j < ls.length by omega)
      have HCS := Lib.hid hcs
      rw [hcs, List.length_append] at hle
      have hT := HT.out
      have hjl : (j : Int) < (ls.length : Int) := by omega
      clear hcs
      go_wp2_with (at_builtin; refine Hid.out ?_)
      unfold Hid
      refine wpList_append_rd rfl _ _ 54 rfl (w.heap.size + 1) 5 iB (.int .u8 0) 1 Tryd.underlying54 hiB hzB0 hzB1 hzB2 rfl _ _ _ rfl hown fb A4 _ c4 (ls[j].map B) rfl (by simp) h4 B_one (by unfold maxLen; omega) (by omega) hsz ?_
      intro v1 w1 hown1 hgrow1
      have hb1 := hbw.grown hgrow1 hbw.size (fun k e => by have := (hown.lt k e).1; omega)
      have hcb1 := (hgrow1.block w.heap.size hsz (fun e => by have := (hown.lt _ e.symm).1; omega)).trans hcb
      rw [← List.map_append, ← HCS.out] at hown1
      have hlen : (catF j ls).length + ls[j].length = (catF (j + 1) ls).length := by rw [HCS.out, List.length_append]
      rw [hlen] at hown1
      clear hlen hown hle hT hbw hcb hgrow1 hk0 hc2 h4
      go_wp2
      exact ⟨⟨j + 1, by omega, by go_num, hb1, hcb1, hown1⟩, by simp [intOf]; omega⟩
    · have hjK : j = K := by omega
      subst hjK
      generalize hcg : catF j ls = c at *
      clear hcg
      by_cases hlm : c.length < m
      · have hb2 : decide (c.length < m) = true := by simp [hlm]
        have HLM := Lib.hid hlm
        clear hlm
        go_wp2
        go_ret2
        exact RRes1.no (by rw [HS.out, if_pos HLM.out]) rfl hbw
      · have hb2 : decide (c.length < m) = false := by simp [hlm]
        have hR : RRes1 w (joinS j ls m) (.returned (.tuple #[.slice A3 m c3, .int .i64 0])) wr := by
          rw [HS.out, if_neg hlm]
          exact ⟨_, rfl, fun fb hfb => own_Hd hown (by omega) (by omega), hbw⟩
        have HR := Lib.hid hR
        have hmc : (m : Int) ≤ (c3 : Int) := by
          obtain ⟨_, _, e1, e2, _⟩ := ownsRow_hd (fb := w.heap.size) hown (by omega)
          cases e1
          omega
        clear hlm hR
        cases A3 with
        | none =>
          go_wp2
          go_ret2
          exact HR.out
        | some a3 =>
          go_wp2
          go_ret2
          exact HR.out
theorem splitF_snoc {K p : Nat} {l : List F} (h : p < K) : (splitF K l).take (p + 1) = (splitF K l).take p ++ [(List.range (partN K l.length)).map fun j => gd l (p * partN K l.length + j)] := take_snoc_map _ K p h
set_option maxRecDepth 100000 in
set_option maxHeartbeats 1600000 in
theorem rsplit_S (fb K M : Nat) (hK : 1 ≤ K) (hK2 : K ≤ 32) (A1 : Option Addr) (c1 : Nat) (l : List F) (hl : l.length ≤ 1048576) (w : World) (h1 : RdB fb w A1 l) :
    Calls Tryd.prog 46 #[.agg #[.int .i64 K, .int .i64 M], .slice A1 l.length c1] w fun e w' => ∃ h, e = .returned h ∧ (∀ fb, fb < w.heap.size → HdM fb w' h (splitF K l)) ∧ Below w.heap.size w w' := by
  have hn1 : l.length ≤ partN K l.length * K := by
    unfold partN
    have := Nat.div_add_mod (l.length + K - 1) K
    have h2 := Nat.mod_lt (l.length + K - 1) (show 0 < K by omega)
    rw [Nat.mul_comm] at this
    omega
  have hn2 : ∀ q, q < partN K l.length → q * K < l.length := fun q hq => by
    unfold partN at hq
    have h3 : (q + 1) * K ≤ (l.length + K - 1) / K * K := Nat.mul_le_mul_right K hq
    have h4 := Nat.div_mul_le_self (l.length + K - 1) K
    rw [Nat.succ_mul] at h3
    omega
  have hpn := partN_le (len := l.length) hK
  have HSN : Hid (∀ p, p < K → (splitF K l).take (p + 1) = (splitF K l).take p ++ [(List.range (partN K l.length)).map fun j => gd l (p * partN K l.length + j)]) := fun p hp => splitF_snoc hp
  have HN1 := Lib.hid hn1
  have HN2 := Lib.hid hn2
  clear hn1 hn2
  generalize partN K l.length = N at *
  go_enter Tryd.func46, Tryd.ntmps46
  go_wp2
  go_loop [5] (fun i => ∃ q : Nat, q ≤ N ∧ i = .int .i64 q) (fun i => N - (intOf i).toNat)
  case atStart => exact ⟨0, by omega, rfl⟩
  case round =>
    obtain ⟨q, hq, rfl⟩ := hrel
    have hqK : q * K ≤ 1048576 * 32 := Nat.mul_le_mul (by omega) hK2
    have hqi : (q : Int) * (K : Int) = ((q * K : Nat) : Int) := by simp
    by_cases hlt : q < N
    · have hlt2 := HN2.out q hlt
      generalize q * K = r at *
      go_wp2
      exact ⟨⟨q + 1, by omega, by go_num⟩, by simp [intOf]; omega⟩
    · have hqN : q = N := by omega
      have hge : l.length ≤ q * K := by rw [hqN]; exact HN1.out
      have hql : q ≤ l.length := by omega
      have HSQ : Hid (∀ p, p < K → (splitF K l).take (p + 1) = (splitF K l).take p ++ [(List.range q).map fun j => gd l (p * q + j)]) := by rw [hqN]; exact HSN.out
      clear HSN HN1 HN2 hpn hq hlt
      generalize q * K = r at *
      clear hqN
      go_wp2
      go_loopw [6, 7, 8, 9, 10] (fun v i _ _ _ wr => ∃ p : Nat, p ≤ K ∧ i = .int .i64 p ∧ Below w.heap.size w wr ∧ wr.heap[w.heap.size]? = some (.cells #[.int .i64 K, .int .i64 M] 51 (0, 0)) ∧ OutR (w.heap.size + 1) wr v ((splitF K l).take p)) (fun _ i _ _ _ _ => K - (intOf i).toNat)
      case atStart => exact ⟨0, by omega, rfl, (Below.refl _ _).alloc (Nat.le_refl _) _, heap_new _ _ _ rfl, OutR.nil _ _⟩
      case round =>
        obtain ⟨p, hp, rfl, hb, hcb, hout⟩ := hrel
        have hk0 : wr.cell? ⟨w.heap.size, 0, none⟩ = some (.int .i64 K) := block_cell hcb
        generalize hDp : (splitF K l).take p = D at hout
        have HDP := Lib.hid hDp
        clear hDp
        obtain ⟨A3, c3, rfl⟩ := hout.shape
        have hsz := block_lt hcb
        by_cases hlt : p < K
        · have hsn := HSQ.out p hlt
          rw [HDP.out] at hsn
          have HS1 := Lib.hid hsn
          clear hsn
          have hpq : p * q ≤ 32 * 1048576 := Nat.mul_le_mul (by omega) (by omega)
          have hpi : (p : Int) * (q : Int) = ((p * q : Nat) : Int) := by simp
          generalize p * q = s at *
          go_wp2
          obtain ⟨wo, rfl⟩ : ∃ wo : World, wo = wr := ⟨_, rfl⟩
          go_loopw [8, 9, 10] (fun v i _ wr => ∃ j : Nat, j ≤ q ∧ i = .int .i64 j ∧ Below wo.heap.size wo wr ∧ wr.ownsRow wo.heap.size 5 1 v j (((List.range j).map fun j => gd l (s + j)).map B)) (fun _ i _ _ => q - (intOf i).toNat)
          case atStart => exact ⟨0, by omega, rfl, Below.refl _ _, World.ownsRow_nil _ _ _ _⟩
          case round =>
            obtain ⟨j, hj, rfl, hbo, hown⟩ := hrel
            obtain ⟨A4, c4, rfl⟩ := ownsRow_shape hown
            have hszo := hbo.size
            have hcat : ∀ x : F, gd l (s + j) = x → ((List.range j).map fun j => gd l (s + j)) ++ [x] = (List.range (j + 1)).map fun j => gd l (s + j) := fun x hx => by
              rw [List.range_succ, List.map_append, ← hx]; rfl
            have HC := Lib.hid hcat
            clear hcat
            by_cases hjlt : j < q
            · by_cases hin : s + j < l.length
              · have hini : (s : Int) + (j : Int) < (l.length : Int) := by omega
                obtain ⟨b5, o5, e5, hb5, hc5⟩ := RdB.at (RdB.below (RdB.below h1 hb) hbo) hin
                subst e5
                unfold B at hc5
                have hg5 := gd_eq hin
                have HG := Lib.hid hg5
                clear hg5
                generalize l[s + j] = x at *
                go_wp2_with (at_builtin; refine Hid.out ?_)
                unfold Hid
                refine app_byte rfl _ _ rfl wo.heap.size _ _ _ rfl (hown.alloc _) wr.heap.size x rfl (by simp [B]) (by omega) (by simp; omega) ?_
                intro v1 w1 hown1 hgrow1
                rw [HC.out _ HG.out] at hown1
                have hb1 := (hbo.alloc (by omega) _).grown hgrow1 (by simp; omega) (fun k e => by have := (hown.lt k e).1; omega)
                clear hown hgrow1 hbo
                go_wp2
                exact ⟨⟨j + 1, by omega, by go_num, hb1, hown1⟩, by simp [intOf]; omega⟩
              · have hini : ¬ (s : Int) + (j : Int) < (l.length : Int) := by omega
                have hg5 : gd l (s + j) = fz := by unfold gd; rw [List.getD_eq_getElem?_getD, List.getElem?_eq_none (by omega)]; rfl
                have HG := Lib.hid hg5
                clear hg5
                go_wp2_with (at_builtin; refine Hid.out ?_)
                unfold Hid
                refine app_byte rfl _ _ rfl wo.heap.size _ _ _ rfl (hown.alloc _) wr.heap.size fz rfl (by simp [B, fz]) (by omega) (by simp; omega) ?_
                intro v1 w1 hown1 hgrow1
                rw [HC.out _ HG.out] at hown1
                have hb1 := (hbo.alloc (by omega) _).grown hgrow1 (by simp; omega) (fun k e => by have := (hown.lt k e).1; omega)
                clear hown hgrow1 hbo
                go_wp2
                exact ⟨⟨j + 1, by omega, by go_num, hb1, hown1⟩, by simp [intOf]; omega⟩
            · have hjq : j = q := by omega
              have hlenq : ((List.range q).map fun j => gd l (s + j)).length = q := by simp
              have ho3 : OwnB (w.heap.size + 1) wr (.slice A4 j c4) ((List.range q).map fun j => gd l (s + j)) := by
                unfold OwnB
                rw [hlenq, ← hjq]
                exact own_base hown (by omega)
              have hout3 := hout.below hbo
              have hbw3 := hb.trans (hbo.mono (by have := hb.size; omega))
              have hcb3 := (hbo.block _ hsz).trans hcb
              have hlen3 : D.length ≤ 1048576 := by rw [← HDP.out, List.length_take, splitF_length]; omega
              have hlw := block_lt hcb3
              clear hjq hlenq hown hout hb hcb hk0
              go_wp2_with (at_builtin; refine Hid.out ?_)
              unfold Hid
              refine app_row rfl _ _ rfl (w.heap.size + 1) _ _ rfl (hout3.below ((Below.refl _ _).alloc (Nat.le_refl _) _)) wr.heap.size _ _ rfl (by simp) (ho3.below ((Below.refl _ _).alloc (Nat.le_refl _) _)) hlen3 (by simp; omega) ?_
              intro v5 w5 hout5 hgrow5
              rw [← HS1.out] at hout5
              have hb5 := (hbw3.alloc (by omega) _).grown hgrow5 (by simp; omega) (fun k e => by have := (hout3.lt k e).1; omega)
              have hcb5 := (hgrow5.block w.heap.size (by simp; omega) (fun e => by have := (hout3.lt _ e.symm).1; omega)).trans ((Below.heap_alloc _ _ _ hlw).trans hcb3)
              clear hgrow5 hout3 hcb3 hbw3 ho3 hbo
              go_wp2
              exact ⟨⟨p + 1, by omega, by go_num, hb5, hcb5, hout5⟩, by simp [intOf]; omega⟩
        · have hDe : D = splitF K l := by rw [← HDP.out]; exact List.take_of_length_le (by rw [splitF_length]; omega)
          have hR : ∀ fb, fb < w.heap.size → HdM fb wr (.slice A3 D.length c3) (splitF K l) := fun fb hfb => by rw [← hDe]; exact hout.hdm (by omega)
          have HR := Lib.hid hR
          clear hDe hR
          go_wp2
          go_ret
          exact ⟨_, rfl, HR.out, hb⟩
end Go.Proofs.YtdeopklgdemnfaaDoor
