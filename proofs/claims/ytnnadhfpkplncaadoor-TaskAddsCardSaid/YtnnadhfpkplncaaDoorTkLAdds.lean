/- 'TaskAdds': the number of any task, or the error. Condition: the limit and the acts read; the handle of 'error'. -/
import Derived.Test.YtnnadhfpkplncaaDoorTkAddP
namespace Go.Proofs.YtnnadhfpkplncaaDoor
open Go.RowKit Go.Maps

set_option maxRecDepth 100000 in
set_option maxHeartbeats 6400000 in
theorem adds_walk (lim : Int) (v : Value) (W : World) (hg : Handle W) (hin : ActsT W v) : Calls Tryd.prog 7 #[.int .i64 lim, v] W (BoolPost true W) := by
  obtain ⟨B, c, l, rfl, hlc, hll, hrd, hok⟩ := hin
  have HG := Lib.hid hg
  have HRD := Lib.hid hrd
  have HOK := Lib.hid hok
  obtain ⟨k0, hk0⟩ : ∃ k0, k0 = l.length := ⟨_, rfl⟩
  rw [← hk0] at hlc hll ⊢
  have HN := Lib.hid hk0
  clear hrd hok hg hk0
  go_enter Tryd.func7, Tryd.ntmps7
  go_wp2_with fail
  refine (tnew_any lim W).mono ?_
  rintro e w1 (⟨hbad, rfl, rfl⟩ | ⟨hl1, hl2, M, t, rfl, hm, ht, hb1⟩)
  · have HBAD := Lib.hid hbad
    clear hbad
    rw [show errV 1 = .iface 78 (.int .i64 1) from rfl]
    go_wp2_with fail
    refine (rnew_any lim w1).mono ?_
    rintro e w2 ⟨⟨_, rfl⟩ | ⟨h1, h2, _⟩, hb2⟩
    · have HB2 := Lib.hid hb2
      clear hb2
      unfold rmach
      have hg3 : ∀ w', Below w1.heap.size w1 w' → Handle w' := fun w' h => HG.out.keep (Keep.of h (Nat.zero_le _) : Keep 0 w1 w')
      have HG3 := Lib.hid hg3
      clear hg3
      go_wp2_with fail
      obtain ⟨w3, hw3⟩ : ∃ w3, w3 = w2.alloc (.cells #[.int .i64 0, .int .i64 0, .slice none 0 0, .slice none 0 0, .slice none 0 0] 60) := ⟨_, rfl⟩
      rw [← hw3]
      have HB3 := Lib.hid (show Below w1.heap.size w1 w3 by rw [hw3]; exact HB2.out.alloc HB2.out.size _)
      clear hw3
      refine (numt_hit 1 w3 (HG3.out _ HB3.out)).mono ?_
      rintro e w4 ⟨rfl, hb4⟩
      have HB4 := Lib.hid (HB3.out.trans (hb4.mono HB3.out.size))
      clear hb4
      go_wp2_with fail
      refine (numt_hit 1 w4 (HG3.out _ HB4.out)).mono ?_
      rintro e w5 ⟨rfl, hb5⟩
      have HB5 := Lib.hid (HB4.out.trans (hb5.mono HB4.out.size))
      clear hb5
      go_wp2_with fail
      refine (suret_any w5).mono ?_
      rintro e w6 ⟨rfl, hb6⟩
      have HB6 := Lib.hid (HB5.out.trans (hb6.mono HB5.out.size))
      clear hb6
      go_wp2_with fail
      go_ret
      exact ⟨rfl, HB6.out⟩
    · exact absurd HBAD.out (by omega)
  · have HM1 := Lib.hid hm
    have HB1 := Lib.hid hb1
    have HL := Lib.hid (And.intro hl1 hl2)
    clear hm ht hb1
    go_wp2_with fail
    refine (rnew_any lim w1).mono ?_
    rintro e w2 ⟨⟨hbad, _⟩ | ⟨_, _, rfl⟩, hb2⟩
    · exact absurd HL.out (by omega)
    have HM2 := Lib.hid (HM1.out.below hb2)
    have HB2 := Lib.hid (HB1.out.trans (hb2.mono HB1.out.size))
    clear hb2 hl1 hl2
    unfold rmach
    go_wp2_with fail
    obtain ⟨w3, hw3⟩ : ∃ w3, w3 = w2.alloc (.cells #[.int .i64 lim, .int .i64 0, .slice none 0 0, .slice none 0 0, .slice none 0 0] 60) := ⟨_, rfl⟩
    rw [← hw3]
    have hb3 : Below w2.heap.size w2 w3 := by rw [hw3]; exact (Below.refl _ _).alloc (Nat.le_refl _) _
    have hx3 : w3.heap[w2.heap.size]? = some (.cells #[.int .i64 lim, .int .i64 0, .slice none 0 0, .slice none 0 0, .slice none 0 0] 60 (0, 0)) := by rw [hw3]; exact alloc_new _ _
    have HAT := Lib.hid (show AddsAt W M W.heap.size t lim w3 0 0 (.slice none 0 0) w2.heap.size from ⟨⟨_, HM2.out.below hb3, fun i _ => rfl⟩, ⟨[], World.ownsRow_nil _ _ _ _⟩, hx3, HB2.out.trans (hb3.mono HB2.out.size)⟩)
    have HPP := Lib.hid (show w2.heap.size ≠ M ∧ w2.heap.size ≠ W.heap.size ∧ W.heap.size ≤ w2.heap.size ∧ M < w2.heap.size from by
      have h1 : M < w2.heap.size := block_lt HM2.out.cell
      have h2 : W.heap.size < w2.heap.size := HM2.out.mlt
      omega)
    obtain ⟨p, hp⟩ : ∃ p, p = w2.heap.size := ⟨_, rfl⟩
    rw [← hp] at HAT HPP ⊢
    clear hb3 hx3 hw3 hp HM1 HB1 HM2 HB2
    refine (numt_nil w3).mono ?_
    rintro e w4 ⟨rfl, hb4⟩
    have HAT4 := Lib.hid (HAT.out.cl hb4)
    clear hb4 HAT
    go_wp2_with fail
    go_loopg [9] 80 (fun gg i wr => ∃ k : Nat, k ≤ k0 ∧ k ≤ 80 ∧ gg = 80 - k ∧ i = .int .i64 k ∧ Hid (∃ n vL, n ≤ k ∧ AddsAt W M W.heap.size t lim wr n n vL p))
    case atStart => exact ⟨0, by omega, by omega, rfl, rfl, ⟨0, _, Nat.le_refl _, HAT4.out⟩⟩
    case round =>
      obtain ⟨k, hk, hk80, hgk, rfl, hst⟩ := hrel
      obtain ⟨n, vL, hnk, hst⟩ := hst.out
      have HST := Lib.hid hst
      clear hst HAT4
      by_cases hgo : k < k0 ∧ k < 80
      · obtain ⟨hkm, hk3⟩ := hgo
        obtain ⟨x, hx⟩ : ∃ x, l[k]? = some x := ⟨_, List.getElem?_eq_getElem (by rw [← HN.out]; omega)⟩
        have hki : (k : Int) < (k0 : Int) := by omega
        have hki2 : (k : Int) < 80 := by omega
        have HOX := Lib.hid (HOK.out x (List.mem_of_getElem? hx))
        obtain ⟨b, o, rfl, c0, c1, c2⟩ := tact_at (HRD.out.below HST.out.low) hx
        have HX := Lib.hid hx
        clear hx c0
        have hkw : IntKind.i64.wrap ((k : Int) + 1) = (k : Int) + 1 := IntWalk.i64_in _ (by omega)
        obtain ⟨kd, st, Ax, cx, ws⟩ := x
        dsimp only at c1 c2
        obtain ⟨E, hE⟩ : ∃ E, E = addE lim n ws st := ⟨_, rfl⟩
        have HE := Lib.hid hE
        clear hE
        obtain ⟨U, hU⟩ : ∃ U, U = outN E n := ⟨_, rfl⟩
        have HU := Lib.hid hU
        clear hU
        go_upto_region 8 with fail
        go_cut [10, 11] from 40 to 91 (fun u v w' => u = .int .i64 U ∧ v = errV E ∧ Hid (AddsAt W M W.heap.size t lim w' (upN E n) n vL p))
        case first =>
          have HGV := Lib.hid (give_any ws Ax cx wr.drew ((HOX.out.rd.below HST.out.low).below (Below.refl _ wr).drew) HOX.out.len HOX.out.byt)
          refine wp_region_held_drew (S := fun w' => w'.cell? ⟨b, o + k * 3 + 1, none⟩ = some (.int .i64 st) ∧ w'.cell? ⟨b, o + k * 3 + 2, none⟩ = some (.slice Ax ws.length cx)) (by kernel_rfl) ⟨c1, c2⟩ fun hS => ?_
          refine takeR 0 (v := ?_) rfl (by kernel_rfl) (by kernel_rfl) (by kernel_rfl) (fun _ _ _ h => h) (Or.inl ⟨by rfl, ?_⟩) hS ?_
          rotate_left; · (intro w hSw; obtain ⟨s1, s2⟩ := hSw; go_simp; (try with_reducible rfl))
          try simp only [Act.put, List.setIfInBounds_toArray, List.set_cons_zero, List.set_cons_succ]
          refine takeR 1 (v := ?_) rfl (by kernel_rfl) (by kernel_rfl) (by kernel_rfl) (fun _ _ _ h => h) (Or.inl ⟨by rfl, ?_⟩) hS ?_
          rotate_left; · (intro w hSw; obtain ⟨s1, s2⟩ := hSw; go_simp; (try with_reducible rfl))
          try simp only [Act.put, List.setIfInBounds_toArray, List.set_cons_zero, List.set_cons_succ]
          refine takeR 2 (v := ?_) rfl (by kernel_rfl) (by kernel_rfl) (by kernel_rfl) (fun _ _ _ h => h) (Or.inl ⟨by rfl, ?_⟩) hS ?_
          rotate_left; · (intro w hSw; obtain ⟨s1, s2⟩ := hSw; go_simp; (try with_reducible rfl))
          try simp only [Act.put, List.setIfInBounds_toArray, List.set_cons_zero, List.set_cons_succ]
          refine takeR 3 (v := ?_) rfl (by kernel_rfl) (by kernel_rfl) (by kernel_rfl) (fun _ _ _ h => h) (Or.inl ⟨by rfl, ?_⟩) hS ?_
          rotate_left; · (intro w hSw; obtain ⟨s1, s2⟩ := hSw; go_simp; (try with_reducible rfl))
          try simp only [Act.put, List.setIfInBounds_toArray, List.set_cons_zero, List.set_cons_succ]
          refine takeR 4 (v := ?_) rfl (by kernel_rfl) (by kernel_rfl) (by kernel_rfl) (fun _ _ _ h => h) (Or.inl ⟨by rfl, ?_⟩) hS ?_
          rotate_left; · (intro w hSw; obtain ⟨s1, s2⟩ := hSw; go_simp; (try with_reducible rfl))
          try simp only [Act.put, List.setIfInBounds_toArray, List.set_cons_zero, List.set_cons_succ]
          refine takeR 5 (v := ?_) rfl (by kernel_rfl) (by kernel_rfl) (by kernel_rfl) (fun _ _ _ h => h) (Or.inl ⟨by rfl, ?_⟩) hS ?_
          rotate_left; · (intro w hSw; obtain ⟨s1, s2⟩ := hSw; go_simp; (try with_reducible rfl))
          try simp only [Act.put, List.setIfInBounds_toArray, List.set_cons_zero, List.set_cons_succ]
          refine takeR 7 (v := ?_) rfl (by kernel_rfl) (by kernel_rfl) (by kernel_rfl) (fun _ _ _ h => h) (Or.inl ⟨by rfl, ?_⟩) hS ?_
          rotate_left; · (intro w hSw; obtain ⟨s1, s2⟩ := hSw; go_simp; (try with_reducible rfl))
          try simp only [Act.put, List.setIfInBounds_toArray, List.set_cons_zero, List.set_cons_succ]
          refine takeR 8 (v := ?_) rfl (by kernel_rfl) (by kernel_rfl) (by kernel_rfl) (fun _ _ _ h => h) (Or.inl ⟨by rfl, ?_⟩) hS ?_
          rotate_left; · (intro w hSw; obtain ⟨s1, s2⟩ := hSw; go_simp; (try with_reducible rfl))
          try simp only [Act.put, List.setIfInBounds_toArray, List.set_cons_zero, List.set_cons_succ]
          refine takeR 9 (v := ?_) rfl (by kernel_rfl) (by kernel_rfl) (by kernel_rfl) (fun _ _ _ h => h) (Or.inl ⟨by rfl, ?_⟩) hS ?_
          rotate_left; · (intro w hSw; obtain ⟨s1, s2⟩ := hSw; go_simp; (try with_reducible rfl))
          try simp only [Act.put, List.setIfInBounds_toArray, List.set_cons_zero, List.set_cons_succ]
          refine takeR 10 (v := ?_) rfl (by kernel_rfl) (by kernel_rfl) (by kernel_rfl) (fun _ _ _ h => h) (Or.inl ⟨by rfl, ?_⟩) hS ?_
          rotate_left; · (intro w hSw; obtain ⟨s1, s2⟩ := hSw; go_simp; (try with_reducible rfl))
          try simp only [Act.put, List.setIfInBounds_toArray, List.set_cons_zero, List.set_cons_succ]
          refine takeR 11 (v := ?_) rfl (by kernel_rfl) (by kernel_rfl) (by kernel_rfl) (fun _ _ _ h => h) (Or.inl ⟨by rfl, ?_⟩) hS ?_
          rotate_left; · (intro w hSw; obtain ⟨s1, s2⟩ := hSw; go_simp; (try with_reducible rfl))
          try simp only [Act.put, List.setIfInBounds_toArray, List.set_cons_zero, List.set_cons_succ]
          refine oneR 6 (by kernel_rfl) rfl (fun K hK => ?_)
          go_simp
          refine HGV.out.mono ?_
          rintro e w6 ⟨v6, rfl, ho6, hb6⟩
          have HA6 := Lib.hid ((HST.out.cl (Below.refl _ wr).drew).cl hb6)
          obtain ⟨A6, c6, rfl, hc6, hr6, hn6, hg6⟩ := own_rdB ho6
          obtain ⟨T, hM6, hT6⟩ := HA6.out.mach
          have HADD := Lib.hid (add_any ws A6 c6 st w6 hM6 hr6 hn6 (fun a ea => by have h1 := hg6 a ea; have h2 := HPP.out.2.2.2; have h3 := block_lt HST.out.box; have h4 : wr.drew.heap.size = wr.heap.size := rfl; omega) (by omega) (hT6 _ (by omega)) (by omega))
          have HM6 := Lib.hid hM6
          have HT6 := Lib.hid hT6
          obtain ⟨b', o', eb, d0, d1, d2⟩ := tact_at (HRD.out.below HA6.out.low) HX.out
          cases eb
          clear hM6 hT6 hr6 hn6 hg6 hb6 ho6 d0 hS
          refine hK.out _ _ ⟨d1, d2⟩ (fun hS => ?_)
          clear hK K
          try simp only [Act.put, List.setIfInBounds_toArray, List.set_cons_zero, List.set_cons_succ]
          refine oneR 12 (by kernel_rfl) rfl (fun K hK => ?_)
          go_simp
          refine HADD.out.mono ?_
          rintro e w7 hpost
          obtain ⟨rfl, hat7⟩ := adds_after HA6.out ⟨HPP.out.1, HPP.out.2.1⟩ HM6.out HT6.out hpost
          rw [← HE.out] at hat7 ⊢
          rw [← HU.out]
          have HA7 := Lib.hid hat7
          obtain ⟨b', o', eb, d0, d1, d2⟩ := tact_at (HRD.out.below HA7.out.low) HX.out
          cases eb
          clear hat7 d0 hS hpost
          refine hK.out _ _ ⟨d1, d2⟩ (fun hS => ?_)
          clear hK K
          try simp only [Act.put, List.setIfInBounds_toArray, List.set_cons_zero, List.set_cons_succ]
          refine takeR 13 (v := ?_) rfl (by kernel_rfl) (by kernel_rfl) (by kernel_rfl) (fun _ _ _ h => h) (Or.inl ⟨by rfl, ?_⟩) hS ?_
          rotate_left; · (intro w hSw; obtain ⟨s1, s2⟩ := hSw; go_simp; (try with_reducible rfl))
          try simp only [Act.put, List.setIfInBounds_toArray, List.set_cons_zero, List.set_cons_succ]
          refine takeR 14 (v := ?_) rfl (by kernel_rfl) (by kernel_rfl) (by kernel_rfl) (fun _ _ _ h => h) (Or.inl ⟨by rfl, ?_⟩) hS ?_
          rotate_left; · (intro w hSw; obtain ⟨s1, s2⟩ := hSw; go_simp; (try with_reducible rfl))
          try simp only [Act.put, List.setIfInBounds_toArray, List.set_cons_zero, List.set_cons_succ]
          refine takeR 15 (v := ?_) rfl (by kernel_rfl) (by kernel_rfl) (by kernel_rfl) (fun _ _ _ h => h) (Or.inl ⟨by rfl, ?_⟩) hS ?_
          rotate_left; · (intro w hSw; obtain ⟨s1, s2⟩ := hSw; go_simp; (try with_reducible rfl))
          try simp only [Act.put, List.setIfInBounds_toArray, List.set_cons_zero, List.set_cons_succ]
          refine takeR 16 (v := ?_) rfl (by kernel_rfl) (by kernel_rfl) (by kernel_rfl) (fun _ _ _ h => h) (Or.inl ⟨by rfl, ?_⟩) hS ?_
          rotate_left; · (intro w hSw; obtain ⟨s1, s2⟩ := hSw; go_simp; (try with_reducible rfl))
          try simp only [Act.put, List.setIfInBounds_toArray, List.set_cons_zero, List.set_cons_succ]
          refine takeR 17 (v := ?_) rfl (by kernel_rfl) (by kernel_rfl) (by kernel_rfl) (fun _ _ _ h => h) (Or.inl ⟨by rfl, ?_⟩) hS ?_
          rotate_left; · (intro w hSw; obtain ⟨s1, s2⟩ := hSw; go_simp; (try with_reducible rfl))
          try simp only [Act.put, List.setIfInBounds_toArray, List.set_cons_zero, List.set_cons_succ]
          refine doneR (by kernel_rfl) ?_
          go_wp2_with fail
          go_meet
          case rel => exact ⟨rfl, rfl, HA7.out⟩
        case rest =>
          obtain ⟨rfl, rfl, HA⟩ := hcut
          obtain ⟨w8, hw8⟩ : ∃ w8, w8 = wc := ⟨_, rfl⟩
          rw [← hw8] at HA ⊢
          clear hw8 c1 c2
          obtain ⟨b', o', eb, d0, d1, d2⟩ := tact_at (HRD.out.below HA.out.low) HX.out
          cases eb
          dsimp only at d1 d2
          have HBX := Lib.hid HA.out.box
          go_upto_region 9 with fail
          go_cut [12, 13, 14] from 40 to 91 (fun u v z w' => ∃ p2 A' c', u = .pointer (some ⟨p2, 0, none⟩) ∧ v = .int .i64 U ∧ z = .int .i64 E ∧ Hid (w'.heap[p2]? = some (.cells #[.int .i64 lim, .int .i64 (upN E n : Nat), (.slice A' (upN E n) c'), .slice none 0 0, .slice none 0 0] 60 (0, 0)) ∧ AddsAt W M W.heap.size t lim w' (upN E n) n vL p ∧ OwnT w' (.slice A' (upN E n) c') (upN E n)))
          case first =>
            have HRA := Lib.hid (show ∀ w', Below w8.heap.size w8 w' → Calls Tryd.prog 29 #[.agg #[.int .i64 lim, .int .i64 n, vL, .slice none 0 0, .slice none 0 0], .slice Ax ws.length cx, .int .i64 st] w' (fun e w2 => ∃ A' c', e = .returned (.tuple #[.agg #[.int .i64 lim, .int .i64 (upN E n : Nat), (.slice A' (upN E n) c'), .slice none 0 0, .slice none 0 0], .int .i64 U, .int .i64 E]) ∧ OwnT w2 (.slice A' (upN E n) c') (upN E n) ∧ Below w'.heap.size w' w2) from fun w' hb => by
              refine (radd_any ws Ax cx st w' (HA.out.row.below hb) (HOX.out.rd.below (HA.out.low.trans (hb.mono HA.out.low.size))) (by omega) (by omega)).mono ?_
              intro e w2 h
              obtain ⟨VV, rfl, h2, h3⟩ := radd_after (HA.out.row.below hb) h
              rw [← HE.out] at h2 ⊢
              rw [← HU.out]
              obtain ⟨xs, hx⟩ := h2
              obtain ⟨A', c', rfl, _⟩ := own_rdW hx
              exact ⟨A', c', rfl, ⟨xs, hx⟩, h3⟩)
            refine wp_region_held_drew (S := fun w' => w'.heap[p]? = some (.cells #[.int .i64 lim, .int .i64 n, vL, .slice none 0 0, .slice none 0 0] 60 (0, 0)) ∧ w'.cell? ⟨b, o + k * 3 + 1, none⟩ = some (.int .i64 st) ∧ w'.cell? ⟨b, o + k * 3 + 2, none⟩ = some (.slice Ax ws.length cx)) (by kernel_rfl) ⟨HBX.out, d1, d2⟩ fun hS => ?_
            refine takeR 0 (v := .agg #[.int .i64 lim, .int .i64 n, vL, .slice none 0 0, .slice none 0 0]) rfl (by kernel_rfl) (by kernel_rfl) (by kernel_rfl) (fun _ _ _ h => h) (Or.inl ⟨by rfl, ?_⟩) hS ?_
            · (intro w hSw; exact run_exec_load_row w p 60 60 _ (0, 0) _ (by rfl) (by rfl) hSw.1 Tryd.underlying60 rfl (by kernel_rfl))
            try simp only [Act.put, List.setIfInBounds_toArray, List.set_cons_zero, List.set_cons_succ]
            refine takeR 1 (v := ?_) rfl (by kernel_rfl) (by kernel_rfl) (by kernel_rfl) (fun _ _ _ h => h) (Or.inl ⟨by rfl, ?_⟩) hS ?_
            rotate_left; · (intro w hSw; obtain ⟨s0, s1, s2⟩ := hSw; go_simp; (try with_reducible rfl))
            try simp only [Act.put, List.setIfInBounds_toArray, List.set_cons_zero, List.set_cons_succ]
            refine takeR 2 (v := ?_) rfl (by kernel_rfl) (by kernel_rfl) (by kernel_rfl) (fun _ _ _ h => h) (Or.inl ⟨by rfl, ?_⟩) hS ?_
            rotate_left; · (intro w hSw; obtain ⟨s0, s1, s2⟩ := hSw; go_simp; (try with_reducible rfl))
            try simp only [Act.put, List.setIfInBounds_toArray, List.set_cons_zero, List.set_cons_succ]
            refine takeR 3 (v := ?_) rfl (by kernel_rfl) (by kernel_rfl) (by kernel_rfl) (fun _ _ _ h => h) (Or.inl ⟨by rfl, ?_⟩) hS ?_
            rotate_left; · (intro w hSw; obtain ⟨s0, s1, s2⟩ := hSw; go_simp; (try with_reducible rfl))
            try simp only [Act.put, List.setIfInBounds_toArray, List.set_cons_zero, List.set_cons_succ]
            refine takeR 4 (v := ?_) rfl (by kernel_rfl) (by kernel_rfl) (by kernel_rfl) (fun _ _ _ h => h) (Or.inl ⟨by rfl, ?_⟩) hS ?_
            rotate_left; · (intro w hSw; obtain ⟨s0, s1, s2⟩ := hSw; go_simp; (try with_reducible rfl))
            try simp only [Act.put, List.setIfInBounds_toArray, List.set_cons_zero, List.set_cons_succ]
            refine takeR 5 (v := ?_) rfl (by kernel_rfl) (by kernel_rfl) (by kernel_rfl) (fun _ _ _ h => h) (Or.inl ⟨by rfl, ?_⟩) hS ?_
            rotate_left; · (intro w hSw; obtain ⟨s0, s1, s2⟩ := hSw; go_simp; (try with_reducible rfl))
            try simp only [Act.put, List.setIfInBounds_toArray, List.set_cons_zero, List.set_cons_succ]
            refine takeR 6 (v := ?_) rfl (by kernel_rfl) (by kernel_rfl) (by kernel_rfl) (fun _ _ _ h => h) (Or.inl ⟨by rfl, ?_⟩) hS ?_
            rotate_left; · (intro w hSw; obtain ⟨s0, s1, s2⟩ := hSw; go_simp; (try with_reducible rfl))
            try simp only [Act.put, List.setIfInBounds_toArray, List.set_cons_zero, List.set_cons_succ]
            refine takeR 7 (v := ?_) rfl (by kernel_rfl) (by kernel_rfl) (by kernel_rfl) (fun _ _ _ h => h) (Or.inl ⟨by rfl, ?_⟩) hS ?_
            rotate_left; · (intro w hSw; obtain ⟨s0, s1, s2⟩ := hSw; go_simp; (try with_reducible rfl))
            try simp only [Act.put, List.setIfInBounds_toArray, List.set_cons_zero, List.set_cons_succ]
            refine takeR 8 (v := ?_) rfl (by kernel_rfl) (by kernel_rfl) (by kernel_rfl) (fun _ _ _ h => h) (Or.inl ⟨by rfl, ?_⟩) hS ?_
            rotate_left; · (intro w hSw; obtain ⟨s0, s1, s2⟩ := hSw; go_simp; (try with_reducible rfl))
            try simp only [Act.put, List.setIfInBounds_toArray, List.set_cons_zero, List.set_cons_succ]
            refine takeR 9 (v := ?_) rfl (by kernel_rfl) (by kernel_rfl) (by kernel_rfl) (fun _ _ _ h => h) (Or.inl ⟨by rfl, ?_⟩) hS ?_
            rotate_left; · (intro w hSw; obtain ⟨s0, s1, s2⟩ := hSw; go_simp; (try with_reducible rfl))
            try simp only [Act.put, List.setIfInBounds_toArray, List.set_cons_zero, List.set_cons_succ]
            refine takeR 10 (v := ?_) rfl (by kernel_rfl) (by kernel_rfl) (by kernel_rfl) (fun _ _ _ h => h) (Or.inl ⟨by rfl, ?_⟩) hS ?_
            rotate_left; · (intro w hSw; obtain ⟨s0, s1, s2⟩ := hSw; go_simp; (try with_reducible rfl))
            try simp only [Act.put, List.setIfInBounds_toArray, List.set_cons_zero, List.set_cons_succ]
            have HS8 := Lib.hid (show Below w8.heap.size w8 w8.drew from (Below.refl _ w8).drew)
            have keep : ∀ w', Below w8.heap.size w8 w' → w'.heap[p]? = some (.cells #[.int .i64 lim, .int .i64 n, vL, .slice none 0 0, .slice none 0 0] 60 (0, 0)) ∧ w'.cell? ⟨b, o + k * 3 + 1, none⟩ = some (.int .i64 st) ∧ w'.cell? ⟨b, o + k * 3 + 2, none⟩ = some (.slice Ax ws.length cx) := fun w' hb => ⟨(hb.block p (block_lt HBX.out)).trans HBX.out, (World.cell?_of_block (hb.block b (cell_lt d1))).trans d1, (World.cell?_of_block (hb.block b (cell_lt d2))).trans d2⟩
            have KEEP := Lib.hid keep
            have HSZ := Lib.hid (show p < w8.heap.size from block_lt HBX.out)
            clear keep d0
            refine twoR 11 16 (by kernel_rfl) rfl rfl (fun K hK => ?_) (fun K hK => ?_)
            · go_simp
              refine (HRA.out _ HS8.out).mono ?_
              rintro e w9 ⟨A', c', rfl, ho9, hb9⟩
              have HB9 := Lib.hid (show Below w8.heap.size w8 w9 from HS8.out.trans hb9)
              have HO9 := Lib.hid ho9
              clear hb9 ho9 hS
              refine hK.out _ _ (KEEP.out _ HB9.out) (fun hS => ?_)
              clear hK K
              try simp only [Act.put, List.setIfInBounds_toArray, List.set_cons_zero, List.set_cons_succ]
              refine takeR 12 (v := ?_) rfl (by kernel_rfl) (by kernel_rfl) (by kernel_rfl) (fun _ _ _ h => h) (Or.inl ⟨by rfl, ?_⟩) hS ?_
              rotate_left; · (intro w hSw; obtain ⟨s0, s1, s2⟩ := hSw; go_simp; (try with_reducible rfl))
              try simp only [Act.put, List.setIfInBounds_toArray, List.set_cons_zero, List.set_cons_succ]
              refine takeR 13 (v := ?_) rfl (by kernel_rfl) (by kernel_rfl) (by kernel_rfl) (fun _ _ _ h => h) (Or.inl ⟨by rfl, ?_⟩) hS ?_
              rotate_left; · (intro w hSw; obtain ⟨s0, s1, s2⟩ := hSw; go_simp; (try with_reducible rfl))
              try simp only [Act.put, List.setIfInBounds_toArray, List.set_cons_zero, List.set_cons_succ]
              refine takeR 14 (v := ?_) rfl (by kernel_rfl) (by kernel_rfl) (by kernel_rfl) (fun _ _ _ h => h) (Or.inl ⟨by rfl, ?_⟩) hS ?_
              rotate_left; · (intro w hSw; obtain ⟨s0, s1, s2⟩ := hSw; go_simp; (try with_reducible rfl))
              try simp only [Act.put, List.setIfInBounds_toArray, List.set_cons_zero, List.set_cons_succ]
              refine takeR 15 (v := ?_) rfl (by kernel_rfl) (by kernel_rfl) (by kernel_rfl) (fun _ _ _ h => h) (Or.inl ⟨by rfl, ?_⟩) hS ?_
              rotate_left; · (intro w hSw; obtain ⟨s0, s1, s2⟩ := hSw; go_simp; (try with_reducible rfl))
              try simp only [Act.put, List.setIfInBounds_toArray, List.set_cons_zero, List.set_cons_succ]
              refine oneR 16 (by kernel_rfl) rfl (fun K hK => ?_)
              go_simp
              obtain ⟨wA, hwA⟩ : ∃ wA, wA = w9.alloc (.cells #[.int .i64 0, .int .i64 0, .slice none 0 0, .slice none 0 0, .slice none 0 0] 60) := ⟨_, rfl⟩
              rw [← hwA]
              have hgA : wA.heap[w9.heap.size]? = some (.cells #[.int .i64 0, .int .i64 0, .slice none 0 0, .slice none 0 0, .slice none 0 0] 60 (0, 0)) := by rw [hwA]; exact alloc_new _ _
              have hb10 : Below w9.heap.size w9 wA := by rw [hwA]; exact (Below.refl _ _).alloc (Nat.le_refl _) _
              have HGA := Lib.hid hgA
              have HBA := Lib.hid (HB9.out.trans (hb10.mono HB9.out.size))
              have HOA := Lib.hid (HO9.out.below hb10)
              clear hgA hb10 hwA hS
              refine hK.out _ _ (KEEP.out _ HBA.out) (fun hS => ?_)
              clear hK K
              try simp only [Act.put, List.setIfInBounds_toArray, List.set_cons_zero, List.set_cons_succ]
              refine oneR 17 (by kernel_rfl) rfl (fun K hK => ?_)
              rw [if_pos (by kernel_rfl)]
              refine wp_store_row 60 _ _ rfl w9.heap.size #[.int .i64 lim, .int .i64 (upN E n : Nat), (.slice A' (upN E n) c'), .slice none 0 0, .slice none 0 0] rfl rfl 60 _ HGA.out (by kernel_rfl) rfl (by simp [Value.oneCell']) ?_
              have HF := Lib.hid (adds_stored2 HA.out HB9.out HBA.out HOA.out HGA.out)
              refine hK.out _ _ (KEEP.out _ (HBA.out.trans (below_setRow HB9.out.size))) (fun hS => ?_)
              clear hK K
              try simp only [Act.put]
              refine takeR 18 (v := ?_) rfl (by kernel_rfl) (by kernel_rfl) (by kernel_rfl) (fun _ _ _ h => h) (Or.inl ⟨by rfl, ?_⟩) hS ?_
              rotate_left; · (intro w hSw; obtain ⟨s0, s1, s2⟩ := hSw; go_simp; (try with_reducible rfl))
              try simp only [Act.put, List.setIfInBounds_toArray, List.set_cons_zero, List.set_cons_succ]
              refine takeR 19 (v := ?_) rfl (by kernel_rfl) (by kernel_rfl) (by kernel_rfl) (fun _ _ _ h => h) (Or.inl ⟨by rfl, ?_⟩) hS ?_
              rotate_left; · (intro w hSw; obtain ⟨s0, s1, s2⟩ := hSw; go_simp; (try with_reducible rfl))
              try simp only [Act.put, List.setIfInBounds_toArray, List.set_cons_zero, List.set_cons_succ]
              refine doneR (by kernel_rfl) ?_
              generalize wA.setRow w9.heap.size #[.int .i64 lim, .int .i64 (upN E n : Nat), (.slice A' (upN E n) c'), .slice none 0 0, .slice none 0 0] = wy at *
              go_wp2_with fail
              go_meet
              case rel => exact ⟨_, _, _, rfl, rfl, rfl, HF.out⟩
            · go_simp
              obtain ⟨wA, hwA⟩ : ∃ wA, wA = (w8.alloc (.cells #[.int .i64 0, .int .i64 0, .slice none 0 0, .slice none 0 0, .slice none 0 0] 60)).drew := ⟨_, rfl⟩
              rw [← hwA]
              have hgA : wA.heap[w8.heap.size]? = some (.cells #[.int .i64 0, .int .i64 0, .slice none 0 0, .slice none 0 0, .slice none 0 0] 60 (0, 0)) := by rw [hwA]; exact alloc_new w8 _
              have hb10 : Below w8.heap.size w8 wA := by rw [hwA]; exact ((Below.refl _ w8).alloc (Nat.le_refl _) _).drew
              have HGA := Lib.hid hgA
              have HBA := Lib.hid hb10
              clear hgA hb10 hwA hS
              refine hK.out _ _ (KEEP.out _ HBA.out) (fun hS => ?_)
              clear hK K
              try simp only [Act.put, List.setIfInBounds_toArray, List.set_cons_zero, List.set_cons_succ]
              refine oneR 11 (by kernel_rfl) rfl (fun K hK => ?_)
              go_simp
              refine (HRA.out _ HBA.out).mono ?_
              rintro e w9 ⟨A', c', rfl, ho9, hb9⟩
              have HG9 := Lib.hid ((hb9.block _ (block_lt HGA.out)).trans HGA.out)
              have HB9 := Lib.hid (HBA.out.trans (hb9.mono HBA.out.size))
              have HO9 := Lib.hid ho9
              clear hb9 ho9 hS
              refine hK.out _ _ (KEEP.out _ HB9.out) (fun hS => ?_)
              clear hK K
              try simp only [Act.put, List.setIfInBounds_toArray, List.set_cons_zero, List.set_cons_succ]
              refine takeR 12 (v := ?_) rfl (by kernel_rfl) (by kernel_rfl) (by kernel_rfl) (fun _ _ _ h => h) (Or.inl ⟨by rfl, ?_⟩) hS ?_
              rotate_left; · (intro w hSw; obtain ⟨s0, s1, s2⟩ := hSw; go_simp; (try with_reducible rfl))
              try simp only [Act.put, List.setIfInBounds_toArray, List.set_cons_zero, List.set_cons_succ]
              refine takeR 13 (v := ?_) rfl (by kernel_rfl) (by kernel_rfl) (by kernel_rfl) (fun _ _ _ h => h) (Or.inl ⟨by rfl, ?_⟩) hS ?_
              rotate_left; · (intro w hSw; obtain ⟨s0, s1, s2⟩ := hSw; go_simp; (try with_reducible rfl))
              try simp only [Act.put, List.setIfInBounds_toArray, List.set_cons_zero, List.set_cons_succ]
              refine takeR 14 (v := ?_) rfl (by kernel_rfl) (by kernel_rfl) (by kernel_rfl) (fun _ _ _ h => h) (Or.inl ⟨by rfl, ?_⟩) hS ?_
              rotate_left; · (intro w hSw; obtain ⟨s0, s1, s2⟩ := hSw; go_simp; (try with_reducible rfl))
              try simp only [Act.put, List.setIfInBounds_toArray, List.set_cons_zero, List.set_cons_succ]
              refine takeR 15 (v := ?_) rfl (by kernel_rfl) (by kernel_rfl) (by kernel_rfl) (fun _ _ _ h => h) (Or.inl ⟨by rfl, ?_⟩) hS ?_
              rotate_left; · (intro w hSw; obtain ⟨s0, s1, s2⟩ := hSw; go_simp; (try with_reducible rfl))
              try simp only [Act.put, List.setIfInBounds_toArray, List.set_cons_zero, List.set_cons_succ]
              refine oneR 17 (by kernel_rfl) rfl (fun K hK => ?_)
              rw [if_pos (by kernel_rfl)]
              refine wp_store_row 60 _ _ rfl w8.heap.size #[.int .i64 lim, .int .i64 (upN E n : Nat), (.slice A' (upN E n) c'), .slice none 0 0, .slice none 0 0] rfl rfl 60 _ HG9.out (by kernel_rfl) rfl (by simp [Value.oneCell']) ?_
              have HF := Lib.hid (adds_stored2 HA.out (Below.refl _ w8) HB9.out HO9.out HG9.out)
              refine hK.out _ _ (KEEP.out _ (HB9.out.trans (below_setRow (Nat.le_refl _)))) (fun hS => ?_)
              clear hK K
              try simp only [Act.put]
              refine takeR 18 (v := ?_) rfl (by kernel_rfl) (by kernel_rfl) (by kernel_rfl) (fun _ _ _ h => h) (Or.inl ⟨by rfl, ?_⟩) hS ?_
              rotate_left; · (intro w hSw; obtain ⟨s0, s1, s2⟩ := hSw; go_simp; (try with_reducible rfl))
              try simp only [Act.put, List.setIfInBounds_toArray, List.set_cons_zero, List.set_cons_succ]
              refine takeR 19 (v := ?_) rfl (by kernel_rfl) (by kernel_rfl) (by kernel_rfl) (fun _ _ _ h => h) (Or.inl ⟨by rfl, ?_⟩) hS ?_
              rotate_left; · (intro w hSw; obtain ⟨s0, s1, s2⟩ := hSw; go_simp; (try with_reducible rfl))
              try simp only [Act.put, List.setIfInBounds_toArray, List.set_cons_zero, List.set_cons_succ]
              refine doneR (by kernel_rfl) ?_
              generalize w9.setRow w8.heap.size #[.int .i64 lim, .int .i64 (upN E n : Nat), (.slice A' (upN E n) c'), .slice none 0 0, .slice none 0 0] = wy at *
              go_wp2_with fail
              go_meet
              case rel => exact ⟨_, _, _, rfl, rfl, rfl, HF.out⟩
          case rest =>
            obtain ⟨p2, A', c', rfl, rfl, rfl, HC⟩ := hcut
            clear HA HBX d0 d1 d2
            obtain ⟨w11, hw11⟩ : ∃ w11, w11 = wc := ⟨_, rfl⟩
            rw [← hw11] at HC ⊢
            clear hw11
            go_wp2_with ((with_reducible refine stop_loadR _ rfl ?_))
            unfold Hid
            refine wpList_load_row rfl 60 _ rfl p2 rfl 60 _ (0, 0) _ HC.out.1 Tryd.underlying60 rfl (by kernel_rfl) ?_
            refine wpList_store_row rfl 60 _ _ rfl p _ rfl rfl 60 _ HC.out.2.1.box (by kernel_rfl) rfl (by simp [Value.oneCell']) ?_
            have HN2 := Lib.hid (adds_stored HC.out.2.1 HC.out.2.2 ⟨HPP.out.1, HPP.out.2.1, HPP.out.2.2.1⟩)
            generalize w11.setRow p #[.int .i64 lim, .int .i64 (upN E n : Nat), (.slice A' (upN E n) c'), .slice none 0 0, .slice none 0 0] = w12 at *
            clear HC
            have HNUM := Lib.hid (numt_any E w12 (HG.out.keep (Keep.of HN2.out.low (Nat.zero_le _) : Keep 0 W w12)))
            go_wp2_with fail
            refine HNUM.out.mono ?_
            rintro e w13 ⟨rfl, hb13⟩
            have HN3 := Lib.hid (HN2.out.cl hb13)
            clear hb13 HNUM HN2
            go_wp2_with fail
            go_roundg (80 - (k + 1))
            case measure => omega
            case rel => exact ⟨k + 1, by omega, by omega, rfl, by congr 1, ⟨upN E n, _, by unfold upN; split <;> omega, HN3.out⟩⟩
      · have hor : (k0 : Int) ≤ (k : Int) ∨ ((k : Int) < (k0 : Int) ∧ (80 : Int) ≤ (k : Int)) := by omega
        clear hgo
        obtain ⟨T, hM9, hT9⟩ := HST.out.mach
        have HTS := Lib.hid (tasks_any wr.drew (hM9.below (Below.refl _ wr).drew) (by omega))
        obtain ⟨xs9, hx9⟩ := HST.out.row
        obtain ⟨A9, c9, rfl, _, _, _⟩ := own_rdW hx9
        have e9 : wr.cell? ⟨p, 2, none⟩ = some (.slice A9 n c9) := block_cell HST.out.box
        have HLOW := Lib.hid HST.out.low
        clear hM9 hT9 hx9
        rcases hor with h1 | ⟨h1, h2⟩
        all_goals
          first
          | (have h1' : ¬ (k : Int) < (k0 : Int) := by omega
             clear h1)
          | (have h2' : ¬ (k : Int) < 80 := by omega
             clear h2)
          go_upto_region 13 with fail
          refine wp_region_held_drew (S := fun w' => w'.cell? ⟨p, 2, none⟩ = some (.slice A9 n c9)) (by kernel_rfl) e9 fun hS => ?_
          refine takeR 0 (v := ?_) rfl (by kernel_rfl) (by kernel_rfl) (by kernel_rfl) (fun _ _ _ h => h) (Or.inl ⟨by rfl, ?_⟩) hS ?_
          rotate_left; · (intro w hSw; obtain s0 := hSw; go_simp; (try with_reducible rfl))
          try simp only [Act.put, List.setIfInBounds_toArray, List.set_cons_zero, List.set_cons_succ]
          refine takeR 3 (v := ?_) rfl (by kernel_rfl) (by kernel_rfl) (by kernel_rfl) (fun _ _ _ h => h) (Or.inl ⟨by rfl, ?_⟩) hS ?_
          rotate_left; · (intro w hSw; obtain s0 := hSw; go_simp; (try with_reducible rfl))
          try simp only [Act.put, List.setIfInBounds_toArray, List.set_cons_zero, List.set_cons_succ]
          refine takeR 4 (v := ?_) rfl (by kernel_rfl) (by kernel_rfl) (by kernel_rfl) (fun _ _ _ h => h) (Or.inl ⟨by rfl, ?_⟩) hS ?_
          rotate_left; · (intro w hSw; obtain s0 := hSw; go_simp; (try with_reducible rfl))
          try simp only [Act.put, List.setIfInBounds_toArray, List.set_cons_zero, List.set_cons_succ]
          refine takeR 5 (v := ?_) rfl (by kernel_rfl) (by kernel_rfl) (by kernel_rfl) (fun _ _ _ h => h) (Or.inl ⟨by rfl, ?_⟩) hS ?_
          rotate_left; · (intro w hSw; obtain s0 := hSw; go_simp; (try with_reducible rfl))
          try simp only [Act.put, List.setIfInBounds_toArray, List.set_cons_zero, List.set_cons_succ]
          refine oneR 1 (by kernel_rfl) rfl (fun K hK => ?_)
          go_simp
          refine HTS.out.mono ?_
          rintro e w2 ⟨v2, K2, rfl, ho2, ht2, hb2⟩
          obtain ⟨A2, c2, rfl, _, _, _⟩ := own_rdW ho2
          rw [ht2.len]
          have HB2 := Lib.hid (HLOW.out.drew.trans (hb2.mono HLOW.out.size))
          have e2 : w2.cell? ⟨p, 2, none⟩ = some (.slice A9 n c9) := (World.cell?_of_block (hb2.block p (cell_lt e9))).trans e9
          clear ho2 ht2 hb2 hS
          refine hK.out _ _ e2 (fun hS => ?_)
          clear hK K
          try simp only [Act.put, List.setIfInBounds_toArray, List.set_cons_zero, List.set_cons_succ]
          refine takeR 2 (v := ?_) rfl (by kernel_rfl) (by kernel_rfl) (by kernel_rfl) (fun _ _ _ h => h) (Or.inl ⟨by rfl, ?_⟩) hS ?_
          rotate_left; · (intro w hSw; obtain s0 := hSw; go_simp; (try with_reducible rfl))
          try simp only [Act.put, List.setIfInBounds_toArray, List.set_cons_zero, List.set_cons_succ]
          refine takeR 6 (v := ?_) rfl (by kernel_rfl) (by kernel_rfl) (by kernel_rfl) (fun _ _ _ h => h) (Or.inl ⟨by rfl, ?_⟩) hS ?_
          rotate_left; · (intro w hSw; obtain s0 := hSw; go_simp; (try with_reducible rfl))
          try simp only [Act.put, List.setIfInBounds_toArray, List.set_cons_zero, List.set_cons_succ]
          refine takeR 7 (v := ?_) rfl (by kernel_rfl) (by kernel_rfl) (by kernel_rfl) (fun _ _ _ h => h) (Or.inl ⟨by rfl, ?_⟩) hS ?_
          rotate_left; · (intro w hSw; obtain s0 := hSw; go_simp; (try with_reducible rfl))
          try simp only [Act.put, List.setIfInBounds_toArray, List.set_cons_zero, List.set_cons_succ]
          refine oneR 8 (by kernel_rfl) rfl (fun K hK => ?_)
          go_simp
          refine (suret_any w2).mono ?_
          rintro e w3 ⟨rfl, hb3⟩
          have e3 : w3.cell? ⟨p, 2, none⟩ = some (.slice A9 n c9) := (World.cell?_of_block (hb3.block p (cell_lt e2))).trans e2
          have HB3 := Lib.hid (HB2.out.trans (hb3.mono HB2.out.size))
          clear hb3 hS
          refine hK.out _ _ e3 (fun hS => ?_)
          clear hK K
          try simp only [Act.put, List.setIfInBounds_toArray, List.set_cons_zero, List.set_cons_succ]
          refine takeR 9 (v := ?_) rfl (by kernel_rfl) (by kernel_rfl) (by kernel_rfl) (fun _ _ _ h => h) (Or.inl ⟨by rfl, ?_⟩) hS ?_
          rotate_left; · (intro w hSw; obtain s0 := hSw; go_simp; (try with_reducible rfl))
          try simp only [Act.put, List.setIfInBounds_toArray, List.set_cons_zero, List.set_cons_succ]
          refine takeR 10 (v := ?_) rfl (by kernel_rfl) (by kernel_rfl) (by kernel_rfl) (fun _ _ _ h => h) (Or.inl ⟨by rfl, ?_⟩) hS ?_
          rotate_left; · (intro w hSw; obtain s0 := hSw; go_simp; (try with_reducible rfl))
          try simp only [Act.put, List.setIfInBounds_toArray, List.set_cons_zero, List.set_cons_succ]
          refine doneR (by kernel_rfl) ?_
          go_wp2_with fail
          go_ret
          exact ⟨rfl, HB3.out⟩
end Go.Proofs.YtnnadhfpkplncaaDoor
