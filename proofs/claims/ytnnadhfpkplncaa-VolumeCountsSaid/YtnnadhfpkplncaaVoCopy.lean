/- A volume copied. Condition: the set reads, its names go up. -/
import Derived.Test.YtnnadhfpkplncaaVoWrit
namespace Go.Proofs.Ytnnadhfpkplncaa
open Go.RowKit

def cpV (x : Vol) (t : List UInt8) (fr : Bool) : Vol := ⟨t, x.blocks, x.quota, x.used, fr, x.A, x.f⟩
def CopyPost (l : List Vol) (from_ t : List UInt8) (fr : Bool) (w : World) (e : Ending) (w' : World) : Prop := Below w.heap.size w w' ∧
  (((∃ k, e = .returned (.tuple #[.pointer none, .slice none 0 0, .iface 93 (.int .i64 k)])) ∧ ¬ (okN t ∧ (∃ x ∈ l, x.name = from_) ∧ (∀ x ∈ l, x.name ≠ t) ∧ l.length < 64)) ∨
  (∃ x i b u, x ∈ l ∧ x.name = from_ ∧ Cut l t i ∧ hasAt l i t = false ∧ l.length < 64 ∧ e = .returned (.tuple #[.pointer (some ⟨b, 0, none⟩), u, .nilIface]) ∧ RdS w' (some ⟨b, 0, none⟩) (putV l i (cpV x t fr))))
set_option maxRecDepth 100000 in
set_option maxHeartbeats 6400000 in
theorem vcopy_any (s : Option Addr) (l : List Vol) (from_ t : List UInt8) (fr : Bool) (w : World) (h : RdS w s l) (hu : Up l) (hl : l.length ≤ 900) :
    Calls Try.prog 26 #[.pointer s, .string ⟨from_.toArray⟩, .string ⟨t.toArray⟩, .bool fr] w (CopyPost l from_ t fr w) := by
  have HS := Lib.hid h
  have HU := Lib.hid hu
  clear h hu
  go_enter Try.func26, Try.ntmps26
  go_wp2_with fail
  refine (named_any t w).mono ?_
  rintro e w1 ⟨nb, rfl, hnb, hb1⟩
  have HNB := Lib.hid hnb
  have HB1 := Lib.hid hb1
  clear hnb hb1
  cases nb with
  | false =>
    go_wp2_with fail
    refine bodyPost_ret (results_tmp3 rfl _ _ _) rfl ?_
    exact ⟨HB1.out, Or.inl ⟨⟨_, rfl⟩, fun h => by
      have := HNB.out h.1
      cases this⟩⟩
  | true =>
    clear HNB
    have HG := Lib.hid (vget_any s l from_ w1 (HS.out.below HB1.out) HU.out (by omega))
    go_wp2_with fail
    refine HG.out.mono ?_
    rintro e w2 ⟨hb2, ⟨i0, x, hx, hxt, hc0, rfl⟩ | ⟨hn, rfl⟩⟩
    · obtain ⟨w3, hw3⟩ : ∃ w3, w3 = w2.alloc (.cells #[.string ⟨x.name.toArray⟩, .int .i64 x.blocks, .int .i64 x.quota, .int .i64 x.used, .bool x.frozen, .pointer x.A] 92) := ⟨_, rfl⟩
      obtain ⟨p, hp⟩ : ∃ p, p = w2.heap.size := ⟨_, rfl⟩
      have hb3 : Below w2.heap.size w2 w3 := by rw [hw3]; exact (Below.refl _ _).alloc (Nat.le_refl _) _
      have hx3 : w3.heap[p]? = some (.cells #[.string ⟨x.name.toArray⟩, .int .i64 x.blocks, .int .i64 x.quota, .int .i64 x.used, .bool x.frozen, .pointer x.A] 92 (0, 0)) := by rw [hw3, hp]; exact alloc_new _ _
      have HX3 := Lib.hid hx3
      have HB3 := Lib.hid (HB1.out.trans ((hb2.trans (hb3.mono hb2.size)).mono HB1.out.size))
      have HX := Lib.hid (And.intro (List.mem_of_getElem? hx) hxt)
      have HPW := Lib.hid (show w.heap.size ≤ p by rw [hp]; exact Nat.le_trans HB1.out.size hb2.size)
      clear hb2 hb3 hx3 hx hxt hc0 HG
      have HRM := Lib.hid (room_any s l t w3 (HS.out.below HB3.out) HU.out (by omega))
      obtain ⟨xn, xb, xq, xu, xf, xA, xg⟩ := x
      dsimp only at hw3 HX3
      go_wp2_with fail
      rw [← hw3, ← hp]
      clear hw3 hp
      refine HRM.out.mono ?_
      rintro e w4 ⟨hb4, i, hc, ⟨hh, rfl⟩ | ⟨hh, h64, rfl⟩ | ⟨hh, h64, rfl⟩⟩
      · have HN := Lib.hid (hasAt_mem hh)
        have HB4 := Lib.hid (HB3.out.trans (hb4.mono HB3.out.size))
        clear hb4 hc hh
        go_wp2_with fail
        refine bodyPost_ret (results_tmp3 rfl _ _ _) rfl ?_
        exact ⟨HB4.out, Or.inl ⟨⟨_, rfl⟩, fun h => HN.out h.2.2.1⟩⟩
      · have H64 := Lib.hid h64
        have HB4 := Lib.hid (HB3.out.trans (hb4.mono HB3.out.size))
        clear hb4 hc hh h64
        go_wp2_with fail
        refine bodyPost_ret (results_tmp3 rfl _ _ _) rfl ?_
        exact ⟨HB4.out, Or.inl ⟨⟨_, rfl⟩, fun h => by
          have h1 := h.2.2.2
          have h2 := H64.out
          omega⟩⟩
      · have HH := Lib.hid (And.intro hh h64)
        have HC0 := Lib.hid hc
        have hx4 := (hb4.block _ (block_lt HX3.out)).trans HX3.out
        have HX4 := Lib.hid hx4
        have HB4 := Lib.hid (HB3.out.trans (hb4.mono HB3.out.size))
        have f0 : w4.frozen? ⟨p, 0, none⟩ = false := block_free hx4
        have f4 : w4.frozen? ⟨p, 4, none⟩ = false := block_free hx4
        have y0 : w4.cell? ⟨p, 0, none⟩ = some (.string ⟨xn.toArray⟩) := block_cell hx4
        have y4 : w4.cell? ⟨p, 4, none⟩ = some (.bool xf) := block_cell hx4
        clear hb4 hc hh h64 hx4
        go_upto_region 10 with fail
        obtain ⟨w5, hw5⟩ : ∃ w5, w5 = (w4.setCell ⟨p, 0, none⟩ (.string ⟨t.toArray⟩)).setCell ⟨p, 4, none⟩ (.bool fr) := ⟨_, rfl⟩
        have hx5 : w5.heap[p]? = some (.cells #[.string ⟨t.toArray⟩, .int .i64 xb, .int .i64 xq, .int .i64 xu, .bool fr, .pointer xA] 92 (0, 0)) := by
          rw [hw5]
          exact heap_setCell_same _ p 4 _ 92 _ (heap_setCell_same w4 p 0 _ 92 _ HX4.out)
        have hb5 : Below w.heap.size w w5 := by
          rw [hw5]
          exact (Below.setCell (p := ⟨p, 0, none⟩) HB4.out HPW.out _).setCell (p := ⟨p, 4, none⟩) HPW.out _
        rw [← hw5]
        have HB5 := Lib.hid hb5
        clear f0 f4 y0 y4 hw5 hb5
        have HX5 := Lib.hid hx5
        have hxA : ∀ w', Below w.heap.size w w' → ∃ S, RdR xg S w' xA := fun w' hb => by
          obtain ⟨S, hS⟩ := HS.out.1 _ HX.out.1
          exact ⟨S, RdR.below hS hb⟩
        have HXA := Lib.hid hxA
        clear hxA
        have HD5 := Lib.hid (show Below w.heap.size w w5.drew from HB5.out.drew)
        have HX5d := Lib.hid (show w5.drew.heap[p]? = some (.cells #[.string ⟨t.toArray⟩, .int .i64 xb, .int .i64 xq, .int .i64 xu, .bool fr, .pointer xA] 92 (0, 0)) from hx5)
        clear hx5
        have HW := Lib.hid (show ∀ w', Below w.heap.size w w' → Calls Try.prog 44 #[.pointer s, .agg #[.string ⟨t.toArray⟩, .int .i64 xb, .int .i64 xq, .int .i64 xu, .bool fr, .pointer xA]] w' (WithPost l (cpV ⟨xn, xb, xq, xu, xf, xA, xg⟩ t fr) w') from fun w' hb =>
          vwith_any s l (cpV ⟨xn, xb, xq, xu, xf, xA, xg⟩ t fr) w' (HS.out.below hb) HU.out (by omega) (HXA.out w' hb))
        have HNU := Lib.hid (show ∀ w', Below w.heap.size w w' → Calls Try.prog 49 #[.agg #[.string ⟨t.toArray⟩, .int .i64 xb, .int .i64 xq, .int .i64 xu, .bool fr, .pointer xA]] w' (NumsPost xg w') from fun w' hb =>
          numbers_any (cpV ⟨xn, xb, xq, xu, xf, xA, xg⟩ t fr) w' (HXA.out w' hb))
        refine wp_region_held_drew (S := fun w' => w'.heap[p]? = some (.cells #[.string ⟨t.toArray⟩, .int .i64 xb, .int .i64 xq, .int .i64 xu, .bool fr, .pointer xA] 92 (0, 0))) (by kernel_rfl) HX5.out fun hS => ?_
        refine takeR 0 (v := ?_) rfl (by kernel_rfl) (by kernel_rfl) (by kernel_rfl) (fun _ _ _ h => h) (Or.inl ⟨by rfl, ?_⟩) hS ?_
        rotate_left; · (intro w hSw; (try dsimp only at hSw); go_simp; (try with_reducible rfl))
        try simp only [Act.put, List.setIfInBounds_toArray, List.set_cons_zero, List.set_cons_succ]
        refine takeR 1 (v := .agg #[.string ⟨t.toArray⟩, .int .i64 xb, .int .i64 xq, .int .i64 xu, .bool fr, .pointer xA]) rfl (by kernel_rfl) (by kernel_rfl) (by kernel_rfl) (fun _ _ _ h => h) (Or.inl ⟨by rfl, ?_⟩) hS ?_
        · (intro w hSw; exact run_exec_load_row w p 92 92 _ (0, 0) _ (by rfl) (by rfl) hSw Try.underlying92 rfl (by kernel_rfl))
        try simp only [Act.put, List.setIfInBounds_toArray, List.set_cons_zero, List.set_cons_succ]
        refine takeR 3 (v := .agg #[.string ⟨t.toArray⟩, .int .i64 xb, .int .i64 xq, .int .i64 xu, .bool fr, .pointer xA]) rfl (by kernel_rfl) (by kernel_rfl) (by kernel_rfl) (fun _ _ _ h => h) (Or.inl ⟨by rfl, ?_⟩) hS ?_
        · (intro w hSw; exact run_exec_load_row w p 92 92 _ (0, 0) _ (by rfl) (by rfl) hSw Try.underlying92 rfl (by kernel_rfl))
        try simp only [Act.put, List.setIfInBounds_toArray, List.set_cons_zero, List.set_cons_succ]
        refine oneR 2 (by kernel_rfl) rfl (fun K hK => ?_)
        go_simp
        refine (HW.out _ HD5.out).mono ?_
        rintro e w6 ⟨j, b, hj, rfl, hs6, hb6⟩
        have hij := HC0.out.one hj
        subst hij
        have HB6 := Lib.hid (HD5.out.trans (hb6.mono HD5.out.size))
        have HS6 := Lib.hid hs6
        have hx6 := (hb6.block _ (block_lt HX5d.out)).trans HX5d.out
        clear hb6 hs6 hj hS
        refine hK.out _ _ hx6 (fun hS => ?_)
        clear hK K
        try simp only [Act.put, List.setIfInBounds_toArray, List.set_cons_zero, List.set_cons_succ]
        refine oneR 4 (by kernel_rfl) rfl (fun K hK => ?_)
        go_simp
        refine (HNU.out _ HB6.out).mono ?_
        rintro e w7 ⟨u, rfl, _, hb7⟩
        have HB7 := Lib.hid (HB6.out.trans (hb7.mono HB6.out.size))
        have HS7 := Lib.hid (HS6.out.below hb7)
        have hx7 := (hb7.block _ (block_lt hx6)).trans hx6
        clear hb7 hx6 hS
        refine hK.out _ _ hx7 (fun hS => ?_)
        clear hK K
        try simp only [Act.put, List.setIfInBounds_toArray, List.set_cons_zero, List.set_cons_succ]
        refine takeR 5 (v := ?_) rfl (by kernel_rfl) (by kernel_rfl) (by kernel_rfl) (fun _ _ _ h => h) (Or.inl ⟨by rfl, ?_⟩) hS ?_
        rotate_left; · (intro w hSw; (try dsimp only at hSw); go_simp; (try with_reducible rfl))
        try simp only [Act.put, List.setIfInBounds_toArray, List.set_cons_zero, List.set_cons_succ]
        refine takeR 6 (v := ?_) rfl (by kernel_rfl) (by kernel_rfl) (by kernel_rfl) (fun _ _ _ h => h) (Or.inl ⟨by rfl, ?_⟩) hS ?_
        rotate_left; · (intro w hSw; (try dsimp only at hSw); go_simp; (try with_reducible rfl))
        try simp only [Act.put, List.setIfInBounds_toArray, List.set_cons_zero, List.set_cons_succ]
        refine takeR 7 (v := ?_) rfl (by kernel_rfl) (by kernel_rfl) (by kernel_rfl) (fun _ _ _ h => h) (Or.inl ⟨by rfl, ?_⟩) hS ?_
        rotate_left; · (intro w hSw; (try dsimp only at hSw); go_simp; (try with_reducible rfl))
        try simp only [Act.put, List.setIfInBounds_toArray, List.set_cons_zero, List.set_cons_succ]
        refine doneR (by kernel_rfl) ?_
        go_wp2_with fail
        refine bodyPost_ret (results_tmp3 rfl _ _ _) rfl ?_
        exact ⟨HB7.out, Or.inr ⟨_, i, b, u, HX.out.1, HX.out.2, HC0.out, HH.out.1, HH.out.2, rfl, HS7.out⟩⟩
    · have HB2 := Lib.hid (HB1.out.trans (hb2.mono HB1.out.size))
      have HN := Lib.hid hn
      have HB3 := Lib.hid (Below.alloc HB2.out HB2.out.size (.cells #[.string ⟨#[]⟩, .int .i64 0, .int .i64 0, .int .i64 0, .bool false, .pointer none] 92))
      clear hb2 hn HG
      go_wp2_with fail
      refine bodyPost_ret (results_tmp3 rfl _ _ _) rfl ?_
      exact ⟨HB3.out, Or.inl ⟨⟨_, rfl⟩, fun h => by
        obtain ⟨x, hx, e⟩ := h.2.1
        exact HN.out x hx e⟩⟩
end Go.Proofs.Ytnnadhfpkplncaa
