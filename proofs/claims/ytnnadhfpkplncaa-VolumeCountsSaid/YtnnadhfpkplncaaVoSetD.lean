/- A volume's numbers; a set without a volume. Condition: the set reads, its names go up. -/
import Derived.Test.YtnnadhfpkplncaaVoDel
import Derived.OwnWalk
namespace Go.Proofs.Ytnnadhfpkplncaa
open Go.RowKit

theorem own_lower {w : World} {B L n s : Nat} {E : TypeId} {v : Value} {xs : List Value} (h : w.ownsRow B E s v n xs) (hL : L ≤ B) : w.ownsRow L E s v n xs :=
  ⟨h.1, h.2.imp id fun ⟨g, c, cur, e, hg, r⟩ => ⟨g, c, cur, e, Nat.le_trans hL hg, r⟩⟩
/-- All numbers of a tree. -/
def numsL (f : Nat → Int) : List Int := (itemsL f 2 0).map f
theorem zs_nums (f : Nat → Int) : zs (numsL f) = (itemsL f 2 0).map fun x => .int .i64 (f x) := by unfold zs numsL; rw [List.map_map]; rfl
theorem nums_len (f : Nat → Int) : (numsL f).length = (itemsL f 2 0).length := by unfold numsL; simp
def NumsPost (f : Nat → Int) (w : World) (e : Ending) (w' : World) : Prop := ∃ u, e = .returned u ∧ w'.ownsRow w.heap.size 3 1 u (numsL f).length (zs (numsL f)) ∧ Below w.heap.size w w'
set_option maxHeartbeats 800000 in
theorem numbers_any (x : Vol) (w : World) (h : ∃ S, RdR x.f S w x.A) : Calls Try.prog 49 #[.agg #[.string ⟨x.name.toArray⟩, .int .i64 x.blocks, .int .i64 x.quota, .int .i64 x.used, .bool x.frozen, .pointer x.A]] w (NumsPost x.f w) := by
  obtain ⟨nm, bl, qu, us, fr, A, f⟩ := x
  obtain ⟨S, h⟩ := h
  obtain ⟨w1, hw1⟩ : ∃ w1, w1 = w.alloc (.cells #[.string ⟨nm.toArray⟩, .int .i64 bl, .int .i64 qu, .int .i64 us, .bool fr, .pointer A] 92) := ⟨_, rfl⟩
  have hb1 : Below w.heap.size w w1 := by rw [hw1]; exact (Below.refl _ _).alloc (Nat.le_refl _) _
  have HA := Lib.hid (all_any f S A w1 (RdR.below h hb1))
  have HB1 := Lib.hid hb1
  clear h hb1
  go_enter Try.func49, Try.ntmps49
  go_wp2_with fail
  rw [← hw1]
  clear hw1
  refine HA.out.mono ?_
  rintro e w2 ⟨u1, u2, rfl, _, ho, hb⟩
  rw [← zs_nums, ← nums_len] at ho
  have HO := Lib.hid (own_lower ho HB1.out.size)
  have HB := Lib.hid (HB1.out.trans (hb.mono HB1.out.size))
  clear ho hb
  go_wp2_with fail
  go_ret
  exact ⟨u2, rfl, HO.out, HB.out⟩
def VDelPost (l : List Vol) (w : World) (e : Ending) (w' : World) : Prop := Below w.heap.size w w' ∧
  ((∃ k, e = .returned (.tuple #[.pointer none, .slice none 0 0, .iface 93 (.int .i64 k)])) ∨
  (∃ i s u, i < l.length ∧ e = .returned (.tuple #[.pointer s, u, .nilIface]) ∧ RdS w' s (l.eraseIdx i)))
set_option maxRecDepth 100000 in
set_option maxHeartbeats 3200000 in
theorem vdel_any (s : Option Addr) (l : List Vol) (t : List UInt8) (w : World) (h : RdS w s l) (hu : Up l) (hl : l.length ≤ 900) : Calls Try.prog 25 #[.pointer s, .string ⟨t.toArray⟩] w (VDelPost l w) := by
  have HG := Lib.hid (vget_any s l t w h hu (by omega))
  have HS := Lib.hid h
  have HU := Lib.hid hu
  clear h hu
  go_enter Try.func25, Try.ntmps25
  go_wp2_with fail
  refine HG.out.mono ?_
  rintro e w1 ⟨hb1, ⟨i, x, hx, hxt, hc, rfl⟩ | ⟨hn, rfl⟩⟩
  · obtain ⟨w2, hw2⟩ : ∃ w2, w2 = w1.alloc (.cells #[.string ⟨x.name.toArray⟩, .int .i64 x.blocks, .int .i64 x.quota, .int .i64 x.used, .bool x.frozen, .pointer x.A] 92) := ⟨_, rfl⟩
    obtain ⟨p, hp⟩ : ∃ p, p = w1.heap.size := ⟨_, rfl⟩
    have hb2 : Below w1.heap.size w1 w2 := by rw [hw2]; exact (Below.refl _ _).alloc (Nat.le_refl _) _
    have hx2 : w2.heap[p]? = some (.cells #[.string ⟨x.name.toArray⟩, .int .i64 x.blocks, .int .i64 x.quota, .int .i64 x.used, .bool x.frozen, .pointer x.A] 92 (0, 0)) := by rw [hw2, hp]; exact alloc_new _ _
    have HB2 := Lib.hid (hb1.trans (hb2.mono hb1.size))
    have HX2 := Lib.hid hx2
    have HC := Lib.hid hc
    have HX := Lib.hid hx
    have HXT := Lib.hid hxt
    clear hb1 hb2 hx2 hc hx hxt HG
    have HF := Lib.hid (vfind_any s l t w2 (HS.out.below HB2.out) HU.out (by omega))
    go_wp2_with fail
    rw [← hw2, ← hp]
    clear hw2 hp
    refine HF.out.mono ?_
    rintro e w3 ⟨j, hj, rfl, hb3⟩
    obtain rfl := HC.out.one hj
    have HX3 := Lib.hid ((hb3.block _ (block_lt HX2.out)).trans HX2.out)
    have HB3 := Lib.hid (HB2.out.trans (hb3.mono HB2.out.size))
    have hlt : i < l.length := (List.getElem?_eq_some_iff.1 HX.out).1
    clear hj hb3 HX2 HB2 HF
    obtain ⟨e1, e2⟩ | ⟨bs, A, c, rfl, hbs, hr⟩ := HS.out.2
    · rw [e2] at hlt; cases hlt
    have hcs : w3.cell? ⟨bs, 0, none⟩ = some (.slice A l.length c) := block_cell ((HB3.out.block _ (block_lt hbs)).trans hbs)
    have HCL := Lib.hid (vclone_any l A c w3 (hr.below HB3.out) (by omega))
    have hw1 : IntKind.i64.wrap ((i : Int) + 1) = (i : Int) + 1 := IntWalk.i64_in _ (by omega)
    have HLT := Lib.hid hlt
    clear hr hbs hlt
    go_wp2_with fail
    refine HCL.out.mono ?_
    rintro e w4 ⟨v4, rfl, ho4, hb4⟩
    rcases RowV.of ho4 with ⟨_, e0⟩ | ⟨g, c4, cur, rfl, hrow⟩
    · have := HLT.out
      rw [e0] at this
      cases this
    have HD := Lib.hid (vdelete_any w3.heap.size l i g c4 cur w4 hrow (by omega) HLT.out)
    have HX4 := Lib.hid ((hb4.block _ (block_lt HX3.out)).trans HX3.out)
    have HB4 := Lib.hid (HB3.out.trans (hb4.mono HB3.out.size))
    have HSZ := Lib.hid (And.intro hb4.size HB3.out.size)
    have HP3 := Lib.hid (block_lt HX3.out)
    clear ho4 hb4 hrow HCL hcs HX3
    go_wp2_with fail
    refine HD.out.mono ?_
    rintro e w5 ⟨v5, rfl, ho5, hb5⟩
    obtain ⟨A5, c5, rfl, hr5, _⟩ := own_rdV ho5
    have HX5 := Lib.hid ((hb5.block p HP3.out).trans HX4.out)
    have HB5 := Lib.hid (HB4.out.trans (hb5.mono HSZ.out.2))
    have HO5 := Lib.hid ho5
    have HTE := Lib.hid (show Trees w5 (l.eraseIdx i) from fun y hy => by
      obtain ⟨S, hS⟩ := HS.out.1 y (List.mem_of_mem_eraseIdx hy)
      exact ⟨S, RdR.below hS HB5.out⟩)
    clear hb5 ho5 hr5 HX4 HD
    have hNX : ∃ S, RdR x.f S w5 x.A := by
      obtain ⟨S, hS⟩ := HS.out.1 x (List.mem_of_getElem? HX.out)
      exact ⟨S, RdR.below hS HB5.out⟩
    obtain ⟨q, hq⟩ : ∃ q, q = (l.eraseIdx i).length := ⟨_, rfl⟩
    have HQ := Lib.hid hq
    have y0 : w5.cell? ⟨p, 0, none⟩ = some (.string ⟨x.name.toArray⟩) := block_cell HX5.out
    have y1 : w5.cell? ⟨p, 1, none⟩ = some (.int .i64 x.blocks) := block_cell HX5.out
    have y2 : w5.cell? ⟨p, 2, none⟩ = some (.int .i64 x.quota) := block_cell HX5.out
    have y3 : w5.cell? ⟨p, 3, none⟩ = some (.int .i64 x.used) := block_cell HX5.out
    have y4 : w5.cell? ⟨p, 4, none⟩ = some (.bool x.frozen) := block_cell HX5.out
    have y5 : w5.cell? ⟨p, 5, none⟩ = some (.pointer x.A) := block_cell HX5.out
    have HNX := Lib.hid hNX
    rw [← hq] at HO5 ⊢
    clear hq hNX
    by_cases hq0 : q = 0
    · subst hq0
      go_wp2_with fail
      refine (numbers_any x w5 HNX.out).mono ?_
      rintro e w6 ⟨u, rfl, _, hb6⟩
      have HB6 := Lib.hid (HB5.out.trans (hb6.mono HB5.out.size))
      have HT6 := Lib.hid (HTE.out.below hb6)
      clear hb6 y0 y1 y2 y3 y4 y5
      go_wp2_with fail
      refine bodyPost_ret (results_tmp3 rfl _ _ _) rfl ?_
      have hnil : l.eraseIdx i = [] := List.eq_nil_of_length_eq_zero HQ.out.symm
      exact ⟨HB6.out, Or.inr ⟨i, none, u, HLT.out, rfl, HT6.out, Or.inl ⟨rfl, hnil⟩⟩⟩
    · have hqi : ((q : Int) == 0) = false := by simp; omega
      obtain ⟨w5b, hw5b⟩ : ∃ w5b, w5b = w5.alloc (.cells #[.slice A5 q c5] 104) := ⟨_, rfl⟩
      have hbx := boxed_set (w := w) (l := l.eraseIdx i) HTE.out (by rw [← HQ.out]; exact HO5.out) HB5.out
      rw [← hw5b] at hbx
      have hk5 : Below w5.heap.size w5 w5b := by rw [hw5b]; exact (Below.refl _ _).alloc (Nat.le_refl _) _
      have y0b := (World.cell?_of_block (hk5.block p (cell_lt y0))).trans y0
      have y1b := (World.cell?_of_block (hk5.block p (cell_lt y1))).trans y1
      have y2b := (World.cell?_of_block (hk5.block p (cell_lt y2))).trans y2
      have y3b := (World.cell?_of_block (hk5.block p (cell_lt y3))).trans y3
      have y4b := (World.cell?_of_block (hk5.block p (cell_lt y4))).trans y4
      have y5b := (World.cell?_of_block (hk5.block p (cell_lt y5))).trans y5
      have HBX := Lib.hid hbx
      have HN5 := Lib.hid (numbers_any x w5b (by
        obtain ⟨S, hS⟩ := HNX.out
        exact ⟨S, RdR.below hS hk5⟩))
      rw [hw5b] at y0b y1b y2b y3b y4b y5b
      clear hbx hk5 y0 y1 y2 y3 y4 y5
      go_wp2_with fail
      rw [← hw5b]
      clear y0b y1b y2b y3b y4b y5b hw5b
      refine HN5.out.mono ?_
      rintro e w6 ⟨u, rfl, _, hb6⟩
      have HB6 := Lib.hid (HBX.out.2.trans (hb6.mono HBX.out.2.size))
      have HS6 := Lib.hid (HBX.out.1.below hb6)
      clear hb6
      go_wp2_with fail
      refine bodyPost_ret (results_tmp3 rfl _ _ _) rfl ?_
      exact ⟨HB6.out, Or.inr ⟨i, _, u, HLT.out, rfl, HS6.out⟩⟩
  · have HB1 := Lib.hid (Below.alloc hb1 hb1.size (.cells #[.string ⟨#[]⟩, .int .i64 0, .int .i64 0, .int .i64 0, .bool false, .pointer none] 92))
    clear hb1
    go_wp2_with fail
    refine bodyPost_ret (results_tmp3 rfl _ _ _) rfl ?_
    exact ⟨HB1.out, Or.inl ⟨_, rfl⟩⟩
end Go.Proofs.Ytnnadhfpkplncaa
