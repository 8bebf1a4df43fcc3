/- Texts of the proof of VolumeAlone, part 5 of 9. Conditions stand ahead of each. -/
import Derived.Test.YtnnadhfpkplncaaZVolumeAlone4
import Derived.OwnWalk
import Derived.Test.YtnnadhfpkplncaaProg
import Derived.WalkKit
import Derived.OrdersHeld
import Derived.Deep.RegionHeld
import Derived.Laws.MakeOwn

/- A volume's numbers; a set without a volume. Condition: the set reads, its names go up. -/
namespace Go.Proofs.Ytnnadhfpkplncaa
open Go.RowKit

theorem own_lower {w : World} {B L n s : Nat} {E : TypeId} {v : Value} {xs : List Value} (h : w.ownsRow B E s v n xs) (hL : L ≤ B) : w.ownsRow L E s v n xs :=
  ⟨h.1, h.2.imp id fun ⟨g, c, cur, e, hg, r⟩ => ⟨g, c, cur, e, Nat.le_trans hL hg, r⟩⟩
/-- All numbers of a tree. -/
def numsL (f : Nat → Int) : List Int := (itemsL f 2 0).map f
theorem zs_nums (f : Nat → Int) : zs (numsL f) = (itemsL f 2 0).map fun x => .int .i64 (f x) := by unfold zs numsL; rw [List.map_map]; rfl
theorem nums_len (f : Nat → Int) : (numsL f).length = (itemsL f 2 0).length := by unfold numsL; simp
def NumsPost (f : Nat → Int) (w : World) (e : Ending) (w' : World) : Prop := ∃ u, e = .returned u ∧ w'.ownsRow w.heap.size 3 1 u (numsL f).length (zs (numsL f)) ∧ Below w.heap.size w w'
set_option maxHeartbeats 800000 in
theorem numbers_any (x : Vol) (w : World) (h : ∃ S, RdR x.f S w x.A) : Calls Try.prog 49 #[.agg #[.string ⟨x.name.toArray⟩, .int .i64 x.blocks, .int .i64 x.quota, .int .i64 x.used, .bool x.frozen, .pointer x.A]] w (NumsPost x.f w) := by
  obtain ⟨nm, bl, qu, us, fr, A, f⟩ := x
  obtain ⟨S, h⟩ := h
  obtain ⟨w1, hw1⟩ : ∃ w1, w1 = w.alloc (.cells #[.string ⟨nm.toArray⟩, .int .i64 bl, .int .i64 qu, .int .i64 us, .bool fr, .pointer A] 92) := ⟨_, rfl⟩
  have hb1 : Below w.heap.size w w1 := by rw [hw1]; exact (Below.refl _ _).alloc (Nat.le_refl _) _
  have HA := Lib.hid (all_any f S A w1 (RdR.below h hb1))
  have HB1 := Lib.hid hb1
  clear h hb1
  go_enter Try.func49, Try.ntmps49
  go_wp2_with fail
  rw [← hw1]
  clear hw1
  refine HA.out.mono ?_
  rintro e w2 ⟨u1, u2, rfl, _, ho, hb⟩
  rw [← zs_nums, ← nums_len] at ho
  have HO := Lib.hid (own_lower ho HB1.out.size)
  have HB := Lib.hid (HB1.out.trans (hb.mono HB1.out.size))
  clear ho hb
  go_wp2_with fail
  go_ret
  exact ⟨u2, rfl, HO.out, HB.out⟩
def VDelPost (l : List Vol) (w : World) (e : Ending) (w' : World) : Prop := Below w.heap.size w w' ∧
  ((∃ k, e = .returned (.tuple #[.pointer none, .slice none 0 0, .iface 93 (.int .i64 k)])) ∨
  (∃ i s u, i < l.length ∧ e = .returned (.tuple #[.pointer s, u, .nilIface]) ∧ RdS w' s (l.eraseIdx i)))
set_option maxRecDepth 100000 in
set_option maxHeartbeats 3200000 in
theorem vdel_any (s : Option Addr) (l : List Vol) (t : List UInt8) (w : World) (h : RdS w s l) (hu : Up l) (hl : l.length ≤ 900) : Calls Try.prog 25 #[.pointer s, .string ⟨t.toArray⟩] w (VDelPost l w) := by
  have HG := Lib.hid (vget_any s l t w h hu (by omega))
  have HS := Lib.hid h
  have HU := Lib.hid hu
  clear h hu
  go_enter Try.func25, Try.ntmps25
  go_wp2_with fail
  refine HG.out.mono ?_
  rintro e w1 ⟨hb1, ⟨i, x, hx, hxt, hc, rfl⟩ | ⟨hn, rfl⟩⟩
  · obtain ⟨w2, hw2⟩ : ∃ w2, w2 = w1.alloc (.cells #[.string ⟨x.name.toArray⟩, .int .i64 x.blocks, .int .i64 x.quota, .int .i64 x.used, .bool x.frozen, .pointer x.A] 92) := ⟨_, rfl⟩
    obtain ⟨p, hp⟩ : ∃ p, p = w1.heap.size := ⟨_, rfl⟩
    have hb2 : Below w1.heap.size w1 w2 := by rw [hw2]; exact (Below.refl _ _).alloc (Nat.le_refl _) _
    have hx2 : w2.heap[p]? = some (.cells #[.string ⟨x.name.toArray⟩, .int .i64 x.blocks, .int .i64 x.quota, .int .i64 x.used, .bool x.frozen, .pointer x.A] 92 (0, 0)) := by rw [hw2, hp]; exact alloc_new _ _
    have HB2 := Lib.hid (hb1.trans (hb2.mono hb1.size))
    have HX2 := Lib.hid hx2
    have HC := Lib.hid hc
    have HX := Lib.hid hx
    have HXT := Lib.hid hxt
    clear hb1 hb2 hx2 hc hx hxt HG
    have HF := Lib.hid (vfind_any s l t w2 (HS.out.below HB2.out) HU.out (by omega))
    go_wp2_with fail
    rw [← hw2, ← hp]
    clear hw2 hp
    refine HF.out.mono ?_
    rintro e w3 ⟨j, hj, rfl, hb3⟩
    obtain rfl := HC.out.one hj
    have HX3 := Lib.hid ((hb3.block _ (block_lt HX2.out)).trans HX2.out)
    have HB3 := Lib.hid (HB2.out.trans (hb3.mono HB2.out.size))
    have hlt : i < l.length := (List.getElem?_eq_some_iff.1 HX.out).1
    clear hj hb3 HX2 HB2 HF
    obtain ⟨e1, e2⟩ | ⟨bs, A, c, rfl, hbs, hr⟩ := HS.out.2
    · rw [e2] at hlt; cases hlt
    have hcs : w3.cell? ⟨bs, 0, none⟩ = some (.slice A l.length c) := block_cell ((HB3.out.block _ (block_lt hbs)).trans hbs)
    have HCL := Lib.hid (vclone_any l A c w3 (hr.below HB3.out) (by omega))
    have hw1 : IntKind.i64.wrap ((i : Int) + 1) = (i : Int) + 1 := IntWalk.i64_in _ (by omega)
    have HLT := Lib.hid hlt
    clear hr hbs hlt
    go_wp2_with fail
    refine HCL.out.mono ?_
    rintro e w4 ⟨v4, rfl, ho4, hb4⟩
    rcases RowV.of ho4 with ⟨_, e0⟩ | ⟨g, c4, cur, rfl, hrow⟩
    · have := HLT.out
      rw [e0] at this
      cases this
    have HD := Lib.hid (vdelete_any w3.heap.size l i g c4 cur w4 hrow (by omega) HLT.out)
    have HX4 := Lib.hid ((hb4.block _ (block_lt HX3.out)).trans HX3.out)
    have HB4 := Lib.hid (HB3.out.trans (hb4.mono HB3.out.size))
    have HSZ := Lib.hid (And.intro hb4.size HB3.out.size)
    have HP3 := Lib.hid (block_lt HX3.out)
    clear ho4 hb4 hrow HCL hcs HX3
    go_wp2_with fail
    refine HD.out.mono ?_
    rintro e w5 ⟨v5, rfl, ho5, hb5⟩
    obtain ⟨A5, c5, rfl, hr5, _⟩ := own_rdV ho5
    have HX5 := Lib.hid ((hb5.block p HP3.out).trans HX4.out)
    have HB5 := Lib.hid (HB4.out.trans (hb5.mono HSZ.out.2))
    have HO5 := Lib.hid ho5
    have HTE := Lib.hid (show Trees w5 (l.eraseIdx i) from fun y hy => by
      obtain ⟨S, hS⟩ := HS.out.1 y (List.mem_of_mem_eraseIdx hy)
      exact ⟨S, RdR.below hS HB5.out⟩)
    clear hb5 ho5 hr5 HX4 HD
    have hNX : ∃ S, RdR x.f S w5 x.A := by
      obtain ⟨S, hS⟩ := HS.out.1 x (List.mem_of_getElem? HX.out)
      exact ⟨S, RdR.below hS HB5.out⟩
    obtain ⟨q, hq⟩ : ∃ q, q = (l.eraseIdx i).length := ⟨_, rfl⟩
    have HQ := Lib.hid hq
    have y0 : w5.cell? ⟨p, 0, none⟩ = some (.string ⟨x.name.toArray⟩) := block_cell HX5.out
    have y1 : w5.cell? ⟨p, 1, none⟩ = some (.int .i64 x.blocks) := block_cell HX5.out
    have y2 : w5.cell? ⟨p, 2, none⟩ = some (.int .i64 x.quota) := block_cell HX5.out
    have y3 : w5.cell? ⟨p, 3, none⟩ = some (.int .i64 x.used) := block_cell HX5.out
    have y4 : w5.cell? ⟨p, 4, none⟩ = some (.bool x.frozen) := block_cell HX5.out
    have y5 : w5.cell? ⟨p, 5, none⟩ = some (.pointer x.A) := block_cell HX5.out
    have HNX := Lib.hid hNX
    rw [← hq] at HO5 ⊢
    clear hq hNX
    by_cases hq0 : q = 0
    · subst hq0
      go_wp2_with fail
      refine (numbers_any x w5 HNX.out).mono ?_
      rintro e w6 ⟨u, rfl, _, hb6⟩
      have HB6 := Lib.hid (HB5.out.trans (hb6.mono HB5.out.size))
      have HT6 := Lib.hid (HTE.out.below hb6)
      clear hb6 y0 y1 y2 y3 y4 y5
      go_wp2_with fail
      refine bodyPost_ret (results_tmp3 rfl _ _ _) rfl ?_
      have hnil : l.eraseIdx i = [] := List.eq_nil_of_length_eq_zero HQ.out.symm
      exact ⟨HB6.out, Or.inr ⟨i, none, u, HLT.out, rfl, HT6.out, Or.inl ⟨rfl, hnil⟩⟩⟩
    · have hqi : ((q : Int) == 0) = false := by simp; omega
      obtain ⟨w5b, hw5b⟩ : ∃ w5b, w5b = w5.alloc (.cells #[.slice A5 q c5] 104) := ⟨_, rfl⟩
      have hbx := boxed_set (w := w) (l := l.eraseIdx i) HTE.out (by rw [← HQ.out]; exact HO5.out) HB5.out
      rw [← hw5b] at hbx
      have hk5 : Below w5.heap.size w5 w5b := by rw [hw5b]; exact (Below.refl _ _).alloc (Nat.le_refl _) _
      have y0b := (World.cell?_of_block (hk5.block p (cell_lt y0))).trans y0
      have y1b := (World.cell?_of_block (hk5.block p (cell_lt y1))).trans y1
      have y2b := (World.cell?_of_block (hk5.block p (cell_lt y2))).trans y2
      have y3b := (World.cell?_of_block (hk5.block p (cell_lt y3))).trans y3
      have y4b := (World.cell?_of_block (hk5.block p (cell_lt y4))).trans y4
      have y5b := (World.cell?_of_block (hk5.block p (cell_lt y5))).trans y5
      have HBX := Lib.hid hbx
      have HN5 := Lib.hid (numbers_any x w5b (by
        obtain ⟨S, hS⟩ := HNX.out
        exact ⟨S, RdR.below hS hk5⟩))
      rw [hw5b] at y0b y1b y2b y3b y4b y5b
      clear hbx hk5 y0 y1 y2 y3 y4 y5
      go_wp2_with fail
      rw [← hw5b]
      clear y0b y1b y2b y3b y4b y5b hw5b
      refine HN5.out.mono ?_
      rintro e w6 ⟨u, rfl, _, hb6⟩
      have HB6 := Lib.hid (HBX.out.2.trans (hb6.mono HBX.out.2.size))
      have HS6 := Lib.hid (HBX.out.1.below hb6)
      clear hb6
      go_wp2_with fail
      refine bodyPost_ret (results_tmp3 rfl _ _ _) rfl ?_
      exact ⟨HB6.out, Or.inr ⟨i, _, u, HLT.out, rfl, HS6.out⟩⟩
  · have HB1 := Lib.hid (Below.alloc hb1 hb1.size (.cells #[.string ⟨#[]⟩, .int .i64 0, .int .i64 0, .int .i64 0, .bool false, .pointer none] 92))
    clear hb1
    go_wp2_with fail
    refine bodyPost_ret (results_tmp3 rfl _ _ _) rfl ?_
    exact ⟨HB1.out, Or.inl ⟨_, rfl⟩⟩
end Go.Proofs.Ytnnadhfpkplncaa


/- A volume that has places, that may be written. Condition: the set reads, its names go up. -/
namespace Go.Proofs.Ytnnadhfpkplncaa
open Go.RowKit

def inR (x : Vol) (at_ n : Int) : Prop := 0 ≤ at_ ∧ 1 ≤ n ∧ at_ < x.blocks ∧ n ≤ x.blocks - at_
def WithinPost (l : List Vol) (t : List UInt8) (at_ n : Int) (w : World) (e : Ending) (w' : World) : Prop := Below w.heap.size w w' ∧
  ((∃ i x, l[i]? = some x ∧ x.name = t ∧ Cut l t i ∧ inR x at_ n ∧ e = .returned (.tuple #[.agg #[.string ⟨x.name.toArray⟩, .int .i64 x.blocks, .int .i64 x.quota, .int .i64 x.used, .bool x.frozen, .pointer x.A], .nilIface])) ∨
  (∃ k, e = .returned (.tuple #[.agg #[.string ⟨#[]⟩, .int .i64 0, .int .i64 0, .int .i64 0, .bool false, .pointer none], .iface 93 (.int .i64 k)]) ∧ ∀ x ∈ l, x.name = t → ¬ inR x at_ n))
theorem up_one {l : List Vol} (hu : Up l) {x y : Vol} (hx : x ∈ l) (hy : y ∈ l) (h : x.name = y.name) : x = y := by
  obtain ⟨i, hi⟩ := List.getElem?_of_mem hx
  obtain ⟨j, hj⟩ := List.getElem?_of_mem hy
  rcases Nat.lt_trichotomy i j with h1 | h1 | h1
  · have := hu.at hi hj h1
    rw [h, cmp_self] at this
    omega
  · subst h1
    rw [hi] at hj
    exact Option.some.inj hj
  · have := hu.at hj hi h1
    rw [h, cmp_self] at this
    omega
set_option maxRecDepth 100000 in
set_option maxHeartbeats 3200000 in
theorem within_any (s : Option Addr) (l : List Vol) (t : List UInt8) (z n : Int) (w : World) (h : RdS w s l) (hu : Up l) (hl : l.length ≤ 900) (hb : ∀ x ∈ l, 0 ≤ x.blocks ∧ x.blocks ≤ 4096) :
    Calls Try.prog 51 #[.pointer s, .string ⟨t.toArray⟩, .int .i64 z, .int .i64 n] w (WithinPost l t z n w) := by
  obtain ⟨w1, hw1⟩ : ∃ w1, w1 = w.alloc (.cells #[.string ⟨#[]⟩, .int .i64 0, .int .i64 0, .int .i64 0, .bool false, .pointer none] 92) := ⟨_, rfl⟩
  obtain ⟨p, hp⟩ : ∃ p, p = w.heap.size := ⟨_, rfl⟩
  have hb1 : Below w.heap.size w w1 := by rw [hw1]; exact (Below.refl _ _).alloc (Nat.le_refl _) _
  have hx1 : w1.heap[p]? = some (.cells #[.string ⟨#[]⟩, .int .i64 0, .int .i64 0, .int .i64 0, .bool false, .pointer none] 92 (0, 0)) := by rw [hw1, hp]; exact alloc_new _ _
  have HG := Lib.hid (vget_any s l t w1 (h.below hb1) hu (by omega))
  have HU := Lib.hid hu
  have HBK := Lib.hid hb
  have HB1 := Lib.hid hb1
  have HX1 := Lib.hid hx1
  have HP := Lib.hid (show w.heap.size ≤ p by omega)
  clear hb1 hx1 h hu hb
  go_enter Try.func51, Try.ntmps51
  go_wp2_with fail
  rw [← hw1, ← hp]
  clear hw1 hp
  refine HG.out.mono ?_
  rintro e w2 ⟨hb2, ⟨i, x, hx, hxt, hc, rfl⟩ | ⟨hn, rfl⟩⟩
  · obtain ⟨w3, hw3⟩ : ∃ w3, w3 = w2.alloc (.cells #[.string ⟨x.name.toArray⟩, .int .i64 x.blocks, .int .i64 x.quota, .int .i64 x.used, .bool x.frozen, .pointer x.A] 92) := ⟨_, rfl⟩
    obtain ⟨q, hq⟩ : ∃ q, q = w2.heap.size := ⟨_, rfl⟩
    have hb3 : Below w2.heap.size w2 w3 := by rw [hw3]; exact (Below.refl _ _).alloc (Nat.le_refl _) _
    have hx3 : w3.heap[q]? = some (.cells #[.string ⟨x.name.toArray⟩, .int .i64 x.blocks, .int .i64 x.quota, .int .i64 x.used, .bool x.frozen, .pointer x.A] 92 (0, 0)) := by rw [hw3, hq]; exact alloc_new _ _
    have HX3 := Lib.hid (((hb2.trans (hb3.mono hb2.size)).block _ (block_lt HX1.out)).trans HX1.out)
    have HB3 := Lib.hid (HB1.out.trans ((hb2.trans (hb3.mono hb2.size)).mono HB1.out.size))
    have HC := Lib.hid hc
    have HX := Lib.hid hx
    have HXT := Lib.hid hxt
    have HN := Lib.hid (show ¬ inR x z n → ∀ y ∈ l, y.name = t → ¬ inR y z n from fun h y hy e => by
      rw [up_one HU.out hy (List.mem_of_getElem? hx) (e.trans hxt.symm)]
      exact h)
    have hxb := HBK.out x (List.mem_of_getElem? hx)
    have y0 : w3.cell? ⟨q, 0, none⟩ = some (.string ⟨x.name.toArray⟩) := block_cell hx3
    have y1 : w3.cell? ⟨q, 1, none⟩ = some (.int .i64 x.blocks) := block_cell hx3
    have y2 : w3.cell? ⟨q, 2, none⟩ = some (.int .i64 x.quota) := block_cell hx3
    have y3 : w3.cell? ⟨q, 3, none⟩ = some (.int .i64 x.used) := block_cell hx3
    have y4 : w3.cell? ⟨q, 4, none⟩ = some (.bool x.frozen) := block_cell hx3
    have y5 : w3.cell? ⟨q, 5, none⟩ = some (.pointer x.A) := block_cell hx3
    clear hb2 hb3 hx3 hc hx hxt HG
    obtain ⟨xn, xb, xq, xu, xf, xA, xg⟩ := x
    dsimp only at y0 y1 y2 y3 y4 y5 hxb hw3 HXT
    have hwr : 0 ≤ z → z < xb → IntKind.i64.wrap (xb - z) = xb - z := fun a b => IntWalk.i64_in _ (by omega)
    have hcases : (z < 0 ∨ (0 ≤ z ∧ n < 1) ∨ (0 ≤ z ∧ 1 ≤ n ∧ xb ≤ z) ∨ (0 ≤ z ∧ 1 ≤ n ∧ z < xb ∧ xb - z < n)) ∨ (0 ≤ z ∧ 1 ≤ n ∧ z < xb ∧ n ≤ xb - z) := by omega
    go_upto_region 2 with fail
    rw [← hw3, ← hq]
    clear hw3 hq
    rcases hcases with hbad | ⟨h1, h2, h3, h4⟩
    · have HE := Lib.hid (HN.out (fun c => by
        have := c.1
        have := c.2.1
        have := c.2.2.1
        have := c.2.2.2
        dsimp only at *
        omega))
      rcases hbad with h1 | ⟨h1, h2⟩ | ⟨h1, h2, h3⟩ | ⟨h1, h2, h3, h4⟩
      all_goals
        try have hw4 := hwr h1 h3
        clear hwr
        go_wp2_with ((with_reducible refine stop_storeV _ _ rfl ?_))
        unfold Hid
        refine wpList_store_row rfl 92 _ _ rfl p #[.string ⟨#[]⟩, .int .i64 0, .int .i64 0, .int .i64 0, .bool false, .pointer none] rfl rfl 92 _ HX3.out (by kernel_rfl) rfl (by simp [Value.oneCell']) ?_
        have HB4 := Lib.hid (HB3.out.trans (below_setRow (L := w.heap.size) (g := p) (w := w3) (cs := #[.string ⟨#[]⟩, .int .i64 0, .int .i64 0, .int .i64 0, .bool false, .pointer none]) HP.out))
        have HX4 := Lib.hid (setRow_heap w3 p _ #[.string ⟨#[]⟩, .int .i64 0, .int .i64 0, .int .i64 0, .bool false, .pointer none] 92 _ HX3.out)
        generalize w3.setRow p #[.string ⟨#[]⟩, .int .i64 0, .int .i64 0, .int .i64 0, .bool false, .pointer none] = w4 at *
        clear y0 y1 y2 y3 y4 y5
        go_wp2
        refine bodyPost_ret (results_row_tmp rfl _ _ p _ _ _ _ rfl HX4.out Try.underlying92 rfl (by kernel_rfl)) rfl ?_
        exact ⟨HB4.out, Or.inr ⟨_, rfl, HE.out⟩⟩
    · have hw4 := hwr h1 h3
      have HIN := Lib.hid (show inR ⟨xn, xb, xq, xu, xf, xA, xg⟩ z n from ⟨h1, h2, h3, h4⟩)
      clear hwr
      go_wp2_with ((with_reducible refine stop_storeV _ _ rfl ?_))
      unfold Hid
      refine wpList_store_row rfl 92 _ _ rfl p #[.string ⟨xn.toArray⟩, .int .i64 xb, .int .i64 xq, .int .i64 xu, .bool xf, .pointer xA] rfl rfl 92 _ HX3.out (by kernel_rfl) rfl (by simp [Value.oneCell']) ?_
      have HB4 := Lib.hid (HB3.out.trans (below_setRow (L := w.heap.size) (g := p) (w := w3) (cs := #[.string ⟨xn.toArray⟩, .int .i64 xb, .int .i64 xq, .int .i64 xu, .bool xf, .pointer xA]) HP.out))
      have HX4 := Lib.hid (setRow_heap w3 p _ #[.string ⟨xn.toArray⟩, .int .i64 xb, .int .i64 xq, .int .i64 xu, .bool xf, .pointer xA] 92 _ HX3.out)
      generalize w3.setRow p #[.string ⟨xn.toArray⟩, .int .i64 xb, .int .i64 xq, .int .i64 xu, .bool xf, .pointer xA] = w4 at *
      clear y0 y1 y2 y3 y4 y5
      go_wp2
      refine bodyPost_ret (results_row_tmp rfl _ _ p _ _ _ _ rfl HX4.out Try.underlying92 rfl (by kernel_rfl)) rfl ?_
      exact ⟨HB4.out, Or.inl ⟨i, _, HX.out, HXT.out, HC.out, HIN.out, rfl⟩⟩
  · obtain ⟨w3, hw3⟩ : ∃ w3, w3 = w2.alloc (.cells #[.string ⟨#[]⟩, .int .i64 0, .int .i64 0, .int .i64 0, .bool false, .pointer none] 92) := ⟨_, rfl⟩
    have hb3 : Below w2.heap.size w2 w3 := by rw [hw3]; exact (Below.refl _ _).alloc (Nat.le_refl _) _
    have HX3 := Lib.hid (((hb2.trans (hb3.mono hb2.size)).block _ (block_lt HX1.out)).trans HX1.out)
    have HB3 := Lib.hid (HB1.out.trans ((hb2.trans (hb3.mono hb2.size)).mono HB1.out.size))
    have HE := Lib.hid (show ∀ y ∈ l, y.name = t → ¬ inR y z n from fun y hy e => absurd e (hn y hy))
    clear hb2 hb3 hn HG
    go_upto_region 2 with fail
    rw [← hw3]
    clear hw3
    go_wp2_with ((with_reducible refine stop_storeV _ _ rfl ?_))
    unfold Hid
    refine wpList_store_row rfl 92 _ _ rfl p #[.string ⟨#[]⟩, .int .i64 0, .int .i64 0, .int .i64 0, .bool false, .pointer none] rfl rfl 92 _ HX3.out (by kernel_rfl) rfl (by simp [Value.oneCell']) ?_
    have HB4 := Lib.hid (HB3.out.trans (below_setRow (L := w.heap.size) (g := p) (w := w3) (cs := #[.string ⟨#[]⟩, .int .i64 0, .int .i64 0, .int .i64 0, .bool false, .pointer none]) HP.out))
    have HX4 := Lib.hid (setRow_heap w3 p _ #[.string ⟨#[]⟩, .int .i64 0, .int .i64 0, .int .i64 0, .bool false, .pointer none] 92 _ HX3.out)
    generalize w3.setRow p #[.string ⟨#[]⟩, .int .i64 0, .int .i64 0, .int .i64 0, .bool false, .pointer none] = w4 at *
    go_wp2
    refine bodyPost_ret (results_row_tmp rfl _ _ p _ _ _ _ rfl HX4.out Try.underlying92 rfl (by kernel_rfl)) rfl ?_
    exact ⟨HB4.out, Or.inr ⟨_, rfl, HE.out⟩⟩
end Go.Proofs.Ytnnadhfpkplncaa


/- A region that draws its order and whose last operation waits for all others: the others first, then that one. No condition but the Bool on the text. -/
namespace Go.Proofs.Ytnnadhfpkplncaa
open Go.RowKit

section
variable {P : Program} {md : Region.Mode} {A : List Oper} {o : Oper} {Q : Exit → Act → World → Prop}
/-- Each operation waits for earlier ones only; the last one waits for all. -/
def lastB (md : Region.Mode) (A : List Oper) (o : Oper) : Bool :=
  (List.range A.length).all (fun j => match A[j]? with
    | some oj => oj.after.all (fun e => !Region.binds md e || decide (e.on < j)) && (match oj.guard with | none => true | some (g, _) => decide (g < A.length))
    | none => true) && ((List.range A.length).all (fun j => (o.after.any fun e => Region.binds md e && e.on == j) || (List.range A.length).any fun j' => decide (j < j') && (match A[j']? with | some oj => oj.after.any fun e => Region.binds md e && e.on == j | none => false)) && o.after.all (fun e => !Region.binds md e || decide (e.on < A.length)))
theorem lastB_spec (h : lastB md A o = true) : (∀ j oj, A[j]? = some oj → (∀ e ∈ oj.after, Region.binds md e = true → e.on < j) ∧ (∀ g b, oj.guard = some (g, b) → g < A.length)) ∧ (∀ j, j < A.length → (∃ e ∈ o.after, Region.binds md e = true ∧ e.on = j) ∨ ∃ j' oj, j < j' ∧ A[j']? = some oj ∧ ∃ e ∈ oj.after, Region.binds md e = true ∧ e.on = j) ∧ ∀ e ∈ o.after, Region.binds md e = true → e.on < A.length := by
  unfold lastB at h
  rw [Bool.and_eq_true, Bool.and_eq_true, List.all_eq_true, List.all_eq_true] at h
  obtain ⟨h1, h2, h9⟩ := h
  refine ⟨fun j oj hj => ?_, fun j hj => ?_, fun e he hb => ?_⟩
  · have hlt := (List.getElem?_eq_some_iff.1 hj).1
    have := h1 j (List.mem_range.2 hlt)
    rw [hj] at this
    simp only [Bool.and_eq_true] at this
    obtain ⟨a1, a2⟩ := this
    refine ⟨fun e he hb => ?_, fun g b hg => ?_⟩
    · have := (Array.all_eq_true'.1 a1) e he
      rw [hb] at this
      simpa using this
    · rw [hg] at a2
      simpa using a2
  · have := h2 j (List.mem_range.2 hj)
    rw [Bool.or_eq_true] at this
    rcases this with this | this
    · obtain ⟨e, he, hb⟩ := Array.any_eq_true'.1 this
      rw [Bool.and_eq_true] at hb
      exact Or.inl ⟨e, he, hb.1, by simpa using hb.2⟩
    · obtain ⟨j', _, hj'⟩ := List.any_eq_true.1 this
      rw [Bool.and_eq_true] at hj'
      obtain ⟨h3, h4⟩ := hj'
      cases ho : A[j']? with
      | none => rw [ho] at h4; cases h4
      | some oj =>
        rw [ho] at h4
        obtain ⟨e, he, hb⟩ := Array.any_eq_true'.1 h4
        rw [Bool.and_eq_true] at hb
        exact Or.inr ⟨j', oj, of_decide_eq_true h3, ho, e, he, hb.1, by simpa using hb.2⟩
  · have := (Array.all_eq_true'.1 h9) e he
    rw [hb] at this
    simpa using this
theorem app_at {j : Nat} (h : j < A.length) : (A ++ [o]).toArray[j]? = A.toArray[j]? := by
  simp [List.getElem?_append_left h]
theorem app_last : (A ++ [o]).toArray[A.length]? = some o := by simp
theorem getD_push {l : Array Bool} {j : Nat} {b d : Bool} (h : j < l.size) : (l.push b).getD j d = l.getD j d := by
  simp [Array.getElem_push, h, Nat.lt_succ_of_lt h]
theorem getD_push_last {l : Array Bool} {b d : Bool} : (l.push b).getD l.size d = b := by simp
theorem wp_swapQ {oi : Oper} {a : Act} {w : World} {N K : Act → World → Prop} (h : oi.wp P a w K (Exit.then N Q)) : oi.wp P a w K Q := by
  unfold Oper.wp at *
  generalize (execOp a.eval oi).run P w = r at *
  cases r with
  | ok n w' =>
    cases n <;> simp only [Oper.upon] at h ⊢ <;> first | exact h | skip
    all_goals
      exact Calls.mono h (fun e w'' he => by cases e <;> exact he)
  | halt x w' => cases x <;> simp only [Oper.upon] at h ⊢ <;> exact h
theorem wpOp_head {i : Nat} {a : Act} {w : World} {N K : Act → World → Prop} (hB : lastB md A o = true) (hi : i < A.length) (h : wpOp P A.toArray (Exit.then N Q) i K a w) : wpOp P (A ++ [o]).toArray Q i K a w := by
  obtain ⟨hspec, _⟩ := lastB_spec hB
  unfold wpOp at *
  rw [app_at hi]
  have ho : A.toArray[i]? = some A[i] := by simp [hi]
  rw [ho] at h ⊢
  have hA : A[i]? = some A[i] := List.getElem?_eq_getElem hi
  have hw : Region.wanted A[i] (yielded (A ++ [o]).toArray a.tmps) = Region.wanted A[i] (yielded A.toArray a.tmps) := by
    unfold Region.wanted
    cases hg : A[i].guard with
    | none => rfl
    | some gb =>
      obtain ⟨g, b⟩ := gb
      have := (hspec i _ hA).2 g b hg
      simp only [yielded, app_at this]
  simp only [hw]
  simp only at h
  split
  · rename_i hw1
    rw [if_pos hw1] at h
    refine h.imp wp_swapQ fun ⟨h1, a2, w2, h2⟩ => ⟨h1, a2, w2, h2⟩
  · rename_i hw1
    rw [if_neg hw1] at h
    exact h
/-- Nothing may come up: all have. -/
theorem none_ready (hB : lastB md A o = true) {lA : Array Bool} (hs : lA.size = A.length) (h : Region.ready md A.toArray lA = []) : ∀ j, j < A.length → lA.getD j false = true := by
  obtain ⟨hspec, _⟩ := lastB_spec hB
  intro j
  induction j using Nat.strongRecOn with
  | _ j ih =>
    intro hj
    have hA : A[j]? = some A[j] := List.getElem?_eq_getElem hj
    have hno : j ∉ Region.ready md A.toArray lA := by rw [h]; exact List.not_mem_nil
    rw [mem_ready] at hno
    have hd : lA.getD j true ≠ false := fun hc => hno ⟨hc, A[j], by simp [hj], fun e he hb => ih e.on ((hspec j _ hA).1 e he hb) (Nat.lt_trans ((hspec j _ hA).1 e he hb) hj)⟩
    simp only [Array.getD_eq_getD_getElem?, Array.getElem?_eq_getElem (show j < lA.size by omega), Option.getD_some] at hd ⊢
    simpa using hd
theorem ready_head (hB : lastB md A o = true) {lA : Array Bool} (hs : lA.size = A.length) {i : Nat} (hi : i < A.length) : i ∈ Region.ready md (A ++ [o]).toArray (lA.push false) ↔ i ∈ Region.ready md A.toArray lA := by
  obtain ⟨hspec, _⟩ := lastB_spec hB
  have hA : A[i]? = some A[i] := List.getElem?_eq_getElem hi
  rw [mem_ready, mem_ready, getD_push (by omega), app_at hi]
  refine and_congr_right fun _ => exists_congr fun oi => and_congr_right fun ho => ?_
  have ho2 : A[i]? = some oi := by simpa using ho
  refine forall_congr' fun e => forall_congr' fun he => forall_congr' fun hb => ?_
  rw [getD_push (by have := (hspec i oi ho2).1 e he hb; omega)]
/-- What has come up waited for what has. -/
def ClosedR (md : Region.Mode) (A : List Oper) (lA : Array Bool) : Prop := ∀ (j : Nat) (oj : Oper), A[j]? = some oj → lA.getD j false = true → ∀ e ∈ oj.after, Region.binds md e = true → lA.getD e.on false = true
theorem ClosedR.set {lA : Array Bool} (h : ClosedR md A lA) {i : Nat} (hi : i ∈ Region.ready md A.toArray lA) : ClosedR md A (lA.setIfInBounds i true) := fun j oj hj hl e he hb => by
  obtain ⟨_, oi, hoi, hall⟩ := mem_ready.1 hi
  by_cases hij : j = i
  · subst hij
    have h1 : oj = oi := by
      have : A.toArray[j]? = some oj := by simpa using hj
      rw [hoi] at this
      exact (Option.some.inj this).symm
    subst h1
    exact getD_set_true (hall e he hb)
  · have e1 : (lA.setIfInBounds i true).getD j false = lA.getD j false := by simp [Ne.symm hij]
    rw [e1] at hl
    exact getD_set_true (h j oj hj hl e he hb)
theorem ready_last (hB : lastB md A o = true) {lA : Array Bool} (hs : lA.size = A.length) (hc : ClosedR md A lA) (h : A.length ∈ Region.ready md (A ++ [o]).toArray (lA.push false)) : ∀ j, j < A.length → lA.getD j false = true := by
  obtain ⟨_, hl, _⟩ := lastB_spec hB
  rw [mem_ready] at h
  obtain ⟨_, o2, ho, hall⟩ := h
  rw [app_last] at ho
  cases ho
  suffices h2 : ∀ d j, j < A.length → A.length - j = d → lA.getD j false = true from fun j hj => h2 _ j hj rfl
  intro d
  induction d using Nat.strongRecOn with
  | _ d ih =>
    intro j hj hd
    rcases hl j hj with ⟨e, he, hb, rfl⟩ | ⟨j', oj, hlt, hoj, e, he, hb, rfl⟩
    · have := hall e he hb
      rwa [getD_push (by omega)] at this
    · have hj' := (List.getElem?_eq_some_iff.1 hoj).1
      exact hc j' oj hoj (ih (A.length - j') (by omega) j' hj' rfl) e he hb
theorem all_listed {lA : Array Bool} (hs : lA.size = A.length) (h : ∀ j, j < A.length → lA.getD j false = true) : Region.ready md (A ++ [o]).toArray ((lA.push false).setIfInBounds A.length true) = [] := by
  refine List.eq_nil_iff_forall_not_mem.2 fun i hi => ?_
  rw [mem_ready] at hi
  obtain ⟨h0, o2, ho, _⟩ := hi
  have hlt : i < A.length + 1 := by simpa using (Array.getElem?_eq_some_iff.1 ho).1
  by_cases e : i = A.length
  · subst e
    simp [hs] at h0
  · have h1 := h i (by omega)
    rw [getD_set_ne true (Ne.symm e), getD_push (by omega)] at h0
    simp only [Array.getD_eq_getD_getElem?, Array.getElem?_eq_getElem (show i < lA.size by omega), Option.getD_some] at h0 h1
    rw [h0] at h1
    cases h1
theorem wpAny_last (hB : lastB md A o = true) : ∀ (fuel : Nat) (lA : Array Bool) (a : Act) (w : World), lA.size = A.length → ClosedR md A lA →
    wpAny P md A.toArray (Exit.then (fun a w => wpOp P (A ++ [o]).toArray Q A.length (fun a w => Q .normal a w) a w) Q) fuel lA a w → wpAny P md (A ++ [o]).toArray Q (fuel + 1) (lA.push false) a w := by
  have fin : ∀ (f : Nat) (lA : Array Bool) (a : Act) (w : World), lA.size = A.length → (∀ j, j < A.length → lA.getD j false = true) → Q .normal a w → wpAny P md (A ++ [o]).toArray Q f ((lA.push false).setIfInBounds A.length true) a w := fun f lA a w hs hall hq => by
    have hr := all_listed (md := md) (o := o) hs hall
    cases f with
    | zero => exact ⟨hr, hq⟩
    | succ f => exact ⟨fun _ => hq, fun i hi => by rw [hr] at hi; cases hi⟩
  have stuck : ∀ (lA : Array Bool) , lA.size = A.length → Region.ready md (A ++ [o]).toArray (lA.push false) ≠ [] := fun lA hs hr => by
    have hA : Region.ready md A.toArray lA = [] := List.eq_nil_iff_forall_not_mem.2 fun i hi => by
      have hlt : i < A.length := by
        obtain ⟨_, o2, ho, _⟩ := mem_ready.1 hi
        simpa using (Array.getElem?_eq_some_iff.1 ho).1
      have := (ready_head hB hs hlt).2 hi
      rw [hr] at this
      cases this
    have hall := none_ready hB hs hA
    have : A.length ∈ Region.ready md (A ++ [o]).toArray (lA.push false) := by
      rw [mem_ready]
      refine ⟨by rw [← hs]; exact getD_push_last, o, app_last, fun e he hb => ?_⟩
      have h9 := (lastB_spec hB).2.2 e he hb
      rw [getD_push (by omega)]
      exact hall _ h9
    rw [hr] at this
    cases this
  intro fuel
  induction fuel with
  | zero =>
    intro lA a w hs _ ⟨hr, hq⟩
    have hall := none_ready hB hs hr
    refine ⟨fun hr2 => absurd hr2 (stuck lA hs), fun i hi => ?_⟩
    by_cases e : i = A.length
    · subst e
      exact wpOp_mono (fun a' w' h' => fin 0 lA a' w' hs hall h') hq
    · have hlt : i < A.length := by
        obtain ⟨_, o2, ho, _⟩ := mem_ready.1 hi
        have : i < A.length + 1 := by simpa using (Array.getElem?_eq_some_iff.1 ho).1
        omega
      have := (ready_head hB hs hlt).1 hi
      rw [hr] at this
      cases this
  | succ fuel ih =>
    intro lA a w hs hcl ⟨h1, h2⟩
    refine ⟨fun hr2 => absurd hr2 (stuck lA hs), fun i hi => ?_⟩
    by_cases e : i = A.length
    · subst e
      have hall := ready_last hB hs hcl hi
      have hrA : Region.ready md A.toArray lA = [] := List.eq_nil_iff_forall_not_mem.2 fun i hi => by
        obtain ⟨h0, o2, ho, _⟩ := mem_ready.1 hi
        have hlt : i < A.length := by simpa using (Array.getElem?_eq_some_iff.1 ho).1
        have h3 := hall i hlt
        simp only [Array.getD_eq_getD_getElem?, Array.getElem?_eq_getElem (show i < lA.size by omega), Option.getD_some] at h0 h3
        rw [h0] at h3
        cases h3
      exact wpOp_mono (fun a' w' h' => fin (fuel + 1) lA a' w' hs hall h') (h1 hrA)
    · have hlt : i < A.length := by
        obtain ⟨_, o2, ho, _⟩ := mem_ready.1 hi
        have : i < A.length + 1 := by simpa using (Array.getElem?_eq_some_iff.1 ho).1
        omega
      have h3 := wpOp_head hB hlt (h2 i ((ready_head hB hs hlt).1 hi))
      refine wpOp_mono (fun a' w' h' => ?_) h3
      have := ih (lA.setIfInBounds i true) a' w' (by simpa using hs) (hcl.set ((ready_head hB hs hlt).1 hi)) h'
      have he : (lA.setIfInBounds i true).push false = (lA.push false).setIfInBounds i true := by
        refine Array.ext_getElem? fun j => ?_
        simp only [Array.getElem?_push, Array.getElem?_setIfInBounds, Array.size_setIfInBounds, Array.size_push]
        by_cases hj : i = j
        · subst hj
          have h4 : ¬ i = lA.size := by omega
          have h5 : i < lA.size := by omega
          have h6 : i < lA.size + 1 := by omega
          simp [h4, h5, h6]
        · simp [hj]
      rwa [he] at this
/-- The region: all but the last operation under a condition on the world that holds throughout, then the last one. -/
theorem region_last {S : World → Prop} {id : Nat} {a : Act} {w : World} {l : List Oper} (hl : l = A ++ [o]) (hm : P.follows .mixedOrders = true) (hB : lastB .any A o = true) (hS : S w.drew)
    (h : S w.drew → wpAnyH P .any A.toArray (Exit.then (fun a w => wpOp P l.toArray Q A.length (fun a w => Q .normal a w) a w) Q) S A.length (Array.replicate A.length false) a w.drew) : (Code.region id l.toArray true).wp P Q a w := by
  subst hl
  refine wp_region_any hm ?_
  have h1 := wpAny_last hB A.length (Array.replicate A.length false) a w.drew (by simp) (fun j _ _ hl => by
    exfalso
    simp [Array.getElem?_replicate] at hl
    split at hl <;> simp at hl) (wpAny_of_held _ _ _ _ (h hS))
  have e1 : (A ++ [o]).toArray.size = A.length + 1 := by simp
  have e2 : (Array.replicate A.length false).push false = Array.replicate (A ++ [o]).toArray.size false := by
    rw [e1]
    exact (Array.replicate_succ ..).symm
  rw [← e2, e1]
  exact h1
/-- The same, the list taken apart by its own text. -/
theorem region_lastL {S : World → Prop} {id : Nat} {a : Act} {w : World} {l : List Oper} (hA : l.dropLast = A) (ho : l.getLast? = some o) (hm : P.follows .mixedOrders = true) (hB : lastB .any A o = true) (hS : S w.drew)
    (h : S w.drew → wpAnyH P .any A.toArray (Exit.then (fun a w => wpOp P l.toArray Q A.length (fun a w => Q .normal a w) a w) Q) S A.length (Array.replicate A.length false) a w.drew) : (Code.region id l.toArray true).wp P Q a w :=
  region_last (by
    subst hA
    have hne : l ≠ [] := by rintro rfl; cases ho
    rw [List.getLast?_eq_some_getLast hne] at ho
    cases ho
    exact (List.dropLast_concat_getLast hne).symm) hm hB hS h
end
/-- An operation out of a region's list. -/
def nthR : List Oper → Nat → Option Oper
  | [], _ => none
  | o :: _, 0 => some o
  | _ :: l, i + 1 => nthR l i
theorem nthR_eq : ∀ (l : List Oper) (i : Nat), l.toArray[i]? = nthR l i
  | [], i => by simp [nthR]
  | o :: l, 0 => by simp [nthR]
  | o :: l, i + 1 => by
    have := nthR_eq l i
    rw [List.getElem?_toArray] at this ⊢
    simpa [nthR] using this
section
variable {P : Program} {l : List Oper} {Q : Exit → Act → World → Prop} {md : Region.Mode} {S : World → Prop}
/-- An operation that waits for nothing is taken first. -/
theorem takeR (i : Nat) {oi : Oper} {v : Value} {fuel : Nat} {listed : Array Bool} {a : Act} {w : World} (hi : nthR l i = some oi) (hs : Region.noSelect l.toArray = true) (hf : Region.free md l.toArray listed i = true) (hr : (Region.ready md l.toArray listed).contains i = true)
    (hQ : ∀ c a w, Q (.panic c) (a.put oi.dst v) w → Q (.panic c) a w) (hy : YieldsIf P l.toArray S oi v a) (hS : S w) (h : wpAnyH P md l.toArray Q S fuel (listed.setIfInBounds i true) (a.put oi.dst v) w) : wpAnyH P md l.toArray Q S (fuel + 1) listed a w :=
  wpAnyH_take ((nthR_eq l i).trans hi) hs hf hr hQ hy hS h
theorem oneR (i : Nat) {o : Oper} {fuel : Nat} {listed : Array Bool} {a : Act} {w : World} (hr : Region.ready md l.toArray listed = [i]) (ho : nthR l i = some o)
    (h : ∀ K' : Act → World → Prop, Shut (∀ a w, S w → (S w → wpAnyH P md l.toArray Q S fuel (listed.setIfInBounds i true) a w) → K' a w) → if Region.wanted o (yielded l.toArray a.tmps) = true then Oper.wp P o a w K' Q else K' (a.put o.dst undef) w) :
    wpAnyH P md l.toArray Q S (fuel + 1) listed a w := wpAnyH_ready hr (by simp) (AllReadyH.cons ((nthR_eq l i).trans ho) h AllReadyH.nil)
theorem doneR {fuel : Nat} {listed : Array Bool} {a : Act} {w : World} (hr : Region.ready md l.toArray listed = []) (h : Q .normal a w) : wpAnyH P md l.toArray Q S fuel listed a w := wpAnyH_done hr h fuel
theorem lastR {l2 : List Oper} {k : Nat} {o : Oper} {a : Act} {w : World} {K : Act → World → Prop} (ho : nthR l2 k = some o) (h : if Region.wanted o (yielded l2.toArray a.tmps) = true then Oper.wp P o a w K Q else K (a.put o.dst undef) w) : wpOp P l2.toArray Q k K a w := by
  unfold wpOp
  rw [nthR_eq, ho]
  dsimp only
  split
  · rename_i hw
    rw [if_pos hw] at h
    exact Or.inl h
  · rename_i hw
    rw [if_neg hw] at h
    exact h
/-- All but the last operation have come up: the last one. -/
theorem endR {l2 : List Oper} {k : Nat} {o : Oper} {a : Act} {w : World} {K : Act → World → Prop} {fuel : Nat} {listed : Array Bool} (hr : Region.ready md l.toArray listed = []) (ho : nthR l2 k = some o)
    (h : if Region.wanted o (yielded l2.toArray a.tmps) = true then Oper.wp P o a w K Q else K (a.put o.dst undef) w) : wpAnyH P md l.toArray (Exit.then (fun a w => wpOp P l2.toArray Q k K a w) Q) S fuel listed a w := doneR hr (lastR ho h)
end
end Go.Proofs.Ytnnadhfpkplncaa


/- A volume that may be written; a copy's parts. Condition: the set reads, its names go up. -/
namespace Go.Proofs.Ytnnadhfpkplncaa
open Go.RowKit

def WritPost (l : List Vol) (t : List UInt8) (at_ n : Int) (w : World) (e : Ending) (w' : World) : Prop := Below w.heap.size w w' ∧
  ((∃ i x, l[i]? = some x ∧ x.name = t ∧ Cut l t i ∧ inR x at_ n ∧ x.frozen = false ∧ e = .returned (.tuple #[.agg #[.string ⟨x.name.toArray⟩, .int .i64 x.blocks, .int .i64 x.quota, .int .i64 x.used, .bool x.frozen, .pointer x.A], .nilIface])) ∨
  (∃ (y : Vol) (k : Int), e = .returned (.tuple #[.agg #[.string ⟨y.name.toArray⟩, .int .i64 y.blocks, .int .i64 y.quota, .int .i64 y.used, .bool y.frozen, .pointer y.A], .iface 93 (.int .i64 k)]) ∧ ∀ x ∈ l, x.name = t → ¬ (inR x at_ n ∧ x.frozen = false)))
/-- The end of it: the volume at hand is handed back. -/
theorem writ_end {w w3 : World} {p : Nat} {x : Vol} (hb : Below w.heap.size w w3) (hp : w3.heap[p]? = some (.cells #[.string ⟨#[]⟩, .int .i64 0, .int .i64 0, .int .i64 0, .bool false, .pointer none] 92 (0, 0))) (hpq : w.heap.size ≤ p) :
    Below w.heap.size w (w3.setRow p #[.string ⟨x.name.toArray⟩, .int .i64 x.blocks, .int .i64 x.quota, .int .i64 x.used, .bool x.frozen, .pointer x.A]) ∧ (w3.setRow p #[.string ⟨x.name.toArray⟩, .int .i64 x.blocks, .int .i64 x.quota, .int .i64 x.used, .bool x.frozen, .pointer x.A]).heap[p]? = some (.cells #[.string ⟨x.name.toArray⟩, .int .i64 x.blocks, .int .i64 x.quota, .int .i64 x.used, .bool x.frozen, .pointer x.A] 92 (0, 0)) :=
  ⟨hb.trans (below_setRow hpq), setRow_heap w3 p _ #[.string ⟨x.name.toArray⟩, .int .i64 x.blocks, .int .i64 x.quota, .int .i64 x.used, .bool x.frozen, .pointer x.A] 92 _ hp⟩
set_option maxRecDepth 100000 in
set_option maxHeartbeats 3200000 in
theorem writ_any (s : Option Addr) (l : List Vol) (t : List UInt8) (z n : Int) (w : World) (h : RdS w s l) (hu : Up l) (hl : l.length ≤ 900) (hb : ∀ x ∈ l, 0 ≤ x.blocks ∧ x.blocks ≤ 4096) :
    Calls Try.prog 54 #[.pointer s, .string ⟨t.toArray⟩, .int .i64 z, .int .i64 n] w (WritPost l t z n w) := by
  obtain ⟨w1, hw1⟩ : ∃ w1, w1 = w.alloc (.cells #[.string ⟨#[]⟩, .int .i64 0, .int .i64 0, .int .i64 0, .bool false, .pointer none] 92) := ⟨_, rfl⟩
  obtain ⟨p, hp⟩ : ∃ p, p = w.heap.size := ⟨_, rfl⟩
  have hb1 : Below w.heap.size w w1 := by rw [hw1]; exact (Below.refl _ _).alloc (Nat.le_refl _) _
  have hx1 : w1.heap[p]? = some (.cells #[.string ⟨#[]⟩, .int .i64 0, .int .i64 0, .int .i64 0, .bool false, .pointer none] 92 (0, 0)) := by rw [hw1, hp]; exact alloc_new _ _
  have HG := Lib.hid (within_any s l t z n w1 (h.below hb1) hu hl hb)
  have HU := Lib.hid hu
  have HB1 := Lib.hid hb1
  have HX1 := Lib.hid hx1
  have HP := Lib.hid (show w.heap.size ≤ p by omega)
  clear hb1 hx1 h hu hb
  go_enter Try.func54, Try.ntmps54
  go_wp2_with fail
  rw [← hw1, ← hp]
  clear hw1 hp
  refine HG.out.mono ?_
  rintro e w2 ⟨hb2, hpost⟩
  obtain ⟨x, E, he, hE⟩ : ∃ (x : Vol) (E : Value), e = .returned (.tuple #[.agg #[.string ⟨x.name.toArray⟩, .int .i64 x.blocks, .int .i64 x.quota, .int .i64 x.used, .bool x.frozen, .pointer x.A], E]) ∧ ((E = .nilIface ∧ ∃ i, l[i]? = some x ∧ x.name = t ∧ Cut l t i ∧ inR x z n) ∨ (∃ k : Int, E = .iface 93 (.int .i64 k) ∧ ∀ y ∈ l, y.name = t → ¬ inR y z n)) := by
    rcases hpost with ⟨i, x, hx, hxt, hc, hin, rfl⟩ | ⟨k, rfl, hno⟩
    · exact ⟨x, _, rfl, Or.inl ⟨rfl, i, hx, hxt, hc, hin⟩⟩
    · exact ⟨⟨[], 0, 0, 0, false, none, fun _ => 0⟩, _, rfl, Or.inr ⟨k, rfl, hno⟩⟩
  subst he
  clear hpost
  obtain ⟨w3, hw3⟩ : ∃ w3, w3 = w2.alloc (.cells #[.string ⟨x.name.toArray⟩, .int .i64 x.blocks, .int .i64 x.quota, .int .i64 x.used, .bool x.frozen, .pointer x.A] 92) := ⟨_, rfl⟩
  obtain ⟨q, hq⟩ : ∃ q, q = w2.heap.size := ⟨_, rfl⟩
  have hb3 : Below w2.heap.size w2 w3 := by rw [hw3]; exact (Below.refl _ _).alloc (Nat.le_refl _) _
  have hx3 : w3.heap[q]? = some (.cells #[.string ⟨x.name.toArray⟩, .int .i64 x.blocks, .int .i64 x.quota, .int .i64 x.used, .bool x.frozen, .pointer x.A] 92 (0, 0)) := by rw [hw3, hq]; exact alloc_new _ _
  have HX3 := Lib.hid (((hb2.trans (hb3.mono hb2.size)).block _ (block_lt HX1.out)).trans HX1.out)
  have HB3 := Lib.hid (HB1.out.trans ((hb2.trans (hb3.mono hb2.size)).mono HB1.out.size))
  have y0 : w3.cell? ⟨q, 0, none⟩ = some (.string ⟨x.name.toArray⟩) := block_cell hx3
  have y1 : w3.cell? ⟨q, 1, none⟩ = some (.int .i64 x.blocks) := block_cell hx3
  have y2 : w3.cell? ⟨q, 2, none⟩ = some (.int .i64 x.quota) := block_cell hx3
  have y3 : w3.cell? ⟨q, 3, none⟩ = some (.int .i64 x.used) := block_cell hx3
  have y4 : w3.cell? ⟨q, 4, none⟩ = some (.bool x.frozen) := block_cell hx3
  have y5 : w3.cell? ⟨q, 5, none⟩ = some (.pointer x.A) := block_cell hx3
  clear hb2 hb3 hx3 HG
  have HF := Lib.hid (writ_end (x := x) HB3.out HX3.out HP.out)
  rcases hE with ⟨rfl, i, hx, hxt, hc, hin⟩ | ⟨k, rfl, hno⟩
  · have HXX := Lib.hid (And.intro hx (And.intro hxt (And.intro hc hin)))
    have HNO := Lib.hid (show x.frozen = true → ∀ y ∈ l, y.name = t → ¬ (inR y z n ∧ y.frozen = false) from fun h y hy e c => by
      have h9 := c.2
      rw [up_one HU.out hy (List.mem_of_getElem? hx) (e.trans hxt.symm), h] at h9
      cases h9)
    clear hx hxt hc hin
    obtain ⟨xn, xb, xq, xu, xf, xA, xg⟩ := x
    dsimp only at y0 y1 y2 y3 y4 y5 hw3 HF HNO
    cases xf with
    | false =>
      go_upto_region 2 with fail
      rw [← hw3, ← hq]
      clear hw3 hq
      go_wp2_with ((with_reducible refine stop_storeV _ _ rfl ?_))
      unfold Hid
      refine wpList_store_row rfl 92 _ _ rfl p #[.string ⟨xn.toArray⟩, .int .i64 xb, .int .i64 xq, .int .i64 xu, .bool false, .pointer xA] rfl rfl 92 _ HX3.out (by kernel_rfl) rfl (by simp [Value.oneCell']) ?_
      generalize w3.setRow p #[.string ⟨xn.toArray⟩, .int .i64 xb, .int .i64 xq, .int .i64 xu, .bool false, .pointer xA] = w4 at *
      clear y0 y1 y2 y3 y4 y5
      go_wp2
      refine bodyPost_ret (results_row_tmp rfl _ _ p _ _ _ _ rfl HF.out.2 Try.underlying92 rfl (by kernel_rfl)) rfl ?_
      exact ⟨HF.out.1, Or.inl ⟨i, _, HXX.out.1, HXX.out.2.1, HXX.out.2.2.1, HXX.out.2.2.2, rfl, rfl⟩⟩
    | true =>
      go_upto_region 2 with fail
      rw [← hw3, ← hq]
      clear hw3 hq
      go_wp2_with ((with_reducible refine stop_storeV _ _ rfl ?_))
      unfold Hid
      refine wpList_store_row rfl 92 _ _ rfl p #[.string ⟨xn.toArray⟩, .int .i64 xb, .int .i64 xq, .int .i64 xu, .bool true, .pointer xA] rfl rfl 92 _ HX3.out (by kernel_rfl) rfl (by simp [Value.oneCell']) ?_
      generalize w3.setRow p #[.string ⟨xn.toArray⟩, .int .i64 xb, .int .i64 xq, .int .i64 xu, .bool true, .pointer xA] = w4 at *
      clear y0 y1 y2 y3 y4 y5
      go_wp2
      refine bodyPost_ret (results_row_tmp rfl _ _ p _ _ _ _ rfl HF.out.2 Try.underlying92 rfl (by kernel_rfl)) rfl ?_
      exact ⟨HF.out.1, Or.inr ⟨⟨xn, xb, xq, xu, true, xA, xg⟩, _, rfl, HNO.out trivial⟩⟩
  · have HNO := Lib.hid (show ∀ y ∈ l, y.name = t → ¬ (inR y z n ∧ y.frozen = false) from fun y hy e c => hno y hy e c.1)
    clear hno
    obtain ⟨xn, xb, xq, xu, xf, xA, xg⟩ := x
    dsimp only at y0 y1 y2 y3 y4 y5 hw3 HF
    go_upto_region 2 with fail
    rw [← hw3, ← hq]
    clear hw3 hq
    go_wp2_with ((with_reducible refine stop_storeV _ _ rfl ?_))
    unfold Hid
    refine wpList_store_row rfl 92 _ _ rfl p #[.string ⟨xn.toArray⟩, .int .i64 xb, .int .i64 xq, .int .i64 xu, .bool xf, .pointer xA] rfl rfl 92 _ HX3.out (by kernel_rfl) rfl (by simp [Value.oneCell']) ?_
    generalize w3.setRow p #[.string ⟨xn.toArray⟩, .int .i64 xb, .int .i64 xq, .int .i64 xu, .bool xf, .pointer xA] = w4 at *
    clear y0 y1 y2 y3 y4 y5
    go_wp2
    refine bodyPost_ret (results_row_tmp rfl _ _ p _ _ _ _ rfl HF.out.2 Try.underlying92 rfl (by kernel_rfl)) rfl ?_
    exact ⟨HF.out.1, Or.inr ⟨⟨xn, xb, xq, xu, xf, xA, xg⟩, _, rfl, HNO.out⟩⟩
section
variable {P : Program} {l : List Oper} {Q : Exit → Act → World → Prop} {md : Region.Mode} {S : World → Prop}
/-- Two operations may come up. -/
theorem twoR (i j : Nat) {oi oj : Oper} {fuel : Nat} {listed : Array Bool} {a : Act} {w : World} (hr : Region.ready md l.toArray listed = [i, j]) (hi : nthR l i = some oi) (hj : nthR l j = some oj)
    (h1 : ∀ K' : Act → World → Prop, Shut (∀ a w, S w → (S w → wpAnyH P md l.toArray Q S fuel (listed.setIfInBounds i true) a w) → K' a w) → if Region.wanted oi (yielded l.toArray a.tmps) = true then Oper.wp P oi a w K' Q else K' (a.put oi.dst undef) w)
    (h2 : ∀ K' : Act → World → Prop, Shut (∀ a w, S w → (S w → wpAnyH P md l.toArray Q S fuel (listed.setIfInBounds j true) a w) → K' a w) → if Region.wanted oj (yielded l.toArray a.tmps) = true then Oper.wp P oj a w K' Q else K' (a.put oj.dst undef) w) :
    wpAnyH P md l.toArray Q S (fuel + 1) listed a w := wpAnyH_ready hr (by simp) (AllReadyH.cons ((nthR_eq l i).trans hi) h1 (AllReadyH.cons ((nthR_eq l j).trans hj) h2 AllReadyH.nil))
theorem run_exec_load_row {ev : Operand → Value} {o : Oper} {x : Operand} (w : World) (g : Nat) (t ty : TypeId) (cs : Array Value) (fr : Nat × Nat) (d : TypeDesc) (ho : o.op = .load ty x) (hx : ev x = .pointer (some ⟨g, 0, none⟩)) (hg : w.heap[g]? = some (.cells cs t fr))
    (hu : P.underlying ty = some d) (hd : (match d with | .struct _ | .array _ _ => true | _ => false) = true) (hi : (P.info? ty).map (·.size) = some cs.size) : (execOp ev o).run P w = .ok (.value (.agg cs)) w := by
  unfold execOp
  simp only [ho, hx, Instr.loadAt, Instr.sureAddr, Sem.run_bind, Sem.run_pure, Result.andThen_ok, run_loadVar_row w g t ty cs fr d hg hu hd hi]
end
end Go.Proofs.Ytnnadhfpkplncaa


/- A volume copied. Condition: the set reads, its names go up. -/
namespace Go.Proofs.Ytnnadhfpkplncaa
open Go.RowKit

def cpV (x : Vol) (t : List UInt8) (fr : Bool) : Vol := ⟨t, x.blocks, x.quota, x.used, fr, x.A, x.f⟩
def CopyPost (l : List Vol) (from_ t : List UInt8) (fr : Bool) (w : World) (e : Ending) (w' : World) : Prop := Below w.heap.size w w' ∧
  (((∃ k, e = .returned (.tuple #[.pointer none, .slice none 0 0, .iface 93 (.int .i64 k)])) ∧ ¬ (okN t ∧ (∃ x ∈ l, x.name = from_) ∧ (∀ x ∈ l, x.name ≠ t) ∧ l.length < 64)) ∨
  (∃ x i b u, (x ∈ l ∧ t.length ≤ 32) ∧ x.name = from_ ∧ Cut l t i ∧ hasAt l i t = false ∧ l.length < 64 ∧ e = .returned (.tuple #[.pointer (some ⟨b, 0, none⟩), u, .nilIface]) ∧ RdS w' (some ⟨b, 0, none⟩) (putV l i (cpV x t fr))))
set_option maxRecDepth 100000 in
set_option maxHeartbeats 6400000 in
theorem vcopy_any (s : Option Addr) (l : List Vol) (from_ t : List UInt8) (fr : Bool) (w : World) (h : RdS w s l) (hu : Up l) (hl : l.length ≤ 900) :
    Calls Try.prog 26 #[.pointer s, .string ⟨from_.toArray⟩, .string ⟨t.toArray⟩, .bool fr] w (CopyPost l from_ t fr w) := by
  have HS := Lib.hid h
  have HU := Lib.hid hu
  clear h hu
  go_enter Try.func26, Try.ntmps26
  go_wp2_with fail
  refine (named_any t w).mono ?_
  rintro e w1 ⟨nb, rfl, hnb, hb1⟩
  have HNB := Lib.hid hnb
  have HB1 := Lib.hid hb1
  clear hnb hb1
  cases nb with
  | false =>
    go_wp2_with fail
    refine bodyPost_ret (results_tmp3 rfl _ _ _) rfl ?_
    exact ⟨HB1.out, Or.inl ⟨⟨_, rfl⟩, fun h => by
      have := HNB.out.1 h.1
      cases this⟩⟩
  | true =>
    have HNL := Lib.hid (HNB.out.2 (by trivial))
    clear HNB
    have HG := Lib.hid (vget_any s l from_ w1 (HS.out.below HB1.out) HU.out (by omega))
    go_wp2_with fail
    refine HG.out.mono ?_
    rintro e w2 ⟨hb2, ⟨i0, x, hx, hxt, hc0, rfl⟩ | ⟨hn, rfl⟩⟩
    · obtain ⟨w3, hw3⟩ : ∃ w3, w3 = w2.alloc (.cells #[.string ⟨x.name.toArray⟩, .int .i64 x.blocks, .int .i64 x.quota, .int .i64 x.used, .bool x.frozen, .pointer x.A] 92) := ⟨_, rfl⟩
      obtain ⟨p, hp⟩ : ∃ p, p = w2.heap.size := ⟨_, rfl⟩
      have hb3 : Below w2.heap.size w2 w3 := by rw [hw3]; exact (Below.refl _ _).alloc (Nat.le_refl _) _
      have hx3 : w3.heap[p]? = some (.cells #[.string ⟨x.name.toArray⟩, .int .i64 x.blocks, .int .i64 x.quota, .int .i64 x.used, .bool x.frozen, .pointer x.A] 92 (0, 0)) := by rw [hw3, hp]; exact alloc_new _ _
      have HX3 := Lib.hid hx3
      have HB3 := Lib.hid (HB1.out.trans ((hb2.trans (hb3.mono hb2.size)).mono HB1.out.size))
      have HX := Lib.hid (And.intro (And.intro (List.mem_of_getElem? hx) HNL.out) hxt)
      have HPW := Lib.hid (show w.heap.size ≤ p by rw [hp]; exact Nat.le_trans HB1.out.size hb2.size)
      clear hb2 hb3 hx3 hx hxt hc0 HG
      have HRM := Lib.hid (room_any s l t w3 (HS.out.below HB3.out) HU.out (by omega))
      obtain ⟨xn, xb, xq, xu, xf, xA, xg⟩ := x
      dsimp only at hw3 HX3
      go_wp2_with fail
      rw [← hw3, ← hp]
      clear hw3 hp
      refine HRM.out.mono ?_
      rintro e w4 ⟨hb4, i, hc, ⟨hh, rfl⟩ | ⟨hh, h64, rfl⟩ | ⟨hh, h64, rfl⟩⟩
      · have HN := Lib.hid (hasAt_mem hh)
        have HB4 := Lib.hid (HB3.out.trans (hb4.mono HB3.out.size))
        clear hb4 hc hh
        go_wp2_with fail
        refine bodyPost_ret (results_tmp3 rfl _ _ _) rfl ?_
        exact ⟨HB4.out, Or.inl ⟨⟨_, rfl⟩, fun h => HN.out h.2.2.1⟩⟩
      · have H64 := Lib.hid h64
        have HB4 := Lib.hid (HB3.out.trans (hb4.mono HB3.out.size))
        clear hb4 hc hh h64
        go_wp2_with fail
        refine bodyPost_ret (results_tmp3 rfl _ _ _) rfl ?_
        exact ⟨HB4.out, Or.inl ⟨⟨_, rfl⟩, fun h => by
          have h1 := h.2.2.2
          have h2 := H64.out
          omega⟩⟩
      · have HH := Lib.hid (And.intro hh h64)
        have HC0 := Lib.hid hc
        have hx4 := (hb4.block _ (block_lt HX3.out)).trans HX3.out
        have HX4 := Lib.hid hx4
        have HB4 := Lib.hid (HB3.out.trans (hb4.mono HB3.out.size))
        have f0 : w4.frozen? ⟨p, 0, none⟩ = false := block_free hx4
        have f4 : w4.frozen? ⟨p, 4, none⟩ = false := block_free hx4
        have y0 : w4.cell? ⟨p, 0, none⟩ = some (.string ⟨xn.toArray⟩) := block_cell hx4
        have y4 : w4.cell? ⟨p, 4, none⟩ = some (.bool xf) := block_cell hx4
        clear hb4 hc hh h64 hx4
        go_upto_region 10 with fail
        obtain ⟨w5, hw5⟩ : ∃ w5, w5 = (w4.setCell ⟨p, 0, none⟩ (.string ⟨t.toArray⟩)).setCell ⟨p, 4, none⟩ (.bool fr) := ⟨_, rfl⟩
        have hx5 : w5.heap[p]? = some (.cells #[.string ⟨t.toArray⟩, .int .i64 xb, .int .i64 xq, .int .i64 xu, .bool fr, .pointer xA] 92 (0, 0)) := by
          rw [hw5]
          exact heap_setCell_same _ p 4 _ 92 _ (heap_setCell_same w4 p 0 _ 92 _ HX4.out)
        have hb5 : Below w.heap.size w w5 := by
          rw [hw5]
          exact (Below.setCell (p := ⟨p, 0, none⟩) HB4.out HPW.out _).setCell (p := ⟨p, 4, none⟩) HPW.out _
        rw [← hw5]
        have HB5 := Lib.hid hb5
        clear f0 f4 y0 y4 hw5 hb5
        have HX5 := Lib.hid hx5
        have hxA : ∀ w', Below w.heap.size w w' → ∃ S, RdR xg S w' xA := fun w' hb => by
          obtain ⟨S, hS⟩ := HS.out.1 _ HX.out.1.1
          exact ⟨S, RdR.below hS hb⟩
        have HXA := Lib.hid hxA
        clear hxA
        have HD5 := Lib.hid (show Below w.heap.size w w5.drew from HB5.out.drew)
        have HX5d := Lib.hid (show w5.drew.heap[p]? = some (.cells #[.string ⟨t.toArray⟩, .int .i64 xb, .int .i64 xq, .int .i64 xu, .bool fr, .pointer xA] 92 (0, 0)) from hx5)
        clear hx5
        have HW := Lib.hid (show ∀ w', Below w.heap.size w w' → Calls Try.prog 44 #[.pointer s, .agg #[.string ⟨t.toArray⟩, .int .i64 xb, .int .i64 xq, .int .i64 xu, .bool fr, .pointer xA]] w' (WithPost l (cpV ⟨xn, xb, xq, xu, xf, xA, xg⟩ t fr) w') from fun w' hb =>
          vwith_any s l (cpV ⟨xn, xb, xq, xu, xf, xA, xg⟩ t fr) w' (HS.out.below hb) HU.out (by omega) (HXA.out w' hb))
        have HNU := Lib.hid (show ∀ w', Below w.heap.size w w' → Calls Try.prog 49 #[.agg #[.string ⟨t.toArray⟩, .int .i64 xb, .int .i64 xq, .int .i64 xu, .bool fr, .pointer xA]] w' (NumsPost xg w') from fun w' hb =>
          numbers_any (cpV ⟨xn, xb, xq, xu, xf, xA, xg⟩ t fr) w' (HXA.out w' hb))
        refine wp_region_held_drew (S := fun w' => w'.heap[p]? = some (.cells #[.string ⟨t.toArray⟩, .int .i64 xb, .int .i64 xq, .int .i64 xu, .bool fr, .pointer xA] 92 (0, 0))) (by kernel_rfl) HX5.out fun hS => ?_
        refine takeR 0 (v := ?_) rfl (by kernel_rfl) (by kernel_rfl) (by kernel_rfl) (fun _ _ _ h => h) (Or.inl ⟨by rfl, ?_⟩) hS ?_
        rotate_left; · (intro w hSw; (try dsimp only at hSw); go_simp; (try with_reducible rfl))
        try simp only [Act.put, List.setIfInBounds_toArray, List.set_cons_zero, List.set_cons_succ]
        refine takeR 1 (v := .agg #[.string ⟨t.toArray⟩, .int .i64 xb, .int .i64 xq, .int .i64 xu, .bool fr, .pointer xA]) rfl (by kernel_rfl) (by kernel_rfl) (by kernel_rfl) (fun _ _ _ h => h) (Or.inl ⟨by rfl, ?_⟩) hS ?_
        · (intro w hSw; exact run_exec_load_row w p 92 92 _ (0, 0) _ (by rfl) (by rfl) hSw Try.underlying92 rfl (by kernel_rfl))
        try simp only [Act.put, List.setIfInBounds_toArray, List.set_cons_zero, List.set_cons_succ]
        refine takeR 3 (v := .agg #[.string ⟨t.toArray⟩, .int .i64 xb, .int .i64 xq, .int .i64 xu, .bool fr, .pointer xA]) rfl (by kernel_rfl) (by kernel_rfl) (by kernel_rfl) (fun _ _ _ h => h) (Or.inl ⟨by rfl, ?_⟩) hS ?_
        · (intro w hSw; exact run_exec_load_row w p 92 92 _ (0, 0) _ (by rfl) (by rfl) hSw Try.underlying92 rfl (by kernel_rfl))
        try simp only [Act.put, List.setIfInBounds_toArray, List.set_cons_zero, List.set_cons_succ]
        refine oneR 2 (by kernel_rfl) rfl (fun K hK => ?_)
        go_simp
        refine (HW.out _ HD5.out).mono ?_
        rintro e w6 ⟨j, b, hj, rfl, hs6, hb6⟩
        have hij := HC0.out.one hj
        subst hij
        have HB6 := Lib.hid (HD5.out.trans (hb6.mono HD5.out.size))
        have HS6 := Lib.hid hs6
        have hx6 := (hb6.block _ (block_lt HX5d.out)).trans HX5d.out
        clear hb6 hs6 hj hS
        refine hK.out _ _ hx6 (fun hS => ?_)
        clear hK K
        try simp only [Act.put, List.setIfInBounds_toArray, List.set_cons_zero, List.set_cons_succ]
        refine oneR 4 (by kernel_rfl) rfl (fun K hK => ?_)
        go_simp
        refine (HNU.out _ HB6.out).mono ?_
        rintro e w7 ⟨u, rfl, _, hb7⟩
        have HB7 := Lib.hid (HB6.out.trans (hb7.mono HB6.out.size))
        have HS7 := Lib.hid (HS6.out.below hb7)
        have hx7 := (hb7.block _ (block_lt hx6)).trans hx6
        clear hb7 hx6 hS
        refine hK.out _ _ hx7 (fun hS => ?_)
        clear hK K
        try simp only [Act.put, List.setIfInBounds_toArray, List.set_cons_zero, List.set_cons_succ]
        refine takeR 5 (v := ?_) rfl (by kernel_rfl) (by kernel_rfl) (by kernel_rfl) (fun _ _ _ h => h) (Or.inl ⟨by rfl, ?_⟩) hS ?_
        rotate_left; · (intro w hSw; (try dsimp only at hSw); go_simp; (try with_reducible rfl))
        try simp only [Act.put, List.setIfInBounds_toArray, List.set_cons_zero, List.set_cons_succ]
        refine takeR 6 (v := ?_) rfl (by kernel_rfl) (by kernel_rfl) (by kernel_rfl) (fun _ _ _ h => h) (Or.inl ⟨by rfl, ?_⟩) hS ?_
        rotate_left; · (intro w hSw; (try dsimp only at hSw); go_simp; (try with_reducible rfl))
        try simp only [Act.put, List.setIfInBounds_toArray, List.set_cons_zero, List.set_cons_succ]
        refine takeR 7 (v := ?_) rfl (by kernel_rfl) (by kernel_rfl) (by kernel_rfl) (fun _ _ _ h => h) (Or.inl ⟨by rfl, ?_⟩) hS ?_
        rotate_left; · (intro w hSw; (try dsimp only at hSw); go_simp; (try with_reducible rfl))
        try simp only [Act.put, List.setIfInBounds_toArray, List.set_cons_zero, List.set_cons_succ]
        refine doneR (by kernel_rfl) ?_
        go_wp2_with fail
        refine bodyPost_ret (results_tmp3 rfl _ _ _) rfl ?_
        exact ⟨HB7.out, Or.inr ⟨_, i, b, u, HX.out.1, HX.out.2, HC0.out, HH.out.1, HH.out.2, rfl, HS7.out⟩⟩
    · have HB2 := Lib.hid (HB1.out.trans (hb2.mono HB1.out.size))
      have HN := Lib.hid hn
      have HB3 := Lib.hid (Below.alloc HB2.out HB2.out.size (.cells #[.string ⟨#[]⟩, .int .i64 0, .int .i64 0, .int .i64 0, .bool false, .pointer none] 92))
      clear hb2 hn HG
      go_wp2_with fail
      refine bodyPost_ret (results_tmp3 rfl _ _ _) rfl ?_
      exact ⟨HB3.out, Or.inl ⟨⟨_, rfl⟩, fun h => by
        obtain ⟨x, hx, e⟩ := h.2.1
        exact HN.out x hx e⟩⟩
end Go.Proofs.Ytnnadhfpkplncaa


/- The numbers at places of a volume. Condition: the set reads, its names go up. -/
namespace Go.Proofs.Ytnnadhfpkplncaa
open Go.RowKit

/-- The numbers at so many places. -/
def getN (f : Nat → Int) (z : Int) (n : Nat) : List Int := (List.range n).map fun j : Nat => getF f (z + (j : Int))
def arrK (f : Nat → Int) (z : Int) (n k : Nat) : Array Value := ((List.range n).map fun j => Value.int .i64 (if j < k then getF f (z + (j : Int)) else 0)).toArray
theorem arrK_size (f : Nat → Int) (z : Int) (n k : Nat) : (arrK f z n k).size = n := by simp [arrK]
theorem arrK_step (f : Nat → Int) (z : Int) (n k : Nat) : (arrK f z n k).setIfInBounds k (.int .i64 (getF f (z + (k : Int)))) = arrK f z n (k + 1) := by
  refine Array.ext_getElem? fun j => ?_
  rw [Array.getElem?_setIfInBounds, arrK_size]
  unfold arrK
  simp only [List.getElem?_toArray, List.getElem?_map]
  by_cases hj : j < n
  · rw [List.getElem?_range hj]
    by_cases e : k = j
    · subst e
      simp [hj]
    · rw [if_neg e]
      simp only [Option.map_some]
      by_cases h1 : j < k
      · rw [if_pos h1, if_pos (by omega)]
      · rw [if_neg h1, if_neg (by omega)]
  · rw [List.getElem?_eq_none (by simpa using hj)]
    by_cases e : k = j
    · rw [if_pos e, if_neg (by omega)]
      rfl
    · rw [if_neg e]
      rfl
theorem arrK_done (f : Nat → Int) (z : Int) (n : Nat) : (arrK f z n n).toList = zs (getN f z n) := by
  unfold arrK zs getN
  rw [List.map_map]
  refine List.map_congr_left fun j hj => ?_
  simp only [Function.comp]
  rw [if_pos (List.mem_range.1 hj)]
theorem infoTINTv : (Try.prog.info? 3).map (fun i => (i.zero, i.size, i.bytes)) = some (some (.int .i64 0), 1, 8) := by kernel_rfl
theorem run_makeI (f : Nat → Int) (z : Int) (n : Nat) (hn : n ≤ 1048576) (w : World) : (Instr.makeSlice 32 (.int .i64 (n : Int)) (.int .i64 (n : Int))).run Try.prog w
    = .ok (.slice (some ⟨w.heap.size, 0, none⟩) n n) (w.alloc (.cells (arrK f z n 0) 3)) := by
  obtain ⟨i0, hi, hz0, hz1, hz2⟩ := info_parts infoTINTv
  have h := run_make (P := Try.prog) w 32 3 i0 (.int .i64 0) Try.underlying32 hi hz0 .i64 .i64 n n (by omega) (by omega) (by rw [hz2]; omega) (by omega)
  rw [hz1] at h
  have e : madeCells #[.int .i64 0] n = arrK f z n 0 := by
    apply Array.toList_inj.1
    rw [toList_madeCells_one]
    unfold arrK
    simp [List.map_const']
  simpa [Value.cells, e] using h
def GetsPost (l : List Vol) (t : List UInt8) (z : Int) (n : Int) (w : World) (e : Ending) (w' : World) : Prop := Below w.heap.size w w' ∧
  ((∃ i x A c N, l[i]? = some x ∧ x.name = t ∧ Cut l t i ∧ inR x z n ∧ n = ((N : Nat) : Int) ∧ e = .returned (.tuple #[.slice A N c, .nilIface]) ∧ RdA w' A (zs (getN x.f z N))) ∨
  (∃ k, e = .returned (.tuple #[.slice none 0 0, .iface 93 (.int .i64 k)]) ∧ ∀ x ∈ l, x.name = t → ¬ inR x z n))
set_option maxRecDepth 100000 in
set_option maxHeartbeats 6400000 in
theorem gets_any (s : Option Addr) (l : List Vol) (t : List UInt8) (z n : Int) (w : World) (h : RdS w s l) (hu : Up l) (hl : l.length ≤ 900) (hb : ∀ x ∈ l, 0 ≤ x.blocks ∧ x.blocks ≤ 4096) :
    Calls Try.prog 27 #[.pointer s, .string ⟨t.toArray⟩, .int .i64 z, .int .i64 n] w (GetsPost l t z n w) := by
  have HG := Lib.hid (within_any s l t z n w h hu hl hb)
  have HS := Lib.hid h
  have HBK := Lib.hid hb
  clear h hu hb
  go_enter Try.func27, Try.ntmps27
  go_wp2_with fail
  refine HG.out.mono ?_
  rintro e w1 ⟨hb1, ⟨i, x, hx, hxt, hc, hin, rfl⟩ | ⟨k, rfl, hno⟩⟩
  · obtain ⟨w2, hw2⟩ : ∃ w2, w2 = w1.alloc (.cells #[.string ⟨x.name.toArray⟩, .int .i64 x.blocks, .int .i64 x.quota, .int .i64 x.used, .bool x.frozen, .pointer x.A] 92) := ⟨_, rfl⟩
    obtain ⟨p, hp⟩ : ∃ p, p = w1.heap.size := ⟨_, rfl⟩
    have hb2 : Below w1.heap.size w1 w2 := by rw [hw2]; exact (Below.refl _ _).alloc (Nat.le_refl _) _
    have hx2 : w2.heap[p]? = some (.cells #[.string ⟨x.name.toArray⟩, .int .i64 x.blocks, .int .i64 x.quota, .int .i64 x.used, .bool x.frozen, .pointer x.A] 92 (0, 0)) := by rw [hw2, hp]; exact alloc_new _ _
    have HX2 := Lib.hid hx2
    have HB2 := Lib.hid (hb1.trans (hb2.mono hb1.size))
    have hxb := (HBK.out x (List.mem_of_getElem? hx)).2
    obtain ⟨h1, h2, h3, h4⟩ := id hin
    obtain ⟨N, hN⟩ : ∃ N : Nat, n = (N : Int) := ⟨n.toNat, by omega⟩
    subst hN
    have HXX := Lib.hid (And.intro hx (And.intro hxt (And.intro hc hin)))
    have HTR := Lib.hid (HS.out.1 x (List.mem_of_getElem? hx))
    have hN1 : 1 ≤ N := by omega
    have hN2 : z + (N : Int) ≤ 4096 := by omega
    clear hb1 hb2 hx2 hx hxt hc hin HG h2 h3 h4
    obtain ⟨xn, xb, xq, xu, xf, xA, xg⟩ := x
    dsimp only at hw2 HX2 HTR
    clear hxb
    go_upto_region 2 with fail
    rw [← hw2, ← hp]
    clear hw2 hp
    have hmk := run_makeI xg z N (by omega)
    have HTX := Lib.hid (show ∃ S, RdR xg S w2 xA from by
      obtain ⟨S, hS⟩ := HTR.out
      exact ⟨S, RdR.below hS HB2.out⟩)
    obtain ⟨w3, hw3⟩ : ∃ w3, w3 = w2.alloc (.cells (arrK xg z N 0) 3) := ⟨_, rfl⟩
    obtain ⟨g, hg⟩ : ∃ g, g = w2.heap.size := ⟨_, rfl⟩
    have hb3 : Below w2.heap.size w2 w3 := by rw [hw3]; exact (Below.refl _ _).alloc (Nat.le_refl _) _
    have HG3 := Lib.hid (show w3.heap[g]? = some (.cells (arrK xg z N 0) 3 (0, 0)) by rw [hw3, hg]; exact alloc_new _ _)
    have HB3 := Lib.hid (show Below g w2 w3 by rw [hg]; exact hb3)
    have HGP := Lib.hid (show p < g ∧ w.heap.size ≤ g from ⟨by rw [hg]; exact block_lt HX2.out, by rw [hg]; exact HB2.out.size⟩)
    have HGE := Lib.hid hg
    clear hb3
    go_upto_region 6 with fail
    rw [← hw3, ← hg]
    clear hw3 hg hmk
    go_loopg [29] N (fun gg i wr => ∃ k : Nat, k ≤ N ∧ gg = N - k ∧ i = .int .i64 k ∧ Hid (wr.heap[g]? = some (.cells (arrK xg z N k) 3 (0, 0))) ∧ Hid (Below g w2 wr))
    case atStart => exact ⟨0, by omega, by omega, rfl, HG3.out, HB3.out⟩
    case round =>
      obtain ⟨k, hk, hgk, rfl, HGG, HB⟩ := hrel
      clear HG3 HB3
      by_cases hlt : k < N
      · have hki : (k : Int) < (N : Int) := by omega
        have hw4 : IntKind.i64.wrap ((k : Int) + 1) = (k : Int) + 1 := IntWalk.i64_in _ (by omega)
        have hw5 : IntKind.i64.wrap (z + (k : Int)) = z + (k : Int) := IntWalk.i64_in _ (by omega)
        have hb2w : Below w2.heap.size w2 wr := by rw [← HGE.out]; exact HB.out
        have y5 : wr.cell? ⟨p, 5, none⟩ = some (.pointer xA) := block_cell ((HB.out.block p HGP.out.1).trans HX2.out)
        have HGT := Lib.hid (show Calls Try.prog 13 #[.pointer xA, .int .i64 (z + (k : Int))] wr (fun e w' => e = .returned (.int .i64 (getF xg (z + (k : Int)))) ∧ Below wr.heap.size wr w') from by
          obtain ⟨S, hS⟩ := HTX.out
          exact get_any xg S xA (z + (k : Int)) wr (RdR.below hS hb2w))
        clear hb2w
        go_wp2_with fail
        refine HGT.out.mono ?_
        rintro e w6 ⟨rfl, hb6⟩
        have hg6 := (hb6.block g (block_lt HGG.out)).trans HGG.out
        have hc6 : w6.cell? ⟨g, k, none⟩ = some (.int .i64 (if k < k then getF xg (z + (k : Int)) else 0)) := by
          rw [block_cell hg6]
          unfold arrK
          simp [hlt]
        have hf6 : w6.frozen? ⟨g, k, none⟩ = false := block_free hg6
        have HG7 := Lib.hid (show (w6.setCell ⟨g, k, none⟩ (.int .i64 (getF xg (z + (k : Int))))).heap[g]? = some (.cells (arrK xg z N (k + 1)) 3 (0, 0)) by
          rw [← arrK_step]
          exact heap_setCell_same w6 g k _ 3 _ hg6)
        have HB7 := Lib.hid (show Below g w2 (w6.setCell ⟨g, k, none⟩ (.int .i64 (getF xg (z + (k : Int))))) from
          (HB.out.trans (hb6.mono (by have := block_lt HGG.out; omega))).setCell (p := ⟨g, k, none⟩) (Nat.le_refl _) _)
        clear hb6 hg6 y5
        go_wp2_with fail
        go_roundg (N - (k + 1))
        case measure => omega
        case rel => exact ⟨k + 1, by omega, rfl, by congr 1, HG7.out, HB7.out⟩
      · have hke : k = N := by omega
        subst hke
        have hki : ¬ (k : Int) < (k : Int) := by omega
        clear hlt
        go_wp2_with fail
        go_ret2
        have hbb : Below w.heap.size w wr := HB2.out.trans (HB.out.mono HGP.out.2)
        refine ⟨hbb, Or.inl ⟨i, _, some ⟨g, 0, none⟩, k, k, HXX.out.1, HXX.out.2.1, HXX.out.2.2.1, HXX.out.2.2.2, rfl, rfl, fun j u hj => ⟨g, 0, rfl, ?_⟩⟩⟩
        rw [Nat.zero_add, block_cell HGG.out]
        rw [← arrK_done] at hj
        simpa using hj
  · have HB2 := Lib.hid (Below.alloc hb1 hb1.size (.cells #[.string ⟨#[]⟩, .int .i64 0, .int .i64 0, .int .i64 0, .bool false, .pointer none] 92))
    have HNO := Lib.hid hno
    clear hb1 hno HG
    go_wp2_with fail
    go_ret2
    exact ⟨HB2.out, Or.inr ⟨_, rfl, HNO.out⟩⟩
end Go.Proofs.Ytnnadhfpkplncaa


/- What a put does to a volume's numbers, in plain words. No condition. -/
namespace Go.Proofs.Ytnnadhfpkplncaa

def cntV (f : Nat → Int) : Nat := (numsL f).length
theorem cntV_eq (f : Nat → Int) : cntV f = ((List.range 4096).filter fun a => decide (f a ≠ 0)).length := by
  unfold cntV
  rw [nums_len, items_eq]
theorem cntL (f : Nat → Int) (a : Nat) (n : Int) : ∀ l : List Nat, l.Nodup → (((l.filter fun b => decide (updF f a n b ≠ 0)).length : Nat) : Int) = ((l.filter fun b => decide (f b ≠ 0)).length : Nat) + (if a ∈ l then (if n = 0 then 0 else 1) - (if f a = 0 then 0 else 1) else 0)
  | [], _ => by simp
  | b :: l, h => by
    obtain ⟨h1, h2⟩ := List.nodup_cons.1 h
    have ih := cntL f a n l h2
    by_cases e : b = a
    · subst e
      rw [if_neg h1] at ih
      rw [if_pos (by simp)]
      have e1 : updF f b n b = n := by simp [updF]
      simp only [List.filter_cons, e1]
      by_cases hn : n = 0 <;> by_cases hf : f b = 0 <;> simp [hn, hf] at ih ⊢ <;> omega
    · have e1 : updF f a n b = f b := by simp [updF, e]
      have e2 : (a ∈ b :: l) ↔ a ∈ l := by simp [Ne.symm e]
      simp only [List.filter_cons, e1, e2]
      by_cases hf : f b = 0 <;> simp [hf] at ih ⊢ <;> omega
theorem cnt_set (f : Nat → Int) (z n : Int) (hz : 0 ≤ z ∧ z ≤ 4095) : (cntV (setF f z n) : Int) = cntV f + ((if n = 0 then 0 else 1) - (if getF f z = 0 then 0 else 1)) := by
  obtain ⟨a, rfl⟩ := Int.eq_ofNat_of_zero_le hz.1
  rw [setF_in (by omega), cntV_eq, cntV_eq, cntL f a n _ List.nodup_range, if_pos (List.mem_range.2 (by omega))]
  have : getF f (a : Int) = f a := by unfold getF; rw [if_pos hz]; rfl
  rw [this]
theorem getF_setF_other {f : Nat → Int} {z y n : Int} (h : z ≠ y) : getF (setF f z n) y = getF f y := by
  unfold getF setF
  by_cases hz : 0 ≤ z ∧ z ≤ 4095
  · rw [if_pos hz]
    by_cases hy : 0 ≤ y ∧ y ≤ 4095
    · rw [if_pos hy, if_pos hy]
      unfold updF
      rw [if_neg (by omega)]
    · rw [if_neg hy, if_neg hy]
  · rw [if_neg hz]
def fK (f : Nat → Int) (z : Int) (xs : List Int) : Nat → Nat → Int
  | 0 => f
  | k + 1 => setF (fK f z xs k) (z + (k : Int)) (xs.getD k 0)
def uK (u : Int) (f : Nat → Int) (z : Int) (xs : List Int) : Nat → Int
  | 0 => u
  | k + 1 => uK u f z xs k - (if getF f (z + (k : Int)) = 0 then 0 else 1) + (if xs.getD k 0 = 0 then 0 else 1)
theorem fK_get (f : Nat → Int) (z : Int) (xs : List Int) : ∀ (k j : Nat), k ≤ j → getF (fK f z xs k) (z + (j : Int)) = getF f (z + (j : Int))
  | 0, _, _ => rfl
  | k + 1, j, h => by
    unfold fK
    rw [getF_setF_other (by omega), fK_get f z xs k j (by omega)]
theorem uK_near (u : Int) (f : Nat → Int) (z : Int) (xs : List Int) : ∀ k : Nat, u - (k : Int) ≤ uK u f z xs k ∧ uK u f z xs k ≤ u + (k : Int)
  | 0 => by simp [uK]
  | k + 1 => by
    have ih := uK_near u f z xs k
    unfold uK
    split <;> split <;> omega
theorem cnt_fK (u : Int) (f : Nat → Int) (z : Int) (xs : List Int) (hz : 0 ≤ z) : ∀ k : Nat, z + (k : Int) ≤ 4096 → (cntV (fK f z xs k) : Int) = cntV f + (uK u f z xs k - u)
  | 0, _ => by simp [fK, uK]
  | k + 1, h => by
    have ih := cnt_fK u f z xs hz k (by omega)
    unfold fK uK
    rw [cnt_set _ _ _ ⟨by omega, by omega⟩, ih, fK_get f z xs k k (Nat.le_refl _)]
    omega
theorem fK_far (f : Nat → Int) (z bl : Int) (xs : List Int) (hz : 0 ≤ z) (hf : ∀ a : Nat, bl ≤ (a : Int) → f a = 0) : ∀ k : Nat, z + (k : Int) ≤ bl → ∀ a : Nat, bl ≤ (a : Int) → fK f z xs k a = 0
  | 0, _, a, ha => hf a ha
  | k + 1, h, a, ha => by
    have ih := fK_far f z bl xs hz hf k (by omega) a ha
    unfold fK setF
    split
    · unfold updF
      rw [if_neg (by omega)]
      exact ih
    · exact ih
theorem getN_succ (f : Nat → Int) (z : Int) (k : Nat) : getN f z (k + 1) = getN f z k ++ [getF f (z + (k : Int))] := by
  unfold getN
  rw [List.range_succ, List.map_append]
  rfl
/-- What went: the numbers that stood there. -/
def goneN (f : Nat → Int) (z : Int) (k : Nat) : List Int := (getN f z k).filter fun y => decide (y ≠ 0)
theorem gone_no {f : Nat → Int} {z : Int} {k : Nat} (h : getF f (z + (k : Int)) = 0) : goneN f z (k + 1) = goneN f z k := by
  unfold goneN
  rw [getN_succ, List.filter_append]
  simp [h]
theorem gone_yes {f : Nat → Int} {z : Int} {k : Nat} (h : getF f (z + (k : Int)) ≠ 0) : goneN f z (k + 1) = goneN f z k ++ [getF f (z + (k : Int))] := by
  unfold goneN
  rw [getN_succ, List.filter_append]
  simp [h]
theorem gone_len (f : Nat → Int) (z : Int) (k : Nat) : (goneN f z k).length ≤ k := by
  unfold goneN
  have := List.length_filter_le (fun y => decide (y ≠ 0)) (getN f z k)
  have e : (getN f z k).length = k := by simp [getN]
  omega
/-- A number that may not be put. -/
def badN (y : Int) : Bool := decide (y < 0) || decide (1099511627776 < y)
end Go.Proofs.Ytnnadhfpkplncaa


/- Is a number among them that may not be put? Condition: the numbers read. -/
namespace Go.Proofs.Ytnnadhfpkplncaa
open Go.RowKit

theorem put1_any (y : Int) (w : World) : Calls Try.prog 53 #[.int .i64 y] w fun e w' => e = .returned (.bool (badN y)) ∧ w' = w := by
  unfold badN
  by_cases h1 : y < 0
  · have hd : decide (y < 0) = true := decide_eq_true h1
    rw [hd]
    go_enter Try.func53, Try.ntmps53
    go_wp2
    go_ret
    exact ⟨rfl, rfl⟩
  · have hd : decide (y < 0) = false := decide_eq_false h1
    rw [hd]
    by_cases h2 : 1099511627776 < y
    · have hd2 : decide (1099511627776 < y) = true := decide_eq_true h2
      rw [hd2]
      go_enter Try.func53, Try.ntmps53
      go_wp2
      go_ret
      exact ⟨rfl, rfl⟩
    · have hd2 : decide (1099511627776 < y) = false := decide_eq_false h2
      rw [hd2]
      go_enter Try.func53, Try.ntmps53
      go_wp2
      go_ret
      exact ⟨rfl, rfl⟩
def IdxPost (xs : List Int) (w : World) (e : Ending) (w' : World) : Prop := ∃ r : Int, e = .returned (.int .i64 r) ∧ (0 ≤ r ↔ ∃ y ∈ xs, badN y = true) ∧ Below w.heap.size w w'
set_option maxRecDepth 100000 in
set_option maxHeartbeats 1600000 in
theorem idxf_any (A : Option Addr) (c : Nat) (xs : List Int) (w : World) (h : RdA w A (zs xs)) (hl : xs.length ≤ 140737488355328) : Calls Try.prog 74 #[.slice A xs.length c, .func (.func 53) #[] #[]] w (IdxPost xs w) := by
  have HR := Lib.hid h
  obtain ⟨n, hn⟩ : ∃ n, n = xs.length := ⟨_, rfl⟩
  rw [← hn] at hl ⊢
  have HN := Lib.hid hn
  clear h hn
  go_enter Try.func74, Try.ntmps74
  go_wp2_with fail
  go_loopg [8] n (fun gg i wr => ∃ k : Nat, k ≤ n ∧ gg = n - k ∧ i = .int .i64 k ∧ Hid (∀ j y, j < k → xs[j]? = some y → badN y = false) ∧ Hid (Below w.heap.size w wr))
  case atStart => exact ⟨0, by omega, by omega, rfl, fun j y h => by omega, Below.refl _ _⟩
  case round =>
    obtain ⟨k, hk, hgk, rfl, HA, HB⟩ := hrel
    by_cases hlt : k < n
    · have hki : (k : Int) < (n : Int) := by omega
      have hw1 : IntKind.i64.wrap ((k : Int) + 1) = (k : Int) + 1 := IntWalk.i64_in _ (by omega)
      obtain ⟨y, hy⟩ : ∃ y, xs[k]? = some y := ⟨_, List.getElem?_eq_getElem (by rw [← HN.out]; omega)⟩
      obtain ⟨b, o, rfl, c0⟩ := (HR.out.below HB.out) k _ (zs_at hy)
      have HY := Lib.hid hy
      clear hy
      go_wp2_with fail
      refine (put1_any y wr).mono ?_
      rintro e w5 ⟨rfl, rfl⟩
      cases hbad : badN y with
      | true =>
        have HBD := Lib.hid hbad
        clear hbad
        go_wp2_with fail
        go_ret
        exact ⟨(k : Int), rfl, ⟨fun _ => ⟨y, List.mem_of_getElem? HY.out, HBD.out⟩, fun _ => by omega⟩, HB.out⟩
      | false =>
        have HBD := Lib.hid hbad
        clear hbad
        go_wp2_with fail
        go_roundg (n - (k + 1))
        case measure => omega
        case rel =>
          refine ⟨k + 1, by omega, rfl, by congr 1, fun j z hj hz => ?_, HB.out⟩
          rcases Nat.lt_or_ge j k with h | h
          · exact HA.out j z h hz
          · obtain rfl : j = k := by omega
            rw [HY.out] at hz
            cases hz
            exact HBD.out
    · have hke : k = n := by omega
      subst hke
      have hki : ¬ (k : Int) < (k : Int) := by omega
      clear hlt
      go_wp2_with fail
      go_ret
      refine ⟨-1, rfl, ⟨fun h => by omega, fun ⟨y, hy, hb⟩ => ?_⟩, HB.out⟩
      obtain ⟨j, hj⟩ := List.getElem?_of_mem hy
      have hjl := (List.getElem?_eq_some_iff.1 hj).1
      rw [HA.out j y (by rw [HN.out]; exact hjl) hj] at hb
      cases hb
def ContPost (xs : List Int) (w : World) (e : Ending) (w' : World) : Prop := ∃ b, e = .returned (.bool b) ∧ (b = true ↔ ∃ y ∈ xs, badN y = true) ∧ Below w.heap.size w w'
set_option maxHeartbeats 800000 in
theorem cont_any (A : Option Addr) (c : Nat) (xs : List Int) (w : World) (h : RdA w A (zs xs)) (hl : xs.length ≤ 140737488355328) : Calls Try.prog 52 #[.slice A xs.length c, .func (.func 53) #[] #[]] w (ContPost xs w) := by
  have HI := Lib.hid (idxf_any A c xs w h hl)
  clear h
  go_enter Try.func52, Try.ntmps52
  go_wp2_with fail
  refine HI.out.mono ?_
  rintro e w1 ⟨r, rfl, hr, hb⟩
  have HR := Lib.hid hr
  have HB := Lib.hid hb
  clear hr hb
  go_wp2_with fail
  go_ret
  exact ⟨decide (0 ≤ r), rfl, by rw [decide_eq_true_iff]; exact HR.out, HB.out⟩
end Go.Proofs.Ytnnadhfpkplncaa

