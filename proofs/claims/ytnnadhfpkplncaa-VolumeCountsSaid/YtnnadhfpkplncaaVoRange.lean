/- A volume that has places, that may be written. Condition: the set reads, its names go up. -/
import Derived.Test.YtnnadhfpkplncaaVoSetD
namespace Go.Proofs.Ytnnadhfpkplncaa
open Go.RowKit

def inR (x : Vol) (at_ n : Int) : Prop := 0 ≤ at_ ∧ 1 ≤ n ∧ at_ < x.blocks ∧ n ≤ x.blocks - at_
def WithinPost (l : List Vol) (t : List UInt8) (at_ n : Int) (w : World) (e : Ending) (w' : World) : Prop := Below w.heap.size w w' ∧
  ((∃ i x, l[i]? = some x ∧ x.name = t ∧ Cut l t i ∧ inR x at_ n ∧ e = .returned (.tuple #[.agg #[.string ⟨x.name.toArray⟩, .int .i64 x.blocks, .int .i64 x.quota, .int .i64 x.used, .bool x.frozen, .pointer x.A], .nilIface])) ∨
  (∃ k, e = .returned (.tuple #[.agg #[.string ⟨#[]⟩, .int .i64 0, .int .i64 0, .int .i64 0, .bool false, .pointer none], .iface 93 (.int .i64 k)]) ∧ ∀ x ∈ l, x.name = t → ¬ inR x at_ n))
theorem up_one {l : List Vol} (hu : Up l) {x y : Vol} (hx : x ∈ l) (hy : y ∈ l) (h : x.name = y.name) : x = y := by
  obtain ⟨i, hi⟩ := List.getElem?_of_mem hx
  obtain ⟨j, hj⟩ := List.getElem?_of_mem hy
  rcases Nat.lt_trichotomy i j with h1 | h1 | h1
  · have := hu.at hi hj h1
    rw [h, cmp_self] at this
    omega
  · subst h1
    rw [hi] at hj
    exact Option.some.inj hj
  · have := hu.at hj hi h1
    rw [h, cmp_self] at this
    omega
set_option maxRecDepth 100000 in
set_option maxHeartbeats 3200000 in
theorem within_any (s : Option Addr) (l : List Vol) (t : List UInt8) (z n : Int) (w : World) (h : RdS w s l) (hu : Up l) (hl : l.length ≤ 900) (hb : ∀ x ∈ l, 0 ≤ x.blocks ∧ x.blocks ≤ 4096) :
    Calls Try.prog 51 #[.pointer s, .string ⟨t.toArray⟩, .int .i64 z, .int .i64 n] w (WithinPost l t z n w) := by
  obtain ⟨w1, hw1⟩ : ∃ w1, w1 = w.alloc (.cells #[.string ⟨#[]⟩, .int .i64 0, .int .i64 0, .int .i64 0, .bool false, .pointer none] 92) := ⟨_, rfl⟩
  obtain ⟨p, hp⟩ : ∃ p, p = w.heap.size := ⟨_, rfl⟩
  have hb1 : Below w.heap.size w w1 := by rw [hw1]; exact (Below.refl _ _).alloc (Nat.le_refl _) _
  have hx1 : w1.heap[p]? = some (.cells #[.string ⟨#[]⟩, .int .i64 0, .int .i64 0, .int .i64 0, .bool false, .pointer none] 92 (0, 0)) := by rw [hw1, hp]; exact alloc_new _ _
  have HG := Lib.hid (vget_any s l t w1 (h.below hb1) hu (by omega))
  have HU := Lib.hid hu
  have HBK := Lib.hid hb
  have HB1 := Lib.hid hb1
  have HX1 := Lib.hid hx1
  have HP := Lib.hid (show w.heap.size ≤ p by omega)
  clear hb1 hx1 h hu hb
  go_enter Try.func51, Try.ntmps51
  go_wp2_with fail
  rw [← hw1, ← hp]
  clear hw1 hp
  refine HG.out.mono ?_
  rintro e w2 ⟨hb2, ⟨i, x, hx, hxt, hc, rfl⟩ | ⟨hn, rfl⟩⟩
  · obtain ⟨w3, hw3⟩ : ∃ w3, w3 = w2.alloc (.cells #[.string ⟨x.name.toArray⟩, .int .i64 x.blocks, .int .i64 x.quota, .int .i64 x.used, .bool x.frozen, .pointer x.A] 92) := ⟨_, rfl⟩
    obtain ⟨q, hq⟩ : ∃ q, q = w2.heap.size := ⟨_, rfl⟩
    have hb3 : Below w2.heap.size w2 w3 := by rw [hw3]; exact (Below.refl _ _).alloc (Nat.le_refl _) _
    have hx3 : w3.heap[q]? = some (.cells #[.string ⟨x.name.toArray⟩, .int .i64 x.blocks, .int .i64 x.quota, .int .i64 x.used, .bool x.frozen, .pointer x.A] 92 (0, 0)) := by rw [hw3, hq]; exact alloc_new _ _
    have HX3 := Lib.hid (((hb2.trans (hb3.mono hb2.size)).block _ (block_lt HX1.out)).trans HX1.out)
    have HB3 := Lib.hid (HB1.out.trans ((hb2.trans (hb3.mono hb2.size)).mono HB1.out.size))
    have HC := Lib.hid hc
    have HX := Lib.hid hx
    have HXT := Lib.hid hxt
    have HN := Lib.hid (show ¬ inR x z n → ∀ y ∈ l, y.name = t → ¬ inR y z n from fun h y hy e => by
      rw [up_one HU.out hy (List.mem_of_getElem? hx) (e.trans hxt.symm)]
      exact h)
    have hxb := HBK.out x (List.mem_of_getElem? hx)
    have y0 : w3.cell? ⟨q, 0, none⟩ = some (.string ⟨x.name.toArray⟩) := block_cell hx3
    have y1 : w3.cell? ⟨q, 1, none⟩ = some (.int .i64 x.blocks) := block_cell hx3
    have y2 : w3.cell? ⟨q, 2, none⟩ = some (.int .i64 x.quota) := block_cell hx3
    have y3 : w3.cell? ⟨q, 3, none⟩ = some (.int .i64 x.used) := block_cell hx3
    have y4 : w3.cell? ⟨q, 4, none⟩ = some (.bool x.frozen) := block_cell hx3
    have y5 : w3.cell? ⟨q, 5, none⟩ = some (.pointer x.A) := block_cell hx3
    clear hb2 hb3 hx3 hc hx hxt HG
    obtain ⟨xn, xb, xq, xu, xf, xA, xg⟩ := x
    dsimp only at y0 y1 y2 y3 y4 y5 hxb hw3 HXT
    have hwr : 0 ≤ z → z < xb → IntKind.i64.wrap (xb - z) = xb - z := fun a b => IntWalk.i64_in _ (by omega)
    have hcases : (z < 0 ∨ (0 ≤ z ∧ n < 1) ∨ (0 ≤ z ∧ 1 ≤ n ∧ xb ≤ z) ∨ (0 ≤ z ∧ 1 ≤ n ∧ z < xb ∧ xb - z < n)) ∨ (0 ≤ z ∧ 1 ≤ n ∧ z < xb ∧ n ≤ xb - z) := by omega
    go_upto_region 2 with fail
    rw [← hw3, ← hq]
    clear hw3 hq
    rcases hcases with hbad | ⟨h1, h2, h3, h4⟩
    · have HE := Lib.hid (HN.out (fun c => by
        have := c.1
        have := c.2.1
        have := c.2.2.1
        have := c.2.2.2
        dsimp only at *
        omega))
      rcases hbad with h1 | ⟨h1, h2⟩ | ⟨h1, h2, h3⟩ | ⟨h1, h2, h3, h4⟩
      all_goals
        try have hw4 := hwr h1 h3
        clear hwr
        go_wp2_with ((with_reducible refine stop_storeV _ _ rfl ?_))
        unfold Hid
        refine wpList_store_row rfl 92 _ _ rfl p #[.string ⟨#[]⟩, .int .i64 0, .int .i64 0, .int .i64 0, .bool false, .pointer none] rfl rfl 92 _ HX3.out (by kernel_rfl) rfl (by simp [Value.oneCell']) ?_
        have HB4 := Lib.hid (HB3.out.trans (below_setRow (L := w.heap.size) (g := p) (w := w3) (cs := #[.string ⟨#[]⟩, .int .i64 0, .int .i64 0, .int .i64 0, .bool false, .pointer none]) HP.out))
        have HX4 := Lib.hid (setRow_heap w3 p _ #[.string ⟨#[]⟩, .int .i64 0, .int .i64 0, .int .i64 0, .bool false, .pointer none] 92 _ HX3.out)
        generalize w3.setRow p #[.string ⟨#[]⟩, .int .i64 0, .int .i64 0, .int .i64 0, .bool false, .pointer none] = w4 at *
        clear y0 y1 y2 y3 y4 y5
        go_wp2
        refine bodyPost_ret (results_row_tmp rfl _ _ p _ _ _ _ rfl HX4.out Try.underlying92 rfl (by kernel_rfl)) rfl ?_
        exact ⟨HB4.out, Or.inr ⟨_, rfl, HE.out⟩⟩
    · have hw4 := hwr h1 h3
      have HIN := Lib.hid (show inR ⟨xn, xb, xq, xu, xf, xA, xg⟩ z n from ⟨h1, h2, h3, h4⟩)
      clear hwr
      go_wp2_with ((with_reducible refine stop_storeV _ _ rfl ?_))
      unfold Hid
      refine wpList_store_row rfl 92 _ _ rfl p #[.string ⟨xn.toArray⟩, .int .i64 xb, .int .i64 xq, .int .i64 xu, .bool xf, .pointer xA] rfl rfl 92 _ HX3.out (by kernel_rfl) rfl (by simp [Value.oneCell']) ?_
      have HB4 := Lib.hid (HB3.out.trans (below_setRow (L := w.heap.size) (g := p) (w := w3) (cs := #[.string ⟨xn.toArray⟩, .int .i64 xb, .int .i64 xq, .int .i64 xu, .bool xf, .pointer xA]) HP.out))
      have HX4 := Lib.hid (setRow_heap w3 p _ #[.string ⟨xn.toArray⟩, .int .i64 xb, .int .i64 xq, .int .i64 xu, .bool xf, .pointer xA] 92 _ HX3.out)
      generalize w3.setRow p #[.string ⟨xn.toArray⟩, .int .i64 xb, .int .i64 xq, .int .i64 xu, .bool xf, .pointer xA] = w4 at *
      clear y0 y1 y2 y3 y4 y5
      go_wp2
      refine bodyPost_ret (results_row_tmp rfl _ _ p _ _ _ _ rfl HX4.out Try.underlying92 rfl (by kernel_rfl)) rfl ?_
      exact ⟨HB4.out, Or.inl ⟨i, _, HX.out, HXT.out, HC.out, HIN.out, rfl⟩⟩
  · obtain ⟨w3, hw3⟩ : ∃ w3, w3 = w2.alloc (.cells #[.string ⟨#[]⟩, .int .i64 0, .int .i64 0, .int .i64 0, .bool false, .pointer none] 92) := ⟨_, rfl⟩
    have hb3 : Below w2.heap.size w2 w3 := by rw [hw3]; exact (Below.refl _ _).alloc (Nat.le_refl _) _
    have HX3 := Lib.hid (((hb2.trans (hb3.mono hb2.size)).block _ (block_lt HX1.out)).trans HX1.out)
    have HB3 := Lib.hid (HB1.out.trans ((hb2.trans (hb3.mono hb2.size)).mono HB1.out.size))
    have HE := Lib.hid (show ∀ y ∈ l, y.name = t → ¬ inR y z n from fun y hy e => absurd e (hn y hy))
    clear hb2 hb3 hn HG
    go_upto_region 2 with fail
    rw [← hw3]
    clear hw3
    go_wp2_with ((with_reducible refine stop_storeV _ _ rfl ?_))
    unfold Hid
    refine wpList_store_row rfl 92 _ _ rfl p #[.string ⟨#[]⟩, .int .i64 0, .int .i64 0, .int .i64 0, .bool false, .pointer none] rfl rfl 92 _ HX3.out (by kernel_rfl) rfl (by simp [Value.oneCell']) ?_
    have HB4 := Lib.hid (HB3.out.trans (below_setRow (L := w.heap.size) (g := p) (w := w3) (cs := #[.string ⟨#[]⟩, .int .i64 0, .int .i64 0, .int .i64 0, .bool false, .pointer none]) HP.out))
    have HX4 := Lib.hid (setRow_heap w3 p _ #[.string ⟨#[]⟩, .int .i64 0, .int .i64 0, .int .i64 0, .bool false, .pointer none] 92 _ HX3.out)
    generalize w3.setRow p #[.string ⟨#[]⟩, .int .i64 0, .int .i64 0, .int .i64 0, .bool false, .pointer none] = w4 at *
    go_wp2
    refine bodyPost_ret (results_row_tmp rfl _ _ p _ _ _ _ rfl HX4.out Try.underlying92 rfl (by kernel_rfl)) rfl ?_
    exact ⟨HB4.out, Or.inr ⟨_, rfl, HE.out⟩⟩
end Go.Proofs.Ytnnadhfpkplncaa
