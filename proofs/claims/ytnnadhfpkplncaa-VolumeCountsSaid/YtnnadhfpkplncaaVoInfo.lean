/- What is told of a volume; all names. Condition: the set reads, its names go up. -/
import Derived.Test.YtnnadhfpkplncaaVoPut
namespace Go.Proofs.Ytnnadhfpkplncaa
open Go.RowKit

def InfoPost (l : List Vol) (t : List UInt8) (w : World) (e : Ending) (w' : World) : Prop := Below w.heap.size w w' ∧
  ((∃ i x, l[i]? = some x ∧ x.name = t ∧ Cut l t i ∧ e = .returned (.tuple #[.agg #[.string ⟨x.name.toArray⟩, .int .i64 x.blocks, .int .i64 x.quota, .int .i64 x.used, .bool x.frozen], .nilIface])) ∨
  ((∀ x ∈ l, x.name ≠ t) ∧ e = .returned (.tuple #[.agg #[.string ⟨#[]⟩, .int .i64 0, .int .i64 0, .int .i64 0, .bool false], .iface 93 (.int .i64 30)])))
set_option maxRecDepth 100000 in
set_option maxHeartbeats 3200000 in
theorem info_any (s : Option Addr) (l : List Vol) (t : List UInt8) (w : World) (h : RdS w s l) (hu : Up l) (hl : l.length ≤ 900) : Calls Try.prog 31 #[.pointer s, .string ⟨t.toArray⟩] w (InfoPost l t w) := by
  obtain ⟨w1, hw1⟩ : ∃ w1, w1 = w.alloc (.cells #[.string ⟨#[]⟩, .int .i64 0, .int .i64 0, .int .i64 0, .bool false] 66) := ⟨_, rfl⟩
  obtain ⟨p, hp⟩ : ∃ p, p = w.heap.size := ⟨_, rfl⟩
  have hb1 : Below w.heap.size w w1 := by rw [hw1]; exact (Below.refl _ _).alloc (Nat.le_refl _) _
  have hx1 : w1.heap[p]? = some (.cells #[.string ⟨#[]⟩, .int .i64 0, .int .i64 0, .int .i64 0, .bool false] 66 (0, 0)) := by rw [hw1, hp]; exact alloc_new _ _
  have HG := Lib.hid (vget_any s l t w1 (h.below hb1) hu (by omega))
  have HB1 := Lib.hid hb1
  have HX1 := Lib.hid hx1
  have HP := Lib.hid (show w.heap.size ≤ p by omega)
  clear hb1 hx1 h hu
  go_enter Try.func31, Try.ntmps31
  go_wp2_with fail
  rw [← hw1, ← hp]
  clear hw1 hp
  refine HG.out.mono ?_
  rintro e w2 ⟨hb2, hpost⟩
  obtain ⟨x, E, he, hE⟩ : ∃ (x : Vol) (E : Value), e = .returned (.tuple #[.agg #[.string ⟨x.name.toArray⟩, .int .i64 x.blocks, .int .i64 x.quota, .int .i64 x.used, .bool x.frozen, .pointer x.A], E]) ∧ ((∃ i, l[i]? = some x ∧ x.name = t ∧ Cut l t i ∧ E = .nilIface) ∨ ((∀ y ∈ l, y.name ≠ t) ∧ x = ⟨[], 0, 0, 0, false, none, fun _ => 0⟩ ∧ E = .iface 93 (.int .i64 30))) := by
    rcases hpost with ⟨i, x, hx, hxt, hc, rfl⟩ | ⟨hno, rfl⟩
    · exact ⟨x, _, rfl, Or.inl ⟨i, hx, hxt, hc, rfl⟩⟩
    · exact ⟨⟨[], 0, 0, 0, false, none, fun _ => 0⟩, _, rfl, Or.inr ⟨hno, rfl, rfl⟩⟩
  subst he
  clear hpost
  obtain ⟨w3, hw3⟩ : ∃ w3, w3 = w2.alloc (.cells #[.string ⟨x.name.toArray⟩, .int .i64 x.blocks, .int .i64 x.quota, .int .i64 x.used, .bool x.frozen, .pointer x.A] 92) := ⟨_, rfl⟩
  obtain ⟨q, hq⟩ : ∃ q, q = w2.heap.size := ⟨_, rfl⟩
  have hb3 : Below w2.heap.size w2 w3 := by rw [hw3]; exact (Below.refl _ _).alloc (Nat.le_refl _) _
  have hx3 : w3.heap[q]? = some (.cells #[.string ⟨x.name.toArray⟩, .int .i64 x.blocks, .int .i64 x.quota, .int .i64 x.used, .bool x.frozen, .pointer x.A] 92 (0, 0)) := by rw [hw3, hq]; exact alloc_new _ _
  have HX3 := Lib.hid (((hb2.trans (hb3.mono hb2.size)).block _ (block_lt HX1.out)).trans HX1.out)
  have HB3 := Lib.hid (HB1.out.trans ((hb2.trans (hb3.mono hb2.size)).mono HB1.out.size))
  have y0 : w3.cell? ⟨q, 0, none⟩ = some (.string ⟨x.name.toArray⟩) := block_cell hx3
  have y1 : w3.cell? ⟨q, 1, none⟩ = some (.int .i64 x.blocks) := block_cell hx3
  have y2 : w3.cell? ⟨q, 2, none⟩ = some (.int .i64 x.quota) := block_cell hx3
  have y3 : w3.cell? ⟨q, 3, none⟩ = some (.int .i64 x.used) := block_cell hx3
  have y4 : w3.cell? ⟨q, 4, none⟩ = some (.bool x.frozen) := block_cell hx3
  clear hb2 hb3 hx3 HG
  have HE := Lib.hid hE
  clear hE
  go_upto_region 2 with fail
  rw [← hw3, ← hq]
  clear hw3 hq
  go_wp2_with ((with_reducible refine stop_storeI _ _ rfl ?_))
  unfold Hid
  refine wpList_store_row rfl 66 _ _ rfl p #[.string ⟨x.name.toArray⟩, .int .i64 x.blocks, .int .i64 x.quota, .int .i64 x.used, .bool x.frozen] rfl rfl 66 _ HX3.out (by kernel_rfl) rfl (by simp [Value.oneCell']) ?_
  have HB4 := Lib.hid (HB3.out.trans (below_setRow (L := w.heap.size) (g := p) (w := w3) (cs := #[.string ⟨x.name.toArray⟩, .int .i64 x.blocks, .int .i64 x.quota, .int .i64 x.used, .bool x.frozen]) HP.out))
  have HX4 := Lib.hid (setRow_heap w3 p _ #[.string ⟨x.name.toArray⟩, .int .i64 x.blocks, .int .i64 x.quota, .int .i64 x.used, .bool x.frozen] 66 _ HX3.out)
  generalize w3.setRow p #[.string ⟨x.name.toArray⟩, .int .i64 x.blocks, .int .i64 x.quota, .int .i64 x.used, .bool x.frozen] = w4 at *
  clear y0 y1 y2 y3 y4
  go_wp2
  refine bodyPost_ret (results_row_tmp rfl _ _ p _ _ _ _ rfl HX4.out Try.underlying66 rfl (by kernel_rfl)) rfl ?_
  rcases HE.out with ⟨i, hx, hxt, hc, rfl⟩ | ⟨hno, rfl, rfl⟩
  · exact ⟨HB4.out, Or.inl ⟨i, x, hx, hxt, hc, rfl⟩⟩
  · exact ⟨HB4.out, Or.inr ⟨hno, rfl⟩⟩
def nmsV (l : List Vol) : List Value := l.map fun x => .string ⟨x.name.toArray⟩
def NamesPost (l : List Vol) (w : World) (e : Ending) (w' : World) : Prop := ∃ A c, e = .returned (.slice A l.length c) ∧ RdA w' A (nmsV l) ∧ Below w.heap.size w w'
theorem infoTSTRv : (Try.prog.info? 9).map (fun i => (i.zero, i.size, i.bytes)) = some (some (.string ⟨#[]⟩), 1, 16) := by kernel_rfl
set_option maxRecDepth 100000 in
set_option maxHeartbeats 3200000 in
theorem vnames_any (s : Option Addr) (l : List Vol) (w : World) (h : RdS w s l) (hl : l.length ≤ 900) : Calls Try.prog 30 #[.pointer s] w (NamesPost l w) := by
  have HA := Lib.hid (vall_any s l w h)
  obtain ⟨n, hn⟩ : ∃ n, n = l.length := ⟨_, rfl⟩
  rw [← hn] at hl HA
  have HN := Lib.hid hn
  obtain ⟨iI, hiI, hi0, hi1, hi2⟩ := info_parts infoTSTRv
  have HII := Lib.hid (And.intro hiI (And.intro hi0 (And.intro hi1 hi2)))
  clear h hn hiI hi0 hi1 hi2
  go_enter Try.func30, Try.ntmps30
  go_wp2_with fail
  refine HA.out.mono ?_
  rintro e w1 ⟨A, c, rfl, hr, rfl⟩
  have HR := Lib.hid hr
  clear hr
  go_wp2_with fail
  go_loopg [9, 3] n (fun gg iv v wr => ∃ (k : Nat) (B : Value), k ≤ n ∧ gg = n - k ∧ iv = .int .i64 k ∧ v = B ∧ Hid (wr.ownsRow w1.heap.size 9 1 B k (nmsV (l.take k))) ∧ Hid (Below w1.heap.size w1 wr))
  case atStart => exact ⟨0, _, by omega, by omega, rfl, rfl, World.ownsRow_nil _ _ _ _, Below.refl _ _⟩
  case round =>
    obtain ⟨k, B, hk, hgk, rfl, hvB, HO, HB⟩ := hrel
    obtain rfl := hvB.symm
    by_cases hlt : k < n
    · have hki : (k : Int) < (n : Int) := by omega
      have hw1 : IntKind.i64.wrap ((k : Int) + 1) = (k : Int) + 1 := IntWalk.i64_in _ (by omega)
      obtain ⟨x, hx⟩ : ∃ x, l[k]? = some x := ⟨_, List.getElem?_eq_getElem (by rw [← HN.out]; omega)⟩
      obtain ⟨b, o, rfl, c0, c1, c2, c3, c4, c5⟩ := (HR.out.below HB.out).at hx
      have HTK := Lib.hid (show nmsV (l.take (k + 1)) = nmsV (l.take k) ++ [.string ⟨x.name.toArray⟩] by
        obtain ⟨hl1, rfl⟩ := List.getElem?_eq_some_iff.1 hx
        unfold nmsV
        rw [List.take_succ_eq_append_getElem hl1, List.map_append]; rfl)
      obtain ⟨xn, xb, xq, xu, xf, xA, xg⟩ := x
      dsimp only at c0 c1 c2 c3 c4 c5 HTK
      clear hx
      obtain ⟨w2, hw2⟩ : ∃ w2, w2 = wr.alloc (.cells #[.string ⟨xn.toArray⟩, .int .i64 xb, .int .i64 xq, .int .i64 xu, .bool xf, .pointer xA] 92) := ⟨_, rfl⟩
      obtain ⟨p, hp⟩ : ∃ p, p = wr.heap.size := ⟨_, rfl⟩
      have hb2 : Below wr.heap.size wr w2 := by rw [hw2]; exact (Below.refl _ _).alloc (Nat.le_refl _) _
      have hx2 : w2.heap[p]? = some (.cells #[.string ⟨xn.toArray⟩, .int .i64 xb, .int .i64 xq, .int .i64 xu, .bool xf, .pointer xA] 92 (0, 0)) := by rw [hw2, hp]; exact alloc_new _ _
      have y0 : w2.cell? ⟨p, 0, none⟩ = some (.string ⟨xn.toArray⟩) := block_cell hx2
      have hk2 : KeepT (9 + 1) wr w2 := KeepT.of_below hb2
      have HB2 := Lib.hid (HB.out.trans (hb2.mono HB.out.size))
      have HB2a := Lib.hid (HB2.out.alloc HB2.out.size (.cells #[.string ⟨xn.toArray⟩] 9))
      have HO2 := Lib.hid (own_keepT (own_keepT HO.out hk2 (by decide)) (KeepT.alloc (9 + 1) w2 (.cells #[.string ⟨xn.toArray⟩] 9)) (by decide))
      clear hb2 hx2 hk2
      go_upto_region 5 with fail
      rw [← hw2, ← hp]
      clear hw2 hp c0 c1 c2 c3 c4 c5
      obtain ⟨hiI, hi0, hi1, hi2⟩ := HII.out
      go_wp2_with (at_builtin; refine Hid.out ?_)
      unfold Hid
      refine app_one rfl (.tmp 13) (.tmp 17) 63 9 rfl iI _ 16 Try.underlying63 hiI hi0 hi1 hi2 rfl (by omega) w1.heap.size _ k _ rfl HO2.out w2.heap.size (.string ⟨xn.toArray⟩) rfl (block_cell (alloc_new _ _)) rfl (by omega) HB2a.out.size ?_
      intro v7 w7 ho7 hg7 _
      have HO7 := Lib.hid (show w7.ownsRow w1.heap.size 9 1 v7 (k + 1) (nmsV (l.take (k + 1))) by rw [HTK.out]; exact ho7)
      have HB7 := Lib.hid (below_grown HB2a.out hg7 HB2a.out.size (fun q e => own_geV HO2.out e))
      clear ho7 hg7 y0 hiI hi0 hi1 hi2
      go_wp2_with fail
      go_roundg (n - (k + 1))
      case measure => omega
      case rel => exact ⟨k + 1, v7, by omega, rfl, by congr 1, rfl, HO7.out, HB7.out⟩
    · have hke : k = n := by omega
      subst hke
      have hki : ¬ (k : Int) < (k : Int) := by omega
      clear hlt
      have ho := HO.out
      rw [List.take_of_length_le (by rw [← HN.out]; exact Nat.le_refl _)] at ho
      obtain ⟨A2, c2, rfl, _, hr2, _⟩ := own_rdA ho
      have HR2 := Lib.hid hr2
      clear ho hr2 HO
      go_wp2_with fail
      go_ret
      exact ⟨A2, c2, by rw [← HN.out]; rfl, HR2.out, HB.out⟩
end Go.Proofs.Ytnnadhfpkplncaa
