/- The numbers at places of a volume. Condition: the set reads, its names go up. -/
import Derived.Test.YtnnadhfpkplncaaVoCopy
import Derived.Laws.MakeOwn
namespace Go.Proofs.Ytnnadhfpkplncaa
open Go.RowKit

/-- The numbers at so many places. -/
def getN (f : Nat → Int) (z : Int) (n : Nat) : List Int := (List.range n).map fun j : Nat => getF f (z + (j : Int))
def arrK (f : Nat → Int) (z : Int) (n k : Nat) : Array Value := ((List.range n).map fun j => Value.int .i64 (if j < k then getF f (z + (j : Int)) else 0)).toArray
theorem arrK_size (f : Nat → Int) (z : Int) (n k : Nat) : (arrK f z n k).size = n := by simp [arrK]
theorem arrK_step (f : Nat → Int) (z : Int) (n k : Nat) : (arrK f z n k).setIfInBounds k (.int .i64 (getF f (z + (k : Int)))) = arrK f z n (k + 1) := by
  refine Array.ext_getElem? fun j => ?_
  rw [Array.getElem?_setIfInBounds, arrK_size]
  unfold arrK
  simp only [List.getElem?_toArray, List.getElem?_map]
  by_cases hj : j < n
  · rw [List.getElem?_range hj]
    by_cases e : k = j
    · subst e
      simp [hj]
    · rw [if_neg e]
      simp only [Option.map_some]
      by_cases h1 : j < k
      · rw [if_pos h1, if_pos (by omega)]
      · rw [if_neg h1, if_neg (by omega)]
  · rw [List.getElem?_eq_none (by simpa using hj)]
    by_cases e : k = j
    · rw [if_pos e, if_neg (by omega)]
      rfl
    · rw [if_neg e]
      rfl
theorem arrK_done (f : Nat → Int) (z : Int) (n : Nat) : (arrK f z n n).toList = zs (getN f z n) := by
  unfold arrK zs getN
  rw [List.map_map]
  refine List.map_congr_left fun j hj => ?_
  simp only [Function.comp]
  rw [if_pos (List.mem_range.1 hj)]
theorem infoTINTv : (Try.prog.info? 3).map (fun i => (i.zero, i.size, i.bytes)) = some (some (.int .i64 0), 1, 8) := by kernel_rfl
theorem run_makeI (f : Nat → Int) (z : Int) (n : Nat) (hn : n ≤ 1048576) (w : World) : (Instr.makeSlice 32 (.int .i64 (n : Int)) (.int .i64 (n : Int))).run Try.prog w
    = .ok (.slice (some ⟨w.heap.size, 0, none⟩) n n) (w.alloc (.cells (arrK f z n 0) 3)) := by
  obtain ⟨i0, hi, hz0, hz1, hz2⟩ := info_parts infoTINTv
  have h := run_make (P := Try.prog) w 32 3 i0 (.int .i64 0) Try.underlying32 hi hz0 .i64 .i64 n n (by omega) (by omega) (by rw [hz2]; omega) (by omega)
  rw [hz1] at h
  have e : madeCells #[.int .i64 0] n = arrK f z n 0 := by
    apply Array.toList_inj.1
    rw [toList_madeCells_one]
    unfold arrK
    simp [List.map_const']
  simpa [Value.cells, e] using h
def GetsPost (l : List Vol) (t : List UInt8) (z : Int) (n : Int) (w : World) (e : Ending) (w' : World) : Prop := Below w.heap.size w w' ∧
  ((∃ i x A c N, l[i]? = some x ∧ x.name = t ∧ Cut l t i ∧ inR x z n ∧ n = ((N : Nat) : Int) ∧ e = .returned (.tuple #[.slice A N c, .nilIface]) ∧ RdA w' A (zs (getN x.f z N))) ∨
  (∃ k, e = .returned (.tuple #[.slice none 0 0, .iface 93 (.int .i64 k)]) ∧ ∀ x ∈ l, x.name = t → ¬ inR x z n))
set_option maxRecDepth 100000 in
set_option maxHeartbeats 6400000 in
theorem gets_any (s : Option Addr) (l : List Vol) (t : List UInt8) (z n : Int) (w : World) (h : RdS w s l) (hu : Up l) (hl : l.length ≤ 900) (hb : ∀ x ∈ l, 0 ≤ x.blocks ∧ x.blocks ≤ 4096) :
    Calls Try.prog 27 #[.pointer s, .string ⟨t.toArray⟩, .int .i64 z, .int .i64 n] w (GetsPost l t z n w) := by
  have HG := Lib.hid (within_any s l t z n w h hu hl hb)
  have HS := Lib.hid h
  have HBK := Lib.hid hb
  clear h hu hb
  go_enter Try.func27, Try.ntmps27
  go_wp2_with fail
  refine HG.out.mono ?_
  rintro e w1 ⟨hb1, ⟨i, x, hx, hxt, hc, hin, rfl⟩ | ⟨k, rfl, hno⟩⟩
  · obtain ⟨w2, hw2⟩ : ∃ w2, w2 = w1.alloc (.cells #[.string ⟨x.name.toArray⟩, .int .i64 x.blocks, .int .i64 x.quota, .int .i64 x.used, .bool x.frozen, .pointer x.A] 92) := ⟨_, rfl⟩
    obtain ⟨p, hp⟩ : ∃ p, p = w1.heap.size := ⟨_, rfl⟩
    have hb2 : Below w1.heap.size w1 w2 := by rw [hw2]; exact (Below.refl _ _).alloc (Nat.le_refl _) _
    have hx2 : w2.heap[p]? = some (.cells #[.string ⟨x.name.toArray⟩, .int .i64 x.blocks, .int .i64 x.quota, .int .i64 x.used, .bool x.frozen, .pointer x.A] 92 (0, 0)) := by rw [hw2, hp]; exact alloc_new _ _
    have HX2 := Lib.hid hx2
    have HB2 := Lib.hid (hb1.trans (hb2.mono hb1.size))
    have hxb := (HBK.out x (List.mem_of_getElem? hx)).2
    obtain ⟨h1, h2, h3, h4⟩ := id hin
    obtain ⟨N, hN⟩ : ∃ N : Nat, n = (N : Int) := ⟨n.toNat, by omega⟩
    subst hN
    have HXX := Lib.hid (And.intro hx (And.intro hxt (And.intro hc hin)))
    have HTR := Lib.hid (HS.out.1 x (List.mem_of_getElem? hx))
    have hN1 : 1 ≤ N := by omega
    have hN2 : z + (N : Int) ≤ 4096 := by omega
    clear hb1 hb2 hx2 hx hxt hc hin HG h2 h3 h4
    obtain ⟨xn, xb, xq, xu, xf, xA, xg⟩ := x
    dsimp only at hw2 HX2 HTR
    clear hxb
    go_upto_region 2 with fail
    rw [← hw2, ← hp]
    clear hw2 hp
    have hmk := run_makeI xg z N (by omega)
    have HTX := Lib.hid (show ∃ S, RdR xg S w2 xA from by
      obtain ⟨S, hS⟩ := HTR.out
      exact ⟨S, RdR.below hS HB2.out⟩)
    obtain ⟨w3, hw3⟩ : ∃ w3, w3 = w2.alloc (.cells (arrK xg z N 0) 3) := ⟨_, rfl⟩
    obtain ⟨g, hg⟩ : ∃ g, g = w2.heap.size := ⟨_, rfl⟩
    have hb3 : Below w2.heap.size w2 w3 := by rw [hw3]; exact (Below.refl _ _).alloc (Nat.le_refl _) _
    have HG3 := Lib.hid (show w3.heap[g]? = some (.cells (arrK xg z N 0) 3 (0, 0)) by rw [hw3, hg]; exact alloc_new _ _)
    have HB3 := Lib.hid (show Below g w2 w3 by rw [hg]; exact hb3)
    have HGP := Lib.hid (show p < g ∧ w.heap.size ≤ g from ⟨by rw [hg]; exact block_lt HX2.out, by rw [hg]; exact HB2.out.size⟩)
    have HGE := Lib.hid hg
    clear hb3
    go_upto_region 6 with fail
    rw [← hw3, ← hg]
    clear hw3 hg hmk
    go_loopg [29] N (fun gg i wr => ∃ k : Nat, k ≤ N ∧ gg = N - k ∧ i = .int .i64 k ∧ Hid (wr.heap[g]? = some (.cells (arrK xg z N k) 3 (0, 0))) ∧ Hid (Below g w2 wr))
    case atStart => exact ⟨0, by omega, by omega, rfl, HG3.out, HB3.out⟩
    case round =>
      obtain ⟨k, hk, hgk, rfl, HGG, HB⟩ := hrel
      clear HG3 HB3
      by_cases hlt : k < N
      · have hki : (k : Int) < (N : Int) := by omega
        have hw4 : IntKind.i64.wrap ((k : Int) + 1) = (k : Int) + 1 := IntWalk.i64_in _ (by omega)
        have hw5 : IntKind.i64.wrap (z + (k : Int)) = z + (k : Int) := IntWalk.i64_in _ (by omega)
        have hb2w : Below w2.heap.size w2 wr := by rw [← HGE.out]; exact HB.out
        have y5 : wr.cell? ⟨p, 5, none⟩ = some (.pointer xA) := block_cell ((HB.out.block p HGP.out.1).trans HX2.out)
        have HGT := Lib.hid (show Calls Try.prog 13 #[.pointer xA, .int .i64 (z + (k : Int))] wr (fun e w' => e = .returned (.int .i64 (getF xg (z + (k : Int)))) ∧ Below wr.heap.size wr w') from by
          obtain ⟨S, hS⟩ := HTX.out
          exact get_any xg S xA (z + (k : Int)) wr (RdR.below hS hb2w))
        clear hb2w
        go_wp2_with fail
        refine HGT.out.mono ?_
        rintro e w6 ⟨rfl, hb6⟩
        have hg6 := (hb6.block g (block_lt HGG.out)).trans HGG.out
        have hc6 : w6.cell? ⟨g, k, none⟩ = some (.int .i64 (if k < k then getF xg (z + (k : Int)) else 0)) := by
          rw [block_cell hg6]
          unfold arrK
          simp [hlt]
        have hf6 : w6.frozen? ⟨g, k, none⟩ = false := block_free hg6
        have HG7 := Lib.hid (show (w6.setCell ⟨g, k, none⟩ (.int .i64 (getF xg (z + (k : Int))))).heap[g]? = some (.cells (arrK xg z N (k + 1)) 3 (0, 0)) by
          rw [← arrK_step]
          exact heap_setCell_same w6 g k _ 3 _ hg6)
        have HB7 := Lib.hid (show Below g w2 (w6.setCell ⟨g, k, none⟩ (.int .i64 (getF xg (z + (k : Int))))) from
          (HB.out.trans (hb6.mono (by have := block_lt HGG.out; omega))).setCell (p := ⟨g, k, none⟩) (Nat.le_refl _) _)
        clear hb6 hg6 y5
        go_wp2_with fail
        go_roundg (N - (k + 1))
        case measure => omega
        case rel => exact ⟨k + 1, by omega, rfl, by congr 1, HG7.out, HB7.out⟩
      · have hke : k = N := by omega
        subst hke
        have hki : ¬ (k : Int) < (k : Int) := by omega
        clear hlt
        go_wp2_with fail
        go_ret2
        have hbb : Below w.heap.size w wr := HB2.out.trans (HB.out.mono HGP.out.2)
        refine ⟨hbb, Or.inl ⟨i, _, some ⟨g, 0, none⟩, k, k, HXX.out.1, HXX.out.2.1, HXX.out.2.2.1, HXX.out.2.2.2, rfl, rfl, fun j u hj => ⟨g, 0, rfl, ?_⟩⟩⟩
        rw [Nat.zero_add, block_cell HGG.out]
        rw [← arrK_done] at hj
        simpa using hj
  · have HB2 := Lib.hid (Below.alloc hb1 hb1.size (.cells #[.string ⟨#[]⟩, .int .i64 0, .int .i64 0, .int .i64 0, .bool false, .pointer none] 92))
    have HNO := Lib.hid hno
    clear hb1 hno HG
    go_wp2_with fail
    go_ret2
    exact ⟨HB2.out, Or.inr ⟨_, rfl, HNO.out⟩⟩
end Go.Proofs.Ytnnadhfpkplncaa
