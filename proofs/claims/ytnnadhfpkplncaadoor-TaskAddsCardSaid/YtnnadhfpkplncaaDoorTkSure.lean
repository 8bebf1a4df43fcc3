/- What must come whatever the input is (law 23). Condition: the handle of 'error'. -/
import Derived.Test.YtnnadhfpkplncaaDoorTkReady
namespace Go.Proofs.YtnnadhfpkplncaaDoor
open Go.RowKit Go.Maps

theorem addE_one {lim : Int} {n : Nat} {x : Want} {st : Int} (h1 : 1 ≤ st ∧ st ≤ 65536) (h2 : (n : Int) < lim) : addE lim n [x] st = 0 :=
  addE_ok (by simp; omega) (fun ⟨j, hj, u, v, _, hv, _⟩ => by
    rw [List.getElem?_eq_none (by simp; omega)] at hv
    cases hv) (by omega)
theorem RdA.keepM {M m : Nat} {w w' : World} {A : Option Addr} {vs : List Value} (h : RdA w A vs) (k : KeepM M m w w') (h1 : ∀ b, A = some b → b.block ≠ M ∧ b.block ≠ m) : RdA w' A vs := fun i u hi => by
  obtain ⟨b, o, e, hc⟩ := h i u hi
  exact ⟨b, o, e, (World.cell?_of_block (k.block b (cell_lt hc) (h1 _ e).1 (h1 _ e).2)).trans hc⟩
theorem RdA.same {w w' : World} {g o : Nat} {vs : List Value} (h : RdA w (some ⟨g, o, none⟩) vs) (e : w'.heap[g]? = w.heap[g]?) : RdA w' (some ⟨g, o, none⟩) vs := fun i u hi => by
  obtain ⟨b, o2, e2, hc⟩ := h i u hi
  cases e2
  exact ⟨g, o, rfl, (World.cell?_of_block e).trans hc⟩
theorem row_some {w : World} {B n s : Nat} {E : TypeId} {v : Value} {xs : List Value} (h : w.ownsRow B E s v n xs) (hn : 0 < n) : ∃ g c, v = .slice (some ⟨g, 0, none⟩) n c ∧ n ≤ c ∧ B ≤ g ∧ RdA w (some ⟨g, 0, none⟩) xs ∧ ∃ cur, w.heap[g]? = some (.cells cur E (0, 0)) := by
  obtain ⟨A, c, e, hc, hr, _⟩ := own_rdW h
  rcases h.2 with ⟨_, e2⟩ | ⟨g, c2, cur, e2, hg, hblk, _⟩
  · omega
  · rw [e] at e2
    injection e2 with e3 _ e4
    subst e3
    exact ⟨g, c, e, hc, hg, hr, cur, hblk⟩
set_option maxRecDepth 100000 in
set_option maxHeartbeats 6400000 in
theorem suret_any (w : World) : Calls Tryd.prog 26 #[] w (BoolPost true w) := by
  go_enter Tryd.func26, Tryd.ntmps26
  go_wp2_with fail
  refine (tnew_any 4 w).mono ?_
  rintro e w1 (⟨h4, _⟩ | ⟨_, _, M, t, rfl, hm, ht, hb1⟩)
  · omega
  obtain ⟨m, hmm⟩ : ∃ m, m = w.heap.size := ⟨_, rfl⟩
  have hM1 : M < w1.heap.size := block_lt hm.cell
  have hm1 : w.heap.size < w1.heap.size := hm.mlt
  obtain ⟨w2, hw2⟩ : ∃ w2, w2 = w1.alloc (.cells #[.string ⟨([97] : List UInt8).toArray⟩, .bool true] 99) := ⟨_, rfl⟩
  have hb2 : Below w1.heap.size w1 w2 := by rw [hw2]; exact (Below.refl _ _).alloc (Nat.le_refl _) _
  have hr2 : RdA w2 (some ⟨w1.heap.size, 0, none⟩) (wants2 [([97], true)]) := fun j u hj => ⟨_, _, rfl, by rw [Nat.zero_add, block_cell (by rw [hw2]; exact alloc_new _ _)]; simpa [wants2, wcells] using hj⟩
  have hs2 : w2.heap.size = w1.heap.size + 1 := by rw [hw2, World.size_alloc]
  have HADD := Lib.hid (show Calls Tryd.prog 27 #[.pointer (some ⟨M, 0, none⟩), .slice (some ⟨w1.heap.size, 0, none⟩) 1 1, .int .i64 1] w2 _ from
    add_any (hist := .slice none 0 0) [([97], true)] (some ⟨w1.heap.size, 0, none⟩) 1 1 w2 (hm.below hb2) hr2 (fun e => by cases e) (fun b eb => by cases eb; show w1.heap.size ≠ M; omega) (by omega) rfl (by omega))
  have HM := Lib.hid (hm.below hb2)
  have HT := Lib.hid (ht.below hb2)
  have HR := Lib.hid hr2
  have HS := Lib.hid hs2
  have HLT := Lib.hid (show M < w1.heap.size ∧ w.heap.size < w1.heap.size from ⟨hM1, hm1⟩)
  have HB := Lib.hid (hb1.trans (hb2.mono (by omega)))
  clear hm ht hb1 hb2 hr2 hs2 hM1 hm1 hmm
  go_wp2_with fail
  rw [show (Value.string { data := #[97] }) = .string ⟨([97] : List UInt8).toArray⟩ from rfl, ← hw2]
  clear hw2
  refine HADD.out.mono ?_
  rintro e w3 (⟨h, _⟩ | ⟨_, rfl, b, v1, hm3, hb3, ho3, hbg, hbM, hbm, hk3⟩)
  · exact absurd (addE_one (by omega) (by omega)) h
  rw [show (0 : Int) + 1 = 1 from rfl] at hm3 ⊢
  rw [show (0 : Nat) + 1 = 1 from rfl] at hm3
  have hs3 := hk3.size
  have hT3 := HT.out.keepM HM.out hk3
  have hR3 := HR.out.keepM hk3 (fun a ea => by cases ea; have := HLT.out; exact ⟨by show w1.heap.size ≠ M; omega, by show w1.heap.size ≠ w.heap.size; omega⟩)
  have HADD2 := Lib.hid (show Calls Tryd.prog 27 #[.pointer (some ⟨M, 0, none⟩), .slice (some ⟨w1.heap.size, 0, none⟩) 1 1, .int .i64 1] w3 _ from
    add_any (hist := .slice none 0 0) [([97], true)] (some ⟨w1.heap.size, 0, none⟩) 1 1 w3 hm3 hR3 (fun e => by cases e) (fun a ea => by cases ea; have := HLT.out; show w1.heap.size ≠ M; omega) (by omega) rfl (by omega))
  have HM3 := Lib.hid hm3
  have HT3 := Lib.hid hT3
  have HB3 := Lib.hid (HB.out.trans (hk3.below HM.out.lo.1 HM.out.lo.2 HB.out.size))
  obtain ⟨g1, c1, rfl, hc1, hg1, hr1, _⟩ := row_some ho3 (by simp)
  have HR1 := Lib.hid hr1
  have HT1 := Lib.hid hb3
  have HN := Lib.hid (show M < w2.heap.size ∧ w.heap.size < w2.heap.size ∧ w2.heap.size ≤ g1 ∧ w2.heap.size ≤ b ∧ b < w3.heap.size from ⟨by have := HLT.out; have := HS.out; omega, by have := HLT.out; have := HS.out; omega, hg1, hbg, block_lt hb3⟩)
  clear hm3 hb3 ho3 hk3 hT3 hR3 hs3 HADD HM HT HR hr1 hg1 hbg
  go_wp2_with fail
  refine HADD2.out.mono ?_
  rintro e w4 (⟨h, _⟩ | ⟨_, rfl, b2, v2, hm4, hb4, ho4, hbg4, hbM4, hbm4, hk4⟩)
  · exact absurd (addE_one (by omega) (by omega)) h
  rw [show (1 : Int) + 1 = 2 from rfl] at hm4 ⊢
  rw [show (1 : Nat) + 1 = 2 from rfl] at hm4
  obtain ⟨g2, c2, rfl, hc2, hg2, hr2, cur2, hcur2⟩ := row_some ho4 (by simp)
  have hN := HN.out
  have hT4 := HT3.out.keepM HM3.out hk4
  have hR14 := HR1.out.keepM hk4 (fun a ea => by cases ea; exact ⟨by show g1 ≠ M; omega, by show g1 ≠ w.heap.size; omega⟩)
  have hbb : b < w3.heap.size := hN.2.2.2.2
  have hT14 := (hk4.block b hbb hbM hbm).trans HT1.out
  have hB4 := HB3.out.trans (hk4.below HM3.out.lo.1 HM3.out.lo.2 HB3.out.size)
  have HRUN := Lib.hid (run_took (i := 1) (nh := 0) hm4 (WalkArith.wf_i64 ⟨by omega, by omega⟩) (b := b) rfl hT4 Agr.nil hT14 hc1 hR14 (by unfold okS maxLen; decide) (by decide) ⟨[], World.ownsRow_nil _ _ _ _⟩ (by have := HB.out.size; omega) (by omega) (by omega) (by omega))
  have HM4 := Lib.hid hm4
  have HB4 := Lib.hid hB4
  have HR2 := Lib.hid hr2
  have HT2 := Lib.hid hb4
  have HCUR := Lib.hid hcur2
  have HN2 := Lib.hid (show b2 ≠ M ∧ b2 ≠ b ∧ w3.heap.size ≤ g2 from ⟨hbM4, by omega, hg2⟩)
  clear hm4 hb4 ho4 hk4 hT4 hR14 hT14 hB4 hr2 HADD2 HM3 HT3
  go_wp2_with fail
  refine HRUN.out.mono ?_
  rintro e w5 ⟨rfl, hist5, A5, p5, q5, ec5, hO5, hMid5⟩
  obtain ⟨w6, hw6⟩ : ∃ w6, w6 = w5.alloc (.cells #[.int .i64 1, .int .i64 1, .int .i64 1] 101) := ⟨_, rfl⟩
  have hb6 : Below w5.heap.size w5 w6 := by rw [hw6]; exact (Below.refl _ _).alloc (Nat.le_refl _) _
  have hx6 : w6.heap[w5.heap.size]? = some (.cells #[.int .i64 1, .int .i64 1, .int .i64 1] 101 (0, 0)) := by rw [hw6]; exact alloc_new _ _
  have hL5 : w.heap.size ≤ w5.heap.size := (HB4.out.trans hMid5.low).size
  have hMid6 := hMid5.cl hb6 hL5
  obtain ⟨F6, t6, a6⟩ := hMid6.tab
  have HRUN2 := Lib.hid (run_ended (i := 1) hMid6.mach (WalkArith.wf_i64 ⟨by omega, by omega⟩) (b := b) rfl rfl t6 a6 (A0 := A5) (c0 := c1 - 1) (tk := 0 + 1) (dn := 0) hMid6.task (hO5.below hb6) (by have := HN.out; have := HB.out.size; omega) (by omega) (by omega))
  have HM6 := Lib.hid hMid6
  have HX6 := Lib.hid hx6
  have HZ := Lib.hid (show b < w5.heap.size ∧ M < w5.heap.size ∧ w5.heap.size ≤ w6.heap.size ∧ (∀ k, hist5.ownBlock = some k → k < w5.heap.size) ∧ (∀ k cs Tp, hist5.ownBlock = some k → w6.heap[k]? = some (.cells cs Tp (0, 0)) → Tp = 101) ∧ w6.heap[b2]? = some (.cells #[.slice (some ⟨g2, 0, none⟩) 1 c2, .int .i64 0, .int .i64 0, .int .i64 1] 108 (0, 0)) ∧ w6.heap[g2]? = some (.cells cur2 99 (0, 0)) from ⟨block_lt hMid5.task, block_lt hMid5.mach.cell, hb6.size, fun k hk => by
    obtain ⟨xs, _, h2⟩ := hO5
    rcases h2 with ⟨e, _⟩ | ⟨g, c, cur, e, _, hg, _⟩
    · rw [e] at hk; cases hk
    · rw [e] at hk
      cases hk
      exact block_lt hg, fun k cs Tp hk hcs => by
    obtain ⟨xs, _, h2⟩ := hO5.below hb6
    rcases h2 with ⟨e, _⟩ | ⟨g, c, cur, e, _, hg, _⟩
    · rw [e] at hk; cases hk
    · rw [e] at hk
      cases hk
      rw [hg] at hcs
      cases hcs
      rfl, by
    have h1 := hMid5.cells b2 _ _ HN2.out.2.1 HN2.out.1 (fun e => by cases e) HT2.out
    exact (hb6.block _ (block_lt h1)).trans h1, by
    have hn := HN.out
    have hn2 := HN2.out
    have h1 := hMid5.cells g2 _ _ (by omega) (by omega) (fun e => by cases e) HCUR.out
    exact (hb6.block _ (block_lt h1)).trans h1⟩)
  have HBW := Lib.hid (show Below w.heap.size w4 w6 from hMid6.low)
  clear hb6 hx6 hMid5 hMid6 hO5 t6 a6 HRUN
  go_wp2_with fail
  rw [← hw6]
  clear hw6
  refine HRUN2.out.mono ?_
  rintro e w7 ⟨rfl, hist7, p7, q7, ec7, hO7, hMid7⟩
  obtain ⟨w8, hw8⟩ : ∃ w8, w8 = w7.alloc (.cells #[.int .i64 1, .int .i64 3, .int .i64 1] 101) := ⟨_, rfl⟩
  have hb8 : Below w7.heap.size w7 w8 := by rw [hw8]; exact (Below.refl _ _).alloc (Nat.le_refl _) _
  have hx8 : w8.heap[w5.heap.size]? = some (.cells #[.int .i64 1, .int .i64 1, .int .i64 1] 101 (0, 0)) := by
    have hz := HZ.out
    have h1 := hMid7.cells w5.heap.size _ _ (by omega) (by omega) (fun e => by have := hz.2.2.2.1 _ e.symm; omega) HX6.out
    exact (hb8.block _ (block_lt h1)).trans h1
  have hy8 : w8.heap[w7.heap.size]? = some (.cells #[.int .i64 1, .int .i64 3, .int .i64 1] 101 (0, 0)) := by rw [hw8]; exact alloc_new _ _
  have hL7 : w.heap.size ≤ w7.heap.size := Nat.le_trans (Nat.le_trans hL5 HZ.out.2.2.1) hMid7.low.size
  have hMid8 := hMid7.cl hb8 hL7
  have c81 : w8.cell? ⟨w5.heap.size, 1, none⟩ = some (.int .i64 1) := block_cell hx8
  have c82 : w8.cell? ⟨w7.heap.size, 1, none⟩ = some (.int .i64 3) := block_cell hy8
  rw [hw8] at c81 c82
  have h2a : w8.heap[b2]? = some (.cells #[.slice (some ⟨g2, 0, none⟩) 1 c2, .int .i64 0, .int .i64 0, .int .i64 1] 108 (0, 0)) := by
    have h1 := hMid7.cells b2 _ _ HN2.out.2.1 HN2.out.1 (fun e => by have := HZ.out.2.2.2.2.1 b2 _ _ e.symm HZ.out.2.2.2.2.2.1; cases this) HZ.out.2.2.2.2.2.1
    exact (hb8.block _ (block_lt h1)).trans h1
  have h2b : RdA w8 (some ⟨g2, 0, none⟩) (wants2 [([97], true)]) := by
    have hn := HN.out
    have hn2 := HN2.out
    have h1 := hMid7.cells g2 _ _ (by omega) (by omega) (fun e => by have := HZ.out.2.2.2.2.1 g2 _ _ e.symm HZ.out.2.2.2.2.2.2; cases this) HZ.out.2.2.2.2.2.2
    exact HR2.out.same (((hb8.block _ (block_lt h1)).trans h1).trans HCUR.out.symm)
  obtain ⟨F8, t8, a8⟩ := hMid8.tab
  have HRDY := Lib.hid (ready_one (i := 2) hMid8.mach (WalkArith.wf_i64 ⟨by omega, by omega⟩) (b := b2) rfl t8 a8 h2a (l := []) rfl h2b (by unfold okS maxLen; decide) (by simp) (by decide))
  have HB8 := Lib.hid (show Below w.heap.size w w8 from HB4.out.trans (HBW.out.trans hMid8.low))
  rw [hw8] at HRDY HB8
  clear h2a h2b t8 a8 hMid8 hMid7 hO7 hx8 hy8 hb8
  go_wp2_with fail
  refine HRDY.out.mono ?_
  rintro e w9 ⟨A9, c9, rfl, hr9, hb9⟩
  obtain ⟨wA, hwA⟩ : ∃ wA, wA = w9.alloc (.cells #[.int .i64 2] 3) := ⟨_, rfl⟩
  have hbA : Below w9.heap.size w9 wA := by rw [hwA]; exact (Below.refl _ _).alloc (Nat.le_refl _) _
  have HINT := Lib.hid (show Calls Tryd.prog 37 #[.slice A9 1 c9, .slice (some ⟨w9.heap.size, 0, none⟩) 1 1] wA _ from
    intst_any A9 (some ⟨w9.heap.size, 0, none⟩) c9 1 [2] [2] wA (hr9.below hbA) (by rw [hwA]; exact RdA.one _ _ _) (by simp))
  have HB9 := Lib.hid (HB8.out.trans ((hb9.mono HB8.out.size).trans (hbA.mono (Nat.le_trans HB8.out.size hb9.size))))
  clear hr9 hb9 hbA
  go_wp2_with fail
  rw [← hwA]
  refine HINT.out.mono ?_
  rintro e wB ⟨rfl, hbB⟩
  simp only [decide_true]
  have HBB := Lib.hid (HB9.out.trans (hbB.mono HB9.out.size))
  clear hbB hwA
  go_wp2_with fail
  go_ret
  exact ⟨rfl, HBB.out⟩
end Go.Proofs.YtnnadhfpkplncaaDoor
