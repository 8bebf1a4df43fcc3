/- Run: a name taken. Condition: the machine and the task read. -/
import Derived.Test.YtnnadhfpkplncaaDoorTkRun
import Derived.Test.YtnnadhfpkplncaaDoorTkRef
namespace Go.Proofs.YtnnadhfpkplncaaDoor
open Go.RowKit Go.Maps

def OwnE (L : Nat) (w : World) (v : Value) (n : Nat) : Prop := ∃ xs, w.ownsRow L 101 3 v n xs
theorem OwnE.below {L : Nat} {w w' : World} {v : Value} {n : Nat} (h : OwnE L w v n) (k : Below w.heap.size w w') : OwnE L w' v n := by
  obtain ⟨xs, h⟩ := h
  exact ⟨xs, own_keepC h (Keep.of k (Nat.zero_le _) : Keep 0 w w')⟩
theorem OwnE.set {w : World} {v u : Value} {L n g o : Nat} {cs : Array Value} {Tp : TypeId} (h : OwnE L w v n) (hg : w.heap[g]? = some (.cells cs Tp (0, 0))) (hT : Tp ≠ 101) : OwnE L (w.setCell ⟨g, o, none⟩ u) v n := by
  obtain ⟨xs, h⟩ := h
  refine ⟨xs, h.1, ?_⟩
  rcases h.2 with h2 | ⟨q, c, cur, e, hb, hq, x⟩
  · exact Or.inl h2
  · refine Or.inr ⟨q, c, cur, e, hb, (Below.heap_setCell _ _ _ _ (show q ≠ g from fun e2 => ?_)).trans hq, x⟩
    rw [e2, hg] at hq
    cases hq
    exact hT rfl
theorem OwnE.keep {L K : Nat} {w w' : World} {v : Value} {n : Nat} (h : OwnE L w v n) (k : Keep K w w') : OwnE L w' v n := by
  obtain ⟨xs, h⟩ := h
  exact ⟨xs, own_keepC h k⟩
theorem Mid.drew {h0 : Value} {L N : Nat} {W w : World} {M m t b : Nat} {lim last : Int} {hist : Value} {n : Nat} {T : Int → Option Nat} {r : List Held} {bc : Array Value} {p q : Nat} {ec : Array Value} (h : Mid h0 L N W w M m t b lim last hist n T r bc p q ec) (hL : L ≤ W.heap.size) :
    Mid h0 L N W w.drew M m t b lim last hist n T r bc p q ec := h.cl (Below.refl _ _).drew (Nat.le_trans hL h.low.size)
theorem OwnE.drew {L : Nat} {w : World} {v : Value} {n : Nat} (h : OwnE L w v n) : OwnE L w.drew v n := h
/-- Both cells of what was done are stored, in whatever order. -/
theorem Mid.both {h0 : Value} {L N : Nat} {W w : World} {M m t b : Nat} {lim last : Int} {hist : Value} {n nh : Nat} {T : Int → Option Nat} {r : List Held} {bc : Array Value} {p q : Nat} {e0 e1 e2 : Value} (h : Mid h0 L N W w M m t b lim last hist n T r bc p q #[e0, e1, e2]) (ho : OwnE L w hist nh) (hoq : ∀ k, hist.ownBlock = some k → k ≠ q) (v1 v2 : Value)
    (hL : L ≤ W.heap.size) (hq : W.heap.size ≤ q) (hpq : p ≠ q) :
    (Mid h0 L N W ((w.setCell ⟨q, 1, none⟩ v1).setCell ⟨q, 2, none⟩ v2) M m t b lim last hist n T r bc p q #[e0, v1, v2] ∧ OwnE L ((w.setCell ⟨q, 1, none⟩ v1).setCell ⟨q, 2, none⟩ v2) hist nh) ∧
    (Mid h0 L N W ((w.setCell ⟨q, 2, none⟩ v2).setCell ⟨q, 1, none⟩ v1) M m t b lim last hist n T r bc p q #[e0, v1, v2] ∧ OwnE L ((w.setCell ⟨q, 2, none⟩ v2).setCell ⟨q, 1, none⟩ v1) hist nh) := by
  have own : ∀ (w' : World), (∀ k, k ≠ q → w'.heap[k]? = w.heap[k]?) → OwnE L w' hist nh := fun w' hk => by
    obtain ⟨xs, h1, h2⟩ := ho
    refine ⟨xs, h1, ?_⟩
    rcases h2 with h2 | ⟨g, c, cur, e, hb, hg, x⟩
    · exact Or.inl h2
    · exact Or.inr ⟨g, c, cur, e, hb, (hk g (hoq g (by rw [e]; rfl))).trans hg, x⟩
  exact ⟨⟨(h.setE 1 v1 hL hq hpq).setE 2 v2 hL hq hpq, own _ fun k hk => (Below.heap_setCell _ ⟨q, 2, none⟩ _ k hk).trans (Below.heap_setCell _ ⟨q, 1, none⟩ _ k hk)⟩,
    ⟨(h.setE 2 v2 hL hq hpq).setE 1 v1 hL hq hpq, own _ fun k hk => (Below.heap_setCell _ ⟨q, 1, none⟩ _ k hk).trans (Below.heap_setCell _ ⟨q, 2, none⟩ _ k hk)⟩⟩
/-- What was done is laid by. -/
theorem Mid.hist {L N : Nat} {W wb wa : World} {M m t b : Nat} {lim last : Int} {hist : Value} {n nh : Nat} {T : Int → Option Nat} {r : List Held} {bc : Array Value} {p q : Nat} {ec : Array Value} (h : Mid hist L N W wb M m t b lim last hist n T r bc p q ec) (hO : OwnE L wb hist nh)
    (hoq : ∀ k, hist.ownBlock = some k → k ≠ q ∧ k ≠ p ∧ L ≤ k) {Av : Option Addr} {cv : Nat} {xs : List Value} (ga : wb.grownBy wa hist.ownBlock) (owa : wa.ownsRow L 101 3 (.slice Av (nh + 1) cv) (nh + 1) xs) (hL : L ≤ W.heap.size) :
    Mid hist L N W (wa.setCell ⟨M, 4, none⟩ (.slice Av (nh + 1) cv)) M m t b lim last (.slice Av (nh + 1) cv) n T r bc p q ec ∧ OwnE L (wa.setCell ⟨M, 4, none⟩ (.slice Av (nh + 1) cv)) (.slice Av (nh + 1) cv) (nh + 1) := by
  have typ : ∀ k, hist.ownBlock = some k → ∃ cur, wb.heap[k]? = some (.cells cur 101 (0, 0)) := fun k hk => by
    obtain ⟨ys, _, h2⟩ := hO
    rcases h2 with ⟨e, _⟩ | ⟨g, c, cur, e, _, hg, _⟩
    · rw [e] at hk; cases hk
    · rw [e] at hk
      cases hk
      exact ⟨cur, hg⟩
  have keep : ∀ (g : Nat) (cs : Array Value) (Tp : TypeId), wb.heap[g]? = some (.cells cs Tp (0, 0)) → Tp ≠ 101 → wa.heap[g]? = some (.cells cs Tp (0, 0)) := fun g cs Tp e hT => by
    refine (ga.block g (block_lt e) fun e2 => ?_).trans e
    obtain ⟨cur, hc⟩ := typ g e2.symm
    rw [e] at hc
    injection hc with hc
    injection hc with _ hc _
    exact hT hc
  have hM := keep _ _ _ h.mach.cell (by decide)
  have hb := keep _ _ _ h.task (by decide)
  have hq : wa.heap[q]? = some (.cells ec 101 (0, 0)) := (ga.block q (block_lt h.ev) fun e => (hoq q e.symm).1 rfl).trans h.ev
  obtain ⟨c0, c1, c2, hr⟩ := h.res
  have hp : wa.heap[p]? = some (.cells #[c0, c1, c2] 101 (0, 0)) := (ga.block p (block_lt hr) fun e => (hoq p e.symm).2.1 rfl).trans hr
  have set : ∀ k, k ≠ M → (wa.setCell ⟨M, 4, none⟩ (.slice Av (nh + 1) cv)).heap[k]? = wa.heap[k]? := fun k hk => Below.heap_setCell _ _ _ _ hk
  have neT : ∀ (g : Nat) (cs : Array Value) (Tp : TypeId), wa.heap[g]? = some (.cells cs Tp (0, 0)) → Tp ≠ 97 → g ≠ M := fun g cs Tp e hT e2 => by
    rw [e2, hM] at e
    injection e with e
    injection e with _ e _
    exact hT e.symm
  have s1 : Soft wb wa := Soft.grown ga fun k hk => by
    obtain ⟨cur, hc⟩ := typ k hk
    exact ⟨cur, _, _, hc, by decide⟩
  have h1 : Mid hist L N W wa M m t b lim last hist n T r bc p q ec := h.next s1 hM hb hq ⟨c0, c1, c2, hp⟩ (fun g cs Tp _ _ hT _ e => (ga.block g (block_lt e) hT).trans e)
    (h.low.grown ga (Nat.le_trans hL h.low.size) fun k hk => (hoq k hk).2.2)
  refine ⟨h1.next (Soft.set hM (by decide)) (heap_setCell_same wa M 4 _ 97 _ hM) ((set b (neT _ _ _ hb (by decide))).trans hb) ((set q (neT _ _ _ hq (by decide))).trans hq) ⟨c0, c1, c2, (set p (neT _ _ _ hp (by decide))).trans hp⟩
    (fun g cs Tp _ h2 _ _ e => (set g h2).trans e) (below_set h1.low h.mach.lo.1), OwnE.set ⟨xs, owa⟩ hM (by decide)⟩
/-- What comes back is laid into its box. -/
theorem Mid.setP {h0 : Value} {L N : Nat} {W w : World} {M m t b : Nat} {lim last : Int} {hist : Value} {n nh : Nat} {T : Int → Option Nat} {r : List Held} {bc : Array Value} {p q : Nat} {ec : Array Value} (h : Mid h0 L N W w M m t b lim last hist n T r bc p q ec) (hO : OwnE L w hist nh) (hop : ∀ k, hist.ownBlock = some k → k ≠ p)
    (a0 a1 a2 : Value) (hL : L ≤ W.heap.size) (hp : W.heap.size ≤ p) (hpq : q ≠ p) : Mid h0 L N W (w.setRow p #[a0, a1, a2]) M m t b lim last hist n T r bc p q ec ∧ OwnE L (w.setRow p #[a0, a1, a2]) hist nh := by
  obtain ⟨c0, c1, c2, hr⟩ := h.res
  have keep : ∀ k, k ≠ p → (w.setRow p #[a0, a1, a2]).heap[k]? = w.heap[k]? := fun k hk => setRow_other w p k _ hk
  have n1 : M ≠ p := fun e => by have := h.mach.cell; rw [e, hr] at this; injection this with this; injection this with _ this _; cases this
  have n2 : b ≠ p := fun e => by have := h.task; rw [e, hr] at this; injection this with this; injection this with _ this _; cases this
  have hb : Below L W (w.setRow p #[a0, a1, a2]) := h.low.trans (below_setRow (by omega))
  have hg : w.grownBy (w.setRow p #[a0, a1, a2]) (some p) := ⟨rfl, rfl, rfl, by simp, fun k _ hk => keep k (fun e => hk (by rw [e]))⟩
  refine ⟨h.next (Soft.grown hg fun k hk => by cases hk; exact ⟨_, _, _, hr, by decide⟩) ((keep M n1).trans h.mach.cell) ((keep b n2).trans h.task) ((keep q hpq).trans h.ev) ⟨a0, a1, a2, setRow_heap w p _ _ _ _ hr⟩ (fun g cs Tp _ _ _ hg e => (keep g (by omega)).trans e) hb, ?_⟩
  obtain ⟨xs, h1, h2⟩ := hO
  refine ⟨xs, h1, ?_⟩
  rcases h2 with h2 | ⟨g, c, cur, e, hb, hq, x⟩
  · exact Or.inl h2
  · exact Or.inr ⟨g, c, cur, e, hb, (keep g (hop g (by rw [e]; rfl))).trans hq, x⟩
theorem stop_loadE {P : Program} {ops : Array Oper} {rest : List Oper} {o : Oper} {a : Act} {w : World} {Q : Exit → Act → World → Prop} (x : Operand) (_ : o.op = .load 101 x) (h : Hid (wpList P ops Q (o :: rest) a w)) : wpList P ops Q (o :: rest) a w := h.out
theorem infoTEVT : (Tryd.prog.info? 101).map (fun i => (i.zero, i.size, i.bytes)) = some (some (.agg #[.int .i64 0, .int .i64 0, .int .i64 0]), 3, 24) := by kernel_rfl
set_option maxRecDepth 100000 in
set_option maxHeartbeats 6400000 in
theorem run_took {L N : Nat} {W : World} {M m t b : Nat} {lim last : Int} {hist : Value} {n nh : Nat} {T : Int → Option Nat} {F : Int → List UInt8 → Int} {r : List Held} (h : Mach L W M m t lim last hist n T) {i : Int} (hi : wfI i) (hT : T i = some b)
    (ht : Tab (m + 1) N W t F) (ha : Agr F r) {g o c : Nat} {tk dn st : Int} {x : Want} (hb : W.heap[b]? = some (.cells #[.slice (some ⟨g, o, none⟩) 1 c, .int .i64 tk, .int .i64 dn, .int .i64 st] 108 (0, 0))) (hc : 1 ≤ c)
    (hr : RdA W (some ⟨g, o, none⟩) (wants2 [x])) (hx : okS x.1) (hmay : refMay r i x.1 x.2 = 0) (hO : OwnE L W hist nh) (hLb : L ≤ b) (hN : N ≤ 100000) (htk : 0 ≤ tk ∧ tk ≤ 100000) (hnh : nh ≤ 100000) :
    Calls Tryd.prog 36 #[.pointer (some ⟨M, 0, none⟩), .int .i64 i] W fun e w' => e = .returned (.tuple #[.agg #[.int .i64 i, .int .i64 1, .int .i64 (tk + 1)], .nilIface]) ∧
      ∃ hist' A' p q ec, OwnE L w' hist' (nh + 1) ∧ Mid hist L (N + 3) W w' M m t b lim last hist' n T (rtakeL r i x.1 x.2) #[.slice A' 0 (c - 1), .int .i64 (tk + 1), .int .i64 dn, .int .i64 st] p q ec := by
  obtain ⟨b', o', eA, f1, f2⟩ := want_at hr (i := 0) (x := x) rfl
  cases eA
  simp only [Nat.zero_mul, Nat.add_zero] at f1 f2
  obtain ⟨x1, x2⟩ := x
  have HW := Lib.hid (block_lt hb)
  -- the world with the box of what comes back and the box of what is done
  obtain ⟨w1, hw1⟩ : ∃ w1, w1 = W.alloc (.cells #[.int .i64 0, .int .i64 0, .int .i64 0] 101) := ⟨_, rfl⟩
  have hb1 : Below W.heap.size W w1 := by rw [hw1]; exact (Below.refl _ _).alloc (Nat.le_refl _) _
  have HM1 := Lib.hid (h.below hb1)
  obtain ⟨w2, hw2⟩ : ∃ w2, w2 = w1.alloc (.cells #[.int .i64 i, .int .i64 0, .int .i64 0] 101) := ⟨_, rfl⟩
  have hs1 : w1.heap.size = W.heap.size + 1 := by rw [hw1, World.size_alloc]
  have hb2 : Below W.heap.size W w2 := hb1.trans (by rw [hw2]; exact (Below.refl _ _).alloc (by omega) _)
  have HS2 := Lib.hid (show w2.heap.size = W.heap.size + 2 by rw [hw2, World.size_alloc, hs1])
  have HB2 := Lib.hid hb2
  have HT2 := Lib.hid (ht.below hb2)
  have HM2 := Lib.hid (h.below hb2)
  have HTK := Lib.hid (hb2.block b (block_lt hb) |>.trans hb)
  have HE2 := Lib.hid (show w2.heap[W.heap.size + 1]? = some (.cells #[.int .i64 i, .int .i64 0, .int .i64 0] 101 (0, 0)) by rw [hw2, ← hs1]; exact alloc_new _ _)
  have HR2 := Lib.hid (show w2.heap[W.heap.size]? = some (.cells #[.int .i64 0, .int .i64 0, .int .i64 0] 101 (0, 0)) by rw [hw2, heap_alloc_old _ _ _ (by omega), hw1]; exact alloc_new _ _)
  have HLW := Lib.hid (show L ≤ W.heap.size by have := h.lo.1; have := block_lt h.cell; omega)
  have HO := Lib.hid hO
  have HO2 := Lib.hid (hO.below hb2)
  have HTAKE := Lib.hid (take_both i x1 x2 w2.drew (tab_drew HT2.out) ha hi hx (by have := HM2.out.mlt; have : w2.drew.heap.size = w2.heap.size := rfl; omega) hN)
  rw [show refMay r i x1 x2 = 0 from hmay] at HTAKE
  have d3 : w2.cell? ⟨M, 3, none⟩ = some (.pointer (some ⟨t, 0, none⟩)) := block_cell HM2.out.cell
  have e0 : w2.cell? ⟨b, 0, none⟩ = some (.slice (some ⟨g, o, none⟩) 1 c) := block_cell HTK.out
  have f3 : w2.cell? ⟨g, o, none⟩ = some (.string ⟨x1.toArray⟩) := (World.cell?_of_block (hb2.block g (cell_lt f1))).trans f1
  have f4 : w2.cell? ⟨g, o + 1, none⟩ = some (.bool x2) := (World.cell?_of_block (hb2.block g (cell_lt f2))).trans f2
  have e0l := e0
  rw [hw2, hw1] at e0l
  have HA := Lib.hid ha
  have HX := Lib.hid hx
  clear h ht ha hb hr hx hO hb1 hb2 f1 f2 hmay
  have HHT := Lib.hid hT
  clear hT
  go_enter Tryd.func36, Tryd.ntmps36
  go_wp2_with fail
  rw [← hw1]
  refine (find_any HM1.out hi HHT.out).mono ?_
  rintro e w1' ⟨rfl, hw1'⟩
  subst hw1'
  rw [hw1]
  go_wp2_with fail
  rw [← hw1, ← hw2]
  clear hw1 hw2 e0l hs1
  go_region_held3 (fun w' => w'.cell? ⟨M, 3, none⟩ = some (.pointer (some ⟨t, 0, none⟩)) ∧ w'.cell? ⟨b, 0, none⟩ = some (.slice (some ⟨g, o, none⟩) 1 c) ∧ w'.cell? ⟨g, o, none⟩ = some (.string ⟨x1.toArray⟩) ∧ w'.cell? ⟨g, o + 1, none⟩ = some (.bool x2)) (first | exact ⟨d3, e0, f3, f4⟩ | exact ⟨d35, e05, f35, f45⟩)
    (first
    | (go_at_call 9; refine HTAKE.out.mono ?_; rintro e w5 ⟨rfl, ht5, hk5⟩; have d35 := cell_keep hk5 d3; have e05 := cell_keep hk5 e0; have f35 := cell_keep hk5 f3; have f45 := cell_keep hk5 f4; have HT5 := Lib.hid ht5; have HK5 := Lib.hid hk5; clear ht5 hk5; rw [show errV 0 = .nilIface from rfl]))
  have HMID := Lib.hid (show Mid hist L (N + 3) W w5 M m t b lim last hist n T (rtakeL r i x1 x2) #[.slice (some ⟨g, o, none⟩) 1 c, .int .i64 tk, .int .i64 dn, .int .i64 st] W.heap.size (W.heap.size + 1) #[.int .i64 i, .int .i64 0, .int .i64 0] from
    ⟨HM2.out.same ((HK5.out.cells _ _ _ _ HM2.out.cell).trans HM2.out.cell.symm) (HK5.out.bl.block m (Nat.lt_succ_self _)), HT5.out, HK5.out.cells _ _ _ _ HTK.out, HK5.out.cells _ _ _ _ HE2.out, ⟨_, _, _, HK5.out.cells _ _ _ _ HR2.out⟩,
      fun g cs Tp _ _ _ e => HK5.out.cells _ _ _ _ ((HB2.out.block g (block_lt e)).trans e), (HB2.out.mono HLW.out).trans (show Below L w2 w5 from ⟨HK5.out.bl.os, HK5.out.bl.tape, HK5.out.bl.output, HK5.out.bl.size, fun k hk => HK5.out.bl.block k (by have := HM2.out.lo.2; omega)⟩)⟩)
  have HOQ := Lib.hid (show ∀ k, hist.ownBlock = some k → k ≠ W.heap.size + 1 ∧ k ≠ W.heap.size ∧ L ≤ k from fun k hk => by
    obtain ⟨xs, h1, h2⟩ := HO.out
    rcases h2 with ⟨e, _⟩ | ⟨g', c', cur, e, hgl, hg, _⟩
    · rw [e] at hk; cases hk
    · rw [e] at hk
      cases hk
      have := block_lt hg
      show g' ≠ W.heap.size + 1 ∧ g' ≠ W.heap.size ∧ L ≤ g'
      exact ⟨by omega, by omega, hgl⟩)
  have HO5 := Lib.hid (OwnE.keep (show OwnE L w2.drew hist nh from HO2.out) HK5.out)
  clear d3 e0 f3 f4 d35 e05 f35 f45 HT5 HK5 HE2 HR2 HTAKE HT2 HM2 HM1 HTK
  have k0 : w5.cell? ⟨b, 0, none⟩ = some (.slice (some ⟨g, o, none⟩) 1 c) := block_cell HMID.out.task
  have k1 : w5.cell? ⟨b, 1, none⟩ = some (.int .i64 tk) := block_cell HMID.out.task
  have z0 : w5.frozen? ⟨b, 0, none⟩ = false := block_free HMID.out.task
  have z1 : w5.frozen? ⟨b, 1, none⟩ = false := block_free HMID.out.task
  have htw : IntKind.i64.wrap (tk + 1) = tk + 1 := IntWalk.i64_in _ (by omega)
  by_cases hc1 : c = 1
  · subst hc1
    go_wp2
    have HM6 := Lib.hid (show Mid hist L (N + 3) W ((w5.setCell ⟨b, 0, none⟩ (.slice (some ⟨g, o, none⟩) 0 (0))).setCell ⟨b, 1, none⟩ (.int .i64 (tk + 1))) M m t b lim last hist n T (rtakeL r i x1 x2) #[.slice (some ⟨g, o, none⟩) 0 (0), .int .i64 (tk + 1), .int .i64 dn, .int .i64 st] W.heap.size (W.heap.size + 1) #[.int .i64 i, .int .i64 0, .int .i64 0] from
      (HMID.out.setB 0 (.slice (some ⟨g, o, none⟩) 0 (0)) hLb).setB 1 (.int .i64 (tk + 1)) hLb)
    have HO6 := Lib.hid (OwnE.set (u := .int .i64 (tk + 1)) (o := 1) (OwnE.set (u := .slice (some ⟨g, o, none⟩) 0 (0)) (o := 0) HO5.out HMID.out.task (by decide)) (HMID.out.setB 0 (.slice (some ⟨g, o, none⟩) 0 (0)) hLb).task (by decide))
    generalize (w5.setCell ⟨b, 0, none⟩ (.slice (some ⟨g, o, none⟩) 0 (0))).setCell ⟨b, 1, none⟩ (.int .i64 (tk + 1)) = w6 at *
    clear k0 k1 z0 z1 HMID HO5
    go_cut [] from 67 to 109 (fun w' => Hid (Mid hist L (N + 3) W w' M m t b lim last hist n T (rtakeL r i x1 x2) #[.slice (some ⟨g, o, none⟩) 0 (0), .int .i64 (tk + 1), .int .i64 dn, .int .i64 st] W.heap.size (W.heap.size + 1) #[.int .i64 i, .int .i64 1, .int .i64 (tk + 1)]) ∧ Hid (OwnE L w' hist nh))
    case first =>
      have q1 : w6.cell? ⟨b, 1, none⟩ = some (.int .i64 (tk + 1)) := block_cell HM6.out.task
      have q2 : w6.cell? ⟨W.heap.size + 1, 1, none⟩ = some (.int .i64 0) := block_cell HM6.out.ev
      have q3 : w6.cell? ⟨W.heap.size + 1, 2, none⟩ = some (.int .i64 0) := block_cell HM6.out.ev
      have q4 : w6.frozen? ⟨W.heap.size + 1, 1, none⟩ = false := block_free HM6.out.ev
      have q5 : w6.frozen? ⟨W.heap.size + 1, 2, none⟩ = false := block_free HM6.out.ev
      have hbq : ¬ b = W.heap.size + 1 := by have := HW.out; omega
      have hqb : ¬ W.heap.size + 1 = b := by have := HW.out; omega
      have HBO := Lib.hid (HM6.out.both HO6.out (fun k hk => (HOQ.out k hk).1) (.int .i64 1) (.int .i64 (tk + 1)) HLW.out (Nat.le_succ _) (Nat.ne_of_lt (Nat.lt_succ_self _)))
      go_region
      all_goals
        go_wp2
        go_meet
        case rel => first | exact ⟨HBO.out.1.1.drew HLW.out, HBO.out.1.2.drew⟩ | exact ⟨HBO.out.2.1.drew HLW.out, HBO.out.2.2.drew⟩
    case rest =>
      obtain ⟨HM7, HO7⟩ := hcut
      clear HM6 HO6
      obtain ⟨w7, hw7⟩ : ∃ w7, w7 = wc := ⟨_, rfl⟩
      rw [← hw7] at HM7 HO7 ⊢
      clear hw7
      go_wp2
      go_cut [] from 99 to 109 (fun w' => ∃ hist', Hid (Mid hist L (N + 3) W w' M m t b lim last hist' n T (rtakeL r i x1 x2) #[.slice (some ⟨g, o, none⟩) 0 (0), .int .i64 (tk + 1), .int .i64 dn, .int .i64 st] W.heap.size (W.heap.size + 1) #[.int .i64 i, .int .i64 1, .int .i64 (tk + 1)]) ∧ Hid (OwnE L w' hist' (nh + 1)) ∧ Hid (∀ k, hist'.ownBlock = some k → k ≠ W.heap.size))
      case first =>
        have m4 : w7.cell? ⟨M, 4, none⟩ = some hist := block_cell HM7.out.mach.cell
        have m5 : w7.cell? ⟨W.heap.size + 1, 0, none⟩ = some (.int .i64 i) := block_cell HM7.out.ev
        have m6 : w7.cell? ⟨W.heap.size + 1, 1, none⟩ = some (.int .i64 1) := block_cell HM7.out.ev
        have m7 : w7.cell? ⟨W.heap.size + 1, 2, none⟩ = some (.int .i64 (tk + 1)) := block_cell HM7.out.ev
        obtain ⟨ob, hob⟩ : ∃ ob, ob = Obj.cells #[.int .i64 i, .int .i64 1, .int .i64 (tk + 1)] 101 := ⟨_, rfl⟩
        have HMB := Lib.hid ((HM7.out.drew HLW.out).cl ((Below.refl _ w7.drew).alloc (Nat.le_refl _) ob) (Nat.le_trans HLW.out HM7.out.low.size))
        have HOB := Lib.hid (OwnE.below (show OwnE L w7.drew hist nh from HO7.out) ((Below.refl _ w7.drew).alloc (Nat.le_refl _) ob))
        have HNEW := Lib.hid (show RdA (w7.drew.alloc ob) (some ⟨w7.heap.size, 0, none⟩) [.int .i64 i, .int .i64 1, .int .i64 (tk + 1)] from fun j u hj => ⟨_, _, rfl, by rw [Nat.zero_add, block_cell (by rw [hob]; exact alloc_new w7.drew _)]; simpa using hj⟩)
        rw [hob] at HMB HOB HNEW
        obtain ⟨iI, hiI, hz0, hz1, hz2⟩ := info_parts infoTEVT
        obtain ⟨xs, hxs⟩ := HOB.out
        have HXS := Lib.hid hxs
        have HLS := Lib.hid (Nat.le_trans HLW.out HM7.out.low.size)
        have HLM := Lib.hid (show M < w7.heap.size ∧ W.heap.size + 1 < w7.heap.size from ⟨block_lt HM7.out.mach.cell, block_lt HM7.out.ev⟩)
        clear hob hxs
        refine region_lastL (S := fun w' => w'.cell? ⟨M, 4, none⟩ = some hist ∧ w'.cell? ⟨W.heap.size + 1, 0, none⟩ = some (.int .i64 i) ∧ w'.cell? ⟨W.heap.size + 1, 1, none⟩ = some (.int .i64 1) ∧ w'.cell? ⟨W.heap.size + 1, 2, none⟩ = some (.int .i64 (tk + 1))) (by simp only [List.dropLast_cons_cons, List.dropLast_singleton]; rfl) rfl (by kernel_rfl) (by kernel_rfl) ⟨m4, m5, m6, m7⟩ (fun hS => ?_)
        refine takeR 0 (v := ?_) rfl (by kernel_rfl) (by kernel_rfl) (by kernel_rfl) (fun _ _ _ h => h) (Or.inl ⟨by rfl, ?_⟩) hS ?_
        rotate_left; · ((intro w hSw); (obtain ⟨s0, s1, s2, s3⟩ := hSw); go_simp; (try with_reducible rfl))
        try simp only [Act.put, List.setIfInBounds_toArray, List.set_cons_zero, List.set_cons_succ]
        refine takeR 1 (v := ?_) rfl (by kernel_rfl) (by kernel_rfl) (by kernel_rfl) (fun _ _ _ h => h) (Or.inl ⟨by rfl, ?_⟩) hS ?_
        rotate_left; · ((intro w hSw); (obtain ⟨s0, s1, s2, s3⟩ := hSw); go_simp; (try with_reducible rfl))
        try simp only [Act.put, List.setIfInBounds_toArray, List.set_cons_zero, List.set_cons_succ]
        refine takeR 2 (v := ?_) rfl (by kernel_rfl) (by kernel_rfl) (by kernel_rfl) (fun _ _ _ h => h) (Or.inl ⟨by rfl, ?_⟩) hS ?_
        rotate_left; · ((intro w hSw); (obtain ⟨s0, s1, s2, s3⟩ := hSw); go_simp; (try with_reducible rfl))
        try simp only [Act.put, List.setIfInBounds_toArray, List.set_cons_zero, List.set_cons_succ]
        refine takeR 3 (v := ?_) rfl (by kernel_rfl) (by kernel_rfl) (by kernel_rfl) (fun _ _ _ h => h) (Or.inl ⟨by rfl, ?_⟩) hS ?_
        rotate_left; · ((intro w hSw); (obtain ⟨s0, s1, s2, s3⟩ := hSw); go_simp; (try with_reducible rfl))
        try simp only [Act.put, List.setIfInBounds_toArray, List.set_cons_zero, List.set_cons_succ]
        refine takeR 4 (v := ?_) rfl (by kernel_rfl) (by kernel_rfl) (by kernel_rfl) (fun _ _ _ h => h) (Or.inl ⟨by rfl, ?_⟩) hS ?_
        rotate_left; · ((intro w hSw); (obtain ⟨s0, s1, s2, s3⟩ := hSw); go_simp; (try with_reducible rfl))
        try simp only [Act.put, List.setIfInBounds_toArray, List.set_cons_zero, List.set_cons_succ]
        refine takeR 5 (v := ?_) rfl (by kernel_rfl) (by kernel_rfl) (by kernel_rfl) (fun _ _ _ h => h) (Or.inl ⟨by rfl, ?_⟩) hS ?_
        rotate_left; · ((intro w hSw); (obtain ⟨s0, s1, s2, s3⟩ := hSw); go_simp; (try with_reducible rfl))
        try simp only [Act.put, List.setIfInBounds_toArray, List.set_cons_zero, List.set_cons_succ]
        refine oneR 6 (by kernel_rfl) rfl (fun K hK => ?_)
        go_simp
        refine hK.out _ _ ⟨(World.cell?_of_block (Below.heap_alloc _ _ _ HLM.out.1)).trans hS.1, (World.cell?_of_block (Below.heap_alloc _ _ _ HLM.out.2)).trans hS.2.1, (World.cell?_of_block (Below.heap_alloc _ _ _ HLM.out.2)).trans hS.2.2.1, (World.cell?_of_block (Below.heap_alloc _ _ _ HLM.out.2)).trans hS.2.2.2⟩ (fun hS => ?_)
        clear hK K
        try simp only [Act.put, List.setIfInBounds_toArray, List.set_cons_zero, List.set_cons_succ]
        refine oneR 7 (by kernel_rfl) rfl (fun K hK => ?_)
        refine step_append_src rfl _ _ 95 rfl L 101 iI _ 3 24 Tryd.underlying95 hiI hz0 hz1 hz2 rfl (by decide) hist nh xs (by go_simp) HXS.out (some ⟨w7.heap.size, 0, none⟩) 1 1 [.int .i64 i, .int .i64 1, .int .i64 (tk + 1)] (by go_simp) rfl HNEW.out (by simp [Value.oneCell']) (by unfold maxLen; omega) (by omega) (by simp; have := HLS.out; omega) ?_
        intro va wa owa ga hat
        obtain ⟨Av, cv, rfl, _, _, _⟩ := own_rdW owa
        have HNP := Lib.hid (show ∀ k, (Value.slice Av (nh + 1) cv).ownBlock = some k → k ≠ W.heap.size from fun k hk => by
          rcases hat with e | e
          · rw [e] at hk; exact (HOQ.out k hk).2.1
          · rw [e] at hk
            cases hk
            have := HLM.out.2
            simp
            omega)
        have HF := Lib.hid (HMB.out.hist HOB.out HOQ.out ga owa HLW.out)
        have hma : wa.heap[M]? = some (.cells #[.int .i64 lim, .int .i64 last, .map (some m), .pointer (some ⟨t, 0, none⟩), hist] 97 (0, 0)) := by
          refine (ga.block M (block_lt HMB.out.mach.cell) fun e => ?_).trans HMB.out.mach.cell
          have := HMB.out.mach.cell
          rcases HXS.out.2 with ⟨e2, _⟩ | ⟨g2, _, cur, e2, _, hg, _⟩
          · rw [e2] at e; cases e
          · rw [e2] at e
            cases e
            rw [hg] at this
            cases this
        have hqa := (ga.block (W.heap.size + 1) (block_lt HMB.out.ev) fun e => (HOQ.out _ e.symm).1 rfl).trans HMB.out.ev
        have k4 : wa.cell? ⟨M, 4, none⟩ = some hist := block_cell hma
        have kf : wa.frozen? ⟨M, 4, none⟩ = false := block_free hma
        refine hK.out _ _ ⟨k4, block_cell hqa, block_cell hqa, block_cell hqa⟩ (fun hS => ?_)
        clear hK K hma hqa owa ga hat
        try simp only [Act.put, List.setIfInBounds_toArray, List.set_cons_zero, List.set_cons_succ]
        refine takeR 8 (v := ?_) rfl (by kernel_rfl) (by kernel_rfl) (by kernel_rfl) (fun _ _ _ h => h) (Or.inl ⟨by rfl, ?_⟩) hS ?_
        rotate_left; · ((intro w hSw); (obtain ⟨s0, s1, s2, s3⟩ := hSw); go_simp; (try with_reducible rfl))
        try simp only [Act.put, List.setIfInBounds_toArray, List.set_cons_zero, List.set_cons_succ]
        refine takeR 9 (v := ?_) rfl (by kernel_rfl) (by kernel_rfl) (by kernel_rfl) (fun _ _ _ h => h) (Or.inl ⟨by rfl, ?_⟩) hS ?_
        rotate_left; · ((intro w hSw); (obtain ⟨s0, s1, s2, s3⟩ := hSw); go_simp; (try with_reducible rfl))
        try simp only [Act.put, List.setIfInBounds_toArray, List.set_cons_zero, List.set_cons_succ]
        refine endR (by kernel_rfl) rfl ?_
        go_simp
        go_wp2_with fail
        go_meet
        case rel => exact ⟨_, HF.out.1, HF.out.2, HNP⟩
      case rest =>
        obtain ⟨hist', HM8, HO8, HNP⟩ := hcut
        clear HM7 HO7
        go_wp2_with ((with_reducible refine stop_loadE _ rfl ?_))
        unfold Hid
        obtain ⟨c0, c1, c2, hrr⟩ := HM8.out.res
        refine wpList_load_row rfl 101 _ rfl (W.heap.size + 1) rfl 101 _ (0, 0) _ HM8.out.ev Tryd.underlying101 rfl (by kernel_rfl) ?_
        refine wpList_store_row rfl 101 _ _ rfl W.heap.size _ rfl rfl 101 _ hrr (by kernel_rfl) rfl (by simp [Value.oneCell']) ?_
        have HF := Lib.hid (HM8.out.setP HO8.out HNP.out (.int .i64 i) (.int .i64 1) (.int .i64 (tk + 1)) HLW.out (Nat.le_refl _) (by omega))
        have HR3 := Lib.hid (setRow_heap wc W.heap.size _ #[.int .i64 i, .int .i64 1, .int .i64 (tk + 1)] 101 _ hrr)
        generalize wc.setRow W.heap.size #[.int .i64 i, .int .i64 1, .int .i64 (tk + 1)] = wy at *
        clear hrr
        go_wp2
        refine bodyPost_ret (results_row_tmp rfl _ _ W.heap.size _ _ _ _ rfl HR3.out Tryd.underlying101 rfl (by kernel_rfl)) rfl ?_
        exact ⟨rfl, hist', _, _, _, _, HF.out.2, HF.out.1⟩
  · have hcc : 1 ≤ c := hc
    go_wp2
    have HM6 := Lib.hid (show Mid hist L (N + 3) W ((w5.setCell ⟨b, 0, none⟩ (.slice (some ⟨g, o + 2, none⟩) 0 (c - 1))).setCell ⟨b, 1, none⟩ (.int .i64 (tk + 1))) M m t b lim last hist n T (rtakeL r i x1 x2) #[.slice (some ⟨g, o + 2, none⟩) 0 (c - 1), .int .i64 (tk + 1), .int .i64 dn, .int .i64 st] W.heap.size (W.heap.size + 1) #[.int .i64 i, .int .i64 0, .int .i64 0] from
      (HMID.out.setB 0 (.slice (some ⟨g, o + 2, none⟩) 0 (c - 1)) hLb).setB 1 (.int .i64 (tk + 1)) hLb)
    have HO6 := Lib.hid (OwnE.set (u := .int .i64 (tk + 1)) (o := 1) (OwnE.set (u := .slice (some ⟨g, o + 2, none⟩) 0 (c - 1)) (o := 0) HO5.out HMID.out.task (by decide)) (HMID.out.setB 0 (.slice (some ⟨g, o + 2, none⟩) 0 (c - 1)) hLb).task (by decide))
    generalize (w5.setCell ⟨b, 0, none⟩ (.slice (some ⟨g, o + 2, none⟩) 0 (c - 1))).setCell ⟨b, 1, none⟩ (.int .i64 (tk + 1)) = w6 at *
    clear k0 k1 z0 z1 HMID HO5
    go_cut [] from 67 to 109 (fun w' => Hid (Mid hist L (N + 3) W w' M m t b lim last hist n T (rtakeL r i x1 x2) #[.slice (some ⟨g, o + 2, none⟩) 0 (c - 1), .int .i64 (tk + 1), .int .i64 dn, .int .i64 st] W.heap.size (W.heap.size + 1) #[.int .i64 i, .int .i64 1, .int .i64 (tk + 1)]) ∧ Hid (OwnE L w' hist nh))
    case first =>
      have q1 : w6.cell? ⟨b, 1, none⟩ = some (.int .i64 (tk + 1)) := block_cell HM6.out.task
      have q2 : w6.cell? ⟨W.heap.size + 1, 1, none⟩ = some (.int .i64 0) := block_cell HM6.out.ev
      have q3 : w6.cell? ⟨W.heap.size + 1, 2, none⟩ = some (.int .i64 0) := block_cell HM6.out.ev
      have q4 : w6.frozen? ⟨W.heap.size + 1, 1, none⟩ = false := block_free HM6.out.ev
      have q5 : w6.frozen? ⟨W.heap.size + 1, 2, none⟩ = false := block_free HM6.out.ev
      have hbq : ¬ b = W.heap.size + 1 := by have := HW.out; omega
      have hqb : ¬ W.heap.size + 1 = b := by have := HW.out; omega
      have HBO := Lib.hid (HM6.out.both HO6.out (fun k hk => (HOQ.out k hk).1) (.int .i64 1) (.int .i64 (tk + 1)) HLW.out (Nat.le_succ _) (Nat.ne_of_lt (Nat.lt_succ_self _)))
      go_region
      all_goals
        go_wp2
        go_meet
        case rel => first | exact ⟨HBO.out.1.1.drew HLW.out, HBO.out.1.2.drew⟩ | exact ⟨HBO.out.2.1.drew HLW.out, HBO.out.2.2.drew⟩
    case rest =>
      obtain ⟨HM7, HO7⟩ := hcut
      clear HM6 HO6
      obtain ⟨w7, hw7⟩ : ∃ w7, w7 = wc := ⟨_, rfl⟩
      rw [← hw7] at HM7 HO7 ⊢
      clear hw7
      go_wp2
      go_cut [] from 99 to 109 (fun w' => ∃ hist', Hid (Mid hist L (N + 3) W w' M m t b lim last hist' n T (rtakeL r i x1 x2) #[.slice (some ⟨g, o + 2, none⟩) 0 (c - 1), .int .i64 (tk + 1), .int .i64 dn, .int .i64 st] W.heap.size (W.heap.size + 1) #[.int .i64 i, .int .i64 1, .int .i64 (tk + 1)]) ∧ Hid (OwnE L w' hist' (nh + 1)) ∧ Hid (∀ k, hist'.ownBlock = some k → k ≠ W.heap.size))
      case first =>
        have m4 : w7.cell? ⟨M, 4, none⟩ = some hist := block_cell HM7.out.mach.cell
        have m5 : w7.cell? ⟨W.heap.size + 1, 0, none⟩ = some (.int .i64 i) := block_cell HM7.out.ev
        have m6 : w7.cell? ⟨W.heap.size + 1, 1, none⟩ = some (.int .i64 1) := block_cell HM7.out.ev
        have m7 : w7.cell? ⟨W.heap.size + 1, 2, none⟩ = some (.int .i64 (tk + 1)) := block_cell HM7.out.ev
        obtain ⟨ob, hob⟩ : ∃ ob, ob = Obj.cells #[.int .i64 i, .int .i64 1, .int .i64 (tk + 1)] 101 := ⟨_, rfl⟩
        have HMB := Lib.hid ((HM7.out.drew HLW.out).cl ((Below.refl _ w7.drew).alloc (Nat.le_refl _) ob) (Nat.le_trans HLW.out HM7.out.low.size))
        have HOB := Lib.hid (OwnE.below (show OwnE L w7.drew hist nh from HO7.out) ((Below.refl _ w7.drew).alloc (Nat.le_refl _) ob))
        have HNEW := Lib.hid (show RdA (w7.drew.alloc ob) (some ⟨w7.heap.size, 0, none⟩) [.int .i64 i, .int .i64 1, .int .i64 (tk + 1)] from fun j u hj => ⟨_, _, rfl, by rw [Nat.zero_add, block_cell (by rw [hob]; exact alloc_new w7.drew _)]; simpa using hj⟩)
        rw [hob] at HMB HOB HNEW
        obtain ⟨iI, hiI, hz0, hz1, hz2⟩ := info_parts infoTEVT
        obtain ⟨xs, hxs⟩ := HOB.out
        have HXS := Lib.hid hxs
        have HLS := Lib.hid (Nat.le_trans HLW.out HM7.out.low.size)
        have HLM := Lib.hid (show M < w7.heap.size ∧ W.heap.size + 1 < w7.heap.size from ⟨block_lt HM7.out.mach.cell, block_lt HM7.out.ev⟩)
        clear hob hxs
        refine region_lastL (S := fun w' => w'.cell? ⟨M, 4, none⟩ = some hist ∧ w'.cell? ⟨W.heap.size + 1, 0, none⟩ = some (.int .i64 i) ∧ w'.cell? ⟨W.heap.size + 1, 1, none⟩ = some (.int .i64 1) ∧ w'.cell? ⟨W.heap.size + 1, 2, none⟩ = some (.int .i64 (tk + 1))) (by simp only [List.dropLast_cons_cons, List.dropLast_singleton]; rfl) rfl (by kernel_rfl) (by kernel_rfl) ⟨m4, m5, m6, m7⟩ (fun hS => ?_)
        refine takeR 0 (v := ?_) rfl (by kernel_rfl) (by kernel_rfl) (by kernel_rfl) (fun _ _ _ h => h) (Or.inl ⟨by rfl, ?_⟩) hS ?_
        rotate_left; · ((intro w hSw); (obtain ⟨s0, s1, s2, s3⟩ := hSw); go_simp; (try with_reducible rfl))
        try simp only [Act.put, List.setIfInBounds_toArray, List.set_cons_zero, List.set_cons_succ]
        refine takeR 1 (v := ?_) rfl (by kernel_rfl) (by kernel_rfl) (by kernel_rfl) (fun _ _ _ h => h) (Or.inl ⟨by rfl, ?_⟩) hS ?_
        rotate_left; · ((intro w hSw); (obtain ⟨s0, s1, s2, s3⟩ := hSw); go_simp; (try with_reducible rfl))
        try simp only [Act.put, List.setIfInBounds_toArray, List.set_cons_zero, List.set_cons_succ]
        refine takeR 2 (v := ?_) rfl (by kernel_rfl) (by kernel_rfl) (by kernel_rfl) (fun _ _ _ h => h) (Or.inl ⟨by rfl, ?_⟩) hS ?_
        rotate_left; · ((intro w hSw); (obtain ⟨s0, s1, s2, s3⟩ := hSw); go_simp; (try with_reducible rfl))
        try simp only [Act.put, List.setIfInBounds_toArray, List.set_cons_zero, List.set_cons_succ]
        refine takeR 3 (v := ?_) rfl (by kernel_rfl) (by kernel_rfl) (by kernel_rfl) (fun _ _ _ h => h) (Or.inl ⟨by rfl, ?_⟩) hS ?_
        rotate_left; · ((intro w hSw); (obtain ⟨s0, s1, s2, s3⟩ := hSw); go_simp; (try with_reducible rfl))
        try simp only [Act.put, List.setIfInBounds_toArray, List.set_cons_zero, List.set_cons_succ]
        refine takeR 4 (v := ?_) rfl (by kernel_rfl) (by kernel_rfl) (by kernel_rfl) (fun _ _ _ h => h) (Or.inl ⟨by rfl, ?_⟩) hS ?_
        rotate_left; · ((intro w hSw); (obtain ⟨s0, s1, s2, s3⟩ := hSw); go_simp; (try with_reducible rfl))
        try simp only [Act.put, List.setIfInBounds_toArray, List.set_cons_zero, List.set_cons_succ]
        refine takeR 5 (v := ?_) rfl (by kernel_rfl) (by kernel_rfl) (by kernel_rfl) (fun _ _ _ h => h) (Or.inl ⟨by rfl, ?_⟩) hS ?_
        rotate_left; · ((intro w hSw); (obtain ⟨s0, s1, s2, s3⟩ := hSw); go_simp; (try with_reducible rfl))
        try simp only [Act.put, List.setIfInBounds_toArray, List.set_cons_zero, List.set_cons_succ]
        refine oneR 6 (by kernel_rfl) rfl (fun K hK => ?_)
        go_simp
        refine hK.out _ _ ⟨(World.cell?_of_block (Below.heap_alloc _ _ _ HLM.out.1)).trans hS.1, (World.cell?_of_block (Below.heap_alloc _ _ _ HLM.out.2)).trans hS.2.1, (World.cell?_of_block (Below.heap_alloc _ _ _ HLM.out.2)).trans hS.2.2.1, (World.cell?_of_block (Below.heap_alloc _ _ _ HLM.out.2)).trans hS.2.2.2⟩ (fun hS => ?_)
        clear hK K
        try simp only [Act.put, List.setIfInBounds_toArray, List.set_cons_zero, List.set_cons_succ]
        refine oneR 7 (by kernel_rfl) rfl (fun K hK => ?_)
        refine step_append_src rfl _ _ 95 rfl L 101 iI _ 3 24 Tryd.underlying95 hiI hz0 hz1 hz2 rfl (by decide) hist nh xs (by go_simp) HXS.out (some ⟨w7.heap.size, 0, none⟩) 1 1 [.int .i64 i, .int .i64 1, .int .i64 (tk + 1)] (by go_simp) rfl HNEW.out (by simp [Value.oneCell']) (by unfold maxLen; omega) (by omega) (by simp; have := HLS.out; omega) ?_
        intro va wa owa ga hat
        obtain ⟨Av, cv, rfl, _, _, _⟩ := own_rdW owa
        have HNP := Lib.hid (show ∀ k, (Value.slice Av (nh + 1) cv).ownBlock = some k → k ≠ W.heap.size from fun k hk => by
          rcases hat with e | e
          · rw [e] at hk; exact (HOQ.out k hk).2.1
          · rw [e] at hk
            cases hk
            have := HLM.out.2
            simp
            omega)
        have HF := Lib.hid (HMB.out.hist HOB.out HOQ.out ga owa HLW.out)
        have hma : wa.heap[M]? = some (.cells #[.int .i64 lim, .int .i64 last, .map (some m), .pointer (some ⟨t, 0, none⟩), hist] 97 (0, 0)) := by
          refine (ga.block M (block_lt HMB.out.mach.cell) fun e => ?_).trans HMB.out.mach.cell
          have := HMB.out.mach.cell
          rcases HXS.out.2 with ⟨e2, _⟩ | ⟨g2, _, cur, e2, _, hg, _⟩
          · rw [e2] at e; cases e
          · rw [e2] at e
            cases e
            rw [hg] at this
            cases this
        have hqa := (ga.block (W.heap.size + 1) (block_lt HMB.out.ev) fun e => (HOQ.out _ e.symm).1 rfl).trans HMB.out.ev
        have k4 : wa.cell? ⟨M, 4, none⟩ = some hist := block_cell hma
        have kf : wa.frozen? ⟨M, 4, none⟩ = false := block_free hma
        refine hK.out _ _ ⟨k4, block_cell hqa, block_cell hqa, block_cell hqa⟩ (fun hS => ?_)
        clear hK K hma hqa owa ga hat
        try simp only [Act.put, List.setIfInBounds_toArray, List.set_cons_zero, List.set_cons_succ]
        refine takeR 8 (v := ?_) rfl (by kernel_rfl) (by kernel_rfl) (by kernel_rfl) (fun _ _ _ h => h) (Or.inl ⟨by rfl, ?_⟩) hS ?_
        rotate_left; · ((intro w hSw); (obtain ⟨s0, s1, s2, s3⟩ := hSw); go_simp; (try with_reducible rfl))
        try simp only [Act.put, List.setIfInBounds_toArray, List.set_cons_zero, List.set_cons_succ]
        refine takeR 9 (v := ?_) rfl (by kernel_rfl) (by kernel_rfl) (by kernel_rfl) (fun _ _ _ h => h) (Or.inl ⟨by rfl, ?_⟩) hS ?_
        rotate_left; · ((intro w hSw); (obtain ⟨s0, s1, s2, s3⟩ := hSw); go_simp; (try with_reducible rfl))
        try simp only [Act.put, List.setIfInBounds_toArray, List.set_cons_zero, List.set_cons_succ]
        refine endR (by kernel_rfl) rfl ?_
        go_simp
        go_wp2_with fail
        go_meet
        case rel => exact ⟨_, HF.out.1, HF.out.2, HNP⟩
      case rest =>
        obtain ⟨hist', HM8, HO8, HNP⟩ := hcut
        clear HM7 HO7
        go_wp2_with ((with_reducible refine stop_loadE _ rfl ?_))
        unfold Hid
        obtain ⟨c0, c1, c2, hrr⟩ := HM8.out.res
        refine wpList_load_row rfl 101 _ rfl (W.heap.size + 1) rfl 101 _ (0, 0) _ HM8.out.ev Tryd.underlying101 rfl (by kernel_rfl) ?_
        refine wpList_store_row rfl 101 _ _ rfl W.heap.size _ rfl rfl 101 _ hrr (by kernel_rfl) rfl (by simp [Value.oneCell']) ?_
        have HF := Lib.hid (HM8.out.setP HO8.out HNP.out (.int .i64 i) (.int .i64 1) (.int .i64 (tk + 1)) HLW.out (Nat.le_refl _) (by omega))
        have HR3 := Lib.hid (setRow_heap wc W.heap.size _ #[.int .i64 i, .int .i64 1, .int .i64 (tk + 1)] 101 _ hrr)
        generalize wc.setRow W.heap.size #[.int .i64 i, .int .i64 1, .int .i64 (tk + 1)] = wy at *
        clear hrr
        go_wp2
        refine bodyPost_ret (results_row_tmp rfl _ _ W.heap.size _ _ _ _ rfl HR3.out Tryd.underlying101 rfl (by kernel_rfl)) rfl ?_
        exact ⟨rfl, hist', _, _, _, _, HF.out.2, HF.out.1⟩
end Go.Proofs.YtnnadhfpkplncaaDoor
