/- How often each number stands somewhere. Condition: the set reads; its numbers are such as may be put. -/
import Derived.Test.YtnnadhfpkplncaaVoMap
import Derived.Deep.CutRange
import Derived.Deep.LoopGhost
import Derived.Maps.RangeWalk
import Derived.Maps.OwnIn
namespace Go.Proofs.Ytnnadhfpkplncaa
open Go.RowKit Go.Maps

def allN (l : List Vol) : List Int := l.flatMap fun x => numsL x.f
theorem nums_le (f : Nat → Int) : (numsL f).length ≤ 4096 := by rw [nums_len]; exact items_le f
theorem allN_le (l : List Vol) : (allN l).length ≤ l.length * 4096 := by
  induction l with
  | nil => simp [allN]
  | cons x l ih =>
    have := nums_le x.f
    have e : allN (x :: l) = numsL x.f ++ allN l := rfl
    rw [e, List.length_append, List.length_cons]
    omega
theorem allN_take {l : List Vol} {a : Nat} {x : Vol} (h : l[a]? = some x) : allN (l.take (a + 1)) = allN (l.take a) ++ numsL x.f := by
  obtain ⟨h1, rfl⟩ := List.getElem?_eq_some_iff.1 h
  unfold allN
  rw [List.take_succ_eq_append_getElem h1, List.flatMap_append]
  simp
theorem RdA.grown {w w' : World} {b : Nat} {A : Option Addr} {vs : List Value} (h : RdA w A vs) (g : w.grownBy w' (some b)) (hm : ∃ es clock, w.heap[b]? = some (.map es clock)) : RdA w' A vs := fun i u hi => by
  obtain ⟨b2, o, e, hc⟩ := h i u hi
  refine ⟨b2, o, e, (World.cell?_of_block (g.block b2 (cell_lt hc) (fun e2 => ?_))).trans hc⟩
  injection e2 with e2
  obtain ⟨es, clock, hb⟩ := hm
  subst e2
  simp [World.cell?, hb] at hc
theorem nums_wf {f : Nat → Int} (h : ∀ a, 0 ≤ f a ∧ f a ≤ 1099511627776) {y : Int} (hy : y ∈ numsL f) : wfI y := by
  unfold numsL at hy
  obtain ⟨a, _, rfl⟩ := List.mem_map.1 hy
  exact wf_small (h a)
/-- The counting of one volume's numbers stands at number k. -/
structure CntAt (W : World) (b : Nat) (L xs : List Int) (A : Option Addr) (wr : World) (k : Nat) : Prop where
  ct : CtM wr b (L ++ xs.take k)
  low : Below W.heap.size W wr
  rd : RdA wr A (zs xs)
theorem CntAt.step {W : World} {b : Nat} {L xs : List Int} {A : Option Addr} {wr w' : World} {k n : Nat} {D : DataW Unit} {y : Int} (h : CntAt W b L xs A wr k) (hy : xs[k]? = some y) (hb : W.heap.size ≤ b)
    (hown : w'.ownsMap Try.prog 3 plIv b (n + 1) (D.put (.int .i64 y) (.lit (.int .i64 ((((L ++ xs.take k).count y : Nat) : Int) + 1))))) (hg : wr.grownBy w' (some b)) (hm : IsMap D) (hn : n ≤ (L ++ xs.take k).length) (hw : wfI y)
    (h3 : ∀ i, wfI i → D.atKey (.int .i64 i) (.lit (.int .i64 0)) = .lit (.int .i64 (((L ++ xs.take k).count i : Nat) : Int)) ∧ Maps.has D (.int .i64 i) = decide (i ∈ L ++ xs.take k)) : CntAt W b L xs A w' (k + 1) := by
  obtain ⟨hl, rfl⟩ := List.getElem?_eq_some_iff.1 hy
  refine ⟨?_, ⟨hg.os.trans h.low.os, hg.tape.trans h.low.tape, hg.output.trans h.low.output, Nat.le_trans h.low.size hg.size, fun i hi => (hg.block i (Nat.lt_of_lt_of_le hi h.low.size) (fun e => by injection e with e; omega)).trans (h.low.block i hi)⟩, RdA.grown h.rd hg h.ct.is⟩
  rw [List.take_succ_eq_append_getElem hl, ← List.append_assoc]
  exact CtM.store hown hm hn hw h3
def OutAt (W : World) (b : Nat) (l : List Vol) (wr : World) (a : Nat) : Prop := CtM wr b (allN (l.take a)) ∧ Below W.heap.size W wr

set_option maxHeartbeats 800000 in
/-- All volumes: the same slice in whatever world comes later. -/
theorem vall_fix (s : Option Addr) (l : List Vol) (w : World) (h : RdS w s l) : ∃ A c, RdV w A l c ∧ ∀ w1, Below w.heap.size w w1 → Calls Try.prog 55 #[.pointer s] w1 fun e w' => e = .returned (.slice A l.length c) ∧ w' = w1 := by
  rcases h.2 with ⟨rfl, rfl⟩ | ⟨b, A, c, rfl, hb, hr⟩
  · refine ⟨none, 0, RdV.empty w, fun w1 _ => ?_⟩
    go_enter Try.func55, Try.ntmps55
    go_wp2
    go_ret
    exact ⟨rfl, rfl⟩
  · refine ⟨A, c, hr, fun w1 hk => ?_⟩
    have hc : w1.cell? ⟨b, 0, none⟩ = some (.slice A l.length c) := block_cell ((hk.block b (block_lt hb)).trans hb)
    obtain ⟨n, hn⟩ : ∃ n, n = l.length := ⟨_, rfl⟩
    rw [← hn] at hc ⊢
    clear hr hb hn h
    go_enter Try.func55, Try.ntmps55
    go_wp2
    go_ret
    exact ⟨rfl, rfl⟩
/-- Two lists of one's own that grow by one each: what is boxed for each of them lies apart. -/
structure Two (w0 w : World) (v1 v2 : Value) (n1 n2 : Nat) (xs1 xs2 : List Value) (g1 g2 : Option Nat) (x1 x2 : Value) : Prop where
  o1 : w.ownsRow w0.heap.size 3 1 v1 n1 xs1
  o2 : w.ownsRow w0.heap.size 3 1 v2 n2 xs2
  ap : ∀ q, v1.ownBlock = some q → v2.ownBlock ≠ some q
  low : Below w0.heap.size w0 w
  c1 : ∀ g, g1 = some g → w.heap[g]? = some (.cells #[x1] 3 (0, 0)) ∧ v1.ownBlock ≠ some g ∧ v2.ownBlock ≠ some g
  c2 : ∀ g, g2 = some g → w.heap[g]? = some (.cells #[x2] 3 (0, 0)) ∧ v1.ownBlock ≠ some g ∧ v2.ownBlock ≠ some g
theorem own_lt {w : World} {B n s : Nat} {E : TypeId} {v : Value} {xs : List Value} (h : w.ownsRow B E s v n xs) {q : Nat} (e : v.ownBlock = some q) : q < w.heap.size := by
  rcases h.2 with ⟨e1, _⟩ | ⟨g, c, cur, e1, hg, hh, _⟩
  · rw [e1] at e; cases e
  · rw [e1] at e; cases e; exact block_lt hh
theorem own_belowV {w w' : World} {B n s : Nat} {E : TypeId} {v : Value} {xs : List Value} (h : w.ownsRow B E s v n xs) (k : Below w.heap.size w w') : w'.ownsRow B E s v n xs := own_keepT h (KeepT.of_below (T := E + 1) k) (Nat.ne_of_lt (Nat.lt_succ_self _))
theorem Two.alloc1 {w0 w : World} {v1 v2 : Value} {n1 n2 : Nat} {xs1 xs2 : List Value} {g2 : Option Nat} {x1 x2 : Value} (h : Two w0 w v1 v2 n1 n2 xs1 xs2 none g2 x1 x2) :
    Two w0 (w.alloc (.cells #[x1] 3)) v1 v2 n1 n2 xs1 xs2 (some w.heap.size) g2 x1 x2 := by
  have k : Below w.heap.size w (w.alloc (.cells #[x1] 3)) := (Below.refl _ _).alloc (Nat.le_refl _) _
  refine ⟨own_belowV h.o1 k, own_belowV h.o2 k, h.ap, h.low.trans (k.mono h.low.size), fun g e => ?_, fun g e => ?_⟩
  · cases e
    exact ⟨alloc_new _ _, fun e => by have := own_lt h.o1 e; omega, fun e => by have := own_lt h.o2 e; omega⟩
  · obtain ⟨a, b⟩ := h.c2 g e
    exact ⟨(k.block g (block_lt a)).trans a, b⟩
theorem Two.alloc2 {w0 w : World} {v1 v2 : Value} {n1 n2 : Nat} {xs1 xs2 : List Value} {g1 : Option Nat} {x1 x2 : Value} (h : Two w0 w v1 v2 n1 n2 xs1 xs2 g1 none x1 x2) :
    Two w0 (w.alloc (.cells #[x2] 3)) v1 v2 n1 n2 xs1 xs2 g1 (some w.heap.size) x1 x2 := by
  have k : Below w.heap.size w (w.alloc (.cells #[x2] 3)) := (Below.refl _ _).alloc (Nat.le_refl _) _
  refine ⟨own_belowV h.o1 k, own_belowV h.o2 k, h.ap, h.low.trans (k.mono h.low.size), fun g e => ?_, fun g e => ?_⟩
  · obtain ⟨a, b⟩ := h.c1 g e
    exact ⟨(k.block g (block_lt a)).trans a, b⟩
  · cases e
    exact ⟨alloc_new _ _, fun e => by have := own_lt h.o1 e; omega, fun e => by have := own_lt h.o2 e; omega⟩
theorem own_other {w w' : World} {B n s : Nat} {E : TypeId} {v v1 : Value} {xs : List Value} (h : w.ownsRow B E s v n xs) (g : w.grownBy w' v1.ownBlock) (hne : ∀ q, v1.ownBlock = some q → v.ownBlock ≠ some q) : w'.ownsRow B E s v n xs := by
  refine ⟨h.1, ?_⟩
  rcases h.2 with h2 | ⟨q, c, cur, e, hb, hq, r⟩
  · exact Or.inl h2
  · exact Or.inr ⟨q, c, cur, e, hb, (g.block q (block_lt hq) (fun e2 => hne q e2.symm (by rw [e]; rfl))).trans hq, r⟩
theorem Two.app1 {w0 w w' : World} {v1 v2 v1' : Value} {n1 n2 : Nat} {xs1 xs2 : List Value} {g : Nat} {g2 : Option Nat} {x1 x2 : Value} (h : Two w0 w v1 v2 n1 n2 xs1 xs2 (some g) g2 x1 x2) (r : w.grownBy w' v1.ownBlock)
    (o : w'.ownsRow w0.heap.size 3 1 v1' (n1 + 1) (xs1 ++ [x1])) (a : v1'.ownBlock = v1.ownBlock ∨ v1'.ownBlock = some w.heap.size) : Two w0 w' v1' v2 (n1 + 1) n2 (xs1 ++ [x1]) xs2 none g2 x1 x2 := by
  refine ⟨o, own_other h.o2 r h.ap, fun q e => ?_, below_grown h.low r h.low.size (fun q e => own_geV h.o1 e), fun g e => (by cases e), fun g e => ?_⟩
  · rcases a with a | a
    · exact h.ap q (a.symm.trans e)
    · rw [a] at e
      cases e
      exact fun e => by have := own_lt h.o2 e; omega
  · obtain ⟨b1, b2, b3⟩ := h.c2 g e
    refine ⟨(r.block g (block_lt b1) (fun e => b2 e.symm)).trans b1, ?_, b3⟩
    rcases a with a | a
    · rw [a]; exact b2
    · rw [a]
      intro e
      injection e with e
      have := block_lt b1
      omega
theorem Two.app2 {w0 w w' : World} {v1 v2 v2' : Value} {n1 n2 : Nat} {xs1 xs2 : List Value} {g : Nat} {g1 : Option Nat} {x1 x2 : Value} (h : Two w0 w v1 v2 n1 n2 xs1 xs2 g1 (some g) x1 x2) (r : w.grownBy w' v2.ownBlock)
    (o : w'.ownsRow w0.heap.size 3 1 v2' (n2 + 1) (xs2 ++ [x2])) (a : v2'.ownBlock = v2.ownBlock ∨ v2'.ownBlock = some w.heap.size) : Two w0 w' v1 v2' n1 (n2 + 1) xs1 (xs2 ++ [x2]) g1 none x1 x2 := by
  refine ⟨own_other h.o1 r (fun q e e2 => h.ap q e2 e), o, fun q e => ?_, below_grown h.low r h.low.size (fun q e => own_geV h.o2 e), fun g e => ?_, fun g e => (by cases e)⟩
  · rcases a with a | a
    · rw [a]; exact h.ap q e
    · rw [a]
      intro e2
      injection e2 with e2
      have := own_lt h.o1 e
      omega
  · obtain ⟨b1, b2, b3⟩ := h.c1 g e
    refine ⟨(r.block g (block_lt b1) (fun e => b3 e.symm)).trans b1, b2, ?_⟩
    rcases a with a | a
    · rw [a]; exact b3
    · rw [a]
      intro e
      injection e with e
      have := block_lt b1
      omega
theorem one_cell {w : World} {g : Nat} {x : Value} (h : w.heap[g]? = some (.cells #[x] 3 (0, 0))) : ∀ (j : Nat) (u : Value), ([x] : List Value)[j]? = some u → w.cell? ((⟨g, 0, none⟩ : Addr).add j) = some u := fun j u hj => by
  rw [WideShapes.add_plain, Nat.zero_add, block_cell h]
  simpa using hj
theorem step_append_own_k {P : Program} {ops : Array Oper} {o : Oper} {a : Act} {w : World} {K : Act → World → Prop} {Q : Exit → Act → World → Prop} {E : Prop}
    (hgd : o.guard = none) (s x : Operand) (t : TypeId) (hop : o.op = Op.call { callee := Callee.builtin Builtin.append, args := #[s, x], argTypes := #[t, t] })
    (base : Nat) (e : TypeId) (i : TypeInfo) (z : Value) (size bytes : Nat) (ht : P.underlying t = some (.slice e)) (hi : P.info? e = some i) (hz : i.zero = some z)
    (hsize : i.size = size) (hby : i.bytes = bytes) (hzs : z.cells.size = size) (hsz : 0 < size)
    (v : Value) (n : Nat) (xs : List Value) (hs : a.eval s = v) (hown : w.ownsRow base e size v n xs)
    (ad : Addr) (m c : Nat) (news : List Value) (hx : a.eval x = .slice (some ad) m c) (hl : news.length = m * size) (hnews : ∀ (j : Nat) (u : Value), news[j]? = some u → w.cell? (ad.add j) = some u) (h1 : ∀ u ∈ news, u.oneCell' = true)
    (h63 : n + m ≤ maxLen) (hbytes : (n + m) * bytes ≤ 140737488355328) (hbase : base ≤ w.heap.size)
    (h : ∀ v' w', w'.ownsRow base e size v' (n + m) (xs ++ news) → w.grownBy w' v.ownBlock → (v'.ownBlock = v.ownBlock ∨ v'.ownBlock = some w.heap.size) → K (a.put o.dst v') w') :
    if Region.wanted o (yielded ops a.tmps) = true then Oper.wp P o a w K Q else E := by
  obtain ⟨v', w', hr, h2, h3, _, h5⟩ := run_append_own_at (P := P) w base t o.type e i z size bytes ht hi hz hsize hby hzs hsz v n xs hown ad m c news hl hnews h1 h63 hbytes hbase
  have hw : Region.wanted o (yielded ops a.tmps) = true := by simp [Region.wanted, hgd]
  rw [if_pos hw]
  unfold Oper.wp
  simp [execOp, hop, resolve, invoke, builtin, hs, hx, hr, Result.andThen]
  exact h _ _ h2 h3 h5
theorem two_next {w0 w : World} {v1 v2 : Value} {k : Nat} {xs1 xs2 xs1' xs2' : List Value} {x1 x2 y1 y2 : Value} (h : Two w0 w v1 v2 k k xs1 xs2 none none x1 x2) (e1 : xs1' = xs1) (e2 : xs2' = xs2) : Two w0 w v1 v2 k k xs1' xs2' none none y1 y2 := by
  subst e1 e2
  exact ⟨h.o1, h.o2, h.ap, h.low, fun g e => (by cases e), fun g e => (by cases e)⟩
def CountsPost (L : List Int) (w : World) (e : Ending) (w' : World) : Prop := ∃ A B c d K, e = .returned (.tuple #[.slice A K.length c, .slice B K.length d]) ∧ KeysOf L K ∧ RdA w' A (zs K) ∧ RdA w' B (zs (K.map fun i => ((L.count i : Nat) : Int))) ∧ Below w.heap.size w w'
set_option maxRecDepth 100000 in
set_option maxHeartbeats 12800000 in
theorem counts_any (s : Option Addr) (l : List Vol) (w : World) (h : RdS w s l) (hl : l.length ≤ 64) (hf : ∀ x ∈ l, ∀ a, 0 ≤ x.f a ∧ x.f a ≤ 1099511627776) : Calls Try.prog 29 #[.pointer s] w (CountsPost (allN l) w) := by
  have hmm := @run_makeMap Try.prog
  obtain ⟨b, hb⟩ : ∃ b, b = w.heap.size := ⟨_, rfl⟩
  obtain ⟨w1, hw1⟩ : ∃ w1, w1 = w.alloc (.map #[] 0) := ⟨_, rfl⟩
  have hb1 : Below w.heap.size w w1 := by rw [hw1]; exact (Below.refl _ _).alloc (Nat.le_refl _) _
  have HCT1 := Lib.hid (show CtM w1 b [] by rw [hw1, hb]; exact ct_made w)
  have HB1 := Lib.hid hb1
  have HS := Lib.hid h
  have HF := Lib.hid hf
  have HBB := Lib.hid (show w.heap.size ≤ b by omega)
  obtain ⟨A, c, hr, hA⟩ := vall_fix s l w h
  have HA := Lib.hid (hA w1 hb1)
  have HR := Lib.hid hr
  obtain ⟨n, hn⟩ : ∃ n, n = l.length := ⟨_, rfl⟩
  rw [← hn] at HA hl
  have HN := Lib.hid hn
  clear h hf hb1 hn hA hr
  go_enter Try.func29, Try.ntmps29
  go_wp2_with fail
  rw [← hw1, ← hb]
  clear hw1 hb hmm
  refine HA.out.mono ?_
  rintro e w1' ⟨rfl, rfl⟩
  clear HA
  go_upto_region 3 with fail
  go_loopg [17] n (fun gg iv wr => ∃ a : Nat, a ≤ n ∧ gg = n - a ∧ iv = .int .i64 a ∧ Hid (OutAt w b l wr a))
  case atStart => exact ⟨0, by omega, by omega, rfl, HCT1.out, HB1.out⟩
  case round =>
    obtain ⟨a, ha, hga, rfl, HO⟩ := hrel
    by_cases hlt : a < n
    · have hai : (a : Int) < (n : Int) := by omega
      have hwa : IntKind.i64.wrap ((a : Int) + 1) = (a : Int) + 1 := IntWalk.i64_in _ (by omega)
      obtain ⟨x, hx⟩ : ∃ x, l[a]? = some x := ⟨_, List.getElem?_eq_getElem (by rw [← HN.out]; omega)⟩
      obtain ⟨bv, ov, rfl, c0, c1, c2, c3, c4, c5⟩ := (HR.out.below HO.out.2).at hx
      have HX := Lib.hid hx
      have HFX := Lib.hid (HF.out x (List.mem_of_getElem? hx))
      have HTX := Lib.hid (show ∃ S, RdR x.f S wr x.A from by
        obtain ⟨S, hS⟩ := HS.out.1 x (List.mem_of_getElem? hx)
        exact ⟨S, RdR.below hS HO.out.2⟩)
      clear hx
      obtain ⟨w2, hw2⟩ : ∃ w2, w2 = wr.alloc (.cells #[.string ⟨x.name.toArray⟩, .int .i64 x.blocks, .int .i64 x.quota, .int .i64 x.used, .bool x.frozen, .pointer x.A] 92) := ⟨_, rfl⟩
      obtain ⟨p, hp⟩ : ∃ p, p = wr.heap.size := ⟨_, rfl⟩
      have hb2 : Below wr.heap.size wr w2 := by rw [hw2]; exact (Below.refl _ _).alloc (Nat.le_refl _) _
      have hx2 : w2.heap[p]? = some (.cells #[.string ⟨x.name.toArray⟩, .int .i64 x.blocks, .int .i64 x.quota, .int .i64 x.used, .bool x.frozen, .pointer x.A] 92 (0, 0)) := by rw [hw2, hp]; exact alloc_new _ _
      have y0 : w2.cell? ⟨p, 0, none⟩ = some (.string ⟨x.name.toArray⟩) := block_cell hx2
      have y1 : w2.cell? ⟨p, 1, none⟩ = some (.int .i64 x.blocks) := block_cell hx2
      have y2 : w2.cell? ⟨p, 2, none⟩ = some (.int .i64 x.quota) := block_cell hx2
      have y3 : w2.cell? ⟨p, 3, none⟩ = some (.int .i64 x.used) := block_cell hx2
      have y4 : w2.cell? ⟨p, 4, none⟩ = some (.bool x.frozen) := block_cell hx2
      have y5 : w2.cell? ⟨p, 5, none⟩ = some (.pointer x.A) := block_cell hx2
      have HCT2 := Lib.hid (HO.out.1.below hb2)
      have HB2 := Lib.hid (HO.out.2.trans (hb2.mono HO.out.2.size))
      have HNU := Lib.hid (numbers_any x w2 (by
        obtain ⟨S, hS⟩ := HTX.out
        exact ⟨S, RdR.below hS hb2⟩))
      clear hb2 hx2
      go_upto_region 5 with fail
      rw [← hw2, ← hp]
      clear hw2 hp c0 c1 c2 c3 c4 c5
      go_wp2_with fail
      refine HNU.out.mono ?_
      rintro e w3 ⟨u, rfl, hu, hb3⟩
      obtain ⟨A3, d3, rfl, _, hr3, _⟩ := own_rdA hu
      obtain ⟨L0, hL0⟩ : ∃ L0, L0 = allN (l.take a) := ⟨_, rfl⟩
      obtain ⟨ys, hys⟩ : ∃ ys, ys = numsL x.f := ⟨_, rfl⟩
      have hLl : L0.length ≤ 262144 := by
        rw [hL0]
        have h1 := allN_le (l.take a)
        have h2 : (l.take a).length ≤ 64 := by rw [List.length_take]; omega
        omega
      have hyl : ys.length ≤ 4096 := by rw [hys]; exact nums_le x.f
      have HCN := Lib.hid (show CntAt w b L0 ys A3 w3 0 from ⟨by rw [List.take_zero, List.append_nil, hL0]; exact HCT2.out.below hb3, HB2.out.trans (hb3.mono HB2.out.size), by rw [hys]; exact hr3⟩)
      have HYW := Lib.hid (show ∀ y ∈ ys, wfI y from fun y hy => nums_wf HFX.out (by rw [← hys]; exact hy))
      have HFIN := Lib.hid (show allN (l.take (a + 1)) = L0 ++ ys by rw [hL0, hys]; exact allN_take HX.out)
      rw [← hys]
      obtain ⟨m, hm⟩ : ∃ m, m = ys.length := ⟨_, rfl⟩
      rw [← hm] at hyl ⊢
      have HM := Lib.hid hm
      clear hu hr3 hb3 hL0 hys hm y0 y1 y2 y3 y4 y5 HNU HTX HO
      go_upto_region 6 with fail
      go_loopg [24] m (fun gg iv wq => ∃ k : Nat, k ≤ m ∧ gg = m - k ∧ iv = .int .i64 k ∧ Hid (CntAt w b L0 ys A3 wq k))
      case atStart => exact ⟨0, by omega, by omega, rfl, HCN.out⟩
      case round =>
        obtain ⟨k, hk, hgk, rfl, HC⟩ := hrel
        clear HCN HCT2
        by_cases hkl : k < m
        · have hki : (k : Int) < (m : Int) := by omega
          have hwk : IntKind.i64.wrap ((k : Int) + 1) = (k : Int) + 1 := IntWalk.i64_in _ (by omega)
          obtain ⟨y, hy⟩ : ∃ y, ys[k]? = some y := ⟨_, List.getElem?_eq_getElem (by rw [← HM.out]; omega)⟩
          have hyw := HYW.out y (List.mem_of_getElem? hy)
          obtain ⟨b3, o3, rfl, d0⟩ := HC.out.rd k _ (zs_at hy)
          have hlk := look_ct HC.out.ct hyw
          obtain ⟨nn, D, hown, hnl, hat⟩ := HC.out.ct
          have hcl : (L0 ++ ys.take k).count y ≤ 266240 := by
            have h1 : (L0 ++ ys.take k).count y ≤ (L0 ++ ys.take k).length := List.count_le_length
            rw [List.length_append, List.length_take] at h1
            omega
          have hnb : nn ≤ 266240 := by
            rw [List.length_append, List.length_take] at hnl
            omega
          have HNL := Lib.hid hnl
          have HAT := Lib.hid hat
          have HOWN := Lib.hid hown
          have HY := Lib.hid hy
          have HYW2 := Lib.hid hyw
          obtain ⟨C, hC⟩ : ∃ C, C = (L0 ++ ys.take k).count y := ⟨_, rfl⟩
          rw [← hC] at hlk hcl
          have HCC := Lib.hid hC
          have hwc : IntKind.i64.wrap ((C : Int) + 1) = (C : Int) + 1 := IntWalk.i64_in _ (by omega)
          have hpl : plIv (.int .i64 ((C : Int) + 1)) = some (.lit (.int .i64 ((C : Int) + 1)), []) := plainElem_int Try.underlying3 (wf_small ⟨by omega, by omega⟩)
          have HPL := Lib.hid hpl
          clear hown hnl hat hy hyw hC hpl
          go_wp2_with (at_mapUpdate; refine Hid.out ?_)
          unfold Hid
          refine wpList_mapUpdate_own _ rfl _ _ _ 109 rfl 3 3 keyIv Try.underlying109 plIv b nn D rfl HOWN.out (by unfold maxLen; omega) _ _ _ rfl rfl (kIv HYW2.out) (.lit (.int .i64 ((C : Int) + 1))) [] HPL.out ?_
          intro w5 hown5 hg5
          have HC5 := Lib.hid (HC.out.step HY.out HBB.out (by rw [← HCC.out]; exact hown5) hg5 HOWN.out.isMap HNL.out HYW2.out HAT.out)
          clear hown5 hg5 hlk d0
          go_wp2_with fail
          go_roundg (m - (k + 1))
          case measure => omega
          case rel => exact ⟨k + 1, by omega, rfl, by congr 1, HC5.out⟩
        · have hke : k = m := by omega
          subst hke
          have hki : ¬ (k : Int) < (k : Int) := by omega
          have HO2 := Lib.hid (show OutAt w b l wr (a + 1) from ⟨by
            rw [HFIN.out]
            have h9 := HC.out.ct
            rwa [List.take_of_length_le (by rw [← HM.out]; exact Nat.le_refl _)] at h9, HC.out.low⟩)
          clear hkl HC
          go_wp2_with fail
          go_roundg (n - (a + 1))
          case measure => omega
          case rel => exact ⟨a + 1, by omega, rfl, by congr 1, HO2.out⟩
    · have hae : a = n := by omega
      subst hae
      have hai : ¬ (a : Int) < (a : Int) := by omega
      have hL : CtM wr b (allN l) := by
        have h9 := HO.out.1
        rwa [List.take_of_length_le (by rw [← HN.out]; exact Nat.le_refl _)] at h9
      have hLl : (allN l).length ≤ 262144 := by
        have h1 := allN_le l
        rw [← HN.out] at h1
        omega
      obtain ⟨hk1, hk2⟩ := keysv (allN l) b wr hL (by omega)
      have HK1 := Lib.hid hk1
      have HK2 := Lib.hid hk2
      have HLW := Lib.hid HO.out.2
      have HCT := Lib.hid hL
      clear hlt hL hk1 hk2 HO HCT1 HB1
      go_upto_region 12 with fail
      go_wp2_with fail
      refine HK1.out.mono ?_
      rintro e w4 ⟨rfl, rfl⟩
      go_wp2_with fail
      refine HK2.out.mono ?_
      rintro e wk ⟨vk, K, rfl, hKO, hKl, hok, hbk, hblt⟩
      obtain ⟨Ak, ck, rfl, _, hrk, hltk⟩ := own_rdA hok
      have hbal : Below wr.heap.size wr (wr.alloc (.cells #[.map (some b)] 109)) := (Below.refl _ _).alloc (Nat.le_refl _) _
      have HRK := Lib.hid hrk
      have HKO := Lib.hid hKO
      have HCK := Lib.hid ((HCT.out.below hbal).below hbk)
      have HLK := Lib.hid (HLW.out.trans ((hbal.trans (hbk.mono hbal.size)).mono HLW.out.size))
      obtain ⟨N, hN⟩ : ∃ N, N = K.length := ⟨_, rfl⟩
      rw [← hN] at hKl ⊢
      have HNK := Lib.hid hN
      have HT0 := Lib.hid (show Two wk wk (.slice none 0 0) (.slice none 0 0) 0 0 [] [] none none (.int .i64 0) (.int .i64 0) from ⟨World.ownsRow_nil _ _ _ _, World.ownsRow_nil _ _ _ _, fun q e => (by cases e), Below.refl _ _, fun g e => (by cases e), fun g e => (by cases e)⟩)
      clear hKO hok hbk hblt hrk hltk hN hbal HK1 HK2
      go_upto_region 13 with fail
      obtain ⟨iI, hiI, hi0, hi1, hi2⟩ := info_parts infoTINTv
      go_loopg [38, 9, 10] N (fun gg iv a1 a2 wr => ∃ (k : Nat) (v1 v2 : Value), k ≤ N ∧ gg = N - k ∧ iv = .int .i64 k ∧ a1 = v1 ∧ a2 = v2 ∧ Hid (Two wk wr v1 v2 k k (zs (K.take k)) (zs ((K.take k).map fun i => (((allN l).count i : Nat) : Int))) none none (.int .i64 0) (.int .i64 0)))
      case atStart => exact ⟨0, _, _, by omega, by omega, rfl, rfl, rfl, HT0.out⟩
      case round => 
       obtain ⟨k, v1, v2, hk, hgk, rfl, hv1, hv2, HT⟩ := hrel
       obtain rfl := hv1.symm
       obtain rfl := hv2.symm
       by_cases hkl : k < N
       · have hki : (k : Int) < (N : Int) := by omega
         have hwk : IntKind.i64.wrap ((k : Int) + 1) = (k : Int) + 1 := IntWalk.i64_in _ (by omega)
         obtain ⟨y, hy⟩ : ∃ y, K[k]? = some y := ⟨_, List.getElem?_eq_getElem (by rw [← HNK.out]; omega)⟩
         obtain ⟨b4, o4, rfl, d0⟩ := (HRK.out.below HT.out.low) k _ (zs_at hy)
         have hyw := ((HKO.out.2.1 y).1 (List.mem_of_getElem? hy)).1
         obtain ⟨C, hC⟩ : ∃ C, C = (((allN l).count y : Nat) : Int) := ⟨_, rfl⟩
         have HLP := Lib.hid (show ∀ w', Below wk.heap.size wk w' → (Instr.lookup 109 (.map (some b)) (.int .i64 y) false).run Try.prog w' = .ok (.int .i64 C) w' from fun w' hb => by
           rw [hC]
           exact look_ct (HCK.out.below hb) hyw)
         have HTA := Lib.hid (show zs (K.take (k + 1)) = zs (K.take k) ++ [.int .i64 y] from by
           obtain ⟨h1, rfl⟩ := List.getElem?_eq_some_iff.1 hy
           unfold zs
           rw [List.take_succ_eq_append_getElem h1, List.map_append]; rfl)
         have HTB := Lib.hid (show zs ((K.take (k + 1)).map fun i => (((allN l).count i : Nat) : Int)) = zs ((K.take k).map fun i => (((allN l).count i : Nat) : Int)) ++ [.int .i64 C] from by
           obtain ⟨h1, rfl⟩ := List.getElem?_eq_some_iff.1 hy
           unfold zs
           rw [List.take_succ_eq_append_getElem h1, List.map_append, List.map_append, hC]; rfl)
         have HD := Lib.hid (show Two wk wr.drew v1 v2 k k (zs (K.take k)) (zs ((K.take k).map fun i => (((allN l).count i : Nat) : Int))) none none (.int .i64 y) (.int .i64 C) from
           ⟨HT.out.o1, HT.out.o2, HT.out.ap, HT.out.low.drew, fun g e => (by cases e), fun g e => (by cases e)⟩)
         have HTL := Lib.hid (show Below wk.heap.size wk wr.drew from HT.out.low.drew)
         clear hy hyw hC HT0 HT
         go_upto_region 15 with fail
         refine wp_region_held_drew (S := fun w' => Below wk.heap.size wk w') (by kernel_rfl) HTL.out fun hS => ?_
         clear d0 HTL
         generalize wr.drew = wd at *
         refine takeR 0 (v := ?_) rfl (by kernel_rfl) (by kernel_rfl) (by kernel_rfl) (fun _ _ _ h => h) (Or.inl ⟨by rfl, ?_⟩) hS ?_
         rotate_left; · (intro w hSw; (try dsimp only at hSw); go_simp; (try with_reducible rfl))
         try simp only [Act.put, List.setIfInBounds_toArray, List.set_cons_zero, List.set_cons_succ]
         refine takeR 1 (v := ?_) rfl (by kernel_rfl) (by kernel_rfl) (by kernel_rfl) (fun _ _ _ h => h) (Or.inl ⟨by rfl, ?_⟩) hS ?_
         rotate_left; · (intro w hSw; (try dsimp only at hSw); go_simp; (try with_reducible rfl))
         try simp only [Act.put, List.setIfInBounds_toArray, List.set_cons_zero, List.set_cons_succ]
         refine takeR 4 (v := ?_) rfl (by kernel_rfl) (by kernel_rfl) (by kernel_rfl) (fun _ _ _ h => h) (Or.inl ⟨by rfl, ?_⟩) hS ?_
         rotate_left; · (intro w hSw; (try dsimp only at hSw); go_simp; (try with_reducible rfl))
         try simp only [Act.put, List.setIfInBounds_toArray, List.set_cons_zero, List.set_cons_succ]
         refine takeR 5 (v := ?_) rfl (by kernel_rfl) (by kernel_rfl) (by kernel_rfl) (fun _ _ _ h => h) (Or.inl ⟨by rfl, ?_⟩) hS ?_
         rotate_left; · (intro w hSw; (try dsimp only at hSw); go_simp; (try with_reducible rfl))
         try simp only [Act.put, List.setIfInBounds_toArray, List.set_cons_zero, List.set_cons_succ]
         refine takeR 6 (v := ?_) rfl (by kernel_rfl) (by kernel_rfl) (by kernel_rfl) (fun _ _ _ h => h) (Or.inl ⟨by rfl, ?_⟩) hS ?_
         rotate_left; · (intro w hSw; (try dsimp only at hSw); go_simp; (try with_reducible rfl))
         try simp only [Act.put, List.setIfInBounds_toArray, List.set_cons_zero, List.set_cons_succ]
         refine takeR 7 (v := ?_) rfl (by kernel_rfl) (by kernel_rfl) (by kernel_rfl) (fun _ _ _ h => h) (Or.inl ⟨by rfl, ?_⟩) hS ?_
         rotate_left; · (intro w hSw; (try dsimp only at hSw); have hlk := HLP.out w hSw; go_simp; (try with_reducible rfl))
         try simp only [Act.put, List.setIfInBounds_toArray, List.set_cons_zero, List.set_cons_succ]
         refine twoR 2 8 (by kernel_rfl) rfl rfl (fun K hK => ?_) (fun K hK => ?_)
         · go_simp
           obtain ⟨g1, hg1⟩ : ∃ g, g = wd.heap.size := ⟨_, rfl⟩
           obtain ⟨z1, hz1⟩ : ∃ z, z = wd.alloc (.cells #[.int .i64 y] 3) := ⟨_, rfl⟩
           have T1 := Lib.hid (HD.out.alloc1)
           rw [← hz1, ← hg1] at T1 ⊢
           clear hz1 hg1 hS
           refine hK.out _ _ T1.out.low (fun hS => ?_)
           clear hK K
           try simp only [Act.put, List.setIfInBounds_toArray, List.set_cons_zero, List.set_cons_succ]
           refine twoR 3 8 (by kernel_rfl) rfl rfl (fun K hK => ?_) (fun K hK => ?_)
           · refine step_append_own_k rfl _ _ 32 rfl wk.heap.size 3 iI _ 1 8 Try.underlying32 hiI hi0 hi1 hi2 rfl (by decide) v1 k _ (by go_simp) T1.out.o1 ⟨g1, 0, none⟩ 1 1 [.int .i64 y] (by go_simp) rfl (one_cell (T1.out.c1 _ rfl).1) (by simp [Value.oneCell']) (by unfold maxLen; omega) (by omega) T1.out.low.size ?_
             intro u2 z2 o2 r2 a2
             have T2 := Lib.hid (T1.out.app1 r2 o2 a2)
             clear o2 r2 a2 hS
             refine hK.out _ _ T2.out.low (fun hS => ?_)
             clear hK K
             try simp only [Act.put, List.setIfInBounds_toArray, List.set_cons_zero, List.set_cons_succ]
             refine oneR 8 (by kernel_rfl) rfl (fun K hK => ?_)
             go_simp
             obtain ⟨g3, hg3⟩ : ∃ g, g = z2.heap.size := ⟨_, rfl⟩
             obtain ⟨z3, hz3⟩ : ∃ z, z = z2.alloc (.cells #[.int .i64 C] 3) := ⟨_, rfl⟩
             have T3 := Lib.hid (T2.out.alloc2)
             rw [← hz3, ← hg3] at T3 ⊢
             clear hz3 hg3 hS
             refine hK.out _ _ T3.out.low (fun hS => ?_)
             clear hK K
             try simp only [Act.put, List.setIfInBounds_toArray, List.set_cons_zero, List.set_cons_succ]
             refine oneR 9 (by kernel_rfl) rfl (fun K hK => ?_)
             refine step_append_own_k rfl _ _ 32 rfl wk.heap.size 3 iI _ 1 8 Try.underlying32 hiI hi0 hi1 hi2 rfl (by decide) v2 k _ (by go_simp) T3.out.o2 ⟨g3, 0, none⟩ 1 1 [.int .i64 C] (by go_simp) rfl (one_cell (T3.out.c2 _ rfl).1) (by simp [Value.oneCell']) (by unfold maxLen; omega) (by omega) T3.out.low.size ?_
             intro u4 z4 o4 r4 a4
             have T4 := Lib.hid (T3.out.app2 r4 o4 a4)
             clear o4 r4 a4 hS
             refine hK.out _ _ T4.out.low (fun hS => ?_)
             clear hK K
             try simp only [Act.put, List.setIfInBounds_toArray, List.set_cons_zero, List.set_cons_succ]
             refine takeR 10 (v := ?_) rfl (by kernel_rfl) (by kernel_rfl) (by kernel_rfl) (fun _ _ _ h => h) (Or.inl ⟨by rfl, ?_⟩) hS ?_
             rotate_left; · (intro w hSw; (try dsimp only at hSw); go_simp; (try with_reducible rfl))
             try simp only [Act.put, List.setIfInBounds_toArray, List.set_cons_zero, List.set_cons_succ]
             refine takeR 11 (v := ?_) rfl (by kernel_rfl) (by kernel_rfl) (by kernel_rfl) (fun _ _ _ h => h) (Or.inl ⟨by rfl, ?_⟩) hS ?_
             rotate_left; · (intro w hSw; (try dsimp only at hSw); go_simp; (try with_reducible rfl))
             try simp only [Act.put, List.setIfInBounds_toArray, List.set_cons_zero, List.set_cons_succ]
             refine doneR (by kernel_rfl) ?_
             have HT9 := Lib.hid (two_next (y1 := .int .i64 0) (y2 := .int .i64 0) T4.out HTA.out HTB.out)
             go_wp2_with fail
             go_roundg (N - (k + 1))
             case measure => omega
             case rel => exact ⟨k + 1, u2, u4, by omega, rfl, by congr 1, rfl, rfl, HT9.out⟩
           · go_simp
             obtain ⟨g5, hg5⟩ : ∃ g, g = z1.heap.size := ⟨_, rfl⟩
             obtain ⟨z5, hz5⟩ : ∃ z, z = z1.alloc (.cells #[.int .i64 C] 3) := ⟨_, rfl⟩
             have T5 := Lib.hid (T1.out.alloc2)
             rw [← hz5, ← hg5] at T5 ⊢
             clear hz5 hg5 hS
             refine hK.out _ _ T5.out.low (fun hS => ?_)
             clear hK K
             try simp only [Act.put, List.setIfInBounds_toArray, List.set_cons_zero, List.set_cons_succ]
             refine oneR 3 (by kernel_rfl) rfl (fun K hK => ?_)
             refine step_append_own_k rfl _ _ 32 rfl wk.heap.size 3 iI _ 1 8 Try.underlying32 hiI hi0 hi1 hi2 rfl (by decide) v1 k _ (by go_simp) T5.out.o1 ⟨g1, 0, none⟩ 1 1 [.int .i64 y] (by go_simp) rfl (one_cell (T5.out.c1 _ rfl).1) (by simp [Value.oneCell']) (by unfold maxLen; omega) (by omega) T5.out.low.size ?_
             intro u6 z6 o6 r6 a6
             have T6 := Lib.hid (T5.out.app1 r6 o6 a6)
             clear o6 r6 a6 hS
             refine hK.out _ _ T6.out.low (fun hS => ?_)
             clear hK K
             try simp only [Act.put, List.setIfInBounds_toArray, List.set_cons_zero, List.set_cons_succ]
             refine oneR 9 (by kernel_rfl) rfl (fun K hK => ?_)
             refine step_append_own_k rfl _ _ 32 rfl wk.heap.size 3 iI _ 1 8 Try.underlying32 hiI hi0 hi1 hi2 rfl (by decide) v2 k _ (by go_simp) T6.out.o2 ⟨g5, 0, none⟩ 1 1 [.int .i64 C] (by go_simp) rfl (one_cell (T6.out.c2 _ rfl).1) (by simp [Value.oneCell']) (by unfold maxLen; omega) (by omega) T6.out.low.size ?_
             intro u7 z7 o7 r7 a7
             have T7 := Lib.hid (T6.out.app2 r7 o7 a7)
             clear o7 r7 a7 hS
             refine hK.out _ _ T7.out.low (fun hS => ?_)
             clear hK K
             try simp only [Act.put, List.setIfInBounds_toArray, List.set_cons_zero, List.set_cons_succ]
             refine takeR 10 (v := ?_) rfl (by kernel_rfl) (by kernel_rfl) (by kernel_rfl) (fun _ _ _ h => h) (Or.inl ⟨by rfl, ?_⟩) hS ?_
             rotate_left; · (intro w hSw; (try dsimp only at hSw); go_simp; (try with_reducible rfl))
             try simp only [Act.put, List.setIfInBounds_toArray, List.set_cons_zero, List.set_cons_succ]
             refine takeR 11 (v := ?_) rfl (by kernel_rfl) (by kernel_rfl) (by kernel_rfl) (fun _ _ _ h => h) (Or.inl ⟨by rfl, ?_⟩) hS ?_
             rotate_left; · (intro w hSw; (try dsimp only at hSw); go_simp; (try with_reducible rfl))
             try simp only [Act.put, List.setIfInBounds_toArray, List.set_cons_zero, List.set_cons_succ]
             refine doneR (by kernel_rfl) ?_
             have HT9 := Lib.hid (two_next (y1 := .int .i64 0) (y2 := .int .i64 0) T7.out HTA.out HTB.out)
             go_wp2_with fail
             go_roundg (N - (k + 1))
             case measure => omega
             case rel => exact ⟨k + 1, u6, u7, by omega, rfl, by congr 1, rfl, rfl, HT9.out⟩
         · go_simp
           obtain ⟨g8, hg8⟩ : ∃ g, g = wd.heap.size := ⟨_, rfl⟩
           obtain ⟨z8, hz8⟩ : ∃ z, z = wd.alloc (.cells #[.int .i64 C] 3) := ⟨_, rfl⟩
           have T8 := Lib.hid (HD.out.alloc2)
           rw [← hz8, ← hg8] at T8 ⊢
           clear hz8 hg8 hS
           refine hK.out _ _ T8.out.low (fun hS => ?_)
           clear hK K
           try simp only [Act.put, List.setIfInBounds_toArray, List.set_cons_zero, List.set_cons_succ]
           refine oneR 2 (by kernel_rfl) rfl (fun K hK => ?_)
           go_simp
           obtain ⟨g9, hg9⟩ : ∃ g, g = z8.heap.size := ⟨_, rfl⟩
           obtain ⟨z9, hz9⟩ : ∃ z, z = z8.alloc (.cells #[.int .i64 y] 3) := ⟨_, rfl⟩
           have T9 := Lib.hid (T8.out.alloc1)
           rw [← hz9, ← hg9] at T9 ⊢
           clear hz9 hg9 hS
           refine hK.out _ _ T9.out.low (fun hS => ?_)
           clear hK K
           try simp only [Act.put, List.setIfInBounds_toArray, List.set_cons_zero, List.set_cons_succ]
           refine oneR 3 (by kernel_rfl) rfl (fun K hK => ?_)
           refine step_append_own_k rfl _ _ 32 rfl wk.heap.size 3 iI _ 1 8 Try.underlying32 hiI hi0 hi1 hi2 rfl (by decide) v1 k _ (by go_simp) T9.out.o1 ⟨g9, 0, none⟩ 1 1 [.int .i64 y] (by go_simp) rfl (one_cell (T9.out.c1 _ rfl).1) (by simp [Value.oneCell']) (by unfold maxLen; omega) (by omega) T9.out.low.size ?_
           intro u10 z10 o10 r10 a10
           have T10 := Lib.hid (T9.out.app1 r10 o10 a10)
           clear o10 r10 a10 hS
           refine hK.out _ _ T10.out.low (fun hS => ?_)
           clear hK K
           try simp only [Act.put, List.setIfInBounds_toArray, List.set_cons_zero, List.set_cons_succ]
           refine oneR 9 (by kernel_rfl) rfl (fun K hK => ?_)
           refine step_append_own_k rfl _ _ 32 rfl wk.heap.size 3 iI _ 1 8 Try.underlying32 hiI hi0 hi1 hi2 rfl (by decide) v2 k _ (by go_simp) T10.out.o2 ⟨g8, 0, none⟩ 1 1 [.int .i64 C] (by go_simp) rfl (one_cell (T10.out.c2 _ rfl).1) (by simp [Value.oneCell']) (by unfold maxLen; omega) (by omega) T10.out.low.size ?_
           intro u11 z11 o11 r11 a11
           have T11 := Lib.hid (T10.out.app2 r11 o11 a11)
           clear o11 r11 a11 hS
           refine hK.out _ _ T11.out.low (fun hS => ?_)
           clear hK K
           try simp only [Act.put, List.setIfInBounds_toArray, List.set_cons_zero, List.set_cons_succ]
           refine takeR 10 (v := ?_) rfl (by kernel_rfl) (by kernel_rfl) (by kernel_rfl) (fun _ _ _ h => h) (Or.inl ⟨by rfl, ?_⟩) hS ?_
           rotate_left; · (intro w hSw; (try dsimp only at hSw); go_simp; (try with_reducible rfl))
           try simp only [Act.put, List.setIfInBounds_toArray, List.set_cons_zero, List.set_cons_succ]
           refine takeR 11 (v := ?_) rfl (by kernel_rfl) (by kernel_rfl) (by kernel_rfl) (fun _ _ _ h => h) (Or.inl ⟨by rfl, ?_⟩) hS ?_
           rotate_left; · (intro w hSw; (try dsimp only at hSw); go_simp; (try with_reducible rfl))
           try simp only [Act.put, List.setIfInBounds_toArray, List.set_cons_zero, List.set_cons_succ]
           refine doneR (by kernel_rfl) ?_
           have HT9 := Lib.hid (two_next (y1 := .int .i64 0) (y2 := .int .i64 0) T11.out HTA.out HTB.out)
           go_wp2_with fail
           go_roundg (N - (k + 1))
           case measure => omega
           case rel => exact ⟨k + 1, u10, u11, by omega, rfl, by congr 1, rfl, rfl, HT9.out⟩
       · have hke : k = N := by omega
         subst hke
         have hki : ¬ (k : Int) < (k : Int) := by omega
         have ho1 := HT.out.o1
         have ho2 := HT.out.o2
         rw [List.take_of_length_le (by rw [← HNK.out]; exact Nat.le_refl _)] at ho1 ho2
         obtain ⟨A1, c1, rfl, _, hr1, _⟩ := own_rdA ho1
         obtain ⟨A2, c2, rfl, _, hr2, _⟩ := own_rdA ho2
         have HR1 := Lib.hid hr1
         have HR2 := Lib.hid hr2
         have HLL := Lib.hid (HLK.out.trans (HT.out.low.mono HLK.out.size))
         clear ho1 ho2 hr1 hr2 HT0 HT hkl
         go_wp2_with fail
         go_ret2
         exact ⟨A1, A2, c1, c2, K, by rw [← HNK.out]; rfl, HKO.out, HR1.out, HR2.out, HLL.out⟩
end Go.Proofs.Ytnnadhfpkplncaa
