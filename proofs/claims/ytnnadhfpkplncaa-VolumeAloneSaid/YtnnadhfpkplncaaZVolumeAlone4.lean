/- Texts of the proof of VolumeAlone, part 4 of 9. Conditions stand ahead of each. -/
import Derived.Test.YtnnadhfpkplncaaZVolumeAlone3
import Derived.Laws.Rows
import Derived.Laws.Tables
import Derived.Laws.CopyRow
import Derived.Deep.RegionLaw
import Derived.Deep.RegionLawGrows
import Derived.Lib.AppendZerosOnto
import Derived.Lib.Overlaps
import Derived.Laws.Externs

/- Where a name stands; a volume of a name. Condition: the set reads, its names go up. -/
namespace Go.Proofs.Ytnnadhfpkplncaa
open Go.RowKit

/-- What the search gives. -/
def FindPost (l : List Vol) (t : List UInt8) (w : World) (e : Ending) (w' : World) : Prop := ∃ i, Cut l t i ∧ e = .returned (.tuple #[.int .i64 (i : Nat), .bool (hasAt l i t)]) ∧ Below w.heap.size w w'
def Split (l : List Vol) (t : List UInt8) (i j : Nat) : Prop := i ≤ j ∧ j ≤ l.length ∧ (∀ k x, k < i → l[k]? = some x → cmpB x.name t < 0) ∧ (∀ k x, j ≤ k → l[k]? = some x → ¬ cmpB x.name t < 0)
theorem Split.lo {l : List Vol} {t : List UInt8} {i j h : Nat} {x : Vol} (hs : Split l t i j) (hu : Up l) (h2 : h < j) (hx : l[h]? = some x) (hc : cmpB x.name t < 0) : Split l t (h + 1) j :=
  ⟨by omega, hs.2.1, fun k y hk hy => by
    rcases Nat.lt_or_ge k h with h3 | h3
    · exact cmp_trans (hu.at hy hx h3) hc
    · obtain rfl : k = h := by omega
      rw [hx] at hy
      cases hy
      exact hc, hs.2.2.2⟩
theorem Split.hi {l : List Vol} {t : List UInt8} {i j h : Nat} {x : Vol} (hs : Split l t i j) (hu : Up l) (h1 : i ≤ h) (h2 : h < j) (hx : l[h]? = some x) (hc : ¬ cmpB x.name t < 0) : Split l t i h :=
  ⟨h1, by have := hs.2.1; omega, hs.2.2.1, fun k y hk hy c => by
    rcases Nat.lt_or_ge h k with h3 | h3
    · exact hc (cmp_trans (hu.at hx hy h3) c)
    · obtain rfl : k = h := by omega
      rw [hx] at hy
      cases hy
      exact hc c⟩
set_option maxRecDepth 100000 in
set_option maxHeartbeats 3200000 in
theorem vsearch_any (A : Option Addr) (l : List Vol) (c : Nat) (t : List UInt8) (w : World) (h : RdV w A l c) (hu : Up l) (hl : l.length ≤ 1000) :
    Calls Try.prog 69 #[.slice A l.length c, .string ⟨t.toArray⟩, .func (.func 70) #[] #[]] w (FindPost l t w) := by
  have HR := Lib.hid h
  have HU := Lib.hid hu
  obtain ⟨n, hn⟩ : ∃ n, n = l.length := ⟨_, rfl⟩
  rw [← hn] at hl ⊢
  have HN := Lib.hid hn
  clear h hu hn
  go_enter Try.func69, Try.ntmps69
  go_wp2_with fail
  go_loopg [9, 10] n (fun gg u v wr => ∃ i j : Nat, j ≤ n ∧ gg = j - i ∧ u = .int .i64 i ∧ v = .int .i64 j ∧ Hid (Split l t i j) ∧ Hid (Below w.heap.size w wr))
  case atStart => exact ⟨0, n, Nat.le_refl _, rfl, rfl, rfl, ⟨Nat.zero_le _, Nat.le_of_eq HN.out, fun k x hk => by omega, fun k x hk hx => by
    have := (List.getElem?_eq_some_iff.1 hx).1
    have := HN.out
    omega⟩, Below.refl _ _⟩
  case round =>
    obtain ⟨i, j, hj, hg, rfl, rfl, HS, HB⟩ := hrel
    by_cases hij : i < j
    · have hiji : (i : Int) < (j : Int) := by omega
      obtain ⟨hh, hhe⟩ : ∃ hh, hh = (i + j) / 2 := ⟨_, rfl⟩
      have hh1 : i ≤ hh := by omega
      have hh2 : hh < j := by omega
      have hw1 : IntKind.i64.wrap ((i : Int) + (j : Int)) = (i : Int) + (j : Int) := IntWalk.i64_in _ (by omega)
      obtain ⟨x, hx⟩ : ∃ x, l[hh]? = some x := ⟨_, List.getElem?_eq_getElem (by rw [← HN.out]; omega)⟩
      obtain ⟨b, o, rfl, c0, c1, c2, c3, c4, c5⟩ := (HR.out.below HB.out).at hx
      have HX := Lib.hid hx
      have HDIV := Lib.hid (show ((i : Int) + (j : Int)) / 2 = (hh : Int) by omega)
      have hhn : (hh : Int) < (n : Int) := by omega
      clear hx hhe
      go_upto_region 5 with fail
      rw [HDIV.out]
      clear HDIV
      go_wp2_with fail
      refine (vcmp_any x t wr).mono ?_
      rintro e w5 ⟨rfl, hb5⟩
      have HB5 := Lib.hid (HB.out.trans (hb5.mono HB.out.size))
      clear hb5 c0 c1 c2 c3 c4 c5
      by_cases hc : cmpB x.name t < 0
      · have hw2 : IntKind.i64.wrap ((hh : Int) + 1) = (hh : Int) + 1 := IntWalk.i64_in _ (by omega)
        have HS2 := Lib.hid (HS.out.lo HU.out hh2 HX.out hc)
        go_wp2_with fail
        go_roundg (j - (hh + 1))
        case measure => omega
        case rel => exact ⟨hh + 1, j, hj, rfl, by congr 1, rfl, HS2.out, HB5.out⟩
      · have HS2 := Lib.hid (HS.out.hi HU.out hh1 hh2 HX.out hc)
        go_wp2_with fail
        go_roundg (hh - i)
        case measure => omega
        case rel => exact ⟨i, hh, by omega, rfl, rfl, rfl, HS2.out, HB5.out⟩
    · have hei : i = j := by have := HS.out.1; omega
      subst hei
      have hni : ¬ (i : Int) < (i : Int) := by omega
      have HC := Lib.hid (show Cut l t i from ⟨HS.out.2.1, HS.out.2.2.1, HS.out.2.2.2⟩)
      clear hij hg
      by_cases hin : i < n
      · have hini : (i : Int) < (n : Int) := by omega
        obtain ⟨x, hx⟩ : ∃ x, l[i]? = some x := ⟨_, List.getElem?_eq_getElem (by rw [← HN.out]; omega)⟩
        obtain ⟨b, o, rfl, c0, c1, c2, c3, c4, c5⟩ := (HR.out.below HB.out).at hx
        have HHA := Lib.hid (show hasAt l i t = decide (x.name = t) from by unfold hasAt; rw [hx])
        clear hx
        go_wp2_with fail
        refine (vcmp_any x t wr).mono ?_
        rintro e w5 ⟨rfl, hb5⟩
        have HB5 := Lib.hid (HB.out.trans (hb5.mono HB.out.size))
        clear hb5 c0 c1 c2 c3 c4 c5
        by_cases hc : x.name = t
        · have hz : cmpB x.name t = 0 := cmp_zero.2 hc
          have HHB := Lib.hid (show hasAt l i t = true from HHA.out.trans (decide_eq_true hc))
          rw [hz]
          go_wp2_with fail
          go_ret2
          exact ⟨i, HC.out, by rw [HHB.out]; rfl, HB5.out⟩
        · have hz : (cmpB x.name t == 0) = false := by
            simp only [beq_eq_false_iff_ne, ne_eq]
            exact fun h => hc (cmp_zero.1 h)
          have HHB := Lib.hid (show hasAt l i t = false from HHA.out.trans (decide_eq_false hc))
          go_wp2_with fail
          go_ret2
          exact ⟨i, HC.out, by rw [HHB.out]; rfl, HB5.out⟩
      · have hini : ¬ (i : Int) < (n : Int) := by omega
        have HHB := Lib.hid (show hasAt l i t = false from by
          unfold hasAt
          rw [List.getElem?_eq_none (by rw [← HN.out]; omega)])
        go_wp2_with fail
        go_ret2
        exact ⟨i, HC.out, by rw [HHB.out]; rfl, HB.out⟩
set_option maxHeartbeats 800000 in
theorem vfind_any (s : Option Addr) (l : List Vol) (t : List UInt8) (w : World) (h : RdS w s l) (hu : Up l) (hl : l.length ≤ 1000) :
    Calls Try.prog 46 #[.pointer s, .string ⟨t.toArray⟩] w (FindPost l t w) := by
  have HA := Lib.hid (vall_any s l w h)
  have HU := Lib.hid hu
  have HL := Lib.hid hl
  clear h hu hl
  go_enter Try.func46, Try.ntmps46
  go_wp2_with fail
  refine HA.out.mono ?_
  rintro e w1 ⟨A, c, rfl, hr, rfl⟩
  have HS := Lib.hid (vsearch_any A l c t w1 hr HU.out HL.out)
  clear hr
  go_wp2_with fail
  refine HS.out.mono ?_
  rintro e w2 ⟨i, hc, rfl, hb⟩
  have HC := Lib.hid hc
  have HB := Lib.hid hb
  clear hc hb
  go_wp2_with fail
  go_ret2
  exact ⟨i, HC.out, rfl, HB.out⟩
end Go.Proofs.Ytnnadhfpkplncaa


/- A volume of a name, or the error. Condition: the set reads, its names go up. -/
namespace Go.Proofs.Ytnnadhfpkplncaa
open Go.RowKit

theorem alloc_new (w : World) (o : Obj) : (w.alloc o).heap[w.heap.size]? = some o := by
  show (w.heap.push o)[w.heap.size]? = some o
  rw [Array.getElem?_push_size]
theorem results_row_tmp {P : Program} {fn : Func} {p u : Tmp} {ty : TypeId} (h : fn.results = #[.cell p ty, .tmp u]) (tmps : Array Value) (w : World) (g : Nat) (t : TypeId) (cs : Array Value) (fr : Nat × Nat) (d : TypeDesc)
    (hp : tmps.getD p undef = .pointer (some ⟨g, 0, none⟩)) (hg : w.heap[g]? = some (.cells cs t fr))
    (hu : P.underlying ty = some d) (hd : (match d with | .struct _ | .array _ _ => true | _ => false) = true) (hi : (P.info? ty).map (·.size) = some cs.size) :
    (results fn tmps).run P w = .ok (.tuple #[.agg cs, tmps.getD u undef]) w := by
  have hp' : tmps[p]?.getD undef = .pointer (some ⟨g, 0, none⟩) := by simpa using hp
  simp [results, h, hp', asAddr, run_loadVar_row w g t ty cs fr d hg hu hd hi]
theorem stop_storeV {P : Program} {ops : Array Oper} {rest : List Oper} {o : Oper} {a : Act} {w : World} {Q : Exit → Act → World → Prop} (x y : Operand) (_ : o.op = .store 92 x y) (h : Hid (wpList P ops Q (o :: rest) a w)) : wpList P ops Q (o :: rest) a w := h.out
theorem stop_storeI {P : Program} {ops : Array Oper} {rest : List Oper} {o : Oper} {a : Act} {w : World} {Q : Exit → Act → World → Prop} (x y : Operand) (_ : o.op = .store 66 x y) (h : Hid (wpList P ops Q (o :: rest) a w)) : wpList P ops Q (o :: rest) a w := h.out
theorem stop_loadV {P : Program} {ops : Array Oper} {rest : List Oper} {o : Oper} {a : Act} {w : World} {Q : Exit → Act → World → Prop} (x : Operand) (_ : o.op = .load 92 x) (h : Hid (wpList P ops Q (o :: rest) a w)) : wpList P ops Q (o :: rest) a w := h.out
theorem below_setRow {L g : Nat} {w : World} {cs : Array Value} (h : L ≤ g) : Below L w (w.setRow g cs) := ⟨rfl, rfl, rfl, by simp, fun k hk => setRow_other w g k _ (by omega)⟩
def GetPost (l : List Vol) (t : List UInt8) (w : World) (e : Ending) (w' : World) : Prop := Below w.heap.size w w' ∧
  ((∃ i x, l[i]? = some x ∧ x.name = t ∧ Cut l t i ∧ e = .returned (.tuple #[.agg #[.string ⟨x.name.toArray⟩, .int .i64 x.blocks, .int .i64 x.quota, .int .i64 x.used, .bool x.frozen, .pointer x.A], .nilIface])) ∨ ((∀ x ∈ l, x.name ≠ t) ∧ e = .returned (.tuple #[.agg #[.string ⟨#[]⟩, .int .i64 0, .int .i64 0, .int .i64 0, .bool false, .pointer none], .iface 93 (.int .i64 30)])))
set_option maxRecDepth 100000 in
set_option maxHeartbeats 1600000 in
theorem vget_any (s : Option Addr) (l : List Vol) (t : List UInt8) (w : World) (h : RdS w s l) (hu : Up l) (hl : l.length ≤ 1000) :
    Calls Try.prog 45 #[.pointer s, .string ⟨t.toArray⟩] w (GetPost l t w) := by
  have HU := Lib.hid hu
  have HH := Lib.hid h
  obtain ⟨w1, hw1⟩ : ∃ w1, w1 = w.alloc (.cells #[.string ⟨#[]⟩, .int .i64 0, .int .i64 0, .int .i64 0, .bool false, .pointer none] 92) := ⟨_, rfl⟩
  have hb1 : Below w.heap.size w w1 := by rw [hw1]; exact (Below.refl _ _).alloc (Nat.le_refl _) _
  have hx1 : w1.heap[w.heap.size]? = some (.cells #[.string ⟨#[]⟩, .int .i64 0, .int .i64 0, .int .i64 0, .bool false, .pointer none] 92 (0, 0)) := by rw [hw1]; exact alloc_new _ _
  have HF := Lib.hid (vfind_any s l t w1 (h.below hb1) hu hl)
  have HB1 := Lib.hid hb1
  have HX1 := Lib.hid hx1
  have HL := Lib.hid hl
  clear hb1 hx1 h hu hl
  go_enter Try.func45, Try.ntmps45
  go_wp2_with fail
  rw [← hw1]
  clear hw1
  refine HF.out.mono ?_
  rintro e w2 ⟨i, hc, rfl, hb2⟩
  have HC := Lib.hid hc
  have HX2 := Lib.hid ((hb2.block _ (block_lt HX1.out)).trans HX1.out)
  have HB2 := Lib.hid (HB1.out.trans (hb2.mono HB1.out.size))
  clear hc hb2 HX1 HF HB1
  by_cases hh : hasAt l i t = true
  · obtain ⟨x, hx, hxt⟩ := hasAt_some hh
    rw [hh]
    have HXN := Lib.hid hxt
    have HX := Lib.hid hx
    have hlt : i < l.length := (List.getElem?_eq_some_iff.1 hx).1
    obtain ⟨e1, _⟩ | ⟨bs, A, c, rfl, hbs, hr⟩ := HH.out.2
    · exfalso
      rename_i e2
      rw [e2] at hlt
      cases hlt
    obtain ⟨n, hn⟩ : ∃ n, n = l.length := ⟨_, rfl⟩
    rw [← hn] at hlt hbs
    have hin : (i : Int) < (n : Int) := by omega
    obtain ⟨b, o, rfl, c0, c1, c2, c3, c4, c5⟩ := (hr.below HB2.out).at hx
    have hcs : w2.cell? ⟨bs, 0, none⟩ = some (.slice (some ⟨b, o, none⟩) n c) := block_cell ((HB2.out.block _ (block_lt hbs)).trans hbs)
    clear hx hxt hh hbs hr hn
    go_wp2_with ((with_reducible refine stop_storeV _ _ rfl ?_))
    unfold Hid
    refine wpList_store_row rfl 92 _ _ rfl w.heap.size #[.string ⟨x.name.toArray⟩, .int .i64 x.blocks, .int .i64 x.quota, .int .i64 x.used, .bool x.frozen, .pointer x.A] rfl rfl 92 _ HX2.out (by kernel_rfl) rfl (by simp [Value.oneCell']) ?_
    have HB3 := Lib.hid (HB2.out.trans (below_setRow (L := w.heap.size) (g := w.heap.size) (w := w2) (cs := #[.string ⟨x.name.toArray⟩, .int .i64 x.blocks, .int .i64 x.quota, .int .i64 x.used, .bool x.frozen, .pointer x.A]) (Nat.le_refl _)))
    have HX3 := Lib.hid (setRow_heap w2 w.heap.size _ #[.string ⟨x.name.toArray⟩, .int .i64 x.blocks, .int .i64 x.quota, .int .i64 x.used, .bool x.frozen, .pointer x.A] 92 _ HX2.out)
    generalize w2.setRow w.heap.size #[.string ⟨x.name.toArray⟩, .int .i64 x.blocks, .int .i64 x.quota, .int .i64 x.used, .bool x.frozen, .pointer x.A] = w3 at *
    clear c0 c1 c2 c3 c4 c5 hcs
    go_wp2
    refine bodyPost_ret (results_row_tmp rfl _ _ w.heap.size _ _ _ _ rfl HX3.out Try.underlying92 rfl (by kernel_rfl)) rfl ?_
    exact ⟨HB3.out, Or.inl ⟨i, x, HX.out, HXN.out, HC.out, rfl⟩⟩
  · have hf : hasAt l i t = false := by simpa using hh
    have HN := Lib.hid (HC.out.none HU.out hf)
    rw [hf]
    clear hh hf
    go_wp2_with ((with_reducible refine stop_storeV _ _ rfl ?_))
    unfold Hid
    refine wpList_store_row rfl 92 _ _ rfl w.heap.size #[.string ⟨#[]⟩, .int .i64 0, .int .i64 0, .int .i64 0, .bool false, .pointer none] rfl rfl 92 _ HX2.out (by kernel_rfl) rfl (by simp [Value.oneCell']) ?_
    have HB3 := Lib.hid (HB2.out.trans (below_setRow (L := w.heap.size) (g := w.heap.size) (w := w2) (cs := #[.string ⟨#[]⟩, .int .i64 0, .int .i64 0, .int .i64 0, .bool false, .pointer none]) (Nat.le_refl _)))
    have HX3 := Lib.hid (setRow_heap w2 w.heap.size _ #[.string ⟨#[]⟩, .int .i64 0, .int .i64 0, .int .i64 0, .bool false, .pointer none] 92 _ HX2.out)
    generalize w2.setRow w.heap.size #[.string ⟨#[]⟩, .int .i64 0, .int .i64 0, .int .i64 0, .bool false, .pointer none] = w3 at *
    go_wp2
    refine bodyPost_ret (results_row_tmp rfl _ _ w.heap.size _ _ _ _ rfl HX3.out Try.underlying92 rfl (by kernel_rfl)) rfl ?_
    exact ⟨HB3.out, Or.inr ⟨HN.out, rfl⟩⟩
end Go.Proofs.Ytnnadhfpkplncaa


/- Rows of structs: copied, stored into at a place, cleared. No condition of its own. -/
namespace Go.Proofs.Ytnnadhfpkplncaa
open Go.RowKit

section
variable {P : Program}
/-- A row's cells from a place on. -/
def cut3 (cur : Array Value) (o : Nat) (cs : List Value) : Array Value := (cur.toList.take o ++ cs ++ cur.toList.drop (o + cs.length)).toArray
theorem cut3_size {cur : Array Value} {o : Nat} {cs : List Value} (h : o + cs.length ≤ cur.size) : (cut3 cur o cs).size = cur.size := by
  unfold cut3
  simp
  omega
theorem cut3_list (X M Z cs : List Value) (cur : Array Value) (h : cur.toList = X ++ M ++ Z) (hl : M.length = cs.length) : (cut3 cur X.length cs).toList = X ++ cs ++ Z := by
  unfold cut3
  rw [h]
  simp only
  rw [List.append_assoc X M Z, List.take_left' rfl, ← List.append_assoc X M Z, ← hl, ← List.length_append, List.drop_left' rfl]
theorem run_copy_rows (w : World) (dT sT ty elem : TypeId) (g o dLen dCap : Nat) (a : Addr) (sLen sCap k s : Nat) (cur : Array Value) (t : TypeId) (cs : List Value)
    (hu : P.underlying dT = some (.slice elem)) (hs : (P.info? elem).map (·.size) = some s)
    (hg : w.heap[g]? = some (.cells cur t (0, 0))) (hk : k = Nat.min sLen dLen) (hn : cs.length = k * s)
    (hsrc : ∀ j v, cs[j]? = some v → w.cell? (a.add j) = some v) (hfit : o + cs.length ≤ cur.size) (h1 : ∀ v ∈ cs, v.oneCell' = true) :
    (Builtin.copy_ #[dT, sT] ty #[.slice (some ⟨g, o, none⟩) dLen dCap, .slice (some a) sLen sCap]).run P w = .ok (goInt k) (w.setRow g (cut3 cur o cs)) := by
  have hl := run_loadCells_list (P := P) w a cs hsrc
  have hst := run_storeCells_at P g o t cs 0 cur w hg (by simpa using hfit) h1
  cases hq : P.info? elem with
  | none => simp [hq] at hs
  | some i =>
    have hi : i.size = s := by simpa [hq] using hs
    simp [Builtin.copy_, run_underlying hu, Builtin.lenOf, Builtin.firstCells, sizeOf, typeInfo, hq, hi, ← hk, ← hn, hl, hst, cut3]
theorem run_storeVar_at (w : World) (g o : Nat) (t ty : TypeId) (cur cells : Array Value) (hg : w.heap[g]? = some (.cells cur t (0, 0))) (hi : (P.info? ty).map (·.size) = some cells.size) (hfit : o + cells.size ≤ cur.size) (h1 : cells.all (·.oneCell') = true) :
    (storeVar ty ⟨g, o, none⟩ (.agg cells)).run P w = .ok () (w.setRow g (cut3 cur o cells.toList)) := by
  have hst := run_storeCells_at P g o t cells.toList 0 cur w hg (by simpa using hfit) (fun v hv => (Array.all_eq_true_iff_forall_mem.1 h1) v (by simpa using hv))
  cases hq : P.info? ty with
  | none => simp [hq] at hi
  | some i =>
    have hs : cells.size = i.size := by simp [hq] at hi; omega
    simp [storeVar, sizeOf, typeInfo, hq, Value.cells, hs] at hst ⊢
    simp [hst, cut3, hs]
theorem wp_store_at {op : Oper} {a : Act} {w : World} {K : Act → World → Prop} {Q : Exit → Act → World → Prop} (ty : TypeId) (x y : Operand) (ho : op.op = .store ty x y)
    (g o : Nat) (cells : Array Value) (hx : a.eval x = .pointer (some ⟨g, o, none⟩)) (hy : a.eval y = .agg cells) (t : TypeId) (cur : Array Value)
    (hg : w.heap[g]? = some (.cells cur t (0, 0))) (hi : (P.info? ty).map (·.size) = some cells.size) (hfit : o + cells.size ≤ cur.size) (h1 : cells.all (·.oneCell') = true)
    (h : K (a.put op.dst undef) (w.setRow g (cut3 cur o cells.toList))) : op.wp P a w K Q := by
  unfold Oper.wp execOp
  simp only [ho, hx, hy, Instr.storeAt, Instr.sureAddr, Sem.run_bind, Sem.run_pure, Result.andThen_ok, run_storeVar_at w g o t ty cur cells hg hi hfit h1]
  exact h
theorem wpList_store_at {ops : Array Oper} {rest : List Oper} {op : Oper} {a : Act} {w : World} {Q : Exit → Act → World → Prop} (hgd : op.guard = none) (ty : TypeId) (x y : Operand) (ho : op.op = .store ty x y)
    (g o : Nat) (cells : Array Value) (hx : a.eval x = .pointer (some ⟨g, o, none⟩)) (hy : a.eval y = .agg cells) (t : TypeId) (cur : Array Value)
    (hg : w.heap[g]? = some (.cells cur t (0, 0))) (hi : (P.info? ty).map (·.size) = some cells.size) (hfit : o + cells.size ≤ cur.size) (h1 : cells.all (·.oneCell') = true)
    (h : wpList P ops Q rest (a.put op.dst undef) (w.setRow g (cut3 cur o cells.toList))) : wpList P ops Q (op :: rest) a w :=
  wpList_plain hgd fun _ hK => wp_store_at ty x y ho g o cells hx hy t cur hg hi hfit h1 (hK _ _ h)
theorem wp_copy_run (w : World) {o : Oper} {a : Act} {K : Act → World → Prop} {Q : Exit → Act → World → Prop} (d s : Operand) (t t' : TypeId)
    (ho : o.op = .call { callee := .builtin .copy, args := #[d, s], argTypes := #[t, t'] }) (v u : Value) (hd : a.eval d = v) (hs : a.eval s = u) {v' : Value} {w' : World}
    (hr : (Builtin.copy_ #[t, t'] o.type #[v, u]).run P w = .ok v' w') (h : K (a.put o.dst v') w') : o.wp P a w K Q := by
  unfold Oper.wp execOp
  simp only [ho, resolve, invoke, builtin, Sem.run_bind, Sem.run_pure, Result.andThen_ok, List.map_toArray, List.map_cons, List.map_nil, hd, hs, hr]
  exact h
theorem wpList_copy_run (w : World) {ops : Array Oper} {rest : List Oper} {o : Oper} {a : Act} {Q : Exit → Act → World → Prop} (hgd : o.guard = none) (d s : Operand) (t t' : TypeId)
    (ho : o.op = .call { callee := .builtin .copy, args := #[d, s], argTypes := #[t, t'] }) (v u : Value) (hd : a.eval d = v) (hs : a.eval s = u) {v' : Value} {w' : World}
    (hr : (Builtin.copy_ #[t, t'] o.type #[v, u]).run P w = .ok v' w') (h : wpList P ops Q rest (a.put o.dst v') w') : wpList P ops Q (o :: rest) a w :=
  wpList_plain hgd fun _ hK => wp_copy_run w d s t t' ho v u hd hs hr (hK _ _ h)
theorem step_copy_run {ops : Array Oper} {o : Oper} {a : Act} {w : World} {K : Act → World → Prop} {Q : Exit → Act → World → Prop} {E : Prop}
    (hg : o.guard = none) (d x : Operand) (dT sT : TypeId) (hop : o.op = Op.call { callee := Callee.builtin Builtin.copy, args := #[d, x], argTypes := #[dT, sT] })
    (v u : Value) (hd : a.eval d = v) (hx : a.eval x = u) {v' : Value} {w' : World} (hr : (Builtin.copy_ #[dT, sT] o.type #[v, u]).run P w = .ok v' w') (hK : K (a.put o.dst v') w') :
    if Region.wanted o (yielded ops a.tmps) = true then Oper.wp P o a w K Q else E := by
  have hw : Region.wanted o (yielded ops a.tmps) = true := by simp [Region.wanted, hg]
  rw [if_pos hw]
  unfold Oper.wp
  simp [execOp, hop, resolve, invoke, builtin, hd, hx, hr, Result.andThen]
  exact hK
end
/-- A row of volumes, its room told. -/
structure RowV (B : Nat) (w : World) (g c : Nat) (cur : Array Value) (l : List Vol) : Prop where
  heap : w.heap[g]? = some (.cells cur 92 (0, 0))
  base : B ≤ g
  cap : l.length ≤ c
  max : c ≤ maxLen
  size : cur.size = c * 6
  take : cur.toList.take (l.length * 6) = vols l
theorem RowV.own {B : Nat} {w : World} {g c : Nat} {cur : Array Value} {l : List Vol} (h : RowV B w g c cur l) : w.ownsRow B 92 6 (.slice (some ⟨g, 0, none⟩) l.length c) l.length (vols l) :=
  ⟨vols_len l, Or.inr ⟨g, c, cur, rfl, h.base, h.heap, h.cap, h.max, h.size, h.take⟩⟩
theorem RowV.of {B : Nat} {w : World} {v : Value} {l : List Vol} (h : w.ownsRow B 92 6 v l.length (vols l)) : (v = .slice none 0 0 ∧ l = []) ∨ ∃ g c cur, v = .slice (some ⟨g, 0, none⟩) l.length c ∧ RowV B w g c cur l := by
  rcases h.2 with ⟨e1, e2⟩ | ⟨g, c, cur, e, h1, h2, h3, h4, h5, h6⟩
  · exact Or.inl ⟨e1, List.eq_nil_of_length_eq_zero e2⟩
  · exact Or.inr ⟨g, c, cur, e, h2, h1, h3, h4, h5, h6⟩
theorem own_rdV {w : World} {B : Nat} {v : Value} {l : List Vol} (h : w.ownsRow B 92 6 v l.length (vols l)) : ∃ A c, v = .slice A l.length c ∧ RdV w A l c ∧ ∀ b, A = some b → B ≤ b.block := by
  rcases RowV.of h with ⟨rfl, rfl⟩ | ⟨g, c, cur, rfl, hr⟩
  · exact ⟨none, 0, rfl, RdV.empty w, fun b e => by cases e⟩
  · obtain ⟨A, c2, e, h1, h2, h3⟩ := own_rdA h
    injection e with e1 _ e2
    subst e1 e2
    exact ⟨_, c, rfl, ⟨h2, hr.cap, (fun e => by cases e), ⟨h.1, Or.inr ⟨g, c, cur, rfl, Nat.zero_le _, hr.heap, hr.cap, hr.max, hr.size, hr.take⟩⟩⟩, fun b e => (h3 b e).1⟩
theorem row_split {cur : Array Value} {l : List Vol} (h : cur.toList.take (l.length * 6) = vols l) : cur.toList = vols l ++ cur.toList.drop (l.length * 6) := by
  rw [← h, List.take_append_drop]
theorem infoTVOL : (Try.prog.info? 92).map (fun i => (i.zero, i.size, i.bytes)) = some (some (.agg #[.string ⟨#[]⟩, .int .i64 0, .int .i64 0, .int .i64 0, .bool false, .pointer none]), 6, 56) := by kernel_rfl
theorem info_parts {P : Program} {e : TypeId} {z : Value} {s b : Nat} (h : (P.info? e).map (fun i => (i.zero, i.size, i.bytes)) = some (some z, s, b)) : ∃ i, P.info? e = some i ∧ i.zero = some z ∧ i.size = s ∧ i.bytes = b := by
  cases hq : P.info? e with
  | none => rw [hq] at h; cases h
  | some i =>
    rw [hq] at h
    simp only [Option.map_some, Option.some.injEq, Prod.mk.injEq] at h
    exact ⟨i, rfl, h.1, h.2.1, h.2.2⟩
end Go.Proofs.Ytnnadhfpkplncaa


/- slices.Clone and slices.Insert of volumes. Condition: the slice reads; what is put in lies in a block of its own. -/
namespace Go.Proofs.Ytnnadhfpkplncaa
open Go.RowKit

theorem own_geV {w : World} {B n s : Nat} {E : TypeId} {v : Value} {xs : List Value} (h : w.ownsRow B E s v n xs) {q : Nat} (e : v.ownBlock = some q) : B ≤ q := by
  rcases h.2 with ⟨e1, _⟩ | ⟨g, c, cur, e1, hg, _⟩
  · rw [e1] at e; cases e
  · rw [e1] at e; cases e; exact hg
theorem below_grown {L : Nat} {w w1 w' : World} {row : Option Nat} (h : Below L w w1) (g : w1.grownBy w' row) (hL : L ≤ w1.heap.size) (hr : ∀ q, row = some q → L ≤ q) : Below L w w' :=
  ⟨g.os.trans h.os, g.tape.trans h.tape, g.output.trans h.output, Nat.le_trans h.size g.size, fun k hk => (g.block k (by omega) (fun e => by have := hr k e.symm; omega)).trans (h.block k hk)⟩
set_option maxRecDepth 100000 in
set_option maxHeartbeats 1600000 in
/-- slices.Clone. -/
theorem vclone_any (l : List Vol) (A : Option Addr) (c : Nat) (w : World) (h : RdV w A l c) (hl : l.length ≤ 1000) :
    Calls Try.prog 48 #[.slice A l.length c] w fun e w' => ∃ v', e = .returned v' ∧ w'.ownsRow w.heap.size 92 6 v' l.length (vols l) ∧ Below w.heap.size w w' := by
  obtain ⟨n, hn⟩ : ∃ n, n = l.length := ⟨_, rfl⟩
  have hA := h.nil
  have HR := Lib.hid h.rd
  rw [← hn] at hA hl ⊢
  have HN := Lib.hid hn
  obtain ⟨iI, hiI, hz0, hz1, hz2⟩ := info_parts infoTVOL
  clear h hn
  cases A with
  | none =>
    obtain ⟨rfl, rfl⟩ := hA rfl
    have HE := Lib.hid (show w.ownsRow w.heap.size 92 6 (.slice none 0 0) 0 (vols l) by
      have : l = [] := List.eq_nil_of_length_eq_zero HN.out.symm
      rw [this]; exact World.ownsRow_nil _ _ _ _)
    have hbo : (binOp .eql 100 (.slice none 0 0) (.slice none 0 0)).run Try.prog w = .ok (.bool true) w := by kernel_rfl
    go_enter Try.func48, Try.ntmps48
    go_wp2
    go_ret
    exact ⟨_, rfl, HE.out, Below.refl _ _⟩
  | some a =>
    clear hA
    have hbo : (binOp .eql 100 (.slice (some a) n c) (.slice none 0 0)).run Try.prog w = .ok (.bool false) w := by kernel_rfl
    go_enter Try.func48, Try.ntmps48
    go_wp2_with (at_builtin; refine Hid.out ?_)
    unfold Hid
    have ho : (w.alloc (.cells #[] 92)).ownsRow w.heap.size 92 6 (.slice (some ⟨w.heap.size, 0, none⟩) 0 0) 0 [] :=
      ⟨rfl, Or.inr ⟨w.heap.size, 0, #[], rfl, Nat.le_refl _, alloc_new _ _, Nat.le_refl _, Nat.zero_le _, rfl, rfl⟩⟩
    have hrA : RdA (w.alloc (.cells #[] 92)) (some a) (vols l) := HR.out.below ((Below.refl _ w).alloc (Nat.le_refl _) _)
    refine wpList_append_own _ rfl (.tmp 5) (.tmp 6) 100 rfl w.heap.size 92 iI _ 6 56 Try.underlying100 hiI hz0 hz1 hz2 rfl (by decide) _ 0 [] rfl ho a n c (vols l) rfl (by rw [vols_len, HN.out]) (fun j u hj => by
      obtain ⟨b, o, e, hc⟩ := hrA j u hj
      cases e
      rw [WideShapes.add_plain]; exact hc) (vols_one l) (by unfold maxLen; omega) (by omega) (by rw [World.size_alloc]; omega) ?_
    intro v6 w6 hrow6 hg6 _
    have HB6 := Lib.hid (below_grown ((Below.refl _ w).alloc (Nat.le_refl _) (.cells #[] 92)) hg6 (by rw [World.size_alloc]; omega) (fun q e => own_geV ho e))
    have HE := Lib.hid (show w6.ownsRow w.heap.size 92 6 v6 n (vols l) by rw [Nat.zero_add] at hrow6; exact hrow6)
    clear hrow6 hg6 ho hrA
    go_wp2
    go_ret
    exact ⟨_, rfl, HE.out, HB6.out⟩
def InsPost (B : Nat) (l : List Vol) (i : Nat) (v : Vol) (w : World) (e : Ending) (w' : World) : Prop := ∃ v', e = .returned v' ∧ w'.ownsRow B 92 6 v' (l.length + 1) (vols (l.take i ++ v :: l.drop i)) ∧ Below B w w'
set_option maxRecDepth 100000 in
set_option maxHeartbeats 3200000 in
/-- At the end: an append. -/
theorem vins_end (B : Nat) (l : List Vol) (s : Value) (v : Vol) (vb : Nat) (w : World) (h : w.ownsRow B 92 6 s l.length (vols l)) (hl : l.length ≤ 1000) (hB : B ≤ w.heap.size)
    (hv : w.heap[vb]? = some (.cells #[.string ⟨v.name.toArray⟩, .int .i64 v.blocks, .int .i64 v.quota, .int .i64 v.used, .bool v.frozen, .pointer v.A] 92 (0, 0))) : Calls Try.prog 68 #[s, .int .i64 (l.length : Nat), .slice (some ⟨vb, 0, none⟩) 1 1] w (InsPost B l l.length v w) := by
  obtain ⟨A, c, rfl, hr, _⟩ := own_rdV h
  have HO := Lib.hid h
  have HV := Lib.hid hv
  have HNIL := Lib.hid hr.nil
  obtain ⟨iI, hiI, hz0, hz1, hz2⟩ := info_parts infoTVOL
  have HE0 := Lib.hid (show vols (l.take l.length ++ v :: l.drop l.length) = vols l ++ vcells v by
    rw [List.take_of_length_le (Nat.le_refl _), List.drop_of_length_le (Nat.le_refl _), vols_app]; simp [vols])
  obtain ⟨n, hn⟩ : ∃ n, n = l.length := ⟨_, rfl⟩
  unfold InsPost
  rw [← hn] at hl HO HNIL ⊢
  rw [← hn] at HE0
  have hc0 := hr.cap
  rw [← hn] at hc0
  have hmx : ¬ ((c : Int) < (n : Int)) := by omega
  clear h hv hn hr
  have hcn : A = none → n = 0 ∧ c = 0 := HNIL.out
  have HVO := Lib.hid (show ∀ u ∈ vcells v, u.oneCell' = true from fun u hu => vols_one [v] u (by simpa [vols] using hu))
  clear HNIL
  cases A with
  | none =>
    obtain ⟨rfl, rfl⟩ := hcn rfl
    go_enter Try.func68, Try.ntmps68
    go_wp2_with (at_builtin; refine Hid.out ?_)
    unfold Hid
    refine wpList_append_own _ rfl (.tmp 23) (.tmp 24) 100 rfl B 92 iI _ 6 56 Try.underlying100 hiI hz0 hz1 hz2 rfl (by decide) _ 0 (vols l) rfl HO.out ⟨vb, 0, none⟩ 1 1 (vcells v) rfl rfl (fun j u hj => by
      rw [WideShapes.add_plain, Nat.zero_add, block_cell HV.out]
      simpa [vcells] using hj) HVO.out (by unfold maxLen; omega) (by omega) hB ?_
    intro v6 w6 hrow6 hg6 _
    have HB6 := Lib.hid (below_grown (Below.refl B w) hg6 hB (fun q e => own_geV HO.out e))
    have HE := Lib.hid hrow6
    clear hrow6 hg6
    go_wp2
    go_ret
    exact ⟨_, rfl, by rw [HE0.out]; exact HE.out, HB6.out⟩
  | some a =>
    clear hcn
    by_cases hcn : c = n
    · subst hcn
      go_enter Try.func68, Try.ntmps68
      go_wp2_with (at_builtin; refine Hid.out ?_)
      unfold Hid
      refine wpList_append_own _ rfl (.tmp 23) (.tmp 24) 100 rfl B 92 iI _ 6 56 Try.underlying100 hiI hz0 hz1 hz2 rfl (by decide) _ c (vols l) rfl HO.out ⟨vb, 0, none⟩ 1 1 (vcells v) rfl rfl (fun j u hj => by
        rw [WideShapes.add_plain, Nat.zero_add, block_cell HV.out]
        simpa [vcells] using hj) HVO.out (by unfold maxLen; omega) (by omega) hB ?_
      intro v6 w6 hrow6 hg6 _
      have HB6 := Lib.hid (below_grown (Below.refl B w) hg6 hB (fun q e => own_geV HO.out e))
      have HE := Lib.hid hrow6
      clear hrow6 hg6
      go_wp2
      go_ret
      exact ⟨_, rfl, by rw [HE0.out]; exact HE.out, HB6.out⟩
    go_enter Try.func68, Try.ntmps68
    go_wp2_with (at_builtin; refine Hid.out ?_)
    unfold Hid
    refine wpList_append_own _ rfl (.tmp 23) (.tmp 24) 100 rfl B 92 iI _ 6 56 Try.underlying100 hiI hz0 hz1 hz2 rfl (by decide) _ n (vols l) rfl HO.out ⟨vb, 0, none⟩ 1 1 (vcells v) rfl rfl (fun j u hj => by
      rw [WideShapes.add_plain, Nat.zero_add, block_cell HV.out]
      simpa [vcells] using hj) HVO.out (by unfold maxLen; omega) (by omega) hB ?_
    intro v6 w6 hrow6 hg6 _
    have HB6 := Lib.hid (below_grown (Below.refl B w) hg6 hB (fun q e => own_geV HO.out e))
    have HE := Lib.hid hrow6
    clear hrow6 hg6
    go_wp2
    go_ret
    exact ⟨_, rfl, by rw [HE0.out]; exact HE.out, HB6.out⟩
theorem shift_list {cur : Array Value} {X Y Z vs : List Value} (h : cur.toList = X ++ Y ++ Z) (hv : vs.length = 6) (hz : 6 ≤ Z.length) : ∃ Z', (cut3 (cut3 cur (X.length + 6) Y) X.length vs).toList = X ++ vs ++ (Y ++ Z') := by
  have l6 : ((Y ++ Z).take 6).length = 6 := by simp; omega
  have e1 : cur.toList = (X ++ (Y ++ Z).take 6) ++ ((Y ++ Z).drop 6).take Y.length ++ ((Y ++ Z).drop 6).drop Y.length := by
    rw [List.append_assoc (X ++ _) _ _, List.take_append_drop, List.append_assoc X, List.take_append_drop, h, List.append_assoc]
  have e2 := cut3_list (X ++ (Y ++ Z).take 6) _ _ Y cur e1 (by simp; omega)
  rw [List.length_append, l6] at e2
  rw [List.append_assoc, List.append_assoc] at e2
  have e3 := cut3_list X ((Y ++ Z).take 6) (Y ++ ((Y ++ Z).drop 6).drop Y.length) vs _ (by rw [e2, List.append_assoc]) (by rw [l6, hv])
  exact ⟨_, e3⟩
theorem ins_list (l : List Vol) (i : Nat) (v : Vol) : vols (l.take i ++ v :: l.drop i) = vols (l.take i) ++ vcells v ++ vols (l.drop i) := by
  rw [vols_app]; simp [vols]
set_option maxRecDepth 100000 in
set_option maxHeartbeats 6400000 in
/-- In the middle, where there is room: in place. -/
theorem vins_shift (B : Nat) (l : List Vol) (i : Nat) (v : Vol) (g c vb : Nat) (cur : Array Value) (w : World) (h : RowV B w g c cur l) (hl : l.length ≤ 1000) (hi : i < l.length) (hroom : l.length + 1 ≤ c)
    (hv : w.heap[vb]? = some (.cells #[.string ⟨v.name.toArray⟩, .int .i64 v.blocks, .int .i64 v.quota, .int .i64 v.used, .bool v.frozen, .pointer v.A] 92 (0, 0))) (hne : vb ≠ g) : Calls Try.prog 68 #[.slice (some ⟨g, 0, none⟩) l.length c, .int .i64 (i : Nat), .slice (some ⟨vb, 0, none⟩) 1 1] w (InsPost B l i v w) := by
  obtain ⟨n, hn⟩ : ∃ n, n = l.length := ⟨_, rfl⟩
  have hsz : (Try.prog.info? 92).map (·.size) = some 6 := by kernel_rfl
  have HXL := Lib.hid (show (vols (l.take i)).length = i * 6 by rw [vols_len, List.length_take]; omega)
  have HYL := Lib.hid (show (vols (l.drop i)).length = (n - i) * 6 by rw [vols_len, List.length_drop, hn])
  obtain ⟨X, hX⟩ : ∃ X, X = vols (l.take i) := ⟨_, rfl⟩
  obtain ⟨Y, hY⟩ : ∃ Y, Y = vols (l.drop i) := ⟨_, rfl⟩
  obtain ⟨Z, hZ⟩ : ∃ Z, Z = cur.toList.drop (l.length * 6) := ⟨_, rfl⟩
  have hXY : vols l = X ++ Y := by rw [hX, hY, ← vols_app, List.take_append_drop]
  have hcur : cur.toList = X ++ Y ++ Z := by rw [← hXY, hZ]; exact row_split h.take
  have HOX := Lib.hid (show ∀ u ∈ Y, u.oneCell' = true by rw [hY]; exact vols_one _)
  have HVO := Lib.hid (show ∀ u ∈ vcells v, u.oneCell' = true from fun u hu => vols_one [v] u (by simpa [vols] using hu))
  have HINS := Lib.hid (show vols (l.take i ++ v :: l.drop i) = X ++ vcells v ++ Y by rw [hX, hY]; exact ins_list l i v)
  rw [← hX] at HXL
  rw [← hY] at HYL
  have hcs : cur.size = c * 6 := h.size
  have hZl : Z.length = (c - n) * 6 := by
    have e := congrArg List.length hcur
    simp only [List.length_append, Array.length_toList, HXL.out, HYL.out, hcs] at e
    omega
  have H := Lib.hid h
  have hmax : c ≤ maxLen := h.max
  unfold maxLen at hmax
  unfold InsPost
  rw [← hn] at hi hl hroom ⊢
  have HV := Lib.hid hv
  have hov : ∀ lb cb, (callFunc 94 #[.slice (some ⟨vb, 0, none⟩) 1 1, .slice (some ⟨g, (i + 1) * 6, none⟩) lb cb]).run Try.prog w = .ok (.value (.bool false)) w := fun lb cb => by
    have hsa : w.shape? vb = some (92, 6) := by simp [World.shape?, hv]
    have hsb : w.shape? g = some (92, cur.size) := by simp [World.shape?, h.heap]
    rw [run_callFunc_extern Try.func94 (by kernel_rfl) (by kernel_rfl) (by kernel_rfl) (e := Extern.SlicesOverlaps.overlaps #[100, 100] #[4]) (by kernel_rfl),
      Lib.run_overlaps_apart w 100 4 92 Try.underlying100 6 Try.sizeOf92 ⟨vb, 0, none⟩ ⟨g, (i + 1) * 6, none⟩ 1 1 lb cb hne 92 92 6 cur.size hsa hsb (by omega) (block_free hv) (block_free hv)]
    rfl
  have hz2 : ¬ ((i : Int) = (n : Int)) := by omega
  have hw1 : IntKind.i64.wrap ((i : Int) + 1) = (i : Int) + 1 := IntWalk.i64_in _ (by omega)
  have hw2 : IntKind.i64.wrap ((n : Int) + 1) = (n : Int) + 1 := IntWalk.i64_in _ (by omega)
  have hnc : ¬ ((c : Int) < (n : Int) + 1) := by omega
  have mixed : Try.prog.follows .mixedOrders = true := by kernel_rfl
  have hi1 : ¬ (c = i + 1) := by omega
  have hb1 : (0 : Int) ≤ (i : Int) + 1 := by omega
  have hin : i ≤ n := by omega
  have htn : ((i : Int) + 1).toNat = i + 1 := by omega
  have hb3 : (i : Int) ≤ (n : Int) + 1 := by omega
  have hb5 : (i : Int) + 1 ≤ (n : Int) + 1 := by omega
  have hi0 : ¬ (c = i) := by omega
  have hcp1 : ∀ ty dc sc, (Builtin.copy_ #[100, 100] ty #[.slice (some ⟨g, (i + 1) * 6, none⟩) (n - i) dc, .slice (some ⟨g, i * 6, none⟩) (n + 1 - i) sc]).run Try.prog w.drew = .ok (goInt (n - i : Nat)) (w.drew.setRow g (cut3 cur ((i + 1) * 6) Y)) := fun ty dc sc =>
    run_copy_rows w.drew _ _ ty 92 g ((i + 1) * 6) _ dc ⟨g, i * 6, none⟩ _ sc (n - i) 6 cur 92 Y Try.underlying100 hsz h.heap (by simp only [Nat.min_def]; split <;> omega) HYL.out (fun j u hj => by
      rw [WideShapes.add_plain]
      show w.cell? _ = _
      rw [block_cell h.heap]
      have e := congrArg (fun q : List Value => q[i * 6 + j]?) hcur
      simp only [Array.getElem?_toList] at e
      rw [e, List.append_assoc, List.getElem?_append_right (by rw [HXL.out]; omega), HXL.out, Nat.add_sub_cancel_left, List.getElem?_append_left (List.getElem?_eq_some_iff.1 hj).1, hj]) (by rw [HYL.out, hcs]; omega) HOX.out
  obtain ⟨cur1, hc1⟩ : ∃ cur1, cur1 = cut3 cur ((i + 1) * 6) Y := ⟨_, rfl⟩
  rw [← hc1] at hcp1
  have hcs1 : cur1.size = c * 6 := by rw [hc1, cut3_size (by rw [HYL.out, hcs]; omega), hcs]
  obtain ⟨W1, hW1⟩ : ∃ W1, W1 = w.drew.setRow g cur1 := ⟨_, rfl⟩
  rw [← hW1] at hcp1
  have hg1 : W1.heap[g]? = some (.cells cur1 92 (0, 0)) := by rw [hW1]; exact setRow_heap w.drew g _ cur1 92 _ h.heap
  have hv1 : W1.heap[vb]? = some (.cells #[.string ⟨v.name.toArray⟩, .int .i64 v.blocks, .int .i64 v.quota, .int .i64 v.used, .bool v.frozen, .pointer v.A] 92 (0, 0)) := by rw [hW1]; exact (setRow_other w.drew g vb cur1 hne).trans hv
  have hcp2 : ∀ ty dc, (Builtin.copy_ #[100, 100] ty #[.slice (some ⟨g, i * 6, none⟩) (n + 1 - i) dc, .slice (some ⟨vb, 0, none⟩) 1 1]).run Try.prog W1 = .ok (goInt (1 : Nat)) (W1.setRow g (cut3 cur1 (i * 6) (vcells v))) := fun ty dc =>
    run_copy_rows W1 _ _ ty 92 g (i * 6) _ dc ⟨vb, 0, none⟩ 1 1 1 6 cur1 92 (vcells v) Try.underlying100 hsz hg1 (by simp only [Nat.min_def]; split <;> omega) rfl (fun j u hj => by
      rw [WideShapes.add_plain, Nat.zero_add, block_cell hv1]
      simpa [vcells] using hj) (by rw [hcs1]; show i * 6 + 6 ≤ _; omega) HVO.out
  have HFIN := Lib.hid (show RowV B (W1.setRow g (cut3 cur1 (i * 6) (vcells v))) g c (cut3 cur1 (i * 6) (vcells v)) (l.take i ++ v :: l.drop i) ∧ Below B w (W1.setRow g (cut3 cur1 (i * 6) (vcells v))) from by
    have hlen : (l.take i ++ v :: l.drop i).length = n + 1 := by simp; omega
    refine ⟨⟨setRow_heap W1 g _ _ 92 _ hg1, h.base, by rw [hlen]; exact hroom, h.max, by rw [cut3_size (by rw [hcs1]; show i * 6 + 6 ≤ _; omega), hcs1], ?_⟩, ?_⟩
    · rw [hlen, HINS.out]
      obtain ⟨Z', hZ'⟩ := shift_list (vs := vcells v) hcur rfl (by omega)
      rw [HXL.out, show i * 6 + 6 = (i + 1) * 6 by omega, ← hc1] at hZ'
      rw [hZ', ← List.append_assoc, List.take_left']
      simp only [List.length_append, HXL.out, HYL.out]
      show i * 6 + 6 + _ = _
      omega
    · rw [hW1]
      have hbg := h.base
      exact ((Below.refl B w).drew.trans (below_setRow hbg)).trans (below_setRow hbg))
  have HLEN := Lib.hid (show (l.take i ++ v :: l.drop i).length = n + 1 by simp; omega)
  subst hW1
  clear hv h hn hX hY hZ hcur hg1 hv1 hc1 hcs1
  go_enter Try.func68, Try.ntmps68
  go_wp2_with (simp only [hov])
  go_region_law_o (refine step_copy_run rfl _ _ 100 100 rfl _ _ (by simp [Act.eval, Act.put]) (by simp [Act.eval, Act.put]) (hcp1 _ _ _) ?_)
  go_wp2_with (at_builtin; refine wpList_copy_run _ rfl _ _ 100 100 rfl _ _ rfl rfl (hcp2 _ _) ?_)
  go_ret
  have h9 := HFIN.out.1.own
  rw [HLEN.out] at h9
  exact ⟨_, rfl, h9, HFIN.out.2⟩
theorem grow_list {N0 : Array Value} {X Y Z vs : List Value} (h : N0.toList = X ++ Z) (hv : vs.length = 6) (hz : 6 + Y.length ≤ Z.length) : ∃ Z', (cut3 (cut3 N0 X.length vs) (X.length + 6) Y).toList = X ++ vs ++ Y ++ Z' := by
  have e1 : N0.toList = X ++ Z.take 6 ++ Z.drop 6 := by rw [List.append_assoc, List.take_append_drop, h]
  have e2 := cut3_list X (Z.take 6) (Z.drop 6) vs N0 e1 (by simp; omega)
  have e3 := cut3_list (X ++ vs) ((Z.drop 6).take Y.length) ((Z.drop 6).drop Y.length) Y (cut3 N0 X.length vs) (by rw [e2, List.append_assoc _ ((Z.drop 6).take _), List.take_append_drop]) (by simp; omega)
  rw [List.length_append, hv] at e3
  exact ⟨_, e3⟩
theorem zero_size (z : Array Value) (k : Nat) : (Builtin.zeroCells z k).size = k * z.size := by simp [Builtin.zeroCells]
set_option maxRecDepth 100000 in
set_option maxHeartbeats 6400000 in
/-- In the middle, where there is no room: a row anew. -/
theorem vins_grow (B : Nat) (l : List Vol) (i : Nat) (v : Vol) (g c vb : Nat) (cur : Array Value) (w : World) (h : RowV B w g c cur l) (hl : l.length ≤ 1000) (hi : i < l.length) (hroom : c < l.length + 1)
    (hv : w.heap[vb]? = some (.cells #[.string ⟨v.name.toArray⟩, .int .i64 v.blocks, .int .i64 v.quota, .int .i64 v.used, .bool v.frozen, .pointer v.A] 92 (0, 0))) (hB : B ≤ w.heap.size) : Calls Try.prog 68 #[.slice (some ⟨g, 0, none⟩) l.length c, .int .i64 (i : Nat), .slice (some ⟨vb, 0, none⟩) 1 1] w (InsPost B l i v w) := by
  obtain ⟨n, hn⟩ : ∃ n, n = l.length := ⟨_, rfl⟩
  obtain ⟨iI, hiI, hz0, hz1, hz2⟩ := info_parts infoTVOL
  have hsz : (Try.prog.info? 92).map (·.size) = some 6 := by kernel_rfl
  have HXL := Lib.hid (show (vols (l.take i)).length = i * 6 by rw [vols_len, List.length_take]; omega)
  have HYL := Lib.hid (show (vols (l.drop i)).length = (n - i) * 6 by rw [vols_len, List.length_drop, hn])
  obtain ⟨X, hX⟩ : ∃ X, X = vols (l.take i) := ⟨_, rfl⟩
  obtain ⟨Y, hY⟩ : ∃ Y, Y = vols (l.drop i) := ⟨_, rfl⟩
  have hXY : vols l = X ++ Y := by rw [hX, hY, ← vols_app, List.take_append_drop]
  have hcur : cur.toList = X ++ Y ++ cur.toList.drop (l.length * 6) := by rw [← hXY]; exact row_split h.take
  have hat : ∀ (j : Nat) (u : Value), (X ++ Y)[j]? = some u → cur[j]? = some u := fun j u hj => by
    have e := congrArg (fun q : List Value => q[j]?) hcur
    simp only [Array.getElem?_toList] at e
    rw [e, List.getElem?_append_left (List.getElem?_eq_some_iff.1 hj).1, hj]
  have HOX := Lib.hid (show ∀ u ∈ Y, u.oneCell' = true by rw [hY]; exact vols_one _)
  have HVO := Lib.hid (show ∀ u ∈ vcells v, u.oneCell' = true from fun u hu => vols_one [v] u (by simpa [vols] using hu))
  have HINS := Lib.hid (show vols (l.take i ++ v :: l.drop i) = X ++ vcells v ++ Y by rw [hX, hY]; exact ins_list l i v)
  rw [← hX] at HXL
  rw [← hY] at HYL
  have hnc0 : n ≤ c := by rw [hn]; exact h.cap
  unfold InsPost
  rw [← hn] at hi hl hroom ⊢
  have hglt : g < w.heap.size := block_lt h.heap
  have hvlt : vb < w.heap.size := block_lt hv
  obtain ⟨G, hG⟩ : ∃ G, G = grownCap w (i + (n + 1 - i)) c 92 := ⟨_, rfl⟩
  have hGn : n + 1 ≤ G := by rw [hG]; have := grownCap_ge w (i + (n + 1 - i)) c 92; omega
  have hGm : G ≤ maxLen := by rw [hG]; exact grownCap_le_maxLen w _ c _ (by unfold maxLen; omega)
  obtain ⟨N0, hN0⟩ : ∃ N0, N0 = X.toArray ++ Builtin.zeroCells #[.string ⟨#[]⟩, .int .i64 0, .int .i64 0, .int .i64 0, .bool false, .pointer none] (n + 1 - i) ++ Builtin.zeroCells #[.string ⟨#[]⟩, .int .i64 0, .int .i64 0, .int .i64 0, .bool false, .pointer none] (G - (i + (n + 1 - i))) := ⟨_, rfl⟩
  have hN0s : N0.size = G * 6 := by
    rw [hN0]
    simp only [Array.size_append, zero_size, List.size_toArray, HXL.out]
    show i * 6 + (n + 1 - i) * 6 + (G - (i + (n + 1 - i))) * 6 = _
    omega
  have hN0l : ∃ Z, N0.toList = X ++ Z ∧ Z.length = (G - i) * 6 := by
    refine ⟨(Builtin.zeroCells #[.string ⟨#[]⟩, .int .i64 0, .int .i64 0, .int .i64 0, .bool false, .pointer none] (n + 1 - i)).toList ++ (Builtin.zeroCells #[.string ⟨#[]⟩, .int .i64 0, .int .i64 0, .int .i64 0, .bool false, .pointer none] (G - (i + (n + 1 - i)))).toList, by rw [hN0]; simp, ?_⟩
    simp only [List.length_append, Array.length_toList, zero_size]
    show (n + 1 - i) * 6 + (G - (i + (n + 1 - i))) * 6 = _
    omega
  have hold : (Builtin.firstCells iI.size i (.slice (some ⟨g, 0, none⟩) i c)).run Try.prog w.drew = .ok X.toArray w.drew := by
    have := run_loadCells_list (P := Try.prog) w.drew ⟨g, 0, none⟩ X (fun j u hj => by
      rw [WideShapes.add_plain, Nat.zero_add]
      show w.cell? _ = _
      rw [block_cell h.heap]
      exact hat j u (by rw [List.getElem?_append_left (List.getElem?_eq_some_iff.1 hj).1]; exact hj))
    rw [HXL.out] at this
    rw [hz1]
    exact this
  have hap : ∀ ty, (Builtin.append_ #[100, 3] ty #[.slice (some ⟨g, 0, none⟩) i c, .int .i64 ((n : Int) + 1 - (i : Int))]).run Try.prog w = .ok (.slice (some ⟨w.heap.size, 0, none⟩) (n + 1) G) (w.alloc (.cells N0 92)).drew := fun ty => by
    have := Lib.run_append_grow_zeros (P := Try.prog) w 100 3 ty 92 iI _ .i64 .i64 Try.underlying100 Try.underlying3 hiI hz0 (some ⟨g, 0, none⟩) i c X hold (n + 1 - i) (by omega) (by rw [hz1]; decide) (by omega) (by omega) (by rw [hz2]; omega) (by
      rw [hz2]
      exact growslice_fits (by omega) (by omega))
    rw [show (((n + 1 - i : Nat) : Int)) = (n : Int) + 1 - (i : Int) by omega, show i + (n + 1 - i) = n + 1 by omega] at this
    rw [this, hN0, hG]
    rw [show i + (n + 1 - i) = n + 1 by omega]
    rfl
  obtain ⟨W0, hW0⟩ : ∃ W0, W0 = (w.alloc (.cells N0 92)).drew := ⟨_, rfl⟩
  have hq0 : W0.heap[w.heap.size]? = some (.cells N0 92 (0, 0)) := by rw [hW0]; exact alloc_new w _
  have hv0 : W0.heap[vb]? = some (.cells #[.string ⟨v.name.toArray⟩, .int .i64 v.blocks, .int .i64 v.quota, .int .i64 v.used, .bool v.frozen, .pointer v.A] 92 (0, 0)) := by rw [hW0]; exact (((Below.refl w.heap.size w).alloc (Nat.le_refl _) _).drew.block vb hvlt).trans hv
  have hg0 : W0.heap[g]? = some (.cells cur 92 (0, 0)) := by rw [hW0]; exact (((Below.refl w.heap.size w).alloc (Nat.le_refl _) _).drew.block g hglt).trans h.heap
  have hb0 : Below B w W0 := by rw [hW0]; exact ((Below.refl B w).alloc hB _).drew
  have hcp1 : ∀ ty dc, (Builtin.copy_ #[100, 100] ty #[.slice (some ⟨w.heap.size, i * 6, none⟩) (n + 1 - i) dc, .slice (some ⟨vb, 0, none⟩) 1 1]).run Try.prog W0 = .ok (goInt (1 : Nat)) (W0.setRow w.heap.size (cut3 N0 (i * 6) (vcells v))) := fun ty dc =>
    run_copy_rows W0 _ _ ty 92 w.heap.size (i * 6) _ dc ⟨vb, 0, none⟩ 1 1 1 6 N0 92 (vcells v) Try.underlying100 hsz hq0 (by simp only [Nat.min_def]; split <;> omega) rfl (fun j u hj => by
      rw [WideShapes.add_plain, Nat.zero_add, block_cell hv0]
      simpa [vcells] using hj) (by rw [hN0s]; show i * 6 + 6 ≤ _; omega) HVO.out
  obtain ⟨N1, hN1⟩ : ∃ N1, N1 = cut3 N0 (i * 6) (vcells v) := ⟨_, rfl⟩
  rw [← hN1] at hcp1
  have hN1s : N1.size = G * 6 := by rw [hN1, cut3_size (by rw [hN0s]; show i * 6 + 6 ≤ _; omega), hN0s]
  obtain ⟨W1, hW1⟩ : ∃ W1, W1 = (W0.setRow w.heap.size N1).drew := ⟨_, rfl⟩
  have hq1 : W1.heap[w.heap.size]? = some (.cells N1 92 (0, 0)) := by rw [hW1]; exact setRow_heap W0 w.heap.size _ N1 92 _ hq0
  have hg1 : W1.heap[g]? = some (.cells cur 92 (0, 0)) := by rw [hW1]; exact (setRow_other W0 w.heap.size g N1 (by omega)).trans hg0
  have hb1 : Below B w W1 := by rw [hW1]; exact (hb0.trans (below_setRow hB)).drew
  have hcp2 : ∀ ty dc sc, (Builtin.copy_ #[100, 100] ty #[.slice (some ⟨w.heap.size, (i + 1) * 6, none⟩) (n - i) dc, .slice (some ⟨g, i * 6, none⟩) (n - i) sc]).run Try.prog W1 = .ok (goInt (n - i : Nat)) (W1.setRow w.heap.size (cut3 N1 ((i + 1) * 6) Y)) := fun ty dc sc =>
    run_copy_rows W1 _ _ ty 92 w.heap.size ((i + 1) * 6) _ dc ⟨g, i * 6, none⟩ _ sc (n - i) 6 N1 92 Y Try.underlying100 hsz hq1 (by simp only [Nat.min_def]; split <;> omega) HYL.out (fun j u hj => by
      rw [WideShapes.add_plain, block_cell hg1]
      exact hat _ u (by rw [List.getElem?_append_right (by rw [HXL.out]; omega), HXL.out, Nat.add_sub_cancel_left]; exact hj)) (by rw [HYL.out, hN1s]; omega) HOX.out
  have HFIN := Lib.hid (show RowV B (W1.setRow w.heap.size (cut3 N1 ((i + 1) * 6) Y)) w.heap.size G (cut3 N1 ((i + 1) * 6) Y) (l.take i ++ v :: l.drop i) ∧ Below B w (W1.setRow w.heap.size (cut3 N1 ((i + 1) * 6) Y)) from by
    have hlen : (l.take i ++ v :: l.drop i).length = n + 1 := by simp; omega
    refine ⟨⟨setRow_heap W1 w.heap.size _ _ 92 _ hq1, hB, by rw [hlen]; exact hGn, hGm, by rw [cut3_size (by rw [hN1s, HYL.out]; omega), hN1s], ?_⟩, hb1.trans (below_setRow hB)⟩
    rw [hlen, HINS.out]
    obtain ⟨Z, hZ, hZl⟩ := hN0l
    obtain ⟨Z', hZ'⟩ := grow_list (vs := vcells v) (Y := Y) hZ rfl (by rw [hZl, HYL.out]; omega)
    rw [HXL.out, ← hN1, show i * 6 + 6 = (i + 1) * 6 by omega] at hZ'
    rw [hZ', List.take_left']
    simp only [List.length_append, HXL.out, HYL.out]
    show i * 6 + 6 + _ = _
    omega)
  have HLEN := Lib.hid (show (l.take i ++ v :: l.drop i).length = n + 1 by simp; omega)
  have mixed : Try.prog.follows .mixedOrders = true := by kernel_rfl
  have hz2 : ¬ ((i : Int) = (n : Int)) := by omega
  have hw2 : IntKind.i64.wrap ((n : Int) + 1) = (n : Int) + 1 := IntWalk.i64_in _ (by omega)
  have hw3 : IntKind.i64.wrap ((n : Int) + 1 - (i : Int)) = (n : Int) + 1 - (i : Int) := IntWalk.i64_in _ (by omega)
  have hw1 : IntKind.i64.wrap ((i : Int) + 1) = (i : Int) + 1 := IntWalk.i64_in _ (by omega)
  have hnc : (c : Int) < (n : Int) + 1 := by omega
  have hi0 : ¬ (c = i) := by omega
  have hiG : ¬ (G = i) := by omega
  have hiG1 : ¬ (G = i + 1) := by omega
  have hb1' : (0 : Int) ≤ (i : Int) + 1 := by omega
  have hin : i ≤ n := by omega
  have htn : ((i : Int) + 1).toNat = i + 1 := by omega
  have hb3 : (i : Int) ≤ (n : Int) + 1 := by omega
  have hb5 : (i : Int) + 1 ≤ (n : Int) + 1 := by omega
  subst hW1
  subst hW0
  clear hv h hn hX hY hcur hg1 hq1 hq0 hg0 hv0 hN1 hN1s hN0 hN0s hN0l hold hat hXY hG hb0 hb1 hiI hz0 hz1 hz2
  go_enter Try.func68, Try.ntmps68
  go_wp2_with (at_builtin; refine Hid.out ?_)
  unfold Hid
  refine Lib.wpList_append_run _ rfl (.tmp 34) (.tmp 39) 100 3 rfl _ _ rfl rfl _ _ (hap _) ?_
  go_wp2_with (at_builtin; refine wpList_copy_run _ rfl _ _ 100 100 rfl _ _ rfl rfl (hcp1 _ _) ?_)
  go_region_law_o (refine step_copy_run rfl _ _ 100 100 rfl _ _ (by simp [Act.eval, Act.put]) (by simp [Act.eval, Act.put]) (hcp2 _ _ _) ?_)
  go_wp2
  go_ret
  have h9 := HFIN.out.1.own
  rw [HLEN.out] at h9
  exact ⟨_, rfl, h9, HFIN.out.2⟩
end Go.Proofs.Ytnnadhfpkplncaa


/- A set with a volume more, or another one of its name. Condition: the set reads, its names go up; the volume's tree reads. -/
namespace Go.Proofs.Ytnnadhfpkplncaa
open Go.RowKit

theorem vins_any (B : Nat) (l : List Vol) (i : Nat) (s : Value) (v : Vol) (vb : Nat) (w : World) (h : w.ownsRow B 92 6 s l.length (vols l)) (hl : l.length ≤ 1000) (hi : i ≤ l.length) (hB : B ≤ w.heap.size)
    (hv : w.heap[vb]? = some (.cells #[.string ⟨v.name.toArray⟩, .int .i64 v.blocks, .int .i64 v.quota, .int .i64 v.used, .bool v.frozen, .pointer v.A] 92 (0, 0))) (hne : ∀ q, s.ownBlock = some q → vb ≠ q) : Calls Try.prog 68 #[s, .int .i64 (i : Nat), .slice (some ⟨vb, 0, none⟩) 1 1] w (InsPost B l i v w) := by
  rcases Nat.lt_or_ge i l.length with hlt | hge
  · rcases RowV.of h with ⟨_, rfl⟩ | ⟨g, c, cur, rfl, hr⟩
    · cases hlt
    · rcases Nat.lt_or_ge c (l.length + 1) with h1 | h1
      · exact vins_grow B l i v g c vb cur w hr hl hlt h1 hv hB
      · exact vins_shift B l i v g c vb cur w hr hl hlt h1 hv (hne g rfl)
  · obtain rfl : i = l.length := by omega
    exact vins_end B l s v vb w h hl hB hv
theorem set_row {B : Nat} {w : World} {g c : Nat} {cur : Array Value} {l : List Vol} (h : RowV B w g c cur l) {i : Nat} (hi : i < l.length) (v : Vol) :
    RowV B (w.setRow g (cut3 cur (i * 6) (vcells v))) g c (cut3 cur (i * 6) (vcells v)) (l.set i v) := by
  have hsz := h.size
  have hcp := h.cap
  refine ⟨setRow_heap w g _ _ 92 _ h.heap, h.base, by rw [List.length_set]; exact h.cap, h.max, by rw [cut3_size (by rw [hsz]; show i * 6 + 6 ≤ _; omega), hsz], ?_⟩
  obtain ⟨x, hx⟩ : ∃ x, l[i]? = some x := ⟨_, List.getElem?_eq_getElem hi⟩
  obtain ⟨_, ex⟩ := List.getElem?_eq_some_iff.1 hx
  have e0 : l = l.take i ++ x :: l.drop (i + 1) := by
    rw [← ex, ← List.drop_eq_getElem_cons hi, List.take_append_drop]
  have hX : (vols (l.take i)).length = i * 6 := by rw [vols_len, List.length_take]; omega
  have e1 : cur.toList = vols (l.take i) ++ vcells x ++ (vols (l.drop (i + 1)) ++ cur.toList.drop (l.length * 6)) := by
    rw [← List.append_assoc, ← show vols l = vols (l.take i) ++ vcells x ++ vols (l.drop (i + 1)) from by
      conv => lhs; rw [e0]
      rw [vols_app]; simp [vols]]
    exact row_split h.take
  have e2 := cut3_list _ _ _ (vcells v) cur e1 rfl
  rw [hX] at e2
  rw [e2, List.length_set, ← List.append_assoc, List.take_left' (by
    simp only [List.length_append, hX, vols_len, List.length_drop]
    show i * 6 + 6 + _ = _
    omega), List.set_eq_take_append_cons_drop, if_pos hi, vols_app]
  simp [vols]
def WithPost (l : List Vol) (v : Vol) (w : World) (e : Ending) (w' : World) : Prop := ∃ i b, Cut l v.name i ∧ e = .returned (.pointer (some ⟨b, 0, none⟩)) ∧ RdS w' (some ⟨b, 0, none⟩) (putV l i v) ∧ Below w.heap.size w w'
theorem trees_put {w : World} {l : List Vol} {i : Nat} {v : Vol} (h : Trees w l) (hv : ∃ S, RdR v.f S w v.A) : Trees w (putV l i v) := fun x hx => by
  rcases put_mem hx with rfl | hx
  · exact hv
  · exact h x hx
/-- The box of the set. -/
theorem boxed_set {w w1 : World} {B : Nat} {v : Value} {l : List Vol} (ht : Trees w1 l) (ho : w1.ownsRow B 92 6 v l.length (vols l)) (hb : Below w.heap.size w w1) :
    RdS (w1.alloc (.cells #[v] 104)) (some ⟨w1.heap.size, 0, none⟩) l ∧ Below w.heap.size w (w1.alloc (.cells #[v] 104)) := by
  have hk : Below w1.heap.size w1 (w1.alloc (.cells #[v] 104)) := (Below.refl _ _).alloc (Nat.le_refl _) _
  obtain ⟨A, c, rfl, hr, _⟩ := own_rdV ho
  exact ⟨⟨ht.below hk, Or.inr ⟨_, A, c, rfl, alloc_new _ _, hr.below hk⟩⟩, hb.trans (hk.mono hb.size)⟩
set_option maxRecDepth 100000 in
set_option maxHeartbeats 3200000 in
theorem vwith_any (s : Option Addr) (l : List Vol) (v : Vol) (w : World) (h : RdS w s l) (hu : Up l) (hl : l.length ≤ 900) (hv : ∃ S, RdR v.f S w v.A) :
    Calls Try.prog 44 #[.pointer s, .agg #[.string ⟨v.name.toArray⟩, .int .i64 v.blocks, .int .i64 v.quota, .int .i64 v.used, .bool v.frozen, .pointer v.A]] w (WithPost l v w) := by
  obtain ⟨p, hp⟩ : ∃ p, p = w.heap.size := ⟨_, rfl⟩
  obtain ⟨w1, hw1⟩ : ∃ w1, w1 = w.alloc (.cells #[.string ⟨v.name.toArray⟩, .int .i64 v.blocks, .int .i64 v.quota, .int .i64 v.used, .bool v.frozen, .pointer v.A] 92) := ⟨_, rfl⟩
  have hb1 : Below w.heap.size w w1 := by rw [hw1]; exact (Below.refl _ _).alloc (Nat.le_refl _) _
  have hx1 : w1.heap[p]? = some (.cells #[.string ⟨v.name.toArray⟩, .int .i64 v.blocks, .int .i64 v.quota, .int .i64 v.used, .bool v.frozen, .pointer v.A] 92 (0, 0)) := by rw [hw1, hp]; exact alloc_new _ _
  have HF := Lib.hid (vfind_any s l v.name w1 (h.below hb1) hu (by omega))
  have HS := Lib.hid h
  have HV := Lib.hid hv
  have HU := Lib.hid hu
  have HB1 := Lib.hid hb1
  have HX1 := Lib.hid hx1
  clear h hu hv hb1 hx1
  go_enter Try.func44, Try.ntmps44
  go_wp2_with fail
  rw [← hw1, ← hp]
  have HP := Lib.hid hp
  clear hw1 hp
  refine HF.out.mono ?_
  rintro e w2 ⟨i, hc, rfl, hb2⟩
  have HC := Lib.hid hc
  have HX2 := Lib.hid ((hb2.block _ (block_lt HX1.out)).trans HX1.out)
  have HB2 := Lib.hid (HB1.out.trans (hb2.mono HB1.out.size))
  clear hc hb2 HX1 HF HB1
  have HA := Lib.hid (vall_any s l w2 (HS.out.below HB2.out))
  go_wp2_with fail
  refine HA.out.mono ?_
  rintro e w2' ⟨A, c, rfl, hr, rfl⟩
  have HCL := Lib.hid (vclone_any l A c w2' hr (by omega))
  clear hr HA
  go_wp2_with fail
  refine HCL.out.mono ?_
  rintro e w3 ⟨v3, rfl, ho3, hb3⟩
  have HO3 := Lib.hid ho3
  have HX3 := Lib.hid ((hb3.block _ (block_lt HX2.out)).trans HX2.out)
  have HB3 := Lib.hid (HB2.out.trans (hb3.mono HB2.out.size))
  have HPL := Lib.hid (show p < w2'.heap.size from block_lt HX2.out)
  have HSZ := Lib.hid hb3.size
  clear ho3 hb3 HCL HX2
  have x0 : w3.cell? ⟨p, 0, none⟩ = some (.string ⟨v.name.toArray⟩) := block_cell HX3.out
  have x1 : w3.cell? ⟨p, 1, none⟩ = some (.int .i64 v.blocks) := block_cell HX3.out
  have x2 : w3.cell? ⟨p, 2, none⟩ = some (.int .i64 v.quota) := block_cell HX3.out
  have x3 : w3.cell? ⟨p, 3, none⟩ = some (.int .i64 v.used) := block_cell HX3.out
  have x4 : w3.cell? ⟨p, 4, none⟩ = some (.bool v.frozen) := block_cell HX3.out
  have x5 : w3.cell? ⟨p, 5, none⟩ = some (.pointer v.A) := block_cell HX3.out
  by_cases hh : hasAt l i v.name = true
  · obtain ⟨x, hx, hxt⟩ := hasAt_some hh
    have hlt : i < l.length := (List.getElem?_eq_some_iff.1 hx).1
    rcases RowV.of HO3.out with ⟨_, e0⟩ | ⟨g, c3, cur, rfl, hrow⟩
    · rw [e0] at hlt; cases hlt
    have HROW := Lib.hid hrow
    have HFIN := Lib.hid (show (w3.setRow g (cut3 cur (i * 6) (vcells v))).ownsRow w2'.heap.size 92 6 (.slice (some ⟨g, 0, none⟩) l.length c3) (putV l i v).length (vols (putV l i v)) ∧ Trees (w3.setRow g (cut3 cur (i * 6) (vcells v))) (putV l i v) ∧ Below w.heap.size w (w3.setRow g (cut3 cur (i * 6) (vcells v))) from by
      have hbs : Below w2'.heap.size w3 (w3.setRow g (cut3 cur (i * 6) (vcells v))) := below_setRow hrow.base
      have h8 := (set_row hrow hlt v).own
      have h7 : putV l i v = l.set i v := by unfold putV; rw [if_pos hh]
      rw [List.length_set] at h8
      refine ⟨by rw [h7, List.length_set]; exact h8, trees_put ?_ ?_, HB3.out.trans (hbs.mono (by rw [← HP.out]; have := HPL.out; omega))⟩
      · have hk : Below w.heap.size w (w3.setRow g (cut3 cur (i * 6) (vcells v))) := HB3.out.trans (hbs.mono (by rw [← HP.out]; have := HPL.out; omega))
        exact HS.out.1.below hk
      · have hk : Below w.heap.size w (w3.setRow g (cut3 cur (i * 6) (vcells v))) := HB3.out.trans (hbs.mono (by rw [← HP.out]; have := HPL.out; omega))
        obtain ⟨S, hS⟩ := HV.out
        exact ⟨S, hS.below hk⟩)
    have hcs : i * 6 + 6 ≤ cur.size := by rw [hrow.size]; have := hrow.cap; omega
    have HLEN := Lib.hid (show i < l.length from hlt)
    obtain ⟨n, hn⟩ : ∃ n, n = l.length := ⟨_, rfl⟩
    rw [← hn] at hlt HFIN ⊢
    rw [hh]
    have hin : (i : Int) < (n : Int) := by omega
    clear hx hxt hrow hn
    go_wp2_with ((with_reducible refine stop_storeV _ _ rfl ?_))
    unfold Hid
    refine wpList_store_at rfl 92 _ _ rfl g (i * 6) #[.string ⟨v.name.toArray⟩, .int .i64 v.blocks, .int .i64 v.quota, .int .i64 v.used, .bool v.frozen, .pointer v.A] rfl rfl 92 cur HROW.out.heap (by kernel_rfl) hcs (by simp [Value.oneCell']) ?_
    rw [show (#[.string ⟨v.name.toArray⟩, .int .i64 v.blocks, .int .i64 v.quota, .int .i64 v.used, .bool v.frozen, .pointer v.A]).toList = vcells v from rfl]
    generalize w3.setRow g (cut3 cur (i * 6) (vcells v)) = w4 at *
    have HFN := Lib.hid (boxed_set HFIN.out.2.1 HFIN.out.1 HFIN.out.2.2)
    clear x0 x1 x2 x3 x4 x5
    go_wp2
    go_ret
    exact ⟨i, w4.heap.size, HC.out, rfl, HFN.out.1, HFN.out.2⟩
  · have hf : hasAt l i v.name = false := by simpa using hh
    rw [hf]
    have HPV := Lib.hid (show putV l i v = l.take i ++ v :: l.drop i from by unfold putV; rw [if_neg hh])
    obtain ⟨w4, hw4⟩ : ∃ w4, w4 = w3.alloc (.cells #[.string ⟨v.name.toArray⟩, .int .i64 v.blocks, .int .i64 v.quota, .int .i64 v.used, .bool v.frozen, .pointer v.A] 92) := ⟨_, rfl⟩
    have hb4 : Below w3.heap.size w3 w4 := by rw [hw4]; exact (Below.refl _ _).alloc (Nat.le_refl _) _
    have hx4 : w4.heap[w3.heap.size]? = some (.cells #[.string ⟨v.name.toArray⟩, .int .i64 v.blocks, .int .i64 v.quota, .int .i64 v.used, .bool v.frozen, .pointer v.A] 92 (0, 0)) := by rw [hw4]; exact alloc_new _ _
    have ho4 : w4.ownsRow w2'.heap.size 92 6 v3 l.length (vols l) := by
      obtain ⟨o1, o2⟩ := HO3.out
      refine ⟨o1, ?_⟩
      rcases o2 with o2 | ⟨q, c9, cur, e, hq, hh9, x⟩
      · exact Or.inl o2
      · exact Or.inr ⟨q, c9, cur, e, hq, (hb4.block q (block_lt hh9)).trans hh9, x⟩
    have HI := Lib.hid (vins_any w2'.heap.size l i v3 v w3.heap.size w4 ho4 (by omega) HC.out.le (by have := HSZ.out; have := hb4.size; omega) hx4 (fun q e e2 => by
      rcases HO3.out.2 with ⟨e1, _⟩ | ⟨q2, c9, cur, e1, hq, hh9, x⟩
      · rw [e1] at e; cases e
      · rw [e1] at e
        cases e
        have h9 := block_lt hh9
        have e3 : w3.heap.size = q2 := e2
        omega))
    have HB4 := Lib.hid (HB3.out.trans (hb4.mono HB3.out.size))
    have HLE := Lib.hid (show i ≤ l.length from HC.out.le)
    obtain ⟨n, hn⟩ : ∃ n, n = l.length := ⟨_, rfl⟩
    clear hb4 hx4 ho4 hh hf hn
    go_wp2_with fail
    rw [← hw4]
    clear hw4 x0 x1 x2 x3 x4 x5
    refine HI.out.mono ?_
    rintro e w5 ⟨v5, rfl, ho5, hb5⟩
    have hk5 : Below w.heap.size w w5 := HB4.out.trans (hb5.mono (by rw [← HP.out]; have := HPL.out; omega))
    have ho6 : w5.ownsRow w2'.heap.size 92 6 v5 (putV l i v).length (vols (putV l i v)) := by
      rw [HPV.out, show (l.take i ++ v :: l.drop i).length = l.length + 1 by have := HLE.out; simp; omega]
      exact ho5
    have HFN := Lib.hid (boxed_set (l := putV l i v) (trees_put (HS.out.1.below hk5) (by
      obtain ⟨S, hS⟩ := HV.out
      exact ⟨S, hS.below hk5⟩)) ho6 hk5)
    obtain ⟨A5, c5, e5, _, _⟩ := own_rdV ho6
    subst e5
    clear ho5 ho6 hb5 hk5
    go_wp2
    go_ret
    exact ⟨i, w5.heap.size, HC.out, rfl, HFN.out.1, HFN.out.2⟩
end Go.Proofs.Ytnnadhfpkplncaa


/- A name that can be; room for one more; a volume made. Condition: the set reads, its names go up. -/
namespace Go.Proofs.Ytnnadhfpkplncaa
open Go.RowKit

def okN (t : List UInt8) : Prop := t = [97] ∨ t = [98]
def oddR (c : Nat) : Bool := decide ((c : Int) < 33) || decide ((126 : Int) < (c : Int))
theorem named1_any (x : Nat) (w : World) : Calls Try.prog 73 #[.int .i32 x] w fun e w' => e = .returned (.bool (oddR x)) ∧ w' = w := by
  unfold oddR
  by_cases h1 : (x : Int) < 33
  · have hd : decide ((x : Int) < 33) = true := decide_eq_true h1
    rw [hd]
    go_enter Try.func73, Try.ntmps73
    go_wp2
    go_ret
    exact ⟨rfl, rfl⟩
  · have hd : decide ((x : Int) < 33) = false := decide_eq_false h1
    rw [hd]
    by_cases h2 : (126 : Int) < (x : Int)
    · have hd2 : decide ((126 : Int) < (x : Int)) = true := decide_eq_true h2
      rw [hd2]
      go_enter Try.func73, Try.ntmps73
      go_wp2
      go_ret
      exact ⟨rfl, rfl⟩
    · have hd2 : decide ((126 : Int) < (x : Int)) = false := decide_eq_false h2
      rw [hd2]
      go_enter Try.func73, Try.ntmps73
      go_wp2
      go_ret
      exact ⟨rfl, rfl⟩
theorem sidx_any (t : List UInt8) (w : World) : Calls Try.prog 72 #[.string ⟨t.toArray⟩, .func (.func 73) #[] #[]] w fun e w' => e = .returned (.int .i64 (Lib.idxFunc oddR true ⟨t.toArray⟩)) ∧ Below w.heap.size w w' :=
  Any.strings_IndexFunc (P := Try.prog) Try.laysGw15 73 #[] (enters_of Try.func73 (by kernel_rfl) rfl) oddR ⟨t.toArray⟩ w fun W x _ => (named1_any x W).mono fun e w' ⟨h1, h2⟩ => ⟨h1, 0, h2⟩
def NamedPost (t : List UInt8) (w : World) (e : Ending) (w' : World) : Prop := ∃ b, e = .returned (.bool b) ∧ ((okN t → b = true) ∧ (b = true → t.length ≤ 32)) ∧ Below w.heap.size w w'
set_option maxHeartbeats 800000 in
theorem named_any (t : List UInt8) (w : World) : Calls Try.prog 50 #[.string ⟨t.toArray⟩] w (NamedPost t w) := by
  have HI := Lib.hid (sidx_any t w)
  have HOK := Lib.hid (show okN t → t.length = 1 ∧ Lib.idxFunc oddR true ⟨t.toArray⟩ < 0 from fun h => by
    rcases h with rfl | rfl
    · exact ⟨rfl, by decide +kernel⟩
    · exact ⟨rfl, by decide +kernel⟩)
  obtain ⟨I, hI⟩ : ∃ I, I = Lib.idxFunc oddR true ⟨t.toArray⟩ := ⟨_, rfl⟩
  rw [← hI] at HI HOK
  clear hI
  by_cases h1 : (t.length : Int) < 1
  · go_enter Try.func50, Try.ntmps50
    go_wp2_with fail
    refine HI.out.mono ?_
    rintro e w1 ⟨rfl, hb⟩
    have HB := Lib.hid hb
    clear hb
    go_wp2_with fail
    go_ret
    exact ⟨false, rfl, ⟨fun h => by have := (HOK.out h).1; omega, fun h => by cases h⟩, HB.out⟩
  · by_cases h2 : (32 : Int) < (t.length : Int)
    · go_enter Try.func50, Try.ntmps50
      go_wp2_with fail
      refine HI.out.mono ?_
      rintro e w1 ⟨rfl, hb⟩
      have HB := Lib.hid hb
      clear hb
      go_wp2_with fail
      go_ret
      exact ⟨false, rfl, ⟨fun h => by have := (HOK.out h).1; omega, fun h => by cases h⟩, HB.out⟩
    · have HL := Lib.hid (show t.length ≤ 32 by omega)
      go_enter Try.func50, Try.ntmps50
      go_wp2_with fail
      refine HI.out.mono ?_
      rintro e w1 ⟨rfl, hb⟩
      have HB := Lib.hid hb
      clear hb
      go_wp2_with fail
      go_ret
      exact ⟨decide (I < 0), rfl, ⟨fun h => decide_eq_true (HOK.out h).2, fun _ => HL.out⟩, HB.out⟩
def okV (bl qu : Int) : Prop := 1 ≤ bl ∧ bl ≤ 4096 ∧ 0 ≤ qu ∧ qu ≤ bl
def RightPost (t : List UInt8) (bl qu : Int) (w : World) (e : Ending) (w' : World) : Prop := ∃ b, e = .returned (.bool b) ∧ (b = true → okV bl qu ∧ t.length ≤ 32) ∧ (okN t → okV bl qu → b = true) ∧ Below w.heap.size w w'
set_option maxHeartbeats 1600000 in
theorem right_any (t : List UInt8) (bl qu us : Int) (fr : Bool) (w : World) : Calls Try.prog 42 #[.agg #[.string ⟨t.toArray⟩, .int .i64 bl, .int .i64 qu, .int .i64 us, .bool fr]] w (RightPost t bl qu w) := by
  obtain ⟨w1, hw1⟩ : ∃ w1, w1 = w.alloc (.cells #[.string ⟨t.toArray⟩, .int .i64 bl, .int .i64 qu, .int .i64 us, .bool fr] 66) := ⟨_, rfl⟩
  obtain ⟨p, hp⟩ : ∃ p, p = w.heap.size := ⟨_, rfl⟩
  have hb1 : Below w.heap.size w w1 := by rw [hw1]; exact (Below.refl _ _).alloc (Nat.le_refl _) _
  have hx1 : w1.heap[p]? = some (.cells #[.string ⟨t.toArray⟩, .int .i64 bl, .int .i64 qu, .int .i64 us, .bool fr] 66 (0, 0)) := by rw [hw1, hp]; exact alloc_new _ _
  have HB1 := Lib.hid hb1
  have HX1 := Lib.hid hx1
  clear hb1 hx1
  go_enter Try.func42, Try.ntmps42
  go_wp2_with fail
  rw [← hw1, ← hp]
  clear hw1 hp
  refine (named_any t w1).mono ?_
  rintro e w2 ⟨nb, rfl, hn, hb2⟩
  have HN := Lib.hid hn
  have hx2 := (hb2.block _ (block_lt HX1.out)).trans HX1.out
  have HB2 := Lib.hid (HB1.out.trans (hb2.mono HB1.out.size))
  have y1 : w2.cell? ⟨p, 1, none⟩ = some (.int .i64 bl) := block_cell hx2
  have y2 : w2.cell? ⟨p, 2, none⟩ = some (.int .i64 qu) := block_cell hx2
  clear hn hb2 hx2 HX1 HB1
  cases nb with
  | false =>
    go_wp2_with fail
    go_ret
    exact ⟨false, rfl, (fun h => by cases h), fun h _ => HN.out.1 h, HB2.out⟩
  | true =>
    by_cases h1 : bl < 1
    · go_wp2_with fail
      go_ret
      exact ⟨false, rfl, (fun h => by cases h), fun _ h => absurd h.1 (by omega), HB2.out⟩
    · by_cases h2 : 4096 < bl
      · go_wp2_with fail
        go_ret
        exact ⟨false, rfl, (fun h => by cases h), fun _ h => absurd h.2.1 (by omega), HB2.out⟩
      · by_cases h3 : qu < 0
        · go_wp2_with fail
          go_ret
          exact ⟨false, rfl, (fun h => by cases h), fun _ h => absurd h.2.2.1 (by omega), HB2.out⟩
        · have HOK := Lib.hid (show 1 ≤ bl ∧ bl ≤ 4096 ∧ 0 ≤ qu from ⟨by omega, by omega, by omega⟩)
          go_wp2_with fail
          go_ret
          exact ⟨decide (qu ≤ bl), rfl, (fun h => ⟨⟨HOK.out.1, HOK.out.2.1, HOK.out.2.2, of_decide_eq_true h⟩, HN.out.2 (by trivial)⟩), fun _ h => decide_eq_true h.2.2.2, HB2.out⟩
def RoomPost (l : List Vol) (t : List UInt8) (w : World) (e : Ending) (w' : World) : Prop := Below w.heap.size w w' ∧ ∃ i, Cut l t i ∧
  ((hasAt l i t = true ∧ e = .returned (.iface 93 (.int .i64 9))) ∨ (hasAt l i t = false ∧ 64 ≤ l.length ∧ e = .returned (.iface 93 (.int .i64 10))) ∨ (hasAt l i t = false ∧ l.length < 64 ∧ e = .returned .nilIface))
set_option maxHeartbeats 1600000 in
theorem room_any (s : Option Addr) (l : List Vol) (t : List UInt8) (w : World) (h : RdS w s l) (hu : Up l) (hl : l.length ≤ 1000) : Calls Try.prog 43 #[.pointer s, .string ⟨t.toArray⟩] w (RoomPost l t w) := by
  have HF := Lib.hid (vfind_any s l t w h hu hl)
  have HS := Lib.hid h
  clear h hu
  go_enter Try.func43, Try.ntmps43
  go_wp2_with fail
  refine HF.out.mono ?_
  rintro e w1 ⟨i, hc, rfl, hb1⟩
  have HC := Lib.hid hc
  have HB1 := Lib.hid hb1
  clear hc hb1 HF
  cases hh : hasAt l i t with
  | true =>
    have HH := Lib.hid hh
    clear hh
    go_wp2_with fail
    go_ret
    exact ⟨HB1.out, i, HC.out, Or.inl ⟨HH.out, rfl⟩⟩
  | false =>
    have HH := Lib.hid hh
    have HA := Lib.hid (vall_any s l w1 (HS.out.below HB1.out))
    obtain ⟨n, hn⟩ : ∃ n, n = l.length := ⟨_, rfl⟩
    rw [← hn] at HA
    have HN := Lib.hid hn
    clear hh hn
    by_cases h1 : 64 ≤ n
    · have h1i : ¬ ((n : Int) < 64) := by omega
      go_wp2_with fail
      refine HA.out.mono ?_
      rintro e w2 ⟨A, c, rfl, hr, rfl⟩
      clear hr
      go_wp2_with fail
      go_ret
      exact ⟨HB1.out, i, HC.out, Or.inr (Or.inl ⟨HH.out, by have := HN.out; omega, rfl⟩)⟩
    · have h1i : ((n : Int) < 64) := by omega
      go_wp2_with fail
      refine HA.out.mono ?_
      rintro e w2 ⟨A, c, rfl, hr, rfl⟩
      clear hr
      go_wp2_with fail
      go_ret
      exact ⟨HB1.out, i, HC.out, Or.inr (Or.inr ⟨HH.out, by have := HN.out; omega, rfl⟩)⟩
/-- A volume as it is made. -/
def mkV (t : List UInt8) (bl qu : Int) : Vol := ⟨t, bl, qu, 0, false, none, fun _ => 0⟩
def MakePost (l : List Vol) (t : List UInt8) (bl qu : Int) (w : World) (e : Ending) (w' : World) : Prop := Below w.heap.size w w' ∧
  (((∃ k, e = .returned (.tuple #[.pointer none, .iface 93 (.int .i64 k)])) ∧ ¬ (okN t ∧ okV bl qu ∧ (∀ x ∈ l, x.name ≠ t) ∧ l.length < 64)) ∨
  ((okV bl qu ∧ t.length ≤ 32) ∧ ∃ i b, Cut l t i ∧ hasAt l i t = false ∧ l.length < 64 ∧ e = .returned (.tuple #[.pointer (some ⟨b, 0, none⟩), .nilIface]) ∧ RdS w' (some ⟨b, 0, none⟩) (putV l i (mkV t bl qu))))
theorem hasAt_mem {l : List Vol} {i : Nat} {t : List UInt8} (h : hasAt l i t = true) : ¬ ∀ x ∈ l, x.name ≠ t := fun c => by
  obtain ⟨x, hx, e⟩ := hasAt_some h
  exact c x (List.mem_of_getElem? hx) e
set_option maxRecDepth 100000 in
set_option maxHeartbeats 1600000 in
theorem vmake_any (s : Option Addr) (l : List Vol) (t : List UInt8) (bl qu : Int) (w : World) (h : RdS w s l) (hu : Up l) (hl : l.length ≤ 900) : Calls Try.prog 24 #[.pointer s, .string ⟨t.toArray⟩, .int .i64 bl, .int .i64 qu] w (MakePost l t bl qu w) := by
  obtain ⟨w1, hw1⟩ : ∃ w1, w1 = w.alloc (.cells #[.string ⟨t.toArray⟩, .int .i64 bl, .int .i64 qu, .int .i64 0, .bool false, .pointer none] 92) := ⟨_, rfl⟩
  obtain ⟨p, hp⟩ : ∃ p, p = w.heap.size := ⟨_, rfl⟩
  have hb1 : Below w.heap.size w w1 := by rw [hw1]; exact (Below.refl _ _).alloc (Nat.le_refl _) _
  have hx1 : w1.heap[p]? = some (.cells #[.string ⟨t.toArray⟩, .int .i64 bl, .int .i64 qu, .int .i64 0, .bool false, .pointer none] 92 (0, 0)) := by rw [hw1, hp]; exact alloc_new _ _
  have HS := Lib.hid h
  have HU := Lib.hid hu
  have HB1 := Lib.hid hb1
  have HX1 := Lib.hid hx1
  have y0 : w1.cell? ⟨p, 0, none⟩ = some (.string ⟨t.toArray⟩) := block_cell hx1
  have y1 : w1.cell? ⟨p, 1, none⟩ = some (.int .i64 bl) := block_cell hx1
  have y2 : w1.cell? ⟨p, 2, none⟩ = some (.int .i64 qu) := block_cell hx1
  have y3 : w1.cell? ⟨p, 3, none⟩ = some (.int .i64 0) := block_cell hx1
  have y4 : w1.cell? ⟨p, 4, none⟩ = some (.bool false) := block_cell hx1
  clear hb1 hx1 h hu
  go_enter Try.func24, Try.ntmps24
  go_upto_region 2 with fail
  rw [← hw1, ← hp]
  clear hw1 hp
  go_wp2_with fail
  refine (right_any t bl qu 0 false w1).mono ?_
  rintro e w2 ⟨rb, rfl, hr1, hr2, hb2⟩
  have HR := Lib.hid (And.intro hr1 hr2)
  have HX2 := Lib.hid ((hb2.block _ (block_lt HX1.out)).trans HX1.out)
  have HB2 := Lib.hid (HB1.out.trans (hb2.mono HB1.out.size))
  clear hr1 hr2 hb2 y0 y1 y2 y3 y4 HX1 HB1
  cases rb with
  | false =>
    go_wp2_with fail
    go_ret2
    exact ⟨HB2.out, Or.inl ⟨⟨1, rfl⟩, fun h => by
      have := HR.out.2 h.1 h.2.1
      cases this⟩⟩
  | true =>
    have HRM := Lib.hid (room_any s l t w2 (HS.out.below HB2.out) HU.out (by omega))
    go_wp2_with fail
    refine HRM.out.mono ?_
    rintro e w3 ⟨hb3, i, hc, ⟨hh, rfl⟩ | ⟨hh, h64, rfl⟩ | ⟨hh, h64, rfl⟩⟩
    · have HN := Lib.hid (hasAt_mem hh)
      have HB3 := Lib.hid (HB2.out.trans (hb3.mono HB2.out.size))
      clear hb3 hc hh
      go_wp2_with fail
      go_ret2
      exact ⟨HB3.out, Or.inl ⟨⟨_, rfl⟩, fun h => HN.out h.2.2.1⟩⟩
    · have H64 := Lib.hid h64
      have HB3 := Lib.hid (HB2.out.trans (hb3.mono HB2.out.size))
      clear hb3 hc hh h64
      go_wp2_with fail
      go_ret2
      exact ⟨HB3.out, Or.inl ⟨⟨_, rfl⟩, fun h => by
        have h1 := h.2.2.2
        have h2 := H64.out
        omega⟩⟩
    · have HH := Lib.hid (And.intro hh h64)
      have HC0 := Lib.hid hc
      have HX3 := Lib.hid ((hb3.block _ (block_lt HX2.out)).trans HX2.out)
      have HB3 := Lib.hid (HB2.out.trans (hb3.mono HB2.out.size))
      clear hb3 hc hh h64
      have HW := Lib.hid (vwith_any s l (mkV t bl qu) w3 (HS.out.below HB3.out) HU.out (by omega) ⟨_, rdR_nil w3⟩)
      have y0 : w3.cell? ⟨p, 0, none⟩ = some (.string ⟨t.toArray⟩) := block_cell HX3.out
      have y1 : w3.cell? ⟨p, 1, none⟩ = some (.int .i64 bl) := block_cell HX3.out
      have y2 : w3.cell? ⟨p, 2, none⟩ = some (.int .i64 qu) := block_cell HX3.out
      have y3 : w3.cell? ⟨p, 3, none⟩ = some (.int .i64 0) := block_cell HX3.out
      have y4 : w3.cell? ⟨p, 4, none⟩ = some (.bool false) := block_cell HX3.out
      have y5 : w3.cell? ⟨p, 5, none⟩ = some (.pointer none) := block_cell HX3.out
      go_wp2_with fail
      refine HW.out.mono ?_
      rintro e w4 ⟨j, b, hc, rfl, hs4, hb4⟩
      have HC := Lib.hid hc
      have HS4 := Lib.hid hs4
      have HB4 := Lib.hid (HB3.out.trans (hb4.mono HB3.out.size))
      clear hc hs4 hb4 y0 y1 y2 y3 y4 y5
      go_wp2_with fail
      go_ret2
      have hij := HC0.out.one HC.out
      exact ⟨HB4.out, Or.inr ⟨HR.out.1 trivial, j, b, HC.out, by rw [← hij]; exact HH.out.1, HH.out.2, rfl, HS4.out⟩⟩
end Go.Proofs.Ytnnadhfpkplncaa


/- slices.Delete of one volume; a volume's numbers. Condition: the row is one's own; the volume's tree reads. -/
namespace Go.Proofs.Ytnnadhfpkplncaa
open Go.RowKit

theorem cut3_drop {cur : Array Value} {X R cs : List Value} (h : cur.toList = X ++ R) (hl : cs.length ≤ R.length) : (cut3 cur X.length cs).toList = X ++ cs ++ R.drop cs.length :=
  cut3_list X (R.take cs.length) (R.drop cs.length) cs cur (by rw [h, List.append_assoc, List.take_append_drop]) (by simp; omega)
section
variable {P : Program}
theorem run_clear_one (w : World) (t ty elem : TypeId) (g o xCap s : Nat) (i : TypeInfo) (z : Value) (cur : Array Value) (tt : TypeId)
    (hu : P.underlying t = some (.slice elem)) (hi : P.info? elem = some i) (hz : i.zero = some z) (hzs : z.cells.size = s)
    (hg : w.heap[g]? = some (.cells cur tt (0, 0))) (hfit : o + s ≤ cur.size) (h1 : ∀ v ∈ (Builtin.zeroCells z.cells 1).toList, v.oneCell' = true) :
    (Builtin.clear_ #[t] ty #[.slice (some ⟨g, o, none⟩) 1 xCap]).run P w = .ok (.tuple #[]) (w.setRow g (cut3 cur o (Builtin.zeroCells z.cells 1).toList)) := by
  have hst := run_storeCells_at P g o tt (Builtin.zeroCells z.cells 1).toList 0 cur w hg (by simp [zero_size, hzs]; omega) h1
  simp only [Nat.add_zero] at hst
  simp [Builtin.clear_, run_underlying hu, zeroValue, typeInfo, hi, hz, hst, cut3]
end
def DelPost (B : Nat) (l : List Vol) (i : Nat) (w : World) (e : Ending) (w' : World) : Prop := ∃ v', e = .returned v' ∧ w'.ownsRow B 92 6 v' (l.eraseIdx i).length (vols (l.eraseIdx i)) ∧ Below B w w'
set_option maxRecDepth 100000 in
set_option maxHeartbeats 6400000 in
theorem vdelete_any (B : Nat) (l : List Vol) (i : Nat) (g c : Nat) (cur : Array Value) (w : World) (h : RowV B w g c cur l) (hl : l.length ≤ 1000) (hi : i < l.length) :
    Calls Try.prog 47 #[.slice (some ⟨g, 0, none⟩) l.length c, .int .i64 (i : Nat), .int .i64 ((i : Int) + 1)] w (DelPost B l i w) := by
  obtain ⟨m, hm⟩ : ∃ m, l.length = m + 1 := ⟨l.length - 1, by omega⟩
  obtain ⟨iI, hiI, hz0, hz1, hz2⟩ := info_parts infoTVOL
  have hsz : (Try.prog.info? 92).map (·.size) = some 6 := by kernel_rfl
  obtain ⟨x, hx⟩ : ∃ x, l[i]? = some x := ⟨_, List.getElem?_eq_getElem hi⟩
  obtain ⟨_, ex⟩ := List.getElem?_eq_some_iff.1 hx
  have e0 : l = l.take i ++ x :: l.drop (i + 1) := by
    rw [← ex, ← List.drop_eq_getElem_cons hi, List.take_append_drop]
  have HXL := Lib.hid (show (vols (l.take i)).length = i * 6 by rw [vols_len, List.length_take]; omega)
  have HYL := Lib.hid (show (vols (l.drop (i + 1))).length = (m - i) * 6 by rw [vols_len, List.length_drop, hm]; omega)
  have hER : l.eraseIdx i = l.take i ++ l.drop (i + 1) := List.eraseIdx_eq_take_drop_succ l i
  have hEL : (l.eraseIdx i).length = m := by rw [List.length_eraseIdx, if_pos hi, hm]; rfl
  obtain ⟨X, hX⟩ : ∃ X, X = vols (l.take i) := ⟨_, rfl⟩
  obtain ⟨Y, hY⟩ : ∃ Y, Y = vols (l.drop (i + 1)) := ⟨_, rfl⟩
  obtain ⟨Z, hZ⟩ : ∃ Z, Z = cur.toList.drop (l.length * 6) := ⟨_, rfl⟩
  have hEV : vols (l.eraseIdx i) = X ++ Y := by rw [hER, vols_app, hX, hY]
  have hcur : cur.toList = X ++ (vcells x ++ Y ++ Z) := by
    have e1 : vols l = X ++ vcells x ++ Y := by
      conv => lhs; rw [e0]
      rw [vols_app, hX, hY]; simp [vols]
    rw [hZ, ← List.append_assoc, ← List.append_assoc, ← e1]
    exact row_split h.take
  have HOY := Lib.hid (show ∀ u ∈ Y, u.oneCell' = true by rw [hY]; exact vols_one _)
  rw [← hX] at HXL
  rw [← hY] at HYL
  have hcs : cur.size = c * 6 := h.size
  have hcm : m + 1 ≤ c := by rw [← hm]; exact h.cap
  have hmax : c ≤ maxLen := h.max
  unfold maxLen at hmax
  have hZl : Z.length = (c - (m + 1)) * 6 := by
    have e := congrArg List.length hcur
    have e6 : (vcells x).length = 6 := rfl
    simp only [List.length_append, Array.length_toList, HXL.out, HYL.out, hcs, e6] at e
    omega
  rw [hm] at hl hi ⊢
  obtain ⟨cur1, hc1⟩ : ∃ cur1, cur1 = cut3 cur (i * 6) Y := ⟨_, rfl⟩
  have e6 : (vcells x).length = 6 := rfl
  have hl1 : cur1.toList = X ++ Y ++ (vcells x ++ Y ++ Z).drop Y.length := by
    rw [hc1, ← HXL.out]
    exact cut3_drop hcur (by simp only [List.length_append]; omega)
  have hs1 : cur1.size = c * 6 := by rw [hc1, cut3_size (by rw [HYL.out, hcs]; omega), hcs]
  have HLD := Lib.hid (show (loadCellsFrom ⟨g, (i + 1) * 6, none⟩ 0 ((m - i) * 6) #[]).run Try.prog w.drew = .ok Y.toArray w.drew from by
    have := run_loadCells_list (P := Try.prog) w.drew ⟨g, (i + 1) * 6, none⟩ Y (fun j u hj => by
      rw [WideShapes.add_plain]
      show w.cell? _ = _
      rw [block_cell h.heap]
      have e := congrArg (fun q : List Value => q[(i + 1) * 6 + j]?) hcur
      simp only [Array.getElem?_toList] at e
      rw [e, List.getElem?_append_right (by rw [HXL.out]; omega), HXL.out, List.append_assoc, List.getElem?_append_right (by rw [e6]; omega), e6, show (i + 1) * 6 + j - i * 6 - 6 = j by omega, List.getElem?_append_left (List.getElem?_eq_some_iff.1 hj).1, hj])
    rw [HYL.out] at this
    exact this)
  have HST := Lib.hid (show (storeCells ⟨g, i * 6, none⟩ Y).run Try.prog w.drew = .ok () (w.drew.setRow g cur1) from by
    have := run_storeCells_at Try.prog g (i * 6) 92 Y 0 cur w.drew h.heap (by rw [HYL.out, hcs]; omega) HOY.out
    rw [hc1]
    exact this)
  have HSELF := Lib.hid (show m = i → w.drew.setRow g cur1 = w.drew from fun e => by
    have hY0 : Y = [] := List.eq_nil_of_length_eq_zero (by rw [HYL.out, e]; omega)
    have : cur1 = cur := by
      rw [hc1, hY0]
      unfold cut3
      simp
    rw [this]
    exact setRow_self w.drew g cur 92 (0, 0) h.heap)
  obtain ⟨W1, hW1⟩ : ∃ W1, W1 = w.drew.setRow g cur1 := ⟨_, rfl⟩
  have hg1 : W1.heap[g]? = some (.cells cur1 92 (0, 0)) := by rw [hW1]; exact setRow_heap w.drew g _ cur1 92 _ h.heap
  obtain ⟨cz, hcz⟩ : ∃ cz, cz = (Builtin.zeroCells (Value.cells (.agg #[.string ⟨#[]⟩, .int .i64 0, .int .i64 0, .int .i64 0, .bool false, .pointer none])) 1).toList := ⟨_, rfl⟩
  have hcz6 : cz.length = 6 := by rw [hcz, Array.length_toList, zero_size]; rfl
  have hcl : ∀ ty xc, (Builtin.clear_ #[100] ty #[.slice (some ⟨g, m * 6, none⟩) 1 xc]).run Try.prog W1 = .ok (.tuple #[]) (W1.setRow g (cut3 cur1 (m * 6) cz)) := fun ty xc => by
    rw [hcz]
    exact run_clear_one W1 100 ty 92 g (m * 6) xc 6 iI (.agg #[.string ⟨#[]⟩, .int .i64 0, .int .i64 0, .int .i64 0, .bool false, .pointer none]) cur1 92 Try.underlying100 hiI hz0 rfl hg1 (by rw [hs1]; omega) (by decide +kernel)
  have HFIN := Lib.hid (show RowV B (W1.setRow g (cut3 cur1 (m * 6) cz)) g c (cut3 cur1 (m * 6) cz) (l.eraseIdx i) ∧ Below B w (W1.setRow g (cut3 cur1 (m * 6) cz)) from by
    refine ⟨⟨setRow_heap W1 g _ _ 92 _ hg1, h.base, by rw [hEL]; omega, h.max, by rw [cut3_size (by rw [hs1, hcz6]; omega), hs1], ?_⟩, ?_⟩
    · have hlm : (X ++ Y).length = m * 6 := by simp only [List.length_append, HXL.out, HYL.out]; omega
      have e := cut3_drop (cs := cz) hl1 (by simp only [List.length_drop, List.length_append]; omega)
      rw [hlm] at e
      rw [e, hEL, hEV, List.append_assoc, List.take_left' hlm]
    · rw [hW1]
      have hbg := h.base
      exact ((Below.refl B w).drew.trans (below_setRow hbg)).trans (below_setRow hbg))
  have HEL := Lib.hid hEL
  have mixed : Try.prog.follows .mixedOrders = true := by kernel_rfl
  have hw1 : IntKind.i64.wrap ((i : Int) + 1) = (i : Int) + 1 := IntWalk.i64_in _ (by omega)
  have hb1 : (0 : Int) ≤ (i : Int) + 1 := by omega
  have htn : ((i : Int) + 1).toNat = i + 1 := by omega
  have hb5 : (i : Int) + 1 ≤ (m : Int) + 1 := by omega
  have hb6 : (i : Int) ≤ (i : Int) + 1 := by omega
  have hb7 : (m : Int) + 1 ≤ (c : Int) := by omega
  have hb8 : i ≤ m + 1 := by omega
  have hb9 : i ≤ c := by omega
  have hne : ¬ ((i : Int) = (i : Int) + 1) := by omega
  have hci : ¬ (c = i) := by omega
  have hcm' : ¬ (c = m) := by omega
  subst hW1
  clear h hX hY hZ hcur hg1 hc1 hl1 hs1 hcz hcz6 hER hEL hEV hx ex e0 hiI hz0 hz1 hz2 hZl hsz e6
  have hml : i ≤ m := by omega
  have hmc : m ≤ c := by omega
  by_cases hce : c = i + 1
  · have hmi : m = i := by omega
    subst hmi
    subst hce
    have hself := HSELF.out rfl
    rw [hself] at hcl HFIN
    clear hself
    go_enter Try.func47, Try.ntmps47
    go_wp2_with fail
    go_region
    go_wp2_with fail
    go_ret
    have h9 := HFIN.out.1.own
    rw [HEL.out] at h9
    exact ⟨_, rfl, by rw [HEL.out]; exact h9, HFIN.out.2⟩
  · have hld := HLD.out
    have hst := HST.out
    go_enter Try.func47, Try.ntmps47
    go_wp2_with fail
    go_region
    go_wp2_with fail
    go_ret
    have h9 := HFIN.out.1.own
    rw [HEL.out] at h9
    exact ⟨_, rfl, by rw [HEL.out]; exact h9, HFIN.out.2⟩
end Go.Proofs.Ytnnadhfpkplncaa

