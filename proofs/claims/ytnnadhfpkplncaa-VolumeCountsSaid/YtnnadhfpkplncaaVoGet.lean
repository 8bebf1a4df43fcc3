/- A volume of a name, or the error. Condition: the set reads, its names go up. -/
import Derived.Test.YtnnadhfpkplncaaVoFind
import Derived.Laws.Rows
import Derived.Laws.Tables
namespace Go.Proofs.Ytnnadhfpkplncaa
open Go.RowKit

theorem alloc_new (w : World) (o : Obj) : (w.alloc o).heap[w.heap.size]? = some o := by
  show (w.heap.push o)[w.heap.size]? = some o
  rw [Array.getElem?_push_size]
theorem results_row_tmp {P : Program} {fn : Func} {p u : Tmp} {ty : TypeId} (h : fn.results = #[.cell p ty, .tmp u]) (tmps : Array Value) (w : World) (g : Nat) (t : TypeId) (cs : Array Value) (fr : Nat × Nat) (d : TypeDesc)
    (hp : tmps.getD p undef = .pointer (some ⟨g, 0, none⟩)) (hg : w.heap[g]? = some (.cells cs t fr))
    (hu : P.underlying ty = some d) (hd : (match d with | .struct _ | .array _ _ => true | _ => false) = true) (hi : (P.info? ty).map (·.size) = some cs.size) :
    (results fn tmps).run P w = .ok (.tuple #[.agg cs, tmps.getD u undef]) w := by
  have hp' : tmps[p]?.getD undef = .pointer (some ⟨g, 0, none⟩) := by simpa using hp
  simp [results, h, hp', asAddr, run_loadVar_row w g t ty cs fr d hg hu hd hi]
theorem stop_storeV {P : Program} {ops : Array Oper} {rest : List Oper} {o : Oper} {a : Act} {w : World} {Q : Exit → Act → World → Prop} (x y : Operand) (_ : o.op = .store 92 x y) (h : Hid (wpList P ops Q (o :: rest) a w)) : wpList P ops Q (o :: rest) a w := h.out
theorem stop_storeI {P : Program} {ops : Array Oper} {rest : List Oper} {o : Oper} {a : Act} {w : World} {Q : Exit → Act → World → Prop} (x y : Operand) (_ : o.op = .store 66 x y) (h : Hid (wpList P ops Q (o :: rest) a w)) : wpList P ops Q (o :: rest) a w := h.out
theorem stop_loadV {P : Program} {ops : Array Oper} {rest : List Oper} {o : Oper} {a : Act} {w : World} {Q : Exit → Act → World → Prop} (x : Operand) (_ : o.op = .load 92 x) (h : Hid (wpList P ops Q (o :: rest) a w)) : wpList P ops Q (o :: rest) a w := h.out
theorem below_setRow {L g : Nat} {w : World} {cs : Array Value} (h : L ≤ g) : Below L w (w.setRow g cs) := ⟨rfl, rfl, rfl, by simp, fun k hk => setRow_other w g k _ (by omega)⟩
def GetPost (l : List Vol) (t : List UInt8) (w : World) (e : Ending) (w' : World) : Prop := Below w.heap.size w w' ∧
  ((∃ i x, l[i]? = some x ∧ x.name = t ∧ Cut l t i ∧ e = .returned (.tuple #[.agg #[.string ⟨x.name.toArray⟩, .int .i64 x.blocks, .int .i64 x.quota, .int .i64 x.used, .bool x.frozen, .pointer x.A], .nilIface])) ∨ ((∀ x ∈ l, x.name ≠ t) ∧ e = .returned (.tuple #[.agg #[.string ⟨#[]⟩, .int .i64 0, .int .i64 0, .int .i64 0, .bool false, .pointer none], .iface 93 (.int .i64 30)])))
set_option maxRecDepth 100000 in
set_option maxHeartbeats 1600000 in
theorem vget_any (s : Option Addr) (l : List Vol) (t : List UInt8) (w : World) (h : RdS w s l) (hu : Up l) (hl : l.length ≤ 1000) :
    Calls Try.prog 45 #[.pointer s, .string ⟨t.toArray⟩] w (GetPost l t w) := by
  have HU := Lib.hid hu
  have HH := Lib.hid h
  obtain ⟨w1, hw1⟩ : ∃ w1, w1 = w.alloc (.cells #[.string ⟨#[]⟩, .int .i64 0, .int .i64 0, .int .i64 0, .bool false, .pointer none] 92) := ⟨_, rfl⟩
  have hb1 : Below w.heap.size w w1 := by rw [hw1]; exact (Below.refl _ _).alloc (Nat.le_refl _) _
  have hx1 : w1.heap[w.heap.size]? = some (.cells #[.string ⟨#[]⟩, .int .i64 0, .int .i64 0, .int .i64 0, .bool false, .pointer none] 92 (0, 0)) := by rw [hw1]; exact alloc_new _ _
  have HF := Lib.hid (vfind_any s l t w1 (h.below hb1) hu hl)
  have HB1 := Lib.hid hb1
  have HX1 := Lib.hid hx1
  have HL := Lib.hid hl
  clear hb1 hx1 h hu hl
  go_enter Try.func45, Try.ntmps45
  go_wp2_with fail
  rw [← hw1]
  clear hw1
  refine HF.out.mono ?_
  rintro e w2 ⟨i, hc, rfl, hb2⟩
  have HC := Lib.hid hc
  have HX2 := Lib.hid ((hb2.block _ (block_lt HX1.out)).trans HX1.out)
  have HB2 := Lib.hid (HB1.out.trans (hb2.mono HB1.out.size))
  clear hc hb2 HX1 HF HB1
  by_cases hh : hasAt l i t = true
  · obtain ⟨x, hx, hxt⟩ := hasAt_some hh
    rw [hh]
    have HXN := Lib.hid hxt
    have HX := Lib.hid hx
    have hlt : i < l.length := (List.getElem?_eq_some_iff.1 hx).1
    obtain ⟨e1, _⟩ | ⟨bs, A, c, rfl, hbs, hr⟩ := HH.out.2
    · exfalso
      rename_i e2
      rw [e2] at hlt
      cases hlt
    obtain ⟨n, hn⟩ : ∃ n, n = l.length := ⟨_, rfl⟩
    rw [← hn] at hlt hbs
    have hin : (i : Int) < (n : Int) := by omega
    obtain ⟨b, o, rfl, c0, c1, c2, c3, c4, c5⟩ := (hr.below HB2.out).at hx
    have hcs : w2.cell? ⟨bs, 0, none⟩ = some (.slice (some ⟨b, o, none⟩) n c) := block_cell ((HB2.out.block _ (block_lt hbs)).trans hbs)
    clear hx hxt hh hbs hr hn
    go_wp2_with ((with_reducible refine stop_storeV _ _ rfl ?_))
    unfold Hid
    refine wpList_store_row rfl 92 _ _ rfl w.heap.size #[.string ⟨x.name.toArray⟩, .int .i64 x.blocks, .int .i64 x.quota, .int .i64 x.used, .bool x.frozen, .pointer x.A] rfl rfl 92 _ HX2.out (by kernel_rfl) rfl (by simp [Value.oneCell']) ?_
    have HB3 := Lib.hid (HB2.out.trans (below_setRow (L := w.heap.size) (g := w.heap.size) (w := w2) (cs := #[.string ⟨x.name.toArray⟩, .int .i64 x.blocks, .int .i64 x.quota, .int .i64 x.used, .bool x.frozen, .pointer x.A]) (Nat.le_refl _)))
    have HX3 := Lib.hid (setRow_heap w2 w.heap.size _ #[.string ⟨x.name.toArray⟩, .int .i64 x.blocks, .int .i64 x.quota, .int .i64 x.used, .bool x.frozen, .pointer x.A] 92 _ HX2.out)
    generalize w2.setRow w.heap.size #[.string ⟨x.name.toArray⟩, .int .i64 x.blocks, .int .i64 x.quota, .int .i64 x.used, .bool x.frozen, .pointer x.A] = w3 at *
    clear c0 c1 c2 c3 c4 c5 hcs
    go_wp2
    refine bodyPost_ret (results_row_tmp rfl _ _ w.heap.size _ _ _ _ rfl HX3.out Try.underlying92 rfl (by kernel_rfl)) rfl ?_
    exact ⟨HB3.out, Or.inl ⟨i, x, HX.out, HXN.out, HC.out, rfl⟩⟩
  · have hf : hasAt l i t = false := by simpa using hh
    have HN := Lib.hid (HC.out.none HU.out hf)
    rw [hf]
    clear hh hf
    go_wp2_with ((with_reducible refine stop_storeV _ _ rfl ?_))
    unfold Hid
    refine wpList_store_row rfl 92 _ _ rfl w.heap.size #[.string ⟨#[]⟩, .int .i64 0, .int .i64 0, .int .i64 0, .bool false, .pointer none] rfl rfl 92 _ HX2.out (by kernel_rfl) rfl (by simp [Value.oneCell']) ?_
    have HB3 := Lib.hid (HB2.out.trans (below_setRow (L := w.heap.size) (g := w.heap.size) (w := w2) (cs := #[.string ⟨#[]⟩, .int .i64 0, .int .i64 0, .int .i64 0, .bool false, .pointer none]) (Nat.le_refl _)))
    have HX3 := Lib.hid (setRow_heap w2 w.heap.size _ #[.string ⟨#[]⟩, .int .i64 0, .int .i64 0, .int .i64 0, .bool false, .pointer none] 92 _ HX2.out)
    generalize w2.setRow w.heap.size #[.string ⟨#[]⟩, .int .i64 0, .int .i64 0, .int .i64 0, .bool false, .pointer none] = w3 at *
    go_wp2
    refine bodyPost_ret (results_row_tmp rfl _ _ w.heap.size _ _ _ _ rfl HX3.out Try.underlying92 rfl (by kernel_rfl)) rfl ?_
    exact ⟨HB3.out, Or.inr ⟨HN.out, rfl⟩⟩
end Go.Proofs.Ytnnadhfpkplncaa
