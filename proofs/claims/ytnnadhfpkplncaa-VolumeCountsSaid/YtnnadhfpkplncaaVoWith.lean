/- A set with a volume more, or another one of its name. Condition: the set reads, its names go up; the volume's tree reads. -/
import Derived.Test.YtnnadhfpkplncaaVoIns
namespace Go.Proofs.Ytnnadhfpkplncaa
open Go.RowKit

theorem vins_any (B : Nat) (l : List Vol) (i : Nat) (s : Value) (v : Vol) (vb : Nat) (w : World) (h : w.ownsRow B 92 6 s l.length (vols l)) (hl : l.length ≤ 1000) (hi : i ≤ l.length) (hB : B ≤ w.heap.size)
    (hv : w.heap[vb]? = some (.cells #[.string ⟨v.name.toArray⟩, .int .i64 v.blocks, .int .i64 v.quota, .int .i64 v.used, .bool v.frozen, .pointer v.A] 92 (0, 0))) (hne : ∀ q, s.ownBlock = some q → vb ≠ q) : Calls Try.prog 68 #[s, .int .i64 (i : Nat), .slice (some ⟨vb, 0, none⟩) 1 1] w (InsPost B l i v w) := by
  rcases Nat.lt_or_ge i l.length with hlt | hge
  · rcases RowV.of h with ⟨_, rfl⟩ | ⟨g, c, cur, rfl, hr⟩
    · cases hlt
    · rcases Nat.lt_or_ge c (l.length + 1) with h1 | h1
      · exact vins_grow B l i v g c vb cur w hr hl hlt h1 hv hB
      · exact vins_shift B l i v g c vb cur w hr hl hlt h1 hv (hne g rfl)
  · obtain rfl : i = l.length := by omega
    exact vins_end B l s v vb w h hl hB hv
theorem set_row {B : Nat} {w : World} {g c : Nat} {cur : Array Value} {l : List Vol} (h : RowV B w g c cur l) {i : Nat} (hi : i < l.length) (v : Vol) :
    RowV B (w.setRow g (cut3 cur (i * 6) (vcells v))) g c (cut3 cur (i * 6) (vcells v)) (l.set i v) := by
  have hsz := h.size
  have hcp := h.cap
  refine ⟨setRow_heap w g _ _ 92 _ h.heap, h.base, by rw [List.length_set]; exact h.cap, h.max, by rw [cut3_size (by rw [hsz]; show i * 6 + 6 ≤ _; omega), hsz], ?_⟩
  obtain ⟨x, hx⟩ : ∃ x, l[i]? = some x := ⟨_, List.getElem?_eq_getElem hi⟩
  obtain ⟨_, ex⟩ := List.getElem?_eq_some_iff.1 hx
  have e0 : l = l.take i ++ x :: l.drop (i + 1) := by
    rw [← ex, ← List.drop_eq_getElem_cons hi, List.take_append_drop]
  have hX : (vols (l.take i)).length = i * 6 := by rw [vols_len, List.length_take]; omega
  have e1 : cur.toList = vols (l.take i) ++ vcells x ++ (vols (l.drop (i + 1)) ++ cur.toList.drop (l.length * 6)) := by
    rw [← List.append_assoc, ← show vols l = vols (l.take i) ++ vcells x ++ vols (l.drop (i + 1)) from by
      conv => lhs; rw [e0]
      rw [vols_app]; simp [vols]]
    exact row_split h.take
  have e2 := cut3_list _ _ _ (vcells v) cur e1 rfl
  rw [hX] at e2
  rw [e2, List.length_set, ← List.append_assoc, List.take_left' (by
    simp only [List.length_append, hX, vols_len, List.length_drop]
    show i * 6 + 6 + _ = _
    omega), List.set_eq_take_append_cons_drop, if_pos hi, vols_app]
  simp [vols]
def WithPost (l : List Vol) (v : Vol) (w : World) (e : Ending) (w' : World) : Prop := ∃ i b, Cut l v.name i ∧ e = .returned (.pointer (some ⟨b, 0, none⟩)) ∧ RdS w' (some ⟨b, 0, none⟩) (putV l i v) ∧ Below w.heap.size w w'
theorem trees_put {w : World} {l : List Vol} {i : Nat} {v : Vol} (h : Trees w l) (hv : ∃ S, RdR v.f S w v.A) : Trees w (putV l i v) := fun x hx => by
  rcases put_mem hx with rfl | hx
  · exact hv
  · exact h x hx
/-- The box of the set. -/
theorem boxed_set {w w1 : World} {B : Nat} {v : Value} {l : List Vol} (ht : Trees w1 l) (ho : w1.ownsRow B 92 6 v l.length (vols l)) (hb : Below w.heap.size w w1) :
    RdS (w1.alloc (.cells #[v] 104)) (some ⟨w1.heap.size, 0, none⟩) l ∧ Below w.heap.size w (w1.alloc (.cells #[v] 104)) := by
  have hk : Below w1.heap.size w1 (w1.alloc (.cells #[v] 104)) := (Below.refl _ _).alloc (Nat.le_refl _) _
  obtain ⟨A, c, rfl, hr, _⟩ := own_rdV ho
  exact ⟨⟨ht.below hk, Or.inr ⟨_, A, c, rfl, alloc_new _ _, hr.below hk⟩⟩, hb.trans (hk.mono hb.size)⟩
set_option maxRecDepth 100000 in
set_option maxHeartbeats 3200000 in
theorem vwith_any (s : Option Addr) (l : List Vol) (v : Vol) (w : World) (h : RdS w s l) (hu : Up l) (hl : l.length ≤ 900) (hv : ∃ S, RdR v.f S w v.A) :
    Calls Try.prog 44 #[.pointer s, .agg #[.string ⟨v.name.toArray⟩, .int .i64 v.blocks, .int .i64 v.quota, .int .i64 v.used, .bool v.frozen, .pointer v.A]] w (WithPost l v w) := by
  obtain ⟨p, hp⟩ : ∃ p, p = w.heap.size := ⟨_, rfl⟩
  obtain ⟨w1, hw1⟩ : ∃ w1, w1 = w.alloc (.cells #[.string ⟨v.name.toArray⟩, .int .i64 v.blocks, .int .i64 v.quota, .int .i64 v.used, .bool v.frozen, .pointer v.A] 92) := ⟨_, rfl⟩
  have hb1 : Below w.heap.size w w1 := by rw [hw1]; exact (Below.refl _ _).alloc (Nat.le_refl _) _
  have hx1 : w1.heap[p]? = some (.cells #[.string ⟨v.name.toArray⟩, .int .i64 v.blocks, .int .i64 v.quota, .int .i64 v.used, .bool v.frozen, .pointer v.A] 92 (0, 0)) := by rw [hw1, hp]; exact alloc_new _ _
  have HF := Lib.hid (vfind_any s l v.name w1 (h.below hb1) hu (by omega))
  have HS := Lib.hid h
  have HV := Lib.hid hv
  have HU := Lib.hid hu
  have HB1 := Lib.hid hb1
  have HX1 := Lib.hid hx1
  clear h hu hv hb1 hx1
  go_enter Try.func44, Try.ntmps44
  go_wp2_with fail
  rw [← hw1, ← hp]
  have HP := Lib.hid hp
  clear hw1 hp
  refine HF.out.mono ?_
  rintro e w2 ⟨i, hc, rfl, hb2⟩
  have HC := Lib.hid hc
  have HX2 := Lib.hid ((hb2.block _ (block_lt HX1.out)).trans HX1.out)
  have HB2 := Lib.hid (HB1.out.trans (hb2.mono HB1.out.size))
  clear hc hb2 HX1 HF HB1
  have HA := Lib.hid (vall_any s l w2 (HS.out.below HB2.out))
  go_wp2_with fail
  refine HA.out.mono ?_
  rintro e w2' ⟨A, c, rfl, hr, rfl⟩
  have HCL := Lib.hid (vclone_any l A c w2' hr (by omega))
  clear hr HA
  go_wp2_with fail
  refine HCL.out.mono ?_
  rintro e w3 ⟨v3, rfl, ho3, hb3⟩
  have HO3 := Lib.hid ho3
  have HX3 := Lib.hid ((hb3.block _ (block_lt HX2.out)).trans HX2.out)
  have HB3 := Lib.hid (HB2.out.trans (hb3.mono HB2.out.size))
  have HPL := Lib.hid (show p < w2'.heap.size from block_lt HX2.out)
  have HSZ := Lib.hid hb3.size
  clear ho3 hb3 HCL HX2
  have x0 : w3.cell? ⟨p, 0, none⟩ = some (.string ⟨v.name.toArray⟩) := block_cell HX3.out
  have x1 : w3.cell? ⟨p, 1, none⟩ = some (.int .i64 v.blocks) := block_cell HX3.out
  have x2 : w3.cell? ⟨p, 2, none⟩ = some (.int .i64 v.quota) := block_cell HX3.out
  have x3 : w3.cell? ⟨p, 3, none⟩ = some (.int .i64 v.used) := block_cell HX3.out
  have x4 : w3.cell? ⟨p, 4, none⟩ = some (.bool v.frozen) := block_cell HX3.out
  have x5 : w3.cell? ⟨p, 5, none⟩ = some (.pointer v.A) := block_cell HX3.out
  by_cases hh : hasAt l i v.name = true
  · obtain ⟨x, hx, hxt⟩ := hasAt_some hh
    have hlt : i < l.length := (List.getElem?_eq_some_iff.1 hx).1
    rcases RowV.of HO3.out with ⟨_, e0⟩ | ⟨g, c3, cur, rfl, hrow⟩
    · rw [e0] at hlt; cases hlt
    have HROW := Lib.hid hrow
    have HFIN := Lib.hid (show (w3.setRow g (cut3 cur (i * 6) (vcells v))).ownsRow w2'.heap.size 92 6 (.slice (some ⟨g, 0, none⟩) l.length c3) (putV l i v).length (vols (putV l i v)) ∧ Trees (w3.setRow g (cut3 cur (i * 6) (vcells v))) (putV l i v) ∧ Below w.heap.size w (w3.setRow g (cut3 cur (i * 6) (vcells v))) from by
      have hbs : Below w2'.heap.size w3 (w3.setRow g (cut3 cur (i * 6) (vcells v))) := below_setRow hrow.base
      have h8 := (set_row hrow hlt v).own
      have h7 : putV l i v = l.set i v := by unfold putV; rw [if_pos hh]
      rw [List.length_set] at h8
      refine ⟨by rw [h7, List.length_set]; exact h8, trees_put ?_ ?_, HB3.out.trans (hbs.mono (by rw [← HP.out]; have := HPL.out; omega))⟩
      · have hk : Below w.heap.size w (w3.setRow g (cut3 cur (i * 6) (vcells v))) := HB3.out.trans (hbs.mono (by rw [← HP.out]; have := HPL.out; omega))
        exact HS.out.1.below hk
      · have hk : Below w.heap.size w (w3.setRow g (cut3 cur (i * 6) (vcells v))) := HB3.out.trans (hbs.mono (by rw [← HP.out]; have := HPL.out; omega))
        obtain ⟨S, hS⟩ := HV.out
        exact ⟨S, hS.below hk⟩)
    have hcs : i * 6 + 6 ≤ cur.size := by rw [hrow.size]; have := hrow.cap; omega
    have HLEN := Lib.hid (show i < l.length from hlt)
    obtain ⟨n, hn⟩ : ∃ n, n = l.length := ⟨_, rfl⟩
    rw [← hn] at hlt HFIN ⊢
    rw [hh]
    have hin : (i : Int) < (n : Int) := by omega
    clear hx hxt hrow hn
    go_wp2_with ((with_reducible refine stop_storeV _ _ rfl ?_))
    unfold Hid
    refine wpList_store_at rfl 92 _ _ rfl g (i * 6) #[.string ⟨v.name.toArray⟩, .int .i64 v.blocks, .int .i64 v.quota, .int .i64 v.used, .bool v.frozen, .pointer v.A] rfl rfl 92 cur HROW.out.heap (by kernel_rfl) hcs (by simp [Value.oneCell']) ?_
    rw [show (#[.string ⟨v.name.toArray⟩, .int .i64 v.blocks, .int .i64 v.quota, .int .i64 v.used, .bool v.frozen, .pointer v.A]).toList = vcells v from rfl]
    generalize w3.setRow g (cut3 cur (i * 6) (vcells v)) = w4 at *
    have HFN := Lib.hid (boxed_set HFIN.out.2.1 HFIN.out.1 HFIN.out.2.2)
    clear x0 x1 x2 x3 x4 x5
    go_wp2
    go_ret
    exact ⟨i, w4.heap.size, HC.out, rfl, HFN.out.1, HFN.out.2⟩
  · have hf : hasAt l i v.name = false := by simpa using hh
    rw [hf]
    have HPV := Lib.hid (show putV l i v = l.take i ++ v :: l.drop i from by unfold putV; rw [if_neg hh])
    obtain ⟨w4, hw4⟩ : ∃ w4, w4 = w3.alloc (.cells #[.string ⟨v.name.toArray⟩, .int .i64 v.blocks, .int .i64 v.quota, .int .i64 v.used, .bool v.frozen, .pointer v.A] 92) := ⟨_, rfl⟩
    have hb4 : Below w3.heap.size w3 w4 := by rw [hw4]; exact (Below.refl _ _).alloc (Nat.le_refl _) _
    have hx4 : w4.heap[w3.heap.size]? = some (.cells #[.string ⟨v.name.toArray⟩, .int .i64 v.blocks, .int .i64 v.quota, .int .i64 v.used, .bool v.frozen, .pointer v.A] 92 (0, 0)) := by rw [hw4]; exact alloc_new _ _
    have ho4 : w4.ownsRow w2'.heap.size 92 6 v3 l.length (vols l) := by
      obtain ⟨o1, o2⟩ := HO3.out
      refine ⟨o1, ?_⟩
      rcases o2 with o2 | ⟨q, c9, cur, e, hq, hh9, x⟩
      · exact Or.inl o2
      · exact Or.inr ⟨q, c9, cur, e, hq, (hb4.block q (block_lt hh9)).trans hh9, x⟩
    have HI := Lib.hid (vins_any w2'.heap.size l i v3 v w3.heap.size w4 ho4 (by omega) HC.out.le (by have := HSZ.out; have := hb4.size; omega) hx4 (fun q e e2 => by
      rcases HO3.out.2 with ⟨e1, _⟩ | ⟨q2, c9, cur, e1, hq, hh9, x⟩
      · rw [e1] at e; cases e
      · rw [e1] at e
        cases e
        have h9 := block_lt hh9
        have e3 : w3.heap.size = q2 := e2
        omega))
    have HB4 := Lib.hid (HB3.out.trans (hb4.mono HB3.out.size))
    have HLE := Lib.hid (show i ≤ l.length from HC.out.le)
    obtain ⟨n, hn⟩ : ∃ n, n = l.length := ⟨_, rfl⟩
    clear hb4 hx4 ho4 hh hf hn
    go_wp2_with fail
    rw [← hw4]
    clear hw4 x0 x1 x2 x3 x4 x5
    refine HI.out.mono ?_
    rintro e w5 ⟨v5, rfl, ho5, hb5⟩
    have hk5 : Below w.heap.size w w5 := HB4.out.trans (hb5.mono (by rw [← HP.out]; have := HPL.out; omega))
    have ho6 : w5.ownsRow w2'.heap.size 92 6 v5 (putV l i v).length (vols (putV l i v)) := by
      rw [HPV.out, show (l.take i ++ v :: l.drop i).length = l.length + 1 by have := HLE.out; simp; omega]
      exact ho5
    have HFN := Lib.hid (boxed_set (l := putV l i v) (trees_put (HS.out.1.below hk5) (by
      obtain ⟨S, hS⟩ := HV.out
      exact ⟨S, hS.below hk5⟩)) ho6 hk5)
    obtain ⟨A5, c5, e5, _, _⟩ := own_rdV ho6
    subst e5
    clear ho5 ho6 hb5 hk5
    go_wp2
    go_ret
    exact ⟨i, w5.heap.size, HC.out, rfl, HFN.out.1, HFN.out.2⟩
end Go.Proofs.Ytnnadhfpkplncaa
