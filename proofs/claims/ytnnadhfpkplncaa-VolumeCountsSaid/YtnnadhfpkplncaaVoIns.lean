/- slices.Clone and slices.Insert of volumes. Condition: the slice reads; what is put in lies in a block of its own. -/
import Derived.Test.YtnnadhfpkplncaaVoRow
namespace Go.Proofs.Ytnnadhfpkplncaa
open Go.RowKit

theorem own_geV {w : World} {B n s : Nat} {E : TypeId} {v : Value} {xs : List Value} (h : w.ownsRow B E s v n xs) {q : Nat} (e : v.ownBlock = some q) : B ≤ q := by
  rcases h.2 with ⟨e1, _⟩ | ⟨g, c, cur, e1, hg, _⟩
  · rw [e1] at e; cases e
  · rw [e1] at e; cases e; exact hg
theorem below_grown {L : Nat} {w w1 w' : World} {row : Option Nat} (h : Below L w w1) (g : w1.grownBy w' row) (hL : L ≤ w1.heap.size) (hr : ∀ q, row = some q → L ≤ q) : Below L w w' :=
  ⟨g.os.trans h.os, g.tape.trans h.tape, g.output.trans h.output, Nat.le_trans h.size g.size, fun k hk => (g.block k (by omega) (fun e => by have := hr k e.symm; omega)).trans (h.block k hk)⟩
set_option maxRecDepth 100000 in
set_option maxHeartbeats 1600000 in
/-- slices.Clone. -/
theorem vclone_any (l : List Vol) (A : Option Addr) (c : Nat) (w : World) (h : RdV w A l c) (hl : l.length ≤ 1000) :
    Calls Try.prog 48 #[.slice A l.length c] w fun e w' => ∃ v', e = .returned v' ∧ w'.ownsRow w.heap.size 92 6 v' l.length (vols l) ∧ Below w.heap.size w w' := by
  obtain ⟨n, hn⟩ : ∃ n, n = l.length := ⟨_, rfl⟩
  have hA := h.nil
  have HR := Lib.hid h.rd
  rw [← hn] at hA hl ⊢
  have HN := Lib.hid hn
  obtain ⟨iI, hiI, hz0, hz1, hz2⟩ := info_parts infoTVOL
  clear h hn
  cases A with
  | none =>
    obtain ⟨rfl, rfl⟩ := hA rfl
    have HE := Lib.hid (show w.ownsRow w.heap.size 92 6 (.slice none 0 0) 0 (vols l) by
      have : l = [] := List.eq_nil_of_length_eq_zero HN.out.symm
      rw [this]; exact World.ownsRow_nil _ _ _ _)
    have hbo : (binOp .eql 100 (.slice none 0 0) (.slice none 0 0)).run Try.prog w = .ok (.bool true) w := by kernel_rfl
    go_enter Try.func48, Try.ntmps48
    go_wp2
    go_ret
    exact ⟨_, rfl, HE.out, Below.refl _ _⟩
  | some a =>
    clear hA
    have hbo : (binOp .eql 100 (.slice (some a) n c) (.slice none 0 0)).run Try.prog w = .ok (.bool false) w := by kernel_rfl
    go_enter Try.func48, Try.ntmps48
    go_wp2_with (at_builtin; refine Hid.out ?_)
    unfold Hid
    have ho : (w.alloc (.cells #[] 92)).ownsRow w.heap.size 92 6 (.slice (some ⟨w.heap.size, 0, none⟩) 0 0) 0 [] :=
      ⟨rfl, Or.inr ⟨w.heap.size, 0, #[], rfl, Nat.le_refl _, alloc_new _ _, Nat.le_refl _, Nat.zero_le _, rfl, rfl⟩⟩
    have hrA : RdA (w.alloc (.cells #[] 92)) (some a) (vols l) := HR.out.below ((Below.refl _ w).alloc (Nat.le_refl _) _)
    refine wpList_append_own _ rfl (.tmp 5) (.tmp 6) 100 rfl w.heap.size 92 iI _ 6 56 Try.underlying100 hiI hz0 hz1 hz2 rfl (by decide) _ 0 [] rfl ho a n c (vols l) rfl (by rw [vols_len, HN.out]) (fun j u hj => by
      obtain ⟨b, o, e, hc⟩ := hrA j u hj
      cases e
      rw [WideShapes.add_plain]; exact hc) (vols_one l) (by unfold maxLen; omega) (by omega) (by rw [World.size_alloc]; omega) ?_
    intro v6 w6 hrow6 hg6 _
    have HB6 := Lib.hid (below_grown ((Below.refl _ w).alloc (Nat.le_refl _) (.cells #[] 92)) hg6 (by rw [World.size_alloc]; omega) (fun q e => own_geV ho e))
    have HE := Lib.hid (show w6.ownsRow w.heap.size 92 6 v6 n (vols l) by rw [Nat.zero_add] at hrow6; exact hrow6)
    clear hrow6 hg6 ho hrA
    go_wp2
    go_ret
    exact ⟨_, rfl, HE.out, HB6.out⟩
def InsPost (B : Nat) (l : List Vol) (i : Nat) (v : Vol) (w : World) (e : Ending) (w' : World) : Prop := ∃ v', e = .returned v' ∧ w'.ownsRow B 92 6 v' (l.length + 1) (vols (l.take i ++ v :: l.drop i)) ∧ Below B w w'
set_option maxRecDepth 100000 in
set_option maxHeartbeats 3200000 in
/-- At the end: an append. -/
theorem vins_end (B : Nat) (l : List Vol) (s : Value) (v : Vol) (vb : Nat) (w : World) (h : w.ownsRow B 92 6 s l.length (vols l)) (hl : l.length ≤ 1000) (hB : B ≤ w.heap.size)
    (hv : w.heap[vb]? = some (.cells #[.string ⟨v.name.toArray⟩, .int .i64 v.blocks, .int .i64 v.quota, .int .i64 v.used, .bool v.frozen, .pointer v.A] 92 (0, 0))) : Calls Try.prog 68 #[s, .int .i64 (l.length : Nat), .slice (some ⟨vb, 0, none⟩) 1 1] w (InsPost B l l.length v w) := by
  obtain ⟨A, c, rfl, hr, _⟩ := own_rdV h
  have HO := Lib.hid h
  have HV := Lib.hid hv
  have HNIL := Lib.hid hr.nil
  obtain ⟨iI, hiI, hz0, hz1, hz2⟩ := info_parts infoTVOL
  have HE0 := Lib.hid (show vols (l.take l.length ++ v :: l.drop l.length) = vols l ++ vcells v by
    rw [List.take_of_length_le (Nat.le_refl _), List.drop_of_length_le (Nat.le_refl _), vols_app]; simp [vols])
  obtain ⟨n, hn⟩ : ∃ n, n = l.length := ⟨_, rfl⟩
  unfold InsPost
  rw [← hn] at hl HO HNIL ⊢
  rw [← hn] at HE0
  have hc0 := hr.cap
  rw [← hn] at hc0
  have hmx : ¬ ((c : Int) < (n : Int)) := by omega
  clear h hv hn hr
  have hcn : A = none → n = 0 ∧ c = 0 := HNIL.out
  have HVO := Lib.hid (show ∀ u ∈ vcells v, u.oneCell' = true from fun u hu => vols_one [v] u (by simpa [vols] using hu))
  clear HNIL
  cases A with
  | none =>
    obtain ⟨rfl, rfl⟩ := hcn rfl
    go_enter Try.func68, Try.ntmps68
    go_wp2_with (at_builtin; refine Hid.out ?_)
    unfold Hid
    refine wpList_append_own _ rfl (.tmp 23) (.tmp 24) 100 rfl B 92 iI _ 6 56 Try.underlying100 hiI hz0 hz1 hz2 rfl (by decide) _ 0 (vols l) rfl HO.out ⟨vb, 0, none⟩ 1 1 (vcells v) rfl rfl (fun j u hj => by
      rw [WideShapes.add_plain, Nat.zero_add, block_cell HV.out]
      simpa [vcells] using hj) HVO.out (by unfold maxLen; omega) (by omega) hB ?_
    intro v6 w6 hrow6 hg6 _
    have HB6 := Lib.hid (below_grown (Below.refl B w) hg6 hB (fun q e => own_geV HO.out e))
    have HE := Lib.hid hrow6
    clear hrow6 hg6
    go_wp2
    go_ret
    exact ⟨_, rfl, by rw [HE0.out]; exact HE.out, HB6.out⟩
  | some a =>
    clear hcn
    by_cases hcn : c = n
    · subst hcn
      go_enter Try.func68, Try.ntmps68
      go_wp2_with (at_builtin; refine Hid.out ?_)
      unfold Hid
      refine wpList_append_own _ rfl (.tmp 23) (.tmp 24) 100 rfl B 92 iI _ 6 56 Try.underlying100 hiI hz0 hz1 hz2 rfl (by decide) _ c (vols l) rfl HO.out ⟨vb, 0, none⟩ 1 1 (vcells v) rfl rfl (fun j u hj => by
        rw [WideShapes.add_plain, Nat.zero_add, block_cell HV.out]
        simpa [vcells] using hj) HVO.out (by unfold maxLen; omega) (by omega) hB ?_
      intro v6 w6 hrow6 hg6 _
      have HB6 := Lib.hid (below_grown (Below.refl B w) hg6 hB (fun q e => own_geV HO.out e))
      have HE := Lib.hid hrow6
      clear hrow6 hg6
      go_wp2
      go_ret
      exact ⟨_, rfl, by rw [HE0.out]; exact HE.out, HB6.out⟩
    go_enter Try.func68, Try.ntmps68
    go_wp2_with (at_builtin; refine Hid.out ?_)
    unfold Hid
    refine wpList_append_own _ rfl (.tmp 23) (.tmp 24) 100 rfl B 92 iI _ 6 56 Try.underlying100 hiI hz0 hz1 hz2 rfl (by decide) _ n (vols l) rfl HO.out ⟨vb, 0, none⟩ 1 1 (vcells v) rfl rfl (fun j u hj => by
      rw [WideShapes.add_plain, Nat.zero_add, block_cell HV.out]
      simpa [vcells] using hj) HVO.out (by unfold maxLen; omega) (by omega) hB ?_
    intro v6 w6 hrow6 hg6 _
    have HB6 := Lib.hid (below_grown (Below.refl B w) hg6 hB (fun q e => own_geV HO.out e))
    have HE := Lib.hid hrow6
    clear hrow6 hg6
    go_wp2
    go_ret
    exact ⟨_, rfl, by rw [HE0.out]; exact HE.out, HB6.out⟩
theorem shift_list {cur : Array Value} {X Y Z vs : List Value} (h : cur.toList = X ++ Y ++ Z) (hv : vs.length = 6) (hz : 6 ≤ Z.length) : ∃ Z', (cut3 (cut3 cur (X.length + 6) Y) X.length vs).toList = X ++ vs ++ (Y ++ Z') := by
  have l6 : ((Y ++ Z).take 6).length = 6 := by simp; omega
  have e1 : cur.toList = (X ++ (Y ++ Z).take 6) ++ ((Y ++ Z).drop 6).take Y.length ++ ((Y ++ Z).drop 6).drop Y.length := by
    rw [List.append_assoc (X ++ _) _ _, List.take_append_drop, List.append_assoc X, List.take_append_drop, h, List.append_assoc]
  have e2 := cut3_list (X ++ (Y ++ Z).take 6) _ _ Y cur e1 (by simp; omega)
  rw [List.length_append, l6] at e2
  rw [List.append_assoc, List.append_assoc] at e2
  have e3 := cut3_list X ((Y ++ Z).take 6) (Y ++ ((Y ++ Z).drop 6).drop Y.length) vs _ (by rw [e2, List.append_assoc]) (by rw [l6, hv])
  exact ⟨_, e3⟩
theorem ins_list (l : List Vol) (i : Nat) (v : Vol) : vols (l.take i ++ v :: l.drop i) = vols (l.take i) ++ vcells v ++ vols (l.drop i) := by
  rw [vols_app]; simp [vols]
set_option maxRecDepth 100000 in
set_option maxHeartbeats 6400000 in
/-- In the middle, where there is room: in place. -/
theorem vins_shift (B : Nat) (l : List Vol) (i : Nat) (v : Vol) (g c vb : Nat) (cur : Array Value) (w : World) (h : RowV B w g c cur l) (hl : l.length ≤ 1000) (hi : i < l.length) (hroom : l.length + 1 ≤ c)
    (hv : w.heap[vb]? = some (.cells #[.string ⟨v.name.toArray⟩, .int .i64 v.blocks, .int .i64 v.quota, .int .i64 v.used, .bool v.frozen, .pointer v.A] 92 (0, 0))) (hne : vb ≠ g) : Calls Try.prog 68 #[.slice (some ⟨g, 0, none⟩) l.length c, .int .i64 (i : Nat), .slice (some ⟨vb, 0, none⟩) 1 1] w (InsPost B l i v w) := by
  obtain ⟨n, hn⟩ : ∃ n, n = l.length := ⟨_, rfl⟩
  have hsz : (Try.prog.info? 92).map (·.size) = some 6 := by kernel_rfl
  have HXL := Lib.hid (show (vols (l.take i)).length = i * 6 by rw [vols_len, List.length_take]; omega)
  have HYL := Lib.hid (show (vols (l.drop i)).length = (n - i) * 6 by rw [vols_len, List.length_drop, hn])
  obtain ⟨X, hX⟩ : ∃ X, X = vols (l.take i) := ⟨_, rfl⟩
  obtain ⟨Y, hY⟩ : ∃ Y, Y = vols (l.drop i) := ⟨_, rfl⟩
  obtain ⟨Z, hZ⟩ : ∃ Z, Z = cur.toList.drop (l.length * 6) := ⟨_, rfl⟩
  have hXY : vols l = X ++ Y := by rw [hX, hY, ← vols_app, List.take_append_drop]
  have hcur : cur.toList = X ++ Y ++ Z := by rw [← hXY, hZ]; exact row_split h.take
  have HOX := Lib.hid (show ∀ u ∈ Y, u.oneCell' = true by rw [hY]; exact vols_one _)
  have HVO := Lib.hid (show ∀ u ∈ vcells v, u.oneCell' = true from fun u hu => vols_one [v] u (by simpa [vols] using hu))
  have HINS := Lib.hid (show vols (l.take i ++ v :: l.drop i) = X ++ vcells v ++ Y by rw [hX, hY]; exact ins_list l i v)
  rw [← hX] at HXL
  rw [← hY] at HYL
  have hcs : cur.size = c * 6 := h.size
  have hZl : Z.length = (c - n) * 6 := by
    have e := congrArg List.length hcur
    simp only [List.length_append, Array.length_toList, HXL.out, HYL.out, hcs] at e
    omega
  have H := Lib.hid h
  have hmax : c ≤ maxLen := h.max
  unfold maxLen at hmax
  unfold InsPost
  rw [← hn] at hi hl hroom ⊢
  have HV := Lib.hid hv
  have hov : ∀ lb cb, (callFunc 94 #[.slice (some ⟨vb, 0, none⟩) 1 1, .slice (some ⟨g, (i + 1) * 6, none⟩) lb cb]).run Try.prog w = .ok (.value (.bool false)) w := fun lb cb => by
    have hsa : w.shape? vb = some (92, 6) := by simp [World.shape?, hv]
    have hsb : w.shape? g = some (92, cur.size) := by simp [World.shape?, h.heap]
    rw [run_callFunc_extern Try.func94 (by kernel_rfl) (by kernel_rfl) (by kernel_rfl) (e := Extern.SlicesOverlaps.overlaps #[100, 100] #[4]) (by kernel_rfl),
      Lib.run_overlaps_apart w 100 4 92 Try.underlying100 6 Try.sizeOf92 ⟨vb, 0, none⟩ ⟨g, (i + 1) * 6, none⟩ 1 1 lb cb hne 92 92 6 cur.size hsa hsb (by omega) (block_free hv) (block_free hv)]
    rfl
  have hz2 : ¬ ((i : Int) = (n : Int)) := by omega
  have hw1 : IntKind.i64.wrap ((i : Int) + 1) = (i : Int) + 1 := IntWalk.i64_in _ (by omega)
  have hw2 : IntKind.i64.wrap ((n : Int) + 1) = (n : Int) + 1 := IntWalk.i64_in _ (by omega)
  have hnc : ¬ ((c : Int) < (n : Int) + 1) := by omega
  have mixed : Try.prog.follows .mixedOrders = true := by kernel_rfl
  have hi1 : ¬ (c = i + 1) := by omega
  have hb1 : (0 : Int) ≤ (i : Int) + 1 := by omega
  have hin : i ≤ n := by omega
  have htn : ((i : Int) + 1).toNat = i + 1 := by omega
  have hb3 : (i : Int) ≤ (n : Int) + 1 := by omega
  have hb5 : (i : Int) + 1 ≤ (n : Int) + 1 := by omega
  have hi0 : ¬ (c = i) := by omega
  have hcp1 : ∀ ty dc sc, (Builtin.copy_ #[100, 100] ty #[.slice (some ⟨g, (i + 1) * 6, none⟩) (n - i) dc, .slice (some ⟨g, i * 6, none⟩) (n + 1 - i) sc]).run Try.prog w.drew = .ok (goInt (n - i : Nat)) (w.drew.setRow g (cut3 cur ((i + 1) * 6) Y)) := fun ty dc sc =>
    run_copy_rows w.drew _ _ ty 92 g ((i + 1) * 6) _ dc ⟨g, i * 6, none⟩ _ sc (n - i) 6 cur 92 Y Try.underlying100 hsz h.heap (by simp only [Nat.min_def]; split <;> omega) HYL.out (fun j u hj => by
      rw [WideShapes.add_plain]
      show w.cell? _ = _
      rw [block_cell h.heap]
      have e := congrArg (fun q : List Value => q[i * 6 + j]?) hcur
      simp only [Array.getElem?_toList] at e
      rw [e, List.append_assoc, List.getElem?_append_right (by rw [HXL.out]; omega), HXL.out, Nat.add_sub_cancel_left, List.getElem?_append_left (List.getElem?_eq_some_iff.1 hj).1, hj]) (by rw [HYL.out, hcs]; omega) HOX.out
  obtain ⟨cur1, hc1⟩ : ∃ cur1, cur1 = cut3 cur ((i + 1) * 6) Y := ⟨_, rfl⟩
  rw [← hc1] at hcp1
  have hcs1 : cur1.size = c * 6 := by rw [hc1, cut3_size (by rw [HYL.out, hcs]; omega), hcs]
  obtain ⟨W1, hW1⟩ : ∃ W1, W1 = w.drew.setRow g cur1 := ⟨_, rfl⟩
  rw [← hW1] at hcp1
  have hg1 : W1.heap[g]? = some (.cells cur1 92 (0, 0)) := by rw [hW1]; exact setRow_heap w.drew g _ cur1 92 _ h.heap
  have hv1 : W1.heap[vb]? = some (.cells #[.string ⟨v.name.toArray⟩, .int .i64 v.blocks, .int .i64 v.quota, .int .i64 v.used, .bool v.frozen, .pointer v.A] 92 (0, 0)) := by rw [hW1]; exact (setRow_other w.drew g vb cur1 hne).trans hv
  have hcp2 : ∀ ty dc, (Builtin.copy_ #[100, 100] ty #[.slice (some ⟨g, i * 6, none⟩) (n + 1 - i) dc, .slice (some ⟨vb, 0, none⟩) 1 1]).run Try.prog W1 = .ok (goInt (1 : Nat)) (W1.setRow g (cut3 cur1 (i * 6) (vcells v))) := fun ty dc =>
    run_copy_rows W1 _ _ ty 92 g (i * 6) _ dc ⟨vb, 0, none⟩ 1 1 1 6 cur1 92 (vcells v) Try.underlying100 hsz hg1 (by simp only [Nat.min_def]; split <;> omega) rfl (fun j u hj => by
      rw [WideShapes.add_plain, Nat.zero_add, block_cell hv1]
      simpa [vcells] using hj) (by rw [hcs1]; show i * 6 + 6 ≤ _; omega) HVO.out
  have HFIN := Lib.hid (show RowV B (W1.setRow g (cut3 cur1 (i * 6) (vcells v))) g c (cut3 cur1 (i * 6) (vcells v)) (l.take i ++ v :: l.drop i) ∧ Below B w (W1.setRow g (cut3 cur1 (i * 6) (vcells v))) from by
    have hlen : (l.take i ++ v :: l.drop i).length = n + 1 := by simp; omega
    refine ⟨⟨setRow_heap W1 g _ _ 92 _ hg1, h.base, by rw [hlen]; exact hroom, h.max, by rw [cut3_size (by rw [hcs1]; show i * 6 + 6 ≤ _; omega), hcs1], ?_⟩, ?_⟩
    · rw [hlen, HINS.out]
      obtain ⟨Z', hZ'⟩ := shift_list (vs := vcells v) hcur rfl (by omega)
      rw [HXL.out, show i * 6 + 6 = (i + 1) * 6 by omega, ← hc1] at hZ'
      rw [hZ', ← List.append_assoc, List.take_left']
      simp only [List.length_append, HXL.out, HYL.out]
      show i * 6 + 6 + _ = _
      omega
    · rw [hW1]
      have hbg := h.base
      exact ((Below.refl B w).drew.trans (below_setRow hbg)).trans (below_setRow hbg))
  have HLEN := Lib.hid (show (l.take i ++ v :: l.drop i).length = n + 1 by simp; omega)
  subst hW1
  clear hv h hn hX hY hZ hcur hg1 hv1 hc1 hcs1
  go_enter Try.func68, Try.ntmps68
  go_wp2_with (simp only [hov])
  go_region_law_o (refine step_copy_run rfl _ _ 100 100 rfl _ _ (by simp [Act.eval, Act.put]) (by simp [Act.eval, Act.put]) (hcp1 _ _ _) ?_)
  go_wp2_with (at_builtin; refine wpList_copy_run _ rfl _ _ 100 100 rfl _ _ rfl rfl (hcp2 _ _) ?_)
  go_ret
  have h9 := HFIN.out.1.own
  rw [HLEN.out] at h9
  exact ⟨_, rfl, h9, HFIN.out.2⟩
theorem grow_list {N0 : Array Value} {X Y Z vs : List Value} (h : N0.toList = X ++ Z) (hv : vs.length = 6) (hz : 6 + Y.length ≤ Z.length) : ∃ Z', (cut3 (cut3 N0 X.length vs) (X.length + 6) Y).toList = X ++ vs ++ Y ++ Z' := by
  have e1 : N0.toList = X ++ Z.take 6 ++ Z.drop 6 := by rw [List.append_assoc, List.take_append_drop, h]
  have e2 := cut3_list X (Z.take 6) (Z.drop 6) vs N0 e1 (by simp; omega)
  have e3 := cut3_list (X ++ vs) ((Z.drop 6).take Y.length) ((Z.drop 6).drop Y.length) Y (cut3 N0 X.length vs) (by rw [e2, List.append_assoc _ ((Z.drop 6).take _), List.take_append_drop]) (by simp; omega)
  rw [List.length_append, hv] at e3
  exact ⟨_, e3⟩
theorem zero_size (z : Array Value) (k : Nat) : (Builtin.zeroCells z k).size = k * z.size := by simp [Builtin.zeroCells]
set_option maxRecDepth 100000 in
set_option maxHeartbeats 6400000 in
/-- In the middle, where there is no room: a row anew. -/
theorem vins_grow (B : Nat) (l : List Vol) (i : Nat) (v : Vol) (g c vb : Nat) (cur : Array Value) (w : World) (h : RowV B w g c cur l) (hl : l.length ≤ 1000) (hi : i < l.length) (hroom : c < l.length + 1)
    (hv : w.heap[vb]? = some (.cells #[.string ⟨v.name.toArray⟩, .int .i64 v.blocks, .int .i64 v.quota, .int .i64 v.used, .bool v.frozen, .pointer v.A] 92 (0, 0))) (hB : B ≤ w.heap.size) : Calls Try.prog 68 #[.slice (some ⟨g, 0, none⟩) l.length c, .int .i64 (i : Nat), .slice (some ⟨vb, 0, none⟩) 1 1] w (InsPost B l i v w) := by
  obtain ⟨n, hn⟩ : ∃ n, n = l.length := ⟨_, rfl⟩
  obtain ⟨iI, hiI, hz0, hz1, hz2⟩ := info_parts infoTVOL
  have hsz : (Try.prog.info? 92).map (·.size) = some 6 := by kernel_rfl
  have HXL := Lib.hid (show (vols (l.take i)).length = i * 6 by rw [vols_len, List.length_take]; omega)
  have HYL := Lib.hid (show (vols (l.drop i)).length = (n - i) * 6 by rw [vols_len, List.length_drop, hn])
  obtain ⟨X, hX⟩ : ∃ X, X = vols (l.take i) := ⟨_, rfl⟩
  obtain ⟨Y, hY⟩ : ∃ Y, Y = vols (l.drop i) := ⟨_, rfl⟩
  have hXY : vols l = X ++ Y := by rw [hX, hY, ← vols_app, List.take_append_drop]
  have hcur : cur.toList = X ++ Y ++ cur.toList.drop (l.length * 6) := by rw [← hXY]; exact row_split h.take
  have hat : ∀ (j : Nat) (u : Value), (X ++ Y)[j]? = some u → cur[j]? = some u := fun j u hj => by
    have e := congrArg (fun q : List Value => q[j]?) hcur
    simp only [Array.getElem?_toList] at e
    rw [e, List.getElem?_append_left (List.getElem?_eq_some_iff.1 hj).1, hj]
  have HOX := Lib.hid (show ∀ u ∈ Y, u.oneCell' = true by rw [hY]; exact vols_one _)
  have HVO := Lib.hid (show ∀ u ∈ vcells v, u.oneCell' = true from fun u hu => vols_one [v] u (by simpa [vols] using hu))
  have HINS := Lib.hid (show vols (l.take i ++ v :: l.drop i) = X ++ vcells v ++ Y by rw [hX, hY]; exact ins_list l i v)
  rw [← hX] at HXL
  rw [← hY] at HYL
  have hnc0 : n ≤ c := by rw [hn]; exact h.cap
  unfold InsPost
  rw [← hn] at hi hl hroom ⊢
  have hglt : g < w.heap.size := block_lt h.heap
  have hvlt : vb < w.heap.size := block_lt hv
  obtain ⟨G, hG⟩ : ∃ G, G = grownCap w (i + (n + 1 - i)) c 92 := ⟨_, rfl⟩
  have hGn : n + 1 ≤ G := by rw [hG]; have := grownCap_ge w (i + (n + 1 - i)) c 92; omega
  have hGm : G ≤ maxLen := by rw [hG]; exact grownCap_le_maxLen w _ c _ (by unfold maxLen; omega)
  obtain ⟨N0, hN0⟩ : ∃ N0, N0 = X.toArray ++ Builtin.zeroCells #[.string ⟨#[]⟩, .int .i64 0, .int .i64 0, .int .i64 0, .bool false, .pointer none] (n + 1 - i) ++ Builtin.zeroCells #[.string ⟨#[]⟩, .int .i64 0, .int .i64 0, .int .i64 0, .bool false, .pointer none] (G - (i + (n + 1 - i))) := ⟨_, rfl⟩
  have hN0s : N0.size = G * 6 := by
    rw [hN0]
    simp only [Array.size_append, zero_size, List.size_toArray, HXL.out]
    show i * 6 + (n + 1 - i) * 6 + (G - (i + (n + 1 - i))) * 6 = _
    omega
  have hN0l : ∃ Z, N0.toList = X ++ Z ∧ Z.length = (G - i) * 6 := by
    refine ⟨(Builtin.zeroCells #[.string ⟨#[]⟩, .int .i64 0, .int .i64 0, .int .i64 0, .bool false, .pointer none] (n + 1 - i)).toList ++ (Builtin.zeroCells #[.string ⟨#[]⟩, .int .i64 0, .int .i64 0, .int .i64 0, .bool false, .pointer none] (G - (i + (n + 1 - i)))).toList, by rw [hN0]; simp, ?_⟩
    simp only [List.length_append, Array.length_toList, zero_size]
    show (n + 1 - i) * 6 + (G - (i + (n + 1 - i))) * 6 = _
    omega
  have hold : (Builtin.firstCells iI.size i (.slice (some ⟨g, 0, none⟩) i c)).run Try.prog w.drew = .ok X.toArray w.drew := by
    have := run_loadCells_list (P := Try.prog) w.drew ⟨g, 0, none⟩ X (fun j u hj => by
      rw [WideShapes.add_plain, Nat.zero_add]
      show w.cell? _ = _
      rw [block_cell h.heap]
      exact hat j u (by rw [List.getElem?_append_left (List.getElem?_eq_some_iff.1 hj).1]; exact hj))
    rw [HXL.out] at this
    rw [hz1]
    exact this
  have hap : ∀ ty, (Builtin.append_ #[100, 3] ty #[.slice (some ⟨g, 0, none⟩) i c, .int .i64 ((n : Int) + 1 - (i : Int))]).run Try.prog w = .ok (.slice (some ⟨w.heap.size, 0, none⟩) (n + 1) G) (w.alloc (.cells N0 92)).drew := fun ty => by
    have := Lib.run_append_grow_zeros (P := Try.prog) w 100 3 ty 92 iI _ .i64 .i64 Try.underlying100 Try.underlying3 hiI hz0 (some ⟨g, 0, none⟩) i c X hold (n + 1 - i) (by omega) (by rw [hz1]; decide) (by omega) (by omega) (by rw [hz2]; omega) (by
      rw [hz2]
      exact growslice_fits (by omega) (by omega))
    rw [show (((n + 1 - i : Nat) : Int)) = (n : Int) + 1 - (i : Int) by omega, show i + (n + 1 - i) = n + 1 by omega] at this
    rw [this, hN0, hG]
    rw [show i + (n + 1 - i) = n + 1 by omega]
    rfl
  obtain ⟨W0, hW0⟩ : ∃ W0, W0 = (w.alloc (.cells N0 92)).drew := ⟨_, rfl⟩
  have hq0 : W0.heap[w.heap.size]? = some (.cells N0 92 (0, 0)) := by rw [hW0]; exact alloc_new w _
  have hv0 : W0.heap[vb]? = some (.cells #[.string ⟨v.name.toArray⟩, .int .i64 v.blocks, .int .i64 v.quota, .int .i64 v.used, .bool v.frozen, .pointer v.A] 92 (0, 0)) := by rw [hW0]; exact (((Below.refl w.heap.size w).alloc (Nat.le_refl _) _).drew.block vb hvlt).trans hv
  have hg0 : W0.heap[g]? = some (.cells cur 92 (0, 0)) := by rw [hW0]; exact (((Below.refl w.heap.size w).alloc (Nat.le_refl _) _).drew.block g hglt).trans h.heap
  have hb0 : Below B w W0 := by rw [hW0]; exact ((Below.refl B w).alloc hB _).drew
  have hcp1 : ∀ ty dc, (Builtin.copy_ #[100, 100] ty #[.slice (some ⟨w.heap.size, i * 6, none⟩) (n + 1 - i) dc, .slice (some ⟨vb, 0, none⟩) 1 1]).run Try.prog W0 = .ok (goInt (1 : Nat)) (W0.setRow w.heap.size (cut3 N0 (i * 6) (vcells v))) := fun ty dc =>
    run_copy_rows W0 _ _ ty 92 w.heap.size (i * 6) _ dc ⟨vb, 0, none⟩ 1 1 1 6 N0 92 (vcells v) Try.underlying100 hsz hq0 (by simp only [Nat.min_def]; split <;> omega) rfl (fun j u hj => by
      rw [WideShapes.add_plain, Nat.zero_add, block_cell hv0]
      simpa [vcells] using hj) (by rw [hN0s]; show i * 6 + 6 ≤ _; omega) HVO.out
  obtain ⟨N1, hN1⟩ : ∃ N1, N1 = cut3 N0 (i * 6) (vcells v) := ⟨_, rfl⟩
  rw [← hN1] at hcp1
  have hN1s : N1.size = G * 6 := by rw [hN1, cut3_size (by rw [hN0s]; show i * 6 + 6 ≤ _; omega), hN0s]
  obtain ⟨W1, hW1⟩ : ∃ W1, W1 = (W0.setRow w.heap.size N1).drew := ⟨_, rfl⟩
  have hq1 : W1.heap[w.heap.size]? = some (.cells N1 92 (0, 0)) := by rw [hW1]; exact setRow_heap W0 w.heap.size _ N1 92 _ hq0
  have hg1 : W1.heap[g]? = some (.cells cur 92 (0, 0)) := by rw [hW1]; exact (setRow_other W0 w.heap.size g N1 (by omega)).trans hg0
  have hb1 : Below B w W1 := by rw [hW1]; exact (hb0.trans (below_setRow hB)).drew
  have hcp2 : ∀ ty dc sc, (Builtin.copy_ #[100, 100] ty #[.slice (some ⟨w.heap.size, (i + 1) * 6, none⟩) (n - i) dc, .slice (some ⟨g, i * 6, none⟩) (n - i) sc]).run Try.prog W1 = .ok (goInt (n - i : Nat)) (W1.setRow w.heap.size (cut3 N1 ((i + 1) * 6) Y)) := fun ty dc sc =>
    run_copy_rows W1 _ _ ty 92 w.heap.size ((i + 1) * 6) _ dc ⟨g, i * 6, none⟩ _ sc (n - i) 6 N1 92 Y Try.underlying100 hsz hq1 (by simp only [Nat.min_def]; split <;> omega) HYL.out (fun j u hj => by
      rw [WideShapes.add_plain, block_cell hg1]
      exact hat _ u (by rw [List.getElem?_append_right (by rw [HXL.out]; omega), HXL.out, Nat.add_sub_cancel_left]; exact hj)) (by rw [HYL.out, hN1s]; omega) HOX.out
  have HFIN := Lib.hid (show RowV B (W1.setRow w.heap.size (cut3 N1 ((i + 1) * 6) Y)) w.heap.size G (cut3 N1 ((i + 1) * 6) Y) (l.take i ++ v :: l.drop i) ∧ Below B w (W1.setRow w.heap.size (cut3 N1 ((i + 1) * 6) Y)) from by
    have hlen : (l.take i ++ v :: l.drop i).length = n + 1 := by simp; omega
    refine ⟨⟨setRow_heap W1 w.heap.size _ _ 92 _ hq1, hB, by rw [hlen]; exact hGn, hGm, by rw [cut3_size (by rw [hN1s, HYL.out]; omega), hN1s], ?_⟩, hb1.trans (below_setRow hB)⟩
    rw [hlen, HINS.out]
    obtain ⟨Z, hZ, hZl⟩ := hN0l
    obtain ⟨Z', hZ'⟩ := grow_list (vs := vcells v) (Y := Y) hZ rfl (by rw [hZl, HYL.out]; omega)
    rw [HXL.out, ← hN1, show i * 6 + 6 = (i + 1) * 6 by omega] at hZ'
    rw [hZ', List.take_left']
    simp only [List.length_append, HXL.out, HYL.out]
    show i * 6 + 6 + _ = _
    omega)
  have HLEN := Lib.hid (show (l.take i ++ v :: l.drop i).length = n + 1 by simp; omega)
  have mixed : Try.prog.follows .mixedOrders = true := by kernel_rfl
  have hz2 : ¬ ((i : Int) = (n : Int)) := by omega
  have hw2 : IntKind.i64.wrap ((n : Int) + 1) = (n : Int) + 1 := IntWalk.i64_in _ (by omega)
  have hw3 : IntKind.i64.wrap ((n : Int) + 1 - (i : Int)) = (n : Int) + 1 - (i : Int) := IntWalk.i64_in _ (by omega)
  have hw1 : IntKind.i64.wrap ((i : Int) + 1) = (i : Int) + 1 := IntWalk.i64_in _ (by omega)
  have hnc : (c : Int) < (n : Int) + 1 := by omega
  have hi0 : ¬ (c = i) := by omega
  have hiG : ¬ (G = i) := by omega
  have hiG1 : ¬ (G = i + 1) := by omega
  have hb1' : (0 : Int) ≤ (i : Int) + 1 := by omega
  have hin : i ≤ n := by omega
  have htn : ((i : Int) + 1).toNat = i + 1 := by omega
  have hb3 : (i : Int) ≤ (n : Int) + 1 := by omega
  have hb5 : (i : Int) + 1 ≤ (n : Int) + 1 := by omega
  subst hW1
  subst hW0
  clear hv h hn hX hY hcur hg1 hq1 hq0 hg0 hv0 hN1 hN1s hN0 hN0s hN0l hold hat hXY hG hb0 hb1 hiI hz0 hz1 hz2
  go_enter Try.func68, Try.ntmps68
  go_wp2_with (at_builtin; refine Hid.out ?_)
  unfold Hid
  refine Lib.wpList_append_run _ rfl (.tmp 34) (.tmp 39) 100 3 rfl _ _ rfl rfl _ _ (hap _) ?_
  go_wp2_with (at_builtin; refine wpList_copy_run _ rfl _ _ 100 100 rfl _ _ rfl rfl (hcp1 _ _) ?_)
  go_region_law_o (refine step_copy_run rfl _ _ 100 100 rfl _ _ (by simp [Act.eval, Act.put]) (by simp [Act.eval, Act.put]) (hcp2 _ _ _) ?_)
  go_wp2
  go_ret
  have h9 := HFIN.out.1.own
  rw [HLEN.out] at h9
  exact ⟨_, rfl, h9, HFIN.out.2⟩
end Go.Proofs.Ytnnadhfpkplncaa
