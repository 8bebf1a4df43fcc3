/- slices.Delete of one volume; a volume's numbers. Condition: the row is one's own; the volume's tree reads. -/
import Derived.Test.YtnnadhfpkplncaaVoMake
namespace Go.Proofs.Ytnnadhfpkplncaa
open Go.RowKit

theorem cut3_drop {cur : Array Value} {X R cs : List Value} (h : cur.toList = X ++ R) (hl : cs.length ≤ R.length) : (cut3 cur X.length cs).toList = X ++ cs ++ R.drop cs.length :=
  cut3_list X (R.take cs.length) (R.drop cs.length) cs cur (by rw [h, List.append_assoc, List.take_append_drop]) (by simp; omega)
section
variable {P : Program}
theorem run_clear_one (w : World) (t ty elem : TypeId) (g o xCap s : Nat) (i : TypeInfo) (z : Value) (cur : Array Value) (tt : TypeId)
    (hu : P.underlying t = some (.slice elem)) (hi : P.info? elem = some i) (hz : i.zero = some z) (hzs : z.cells.size = s)
    (hg : w.heap[g]? = some (.cells cur tt (0, 0))) (hfit : o + s ≤ cur.size) (h1 : ∀ v ∈ (Builtin.zeroCells z.cells 1).toList, v.oneCell' = true) :
    (Builtin.clear_ #[t] ty #[.slice (some ⟨g, o, none⟩) 1 xCap]).run P w = .ok (.tuple #[]) (w.setRow g (cut3 cur o (Builtin.zeroCells z.cells 1).toList)) := by
  have hst := run_storeCells_at P g o tt (Builtin.zeroCells z.cells 1).toList 0 cur w hg (by simp [zero_size, hzs]; omega) h1
  simp only [Nat.add_zero] at hst
  simp [Builtin.clear_, run_underlying hu, zeroValue, typeInfo, hi, hz, hst, cut3]
end
def DelPost (B : Nat) (l : List Vol) (i : Nat) (w : World) (e : Ending) (w' : World) : Prop := ∃ v', e = .returned v' ∧ w'.ownsRow B 92 6 v' (l.eraseIdx i).length (vols (l.eraseIdx i)) ∧ Below B w w'
set_option maxRecDepth 100000 in
set_option maxHeartbeats 6400000 in
theorem vdelete_any (B : Nat) (l : List Vol) (i : Nat) (g c : Nat) (cur : Array Value) (w : World) (h : RowV B w g c cur l) (hl : l.length ≤ 1000) (hi : i < l.length) :
    Calls Try.prog 47 #[.slice (some ⟨g, 0, none⟩) l.length c, .int .i64 (i : Nat), .int .i64 ((i : Int) + 1)] w (DelPost B l i w) := by
  obtain ⟨m, hm⟩ : ∃ m, l.length = m + 1 := ⟨l.length - 1, by omega⟩
  obtain ⟨iI, hiI, hz0, hz1, hz2⟩ := info_parts infoTVOL
  have hsz : (Try.prog.info? 92).map (·.size) = some 6 := by kernel_rfl
  obtain ⟨x, hx⟩ : ∃ x, l[i]? = some x := ⟨_, List.getElem?_eq_getElem hi⟩
  obtain ⟨_, ex⟩ := List.getElem?_eq_some_iff.1 hx
  have e0 : l = l.take i ++ x :: l.drop (i + 1) := by
    rw [← ex, ← List.drop_eq_getElem_cons hi, List.take_append_drop]
  have HXL := Lib.hid (show (vols (l.take i)).length = i * 6 by rw [vols_len, List.length_take]; omega)
  have HYL := Lib.hid (show (vols (l.drop (i + 1))).length = (m - i) * 6 by rw [vols_len, List.length_drop, hm]; omega)
  have hER : l.eraseIdx i = l.take i ++ l.drop (i + 1) := List.eraseIdx_eq_take_drop_succ l i
  have hEL : (l.eraseIdx i).length = m := by rw [List.length_eraseIdx, if_pos hi, hm]; rfl
  obtain ⟨X, hX⟩ : ∃ X, X = vols (l.take i) := ⟨_, rfl⟩
  obtain ⟨Y, hY⟩ : ∃ Y, Y = vols (l.drop (i + 1)) := ⟨_, rfl⟩
  obtain ⟨Z, hZ⟩ : ∃ Z, Z = cur.toList.drop (l.length * 6) := ⟨_, rfl⟩
  have hEV : vols (l.eraseIdx i) = X ++ Y := by rw [hER, vols_app, hX, hY]
  have hcur : cur.toList = X ++ (vcells x ++ Y ++ Z) := by
    have e1 : vols l = X ++ vcells x ++ Y := by
      conv => lhs; rw [e0]
      rw [vols_app, hX, hY]; simp [vols]
    rw [hZ, ← List.append_assoc, ← List.append_assoc, ← e1]
    exact row_split h.take
  have HOY := Lib.hid (show ∀ u ∈ Y, u.oneCell' = true by rw [hY]; exact vols_one _)
  rw [← hX] at HXL
  rw [← hY] at HYL
  have hcs : cur.size = c * 6 := h.size
  have hcm : m + 1 ≤ c := by rw [← hm]; exact h.cap
  have hmax : c ≤ maxLen := h.max
  unfold maxLen at hmax
  have hZl : Z.length = (c - (m + 1)) * 6 := by
    have e := congrArg List.length hcur
    have e6 : (vcells x).length = 6 := rfl
    simp only [List.length_append, Array.length_toList, HXL.out, HYL.out, hcs, e6] at e
    omega
  rw [hm] at hl hi ⊢
  obtain ⟨cur1, hc1⟩ : ∃ cur1, cur1 = cut3 cur (i * 6) Y := ⟨_, rfl⟩
  have e6 : (vcells x).length = 6 := rfl
  have hl1 : cur1.toList = X ++ Y ++ (vcells x ++ Y ++ Z).drop Y.length := by
    rw [hc1, ← HXL.out]
    exact cut3_drop hcur (by simp only [List.length_append]; omega)
  have hs1 : cur1.size = c * 6 := by rw [hc1, cut3_size (by rw [HYL.out, hcs]; omega), hcs]
  have HLD := Lib.hid (show (loadCellsFrom ⟨g, (i + 1) * 6, none⟩ 0 ((m - i) * 6) #[]).run Try.prog w.drew = .ok Y.toArray w.drew from by
    have := run_loadCells_list (P := Try.prog) w.drew ⟨g, (i + 1) * 6, none⟩ Y (fun j u hj => by
      rw [WideShapes.add_plain]
      show w.cell? _ = _
      rw [block_cell h.heap]
      have e := congrArg (fun q : List Value => q[(i + 1) * 6 + j]?) hcur
      simp only [Array.getElem?_toList] at e
      rw [e, List.getElem?_append_right (by rw [HXL.out]; omega), HXL.out, List.append_assoc, List.getElem?_append_right (by rw [e6]; omega), e6, show (i + 1) * 6 + j - i * 6 - 6 = j by omega, List.getElem?_append_left (List.getElem?_eq_some_iff.1 hj).1, hj])
    rw [HYL.out] at this
    exact this)
  have HST := Lib.hid (show (storeCells ⟨g, i * 6, none⟩ Y).run Try.prog w.drew = .ok () (w.drew.setRow g cur1) from by
    have := run_storeCells_at Try.prog g (i * 6) 92 Y 0 cur w.drew h.heap (by rw [HYL.out, hcs]; omega) HOY.out
    rw [hc1]
    exact this)
  have HSELF := Lib.hid (show m = i → w.drew.setRow g cur1 = w.drew from fun e => by
    have hY0 : Y = [] := List.eq_nil_of_length_eq_zero (by rw [HYL.out, e]; omega)
    have : cur1 = cur := by
      rw [hc1, hY0]
      unfold cut3
      simp
    rw [this]
    exact setRow_self w.drew g cur 92 (0, 0) h.heap)
  obtain ⟨W1, hW1⟩ : ∃ W1, W1 = w.drew.setRow g cur1 := ⟨_, rfl⟩
  have hg1 : W1.heap[g]? = some (.cells cur1 92 (0, 0)) := by rw [hW1]; exact setRow_heap w.drew g _ cur1 92 _ h.heap
  obtain ⟨cz, hcz⟩ : ∃ cz, cz = (Builtin.zeroCells (Value.cells (.agg #[.string ⟨#[]⟩, .int .i64 0, .int .i64 0, .int .i64 0, .bool false, .pointer none])) 1).toList := ⟨_, rfl⟩
  have hcz6 : cz.length = 6 := by rw [hcz, Array.length_toList, zero_size]; rfl
  have hcl : ∀ ty xc, (Builtin.clear_ #[100] ty #[.slice (some ⟨g, m * 6, none⟩) 1 xc]).run Try.prog W1 = .ok (.tuple #[]) (W1.setRow g (cut3 cur1 (m * 6) cz)) := fun ty xc => by
    rw [hcz]
    exact run_clear_one W1 100 ty 92 g (m * 6) xc 6 iI (.agg #[.string ⟨#[]⟩, .int .i64 0, .int .i64 0, .int .i64 0, .bool false, .pointer none]) cur1 92 Try.underlying100 hiI hz0 rfl hg1 (by rw [hs1]; omega) (by decide +kernel)
  have HFIN := Lib.hid (show RowV B (W1.setRow g (cut3 cur1 (m * 6) cz)) g c (cut3 cur1 (m * 6) cz) (l.eraseIdx i) ∧ Below B w (W1.setRow g (cut3 cur1 (m * 6) cz)) from by
    refine ⟨⟨setRow_heap W1 g _ _ 92 _ hg1, h.base, by rw [hEL]; omega, h.max, by rw [cut3_size (by rw [hs1, hcz6]; omega), hs1], ?_⟩, ?_⟩
    · have hlm : (X ++ Y).length = m * 6 := by simp only [List.length_append, HXL.out, HYL.out]; omega
      have e := cut3_drop (cs := cz) hl1 (by simp only [List.length_drop, List.length_append]; omega)
      rw [hlm] at e
      rw [e, hEL, hEV, List.append_assoc, List.take_left' hlm]
    · rw [hW1]
      have hbg := h.base
      exact ((Below.refl B w).drew.trans (below_setRow hbg)).trans (below_setRow hbg))
  have HEL := Lib.hid hEL
  have mixed : Try.prog.follows .mixedOrders = true := by kernel_rfl
  have hw1 : IntKind.i64.wrap ((i : Int) + 1) = (i : Int) + 1 := IntWalk.i64_in _ (by omega)
  have hb1 : (0 : Int) ≤ (i : Int) + 1 := by omega
  have htn : ((i : Int) + 1).toNat = i + 1 := by omega
  have hb5 : (i : Int) + 1 ≤ (m : Int) + 1 := by omega
  have hb6 : (i : Int) ≤ (i : Int) + 1 := by omega
  have hb7 : (m : Int) + 1 ≤ (c : Int) := by omega
  have hb8 : i ≤ m + 1 := by omega
  have hb9 : i ≤ c := by omega
  have hne : ¬ ((i : Int) = (i : Int) + 1) := by omega
  have hci : ¬ (c = i) := by omega
  have hcm' : ¬ (c = m) := by omega
  subst hW1
  clear h hX hY hZ hcur hg1 hc1 hl1 hs1 hcz hcz6 hER hEL hEV hx ex e0 hiI hz0 hz1 hz2 hZl hsz e6
  have hml : i ≤ m := by omega
  have hmc : m ≤ c := by omega
  by_cases hce : c = i + 1
  · have hmi : m = i := by omega
    subst hmi
    subst hce
    have hself := HSELF.out rfl
    rw [hself] at hcl HFIN
    clear hself
    go_enter Try.func47, Try.ntmps47
    go_wp2_with fail
    go_region
    go_wp2_with fail
    go_ret
    have h9 := HFIN.out.1.own
    rw [HEL.out] at h9
    exact ⟨_, rfl, by rw [HEL.out]; exact h9, HFIN.out.2⟩
  · have hld := HLD.out
    have hst := HST.out
    go_enter Try.func47, Try.ntmps47
    go_wp2_with fail
    go_region
    go_wp2_with fail
    go_ret
    have h9 := HFIN.out.1.own
    rw [HEL.out] at h9
    exact ⟨_, rfl, by rw [HEL.out]; exact h9, HFIN.out.2⟩
end Go.Proofs.Ytnnadhfpkplncaa
