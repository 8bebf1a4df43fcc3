/- The reference's Diff. Condition: the items read. -/
import Derived.Test.YtnnadhfpkplncaaRxRNod
namespace Go.Proofs.Ytnnadhfpkplncaa
open Go.RowKit

def OwnZ (B : Nat) (w : World) (v : Value) (D : List Int) : Prop := w.ownsRow B 3 1 v D.length (zs D)
theorem OwnZ.below {B : Nat} {w w' : World} {v : Value} {D : List Int} (h : OwnZ B w v D) (k : Below w.heap.size w w') : OwnZ B w' v D := row_below h k
/-- append(own, x), and what lay there lies on. -/
theorem app_z {w : World} {ops : Array Oper} {rest : List Oper} {o : Oper} {a : Act} {Q : Exit → Act → World → Prop} (hgd : o.guard = none) (s x : Operand)
    (ho : o.op = .call { callee := .builtin .append, args := #[s, x], argTypes := #[32, 32] })
    (B : Nat) (v : Value) (D : List Int) (hs : a.eval s = v) (hown : OwnZ B w v D) (g : Nat) (y : Int) (hx : a.eval x = .slice (some ⟨g, 0, none⟩) 1 1) (hc : w.cell? ⟨g, 0, none⟩ = some (.int .i64 y)) (hn : D.length ≤ 1048576) (hbase : B ≤ w.heap.size)
    (h : ∀ v' w', OwnZ B w' v' (D ++ [y]) → Below B w w' → wpList Try.prog ops Q rest (a.put o.dst v') w') : wpList Try.prog ops Q (o :: rest) a w := by
  obtain ⟨i, hi, hz0, hz1, hz2⟩ := info_parts infoTINT
  have hvb : ∀ k, v.ownBlock = some k → B ≤ k := fun k e => by
    rcases hown.2 with ⟨rfl, _⟩ | ⟨g, cap, cur, rfl, hg, _⟩
    · cases e
    · cases e; exact hg
  refine app_one hgd s x 32 3 ho i (.int .i64 0) 8 Try.underlying32 hi hz0 hz1 hz2 rfl (by decide) B v D.length (zs D) hs hown g (.int .i64 y) hx hc rfl hn hbase fun v' w' h1 h2 _ => h v' w' ?_ ((Below.refl _ _).grown h2 hbase hvb)
  unfold OwnZ
  rw [List.length_append, show zs (D ++ [y]) = zs D ++ [.int .i64 y] by unfold zs; rw [List.map_append]; rfl]
  exact h1
theorem drop_at {α : Type} {l : List α} {k : Nat} {x : α} (h : l[k]? = some x) : l.drop k = x :: l.drop (k + 1) := by
  obtain ⟨hlt, rfl⟩ := List.getElem?_eq_some_iff.1 h
  exact List.drop_eq_getElem_cons hlt
/-- Between two rounds. -/
structure DifAt (w : World) (L M : List (Int × Int)) (i k : Nat) (v : Value) (D : List Int) (wr : World) : Prop where
  own : OwnZ w.heap.size wr v D
  bl : Below w.heap.size w wr
  eq : diffR L M = D ++ diffR (L.drop i) (M.drop k)
  len : D.length ≤ i + k
set_option maxRecDepth 100000 in
set_option maxHeartbeats 3200000 in
theorem rdiff_L (L M : List (Int × Int)) (v u : Value) (w : World) (hL : L.length ≤ 4096) (hM : M.length ≤ 4096) (h : OwnI 0 w v L) (h2 : OwnI 0 w u M) :
    Calls Try.prog 22 #[v, u] w fun e w' => ∃ v', e = .returned v' ∧ OwnZ w.heap.size w' v' (diffR L M) ∧ Below w.heap.size w w' := by
  obtain ⟨A, c, rfl, hc, hr⟩ := h.read
  obtain ⟨B, d, rfl, hd, hr2⟩ := h2.read
  have HR := Lib.hid hr
  have HR2 := Lib.hid hr2
  obtain ⟨m, hm⟩ : ∃ m, m = L.length := ⟨_, rfl⟩
  obtain ⟨n, hn⟩ : ∃ n, n = M.length := ⟨_, rfl⟩
  rw [← hm] at hL hc ⊢
  rw [← hn] at hM hd ⊢
  have HM := Lib.hid hm
  have HN := Lib.hid hn
  have HS := Lib.hid (show DifAt w L M 0 0 (.slice none 0 0) [] w from ⟨World.ownsRow_nil _ _ _ _, Below.refl _ _, rfl, by simp⟩)
  clear hr h hr2 h2 hm hn
  go_enter Try.func22, Try.ntmps22
  go_wp2
  go_loopw [5, 6, 7] (fun o p q wr => ∃ (i k : Nat) (v : Value), i ≤ m ∧ k ≤ n ∧ p = .int .i64 i ∧ q = .int .i64 k ∧ o = v ∧ Hid (∃ D, DifAt w L M i k v D wr)) (fun _ p q _ => (m - (intOf p).toNat) + (n - (intOf q).toNat))
  case atStart => exact ⟨0, 0, _, by omega, by omega, rfl, rfl, rfl, ⟨_, HS.out⟩⟩
  case round =>
    obtain ⟨i, k, v, hi, hk, rfl, rfl, rfl, hst⟩ := hrel
    obtain ⟨D, hst⟩ := hst.out
    have hdl := hst.len
    have HT := Lib.hid hst
    clear hst HS
    have hw : IntKind.i64.wrap ((i : Int) + 1) = (i : Int) + 1 := IntWalk.i64_in _ (by omega)
    have hw2 : IntKind.i64.wrap ((k : Int) + 1) = (k : Int) + 1 := IntWalk.i64_in _ (by omega)
    rcases Nat.lt_or_ge i m with him | him
    · obtain ⟨x, hx⟩ : ∃ x, L[i]? = some x := ⟨_, List.getElem?_eq_getElem (by rw [← HM.out]; omega)⟩
      have hxd := drop_at hx
      obtain ⟨b, o, rfl, c1, c2⟩ := (HR.out.below HT.out.bl).at hx
      have hii : (i : Int) < (m : Int) := by omega
      rcases Nat.lt_or_ge k n with hkn | hkn
      · obtain ⟨y, hy⟩ : ∃ y, M[k]? = some y := ⟨_, List.getElem?_eq_getElem (by rw [← HN.out]; omega)⟩
        have hyd := drop_at hy
        obtain ⟨b', o', rfl, d1, d2⟩ := (HR2.out.below HT.out.bl).at hy
        have hki : (k : Int) < (n : Int) := by omega
        have hkb : ((k : Int) == (n : Int)) = false := by simp; omega
        have hib : ((i : Int) == (m : Int)) = false := by simp; omega
        have HX := Lib.hid hxd
        have HY := Lib.hid hyd
        clear hxd hyd hx hy
        by_cases hlt : x.1 < y.1
        · have hd : decide (x.1 < y.1) = true := by simpa using hlt
          have HE := Lib.hid (show diffR L M = (D ++ [x.1]) ++ diffR (L.drop (i + 1)) (M.drop k) by rw [HT.out.eq, HX.out, HY.out, diffR, if_pos hlt]; simp)
          go_wp2
          go_quiet (fail)
          go_wp2_with (at_builtin; refine Hid.out ?_)
          unfold Hid
          refine app_z rfl (.tmp 65) (.tmp 71) rfl w.heap.size _ D rfl ((HT.out.own.below (below_drewN (Below.refl _ _) _)).below ((Below.refl _ _).alloc (Nat.le_refl _) _)) _ x.1 rfl ((block_cell (alloc_new _ _)).trans rfl) (by omega) (by have := HT.out.bl.size; rw [World.size_alloc]; exact Nat.le_trans this (Nat.le_succ _)) fun v1 w1 o1 b1 => ?_
          have HT1 := Lib.hid (show DifAt w L M (i + 1) k v1 (D ++ [x.1]) w1 from ⟨o1, ((below_drewN HT.out.bl _).alloc (by exact HT.out.bl.size) _).trans b1, HE.out, by rw [List.length_append]; have e1 : [x.1].length = 1 := rfl; omega⟩)
          clear o1 b1
          go_wp2
          exact ⟨⟨(i + 1), k, v1, by omega, by omega, by congr 1, by congr 1, rfl, ⟨_, HT1.out⟩⟩, by simp [intOf]; omega⟩
        · have hd : decide (x.1 < y.1) = false := by simpa using hlt
          by_cases hgt : y.1 < x.1
          · have hd2 : decide (y.1 < x.1) = true := by simpa using hgt
            have HE := Lib.hid (show diffR L M = (D ++ [y.1]) ++ diffR (L.drop i) (M.drop (k + 1)) by rw [HT.out.eq, HX.out, HY.out, diffR, if_neg hlt, if_pos hgt]; simp)
            go_wp2
            go_quiet (fail)
            go_wp2
            go_quiet (fail)
            go_wp2_with (at_builtin; refine Hid.out ?_)
            unfold Hid
            refine app_z rfl (.tmp 93) (.tmp 99) rfl w.heap.size _ D rfl ((HT.out.own.below (below_drewN (Below.refl _ _) _)).below ((Below.refl _ _).alloc (Nat.le_refl _) _)) _ y.1 rfl ((block_cell (alloc_new _ _)).trans rfl) (by omega) (by have := HT.out.bl.size; rw [World.size_alloc]; exact Nat.le_trans this (Nat.le_succ _)) fun v1 w1 o1 b1 => ?_
            have HT1 := Lib.hid (show DifAt w L M i (k + 1) v1 (D ++ [y.1]) w1 from ⟨o1, ((below_drewN HT.out.bl _).alloc (by exact HT.out.bl.size) _).trans b1, HE.out, by rw [List.length_append]; have e1 : [y.1].length = 1 := rfl; omega⟩)
            clear o1 b1
            go_wp2
            exact ⟨⟨i, (k + 1), v1, by omega, by omega, by congr 1, by congr 1, rfl, ⟨_, HT1.out⟩⟩, by simp [intOf]; omega⟩
          · have hd2 : decide (y.1 < x.1) = false := by simpa using hgt
            by_cases hne : x.2 = y.2
            · have hnb : (x.2 != y.2) = false := by simpa using hne
              have HE := Lib.hid (show diffR L M = D ++ diffR (L.drop (i + 1)) (M.drop (k + 1)) by rw [HT.out.eq, HX.out, HY.out, diffR, if_neg hlt, if_neg hgt, if_neg (fun c => c hne)]; simp)
              go_wp2
              go_quiet (fail)
              go_wp2
              go_quiet (fail)
              go_wp2
              go_quiet (fail)
              go_wp2
              exact ⟨⟨i + 1, k + 1, _, by omega, by omega, by congr 1, by congr 1, rfl, ⟨D, HT.out.own.below (below_drewN (Below.refl _ _) _), below_drewN HT.out.bl _, HE.out, by omega⟩⟩, by simp [intOf]; omega⟩
            · have hnb : (x.2 != y.2) = true := by simpa using hne
              have HE := Lib.hid (show diffR L M = (D ++ [x.1]) ++ diffR (L.drop (i + 1)) (M.drop (k + 1)) by rw [HT.out.eq, HX.out, HY.out, diffR, if_neg hlt, if_neg hgt, if_pos hne]; simp)
              go_wp2
              go_quiet (fail)
              go_wp2
              go_quiet (fail)
              go_wp2
              go_quiet (fail)
              go_wp2_with (at_builtin; refine Hid.out ?_)
              unfold Hid
              refine app_z rfl (.tmp 29) (.tmp 35) rfl w.heap.size _ D rfl ((HT.out.own.below (below_drewN (Below.refl _ _) _)).below ((Below.refl _ _).alloc (Nat.le_refl _) _)) _ x.1 rfl ((block_cell (alloc_new _ _)).trans rfl) (by omega) (by have := HT.out.bl.size; rw [World.size_alloc]; exact Nat.le_trans this (Nat.le_succ _)) fun v1 w1 o1 b1 => ?_
              have HT1 := Lib.hid (show DifAt w L M (i + 1) (k + 1) v1 (D ++ [x.1]) w1 from ⟨o1, ((below_drewN HT.out.bl _).alloc (by exact HT.out.bl.size) _).trans b1, HE.out, by rw [List.length_append]; have e1 : [x.1].length = 1 := rfl; omega⟩)
              clear o1 b1
              go_wp2
              exact ⟨⟨(i + 1), (k + 1), v1, by omega, by omega, by congr 1, by congr 1, rfl, ⟨_, HT1.out⟩⟩, by simp [intOf]; omega⟩
      · obtain rfl : k = n := by omega
        have hki : ¬ (k : Int) < (k : Int) := by omega
        have HE := Lib.hid (show diffR L M = (D ++ [x.1]) ++ diffR (L.drop (i + 1)) (M.drop k) by rw [HT.out.eq, hxd, List.drop_eq_nil_iff.2 (show M.length ≤ k by rw [← HN.out]; omega), diffR]; simp)
        clear hxd hx
        go_wp2
        go_quiet (fail)
        go_wp2_with (at_builtin; refine Hid.out ?_)
        unfold Hid
        refine app_z rfl (.tmp 65) (.tmp 71) rfl w.heap.size _ D rfl ((HT.out.own.below (below_drewN (Below.refl _ _) _)).below ((Below.refl _ _).alloc (Nat.le_refl _) _)) _ x.1 rfl ((block_cell (alloc_new _ _)).trans rfl) (by omega) (by have := HT.out.bl.size; rw [World.size_alloc]; exact Nat.le_trans this (Nat.le_succ _)) fun v1 w1 o1 b1 => ?_
        have HT1 := Lib.hid (show DifAt w L M (i + 1) k v1 (D ++ [x.1]) w1 from ⟨o1, ((below_drewN HT.out.bl _).alloc (by exact HT.out.bl.size) _).trans b1, HE.out, by rw [List.length_append]; have e1 : [x.1].length = 1 := rfl; omega⟩)
        clear o1 b1
        go_wp2
        exact ⟨⟨(i + 1), k, v1, by omega, by omega, by congr 1, by congr 1, rfl, ⟨_, HT1.out⟩⟩, by simp [intOf]; omega⟩
    · obtain rfl : i = m := by omega
      have hii : ¬ (i : Int) < (i : Int) := by omega
      rcases Nat.lt_or_ge k n with hkn | hkn
      · obtain ⟨y, hy⟩ : ∃ y, M[k]? = some y := ⟨_, List.getElem?_eq_getElem (by rw [← HN.out]; omega)⟩
        have hyd := drop_at hy
        obtain ⟨b', o', rfl, d1, d2⟩ := (HR2.out.below HT.out.bl).at hy
        have hki : (k : Int) < (n : Int) := by omega
        have hkb : ((k : Int) == (n : Int)) = false := by simp; omega
        have HE := Lib.hid (show diffR L M = (D ++ [y.1]) ++ diffR (L.drop i) (M.drop (k + 1)) by rw [HT.out.eq, hyd, List.drop_eq_nil_iff.2 (show L.length ≤ i by rw [← HM.out]; omega), diffR]; simp)
        clear hyd hy
        go_wp2
        go_quiet (fail)
        go_wp2
        go_quiet (fail)
        go_wp2_with (at_builtin; refine Hid.out ?_)
        unfold Hid
        refine app_z rfl (.tmp 93) (.tmp 99) rfl w.heap.size _ D rfl ((HT.out.own.below (below_drewN (Below.refl _ _) _)).below ((Below.refl _ _).alloc (Nat.le_refl _) _)) _ y.1 rfl ((block_cell (alloc_new _ _)).trans rfl) (by omega) (by have := HT.out.bl.size; rw [World.size_alloc]; exact Nat.le_trans this (Nat.le_succ _)) fun v1 w1 o1 b1 => ?_
        have HT1 := Lib.hid (show DifAt w L M i (k + 1) v1 (D ++ [y.1]) w1 from ⟨o1, ((below_drewN HT.out.bl _).alloc (by exact HT.out.bl.size) _).trans b1, HE.out, by rw [List.length_append]; have e1 : [y.1].length = 1 := rfl; omega⟩)
        clear o1 b1
        go_wp2
        exact ⟨⟨i, (k + 1), v1, by omega, by omega, by congr 1, by congr 1, rfl, ⟨_, HT1.out⟩⟩, by simp [intOf]; omega⟩
      · obtain rfl : k = n := by omega
        have hki : ¬ (k : Int) < (k : Int) := by omega
        have HE := Lib.hid (show diffR L M = D by rw [HT.out.eq, List.drop_eq_nil_iff.2 (show M.length ≤ k by rw [← HN.out]; omega), List.drop_eq_nil_iff.2 (show L.length ≤ i by rw [← HM.out]; omega), diffR]; simp)
        go_wp2
        go_ret
        exact ⟨_, rfl, by rw [HE.out]; exact HT.out.own, HT.out.bl⟩
theorem rdiff_any (f g : Nat → Int) (v u : Value) (w : World) (h : OwnI 0 w v (lstF f)) (h2 : OwnI 0 w u (lstF g)) :
    Calls Try.prog 22 #[v, u] w fun e w' => ∃ v', e = .returned v' ∧ OwnZ w.heap.size w' v' (ints (diffL f g)) ∧ Below w.heap.size w w' := by
  rw [← lst_diff]
  exact rdiff_L (lstF f) (lstF g) v u w (lst_le f) (lst_le g) h h2
end Go.Proofs.Ytnnadhfpkplncaa
