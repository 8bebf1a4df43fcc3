/- The reference's New and Add. Condition: what comes reads. -/
import Derived.Test.YtnnadhfpkplncaaDoorTkAdd
import Derived.Test.YtnnadhfpkplncaaDoorRegLast
import Derived.Deep.RegionLaw
import Derived.Deep.RegionLawGrows
import Derived.Laws.Tables
namespace Go.Proofs.YtnnadhfpkplncaaDoor
open Go.RowKit Go.Maps

def rmach (lim last : Int) (vL : Value) : Value := .agg #[.int .i64 lim, .int .i64 last, vL, .slice none 0 0, .slice none 0 0]
theorem results_row_tmp {P : Program} {fn : Func} {p u : Tmp} {ty : TypeId} (h : fn.results = #[.cell p ty, .tmp u]) (tmps : Array Value) (w : World) (g : Nat) (t : TypeId) (cs : Array Value) (fr : Nat × Nat) (d : TypeDesc)
    (hp : tmps.getD p undef = .pointer (some ⟨g, 0, none⟩)) (hg : w.heap[g]? = some (.cells cs t fr))
    (hu : P.underlying ty = some d) (hd : (match d with | .struct _ | .array _ _ => true | _ => false) = true) (hi : (P.info? ty).map (·.size) = some cs.size) :
    (results fn tmps).run P w = .ok (.tuple #[.agg cs, tmps.getD u undef]) w := by
  have hp' : tmps[p]?.getD undef = .pointer (some ⟨g, 0, none⟩) := by simpa using hp
  simp [results, h, hp', asAddr, run_loadVar_row w g t ty cs fr d hg hu hd hi]
theorem results_row_tmp2 {P : Program} {fn : Func} {p u v : Tmp} {ty : TypeId} (h : fn.results = #[.cell p ty, .tmp u, .tmp v]) (tmps : Array Value) (w : World) (g : Nat) (t : TypeId) (cs : Array Value) (fr : Nat × Nat) (d : TypeDesc)
    (hp : tmps.getD p undef = .pointer (some ⟨g, 0, none⟩)) (hg : w.heap[g]? = some (.cells cs t fr))
    (hu : P.underlying ty = some d) (hd : (match d with | .struct _ | .array _ _ => true | _ => false) = true) (hi : (P.info? ty).map (·.size) = some cs.size) :
    (results fn tmps).run P w = .ok (.tuple #[.agg cs, tmps.getD u undef, tmps.getD v undef]) w := by
  have hp' : tmps[p]?.getD undef = .pointer (some ⟨g, 0, none⟩) := by simpa using hp
  simp [results, h, hp', asAddr, run_loadVar_row w g t ty cs fr d hg hu hd hi]
def RNewPost (lim : Int) (w : World) (e : Ending) (w' : World) : Prop :=
    (((lim < 1 ∨ 64 < lim) ∧ e = .returned (.tuple #[rmach 0 0 (.slice none 0 0), .int .i64 1])) ∨ (1 ≤ lim ∧ lim ≤ 64 ∧ e = .returned (.tuple #[rmach lim 0 (.slice none 0 0), .int .i64 0]))) ∧ Below w.heap.size w w'
set_option maxRecDepth 100000 in
theorem rnew_any (lim : Int) (w : World) : Calls Tryd.prog 24 #[.int .i64 lim] w (RNewPost lim w) := by
  by_cases h1 : lim < 1
  · have HL := Lib.hid (show lim < 1 ∨ 64 < lim from Or.inl h1)
    go_enter Tryd.func24, Tryd.ntmps24
    go_wp2
    refine bodyPost_ret (results_row_tmp rfl _ _ w.heap.size _ _ _ _ rfl (alloc_new _ _) Tryd.underlying60 rfl (by kernel_rfl)) rfl ?_
    exact ⟨Or.inl ⟨HL.out, rfl⟩, (Below.refl _ _).alloc (Nat.le_refl _) _⟩
  · by_cases h2 : 64 < lim
    · have HL := Lib.hid (show lim < 1 ∨ 64 < lim from Or.inr h2)
      go_enter Tryd.func24, Tryd.ntmps24
      go_wp2
      refine bodyPost_ret (results_row_tmp rfl _ _ w.heap.size _ _ _ _ rfl (alloc_new _ _) Tryd.underlying60 rfl (by kernel_rfl)) rfl ?_
      exact ⟨Or.inl ⟨HL.out, rfl⟩, (Below.refl _ _).alloc (Nat.le_refl _) _⟩
    · have HL := Lib.hid (show 1 ≤ lim ∧ lim ≤ 64 by omega)
      go_enter Tryd.func24, Tryd.ntmps24
      go_wp2
      refine bodyPost_ret (results_row_tmp rfl _ _ w.heap.size _ _ _ _ rfl (alloc_new _ _) Tryd.underlying60 rfl (by kernel_rfl)) rfl ?_
      exact ⟨Or.inr ⟨HL.out.1, HL.out.2, rfl⟩, (Below.refl _ _).alloc (Nat.le_refl _) _⟩
/-- A list of tasks of one's own: so many. -/
def OwnT (w : World) (v : Value) (n : Nat) : Prop := ∃ xs, w.ownsRow 0 111 5 v n xs
theorem OwnT.below {w w' : World} {v : Value} {n : Nat} (h : OwnT w v n) (k : Below w.heap.size w w') : OwnT w' v n := by
  obtain ⟨xs, h⟩ := h
  exact ⟨xs, own_keepC h (Keep.of k (Nat.zero_le _) : Keep 0 w w')⟩
theorem infoRTASK : (Tryd.prog.info? 111).map (fun i => (i.zero, i.size, i.bytes)) = some (some (.agg #[.int .i64 0, .slice none 0 0, .int .i64 0, .int .i64 0, .int .i64 0]), 5, 56) := by kernel_rfl
def RAddPost (lim last : Int) (vL : Value) (n : Nat) (l : List Want) (steps : Int) (w : World) (e : Ending) (w' : World) : Prop :=
  Below w.heap.size w w' ∧
  ((addE lim n l steps ≠ 0 ∧ e = .returned (.tuple #[rmach lim last vL, .int .i64 0, .int .i64 (addE lim n l steps)])) ∨
  (addE lim n l steps = 0 ∧ ∃ vL', e = .returned (.tuple #[rmach lim (last + 1) vL', .int .i64 (last + 1), .int .i64 0]) ∧ OwnT w' vL' (n + 1)))
theorem stop_loadR {P : Program} {ops : Array Oper} {rest : List Oper} {o : Oper} {a : Act} {w : World} {Q : Exit → Act → World → Prop} (x : Operand) (_ : o.op = .load 60 x) (h : Hid (wpList P ops Q (o :: rest) a w)) : wpList P ops Q (o :: rest) a w := h.out
theorem below_setRow {L g : Nat} {w : World} {cs : Array Value} (h : L ≤ g) : Below L w (w.setRow g cs) := ⟨rfl, rfl, rfl, by simp, fun k hk => setRow_other w g k _ (by omega)⟩
/-- The two boxes of the reference's Add: the machine, what comes back. -/
structure RBox (w0 w : World) (cs : Array Value) : Prop where
  m : w.heap[w0.heap.size]? = some (.cells cs 60 (0, 0))
  r : ∃ c0 c1 c2 c3 c4, w.heap[w0.heap.size + 1]? = some (.cells #[c0, c1, c2, c3, c4] 60 (0, 0))
  b : Below w0.heap.size w0 w
theorem RBox.cl {w0 w w' : World} {cs : Array Value} (h : RBox w0 w cs) (k : Below w.heap.size w w') : RBox w0 w' cs := by
  obtain ⟨c0, c1, c2, c3, c4, hr⟩ := h.r
  exact ⟨(k.block _ (block_lt h.m)).trans h.m, ⟨c0, c1, c2, c3, c4, (k.block _ (block_lt hr)).trans hr⟩, h.b.trans (k.mono h.b.size)⟩
/-- The list grown and stored: what then lies there. -/
theorem radd_fin {w wb wa : World} {lim last : Int} {vL : Value} {Av : Option Addr} {n cv : Nat} {xs : List Value} (h : RBox w wb #[.int .i64 lim, .int .i64 last, vL, .slice none 0 0, .slice none 0 0]) (ga : wb.grownBy wa none)
    (owa : wa.ownsRow wb.heap.size 111 5 (.slice Av (n + 1) cv) (n + 1) xs) :
    RBox w (wa.setCell ⟨w.heap.size, 2, none⟩ (.slice Av (n + 1) cv)) #[.int .i64 lim, .int .i64 last, .slice Av (n + 1) cv, .slice none 0 0, .slice none 0 0] ∧ OwnT (wa.setCell ⟨w.heap.size, 2, none⟩ (.slice Av (n + 1) cv)) (.slice Av (n + 1) cv) (n + 1) := by
  have hlt := block_lt h.m
  have hma := (ga.block _ hlt (by simp)).trans h.m
  obtain ⟨c0, c1, c2, c3, c4, hr⟩ := h.r
  have hba : Below w.heap.size w wa := h.b.grown ga h.b.size (by simp)
  refine ⟨⟨heap_setCell_same wa _ 2 _ 60 _ hma, ⟨c0, c1, c2, c3, c4, (Below.heap_setCell wa ⟨w.heap.size, 2, none⟩ _ _ (by show w.heap.size + 1 ≠ w.heap.size; omega)).trans ((ga.block _ (block_lt hr) (by simp)).trans hr)⟩,
    ⟨hba.os, hba.tape, hba.output, by rw [World.size_setCell]; exact hba.size, fun k hk => (Below.heap_setCell wa ⟨w.heap.size, 2, none⟩ _ k (by show k ≠ w.heap.size; omega)).trans (hba.block k hk)⟩⟩, ?_⟩
  refine ⟨xs, World.ownsRow.kept (own_lower owa (Nat.zero_le _)) (⟨rfl, rfl, rfl, by rw [World.size_setCell]; exact Nat.le_refl _, fun i _ hi => Below.heap_setCell wa ⟨w.heap.size, 2, none⟩ _ i (fun e => hi (by rw [show i = w.heap.size from e]))⟩ : wa.grownBy (wa.setCell ⟨w.heap.size, 2, none⟩ (.slice Av (n + 1) cv)) (some w.heap.size)) ?_⟩
  cases hq : (Value.slice Av (n + 1) cv).ownBlock with
  | none => exact Or.inl rfl
  | some q =>
    refine Or.inr fun e => ?_
    have h9 := own_ge owa hq
    injection e with e
    omega
set_option maxRecDepth 100000 in
set_option maxHeartbeats 12800000 in
theorem radd_any {n : Nat} {lim last : Int} {vL : Value} (l : List Want) (A : Option Addr) (c : Nat) (steps : Int) (w : World) (hO : OwnT w vL n) (hr : RdA w A (wants2 l)) (hlast : 0 ≤ last ∧ last ≤ 900) (hn : n ≤ 900) :
    Calls Tryd.prog 29 #[rmach lim last vL, .slice A l.length c, .int .i64 steps] w (RAddPost lim last vL n l steps w) := by
  unfold rmach
  have HO := Lib.hid hO
  have HR := Lib.hid hr
  obtain ⟨xs, hxs⟩ := hO
  obtain ⟨AL, cL, rfl, hcL, hrL, hAL⟩ := own_rdW hxs
  have HX := Lib.hid hxs
  have HAL := Lib.hid hAL
  have HRL := Lib.hid hrL
  obtain ⟨nl, hnl⟩ : ∃ nl, nl = l.length := ⟨_, rfl⟩
  rw [← hnl]
  have HNL := Lib.hid hnl
  clear hr hnl hrL hAL hxs
  by_cases h1 : steps < 1
  · have HE := Lib.hid (show addE lim n l steps = 1 from addE_arg (Or.inl h1))
    go_enter Tryd.func29, Tryd.ntmps29
    go_wp2_with fail
    refine bodyPost_ret (results_row_tmp2 rfl _ _ (w.heap.size + 1) _ _ _ _ rfl (by rw [← World.size_alloc w]; exact alloc_new _ _) Tryd.underlying60 rfl (by kernel_rfl)) rfl ?_
    exact ⟨((Below.refl _ _).alloc (Nat.le_refl _) _).alloc (by rw [World.size_alloc]; omega) _, Or.inl ⟨by rw [HE.out]; decide, by rw [HE.out]; rfl⟩⟩
  · by_cases h2 : 65536 < steps
    · have HE := Lib.hid (show addE lim n l steps = 1 from addE_arg (Or.inr (Or.inl h2)))
      go_enter Tryd.func29, Tryd.ntmps29
      go_wp2_with fail
      refine bodyPost_ret (results_row_tmp2 rfl _ _ (w.heap.size + 1) _ _ _ _ rfl (by rw [← World.size_alloc w]; exact alloc_new _ _) Tryd.underlying60 rfl (by kernel_rfl)) rfl ?_
      exact ⟨((Below.refl _ _).alloc (Nat.le_refl _) _).alloc (by rw [World.size_alloc]; omega) _, Or.inl ⟨by rw [HE.out]; decide, by rw [HE.out]; rfl⟩⟩
    · by_cases h3 : 16 < nl
      · have HE := Lib.hid (show addE lim n l steps = 1 from addE_arg (Or.inr (Or.inr (by rw [← HNL.out]; exact h3))))
        have h3i : (16 : Int) < (nl : Int) := by omega
        go_enter Tryd.func29, Tryd.ntmps29
        go_wp2_with fail
        refine bodyPost_ret (results_row_tmp2 rfl _ _ (w.heap.size + 1) _ _ _ _ rfl (by rw [← World.size_alloc w]; exact alloc_new _ _) Tryd.underlying60 rfl (by kernel_rfl)) rfl ?_
        exact ⟨((Below.refl _ _).alloc (Nat.le_refl _) _).alloc (by rw [World.size_alloc]; omega) _, Or.inl ⟨by rw [HE.out]; decide, by rw [HE.out]; rfl⟩⟩
      · have HNA := Lib.hid (show ¬ (steps < 1 ∨ 65536 < steps ∨ 16 < l.length) by rw [← HNL.out]; omega)
        have h3i : ¬ (16 : Int) < (nl : Int) := by omega
        obtain ⟨wB, hwB⟩ : ∃ wB, wB = (w.alloc (.cells #[.int .i64 lim, .int .i64 last, .slice AL n cL, .slice none 0 0, .slice none 0 0] 60)).alloc (.cells #[.int .i64 0, .int .i64 0, .slice none 0 0, .slice none 0 0, .slice none 0 0] 60) := ⟨_, rfl⟩
        have HBX := Lib.hid (show RBox w wB #[.int .i64 lim, .int .i64 last, .slice AL n cL, .slice none 0 0, .slice none 0 0] from by
          have h1 : Below w.heap.size w wB := by rw [hwB]; exact ((Below.refl _ _).alloc (Nat.le_refl _) _).alloc (by rw [World.size_alloc]; omega) _
          refine ⟨?_, ⟨.int .i64 0, .int .i64 0, .slice none 0 0, .slice none 0 0, .slice none 0 0, ?_⟩, h1⟩
          · rw [hwB]; exact heap_alloc2_old _ _ _
          · rw [hwB]; exact heap_alloc2_new _ _ _)
        go_enter Tryd.func29, Tryd.ntmps29
        go_wp2_with fail
        rw [← hwB]
        clear hwB
        go_loopg [9] (nl + 1 - 1) (fun gg i wr => ∃ k : Nat, 1 ≤ k ∧ gg = nl + 1 - k ∧ i = .int .i64 k ∧ Hid (∀ j, 0 < j → j < k → ¬ badAt l j) ∧ Hid (RBox w wr #[.int .i64 lim, .int .i64 last, .slice AL n cL, .slice none 0 0, .slice none 0 0]))
        case atStart => exact ⟨1, Nat.le_refl _, by omega, rfl, fun j h1 h2 => absurd h2 (by omega), HBX.out⟩
        case round =>
          obtain ⟨k, hk1, hgk, rfl, HOK, HB⟩ := hrel
          clear HBX
          by_cases hkn : k < nl
          · obtain ⟨y, hy⟩ : ∃ y, l[k]? = some y := ⟨_, List.getElem?_eq_getElem (by rw [← HNL.out]; omega)⟩
            obtain ⟨x, hx⟩ : ∃ x, l[k - 1]? = some x := ⟨_, List.getElem?_eq_getElem (by rw [← HNL.out]; omega)⟩
            obtain ⟨b, o, rfl, e1, _⟩ := want_at (HR.out.below HB.out.b) hy
            obtain ⟨b', o', eA, e2, _⟩ := want_at (HR.out.below HB.out.b) hx
            cases eA
            have HX1 := Lib.hid hx
            have HY := Lib.hid hy
            obtain ⟨x1, x2⟩ := x
            obtain ⟨y1, y2⟩ := y
            have hki : (k : Int) < (nl : Int) := by omega
            have hkw : IntKind.i64.wrap ((k : Int) + 1) = (k : Int) + 1 := IntWalk.i64_in _ (by omega)
            have hkm : IntKind.i64.wrap ((k : Int) - 1) = ((k - 1 : Nat) : Int) := by rw [IntWalk.i64_in _ (by omega)]; omega
            obtain ⟨k', hk'⟩ : ∃ k', k' = k - 1 := ⟨_, rfl⟩
            rw [← hk'] at hkm e2
            have hki' : (k' : Int) < (nl : Int) := by omega
            clear hx hy hk'
            by_cases hlt : x1 < y1
            · have hc1 := less_s (decide_eq_true hlt)
              have hc2 := less_p (decide_eq_true hlt)
              have hn1 : ¬ y1 < x1 := list_lt.2 (Or.inr hlt)
              have hc3 := less_s (decide_eq_false hn1)
              have hc4 := less_p (decide_eq_false hn1)
              have hc5 : (y1 == x1) = false := by
                simp only [beq_eq_false_iff_ne, ne_eq]
                rintro rfl
                exact hn1 hlt
              have HOK2 := Lib.hid (show ∀ j, 0 < j → j < k + 1 → ¬ badAt l j from fun j hj hj2 hb => by
                rcases Nat.lt_or_ge j k with h | h
                · exact HOK.out j hj h hb
                · obtain rfl : j = k := by omega
                  obtain ⟨u, v, hu, hv, hn⟩ := hb
                  rw [HX1.out] at hu
                  rw [HY.out] at hv
                  cases hu
                  cases hv
                  exact hn hlt)
              clear hlt hn1
              go_wp2
              go_quiet (fail)
              have HB2 := Lib.hid (HB.out.cl (below_drewN (Below.refl _ _) nq))
              generalize wr.drewN nq = wz at *
              clear e1 e2
              go_wp2
              go_roundg (nl + 1 - (k + 1))
              case measure => omega
              case rel => exact ⟨k + 1, by omega, rfl, by congr 1, HOK2, HB2⟩
            · have hc1 := less_s (decide_eq_false hlt)
              have hc2 := less_p (decide_eq_false hlt)
              have HE := Lib.hid (show addE lim n l steps = 41 from addE_ord HNA.out ⟨k, hk1, ⟨x1, x2⟩, ⟨y1, y2⟩, HX1.out, HY.out, hlt⟩)
              have hor : (y1 == x1) = true ∨ ((y1 == x1) = false ∧ y1 < x1) := by
                rcases list_lt.1 hlt with e | e
                · exact Or.inl (by simp [e])
                · by_cases e3 : y1 = x1
                  · exact Or.inl (by simp [e3])
                  · exact Or.inr ⟨by simpa using e3, e⟩
              clear hlt
              rcases hor with hc5 | ⟨hc5, hlt2⟩
              all_goals
                try have hc3 := less_s (decide_eq_true hlt2)
                try have hc4 := less_p (decide_eq_true hlt2)
                try clear hlt2
                go_wp2
                go_quiet (fail)
                have HB2 := Lib.hid (HB.out.cl (below_drewN (Below.refl _ _) nq))
                generalize wr.drewN nq = wz at *
                clear e1 e2
                go_wp2_with ((with_reducible refine stop_loadR _ rfl ?_))
                unfold Hid
                obtain ⟨c0, c1, c2, c3, c4, hrr⟩ := HB2.out.r
                refine wpList_load_row rfl 60 _ rfl w.heap.size rfl 60 _ (0, 0) _ HB2.out.m Tryd.underlying60 rfl (by kernel_rfl) ?_
                refine wpList_store_row rfl 60 _ _ rfl (w.heap.size + 1) _ rfl rfl 60 _ hrr (by kernel_rfl) rfl (by simp [Value.oneCell']) ?_
                have HB3 := Lib.hid (HB2.out.b.trans (below_setRow (L := w.heap.size) (g := w.heap.size + 1) (w := wz) (cs := #[.int .i64 lim, .int .i64 last, .slice AL n cL, .slice none 0 0, .slice none 0 0]) (by omega)))
                have HR3 := Lib.hid (setRow_heap wz (w.heap.size + 1) _ #[.int .i64 lim, .int .i64 last, .slice AL n cL, .slice none 0 0, .slice none 0 0] 60 _ hrr)
                generalize wz.setRow (w.heap.size + 1) #[.int .i64 lim, .int .i64 last, .slice AL n cL, .slice none 0 0, .slice none 0 0] = wy at *
                clear hrr
                go_wp2
                refine bodyPost_ret (results_row_tmp2 rfl _ _ (w.heap.size + 1) _ _ _ _ rfl HR3.out Tryd.underlying60 rfl (by kernel_rfl)) rfl ?_
                exact ⟨HB3.out, Or.inl ⟨by rw [HE.out]; decide, by rw [HE.out]; rfl⟩⟩
          · have hki : ¬ (k : Int) < (nl : Int) := by omega
            have HNB := Lib.hid (show ¬ ∃ j, 0 < j ∧ badAt l j from fun ⟨j, hj, hb⟩ => by
              obtain ⟨u, v, _, hv, _⟩ := id hb
              have := (List.getElem?_eq_some_iff.1 hv).1
              exact HOK.out j hj (by have := HNL.out; omega) hb)
            have d0 : wr.cell? ⟨w.heap.size, 0, none⟩ = some (.int .i64 lim) := block_cell HB.out.m
            have d1 : wr.cell? ⟨w.heap.size, 1, none⟩ = some (.int .i64 last) := block_cell HB.out.m
            have f1 : wr.frozen? ⟨w.heap.size, 1, none⟩ = false := block_free HB.out.m
            have d2 : wr.cell? ⟨w.heap.size, 2, none⟩ = some (.slice AL n cL) := block_cell HB.out.m
            clear HOK
            by_cases hfull : lim ≤ (n : Int)
            · have HE := Lib.hid (show addE lim n l steps = 10 from addE_full HNA.out HNB.out hfull)
              go_wp2_with ((with_reducible refine stop_loadR _ rfl ?_))
              unfold Hid
              obtain ⟨c0, c1, c2, c3, c4, hrr⟩ := HB.out.r
              refine wpList_load_row rfl 60 _ rfl w.heap.size rfl 60 _ (0, 0) _ HB.out.m Tryd.underlying60 rfl (by kernel_rfl) ?_
              refine wpList_store_row rfl 60 _ _ rfl (w.heap.size + 1) _ rfl rfl 60 _ hrr (by kernel_rfl) rfl (by simp [Value.oneCell']) ?_
              have HB3 := Lib.hid (HB.out.b.trans (below_setRow (L := w.heap.size) (g := w.heap.size + 1) (w := wr) (cs := #[.int .i64 lim, .int .i64 last, .slice AL n cL, .slice none 0 0, .slice none 0 0]) (by omega)))
              have HR3 := Lib.hid (setRow_heap wr (w.heap.size + 1) _ #[.int .i64 lim, .int .i64 last, .slice AL n cL, .slice none 0 0, .slice none 0 0] 60 _ hrr)
              generalize wr.setRow (w.heap.size + 1) #[.int .i64 lim, .int .i64 last, .slice AL n cL, .slice none 0 0, .slice none 0 0] = wy at *
              clear hrr
              go_wp2
              refine bodyPost_ret (results_row_tmp2 rfl _ _ (w.heap.size + 1) _ _ _ _ rfl HR3.out Tryd.underlying60 rfl (by kernel_rfl)) rfl ?_
              exact ⟨HB3.out, Or.inl ⟨by rw [HE.out]; decide, by rw [HE.out]; rfl⟩⟩
            · have HE := Lib.hid (show addE lim n l steps = 0 from addE_ok HNA.out HNB.out hfull)
              have hlw : IntKind.i64.wrap (last + 1) = last + 1 := IntWalk.i64_in _ (by omega)
              go_wp2
              have hb1 : Below w.heap.size w (wr.setCell ⟨w.heap.size, 1, none⟩ (.int .i64 (last + 1))) := ⟨HB.out.b.os, HB.out.b.tape, HB.out.b.output, by rw [World.size_setCell]; exact HB.out.b.size, fun k hk => (Below.heap_setCell wr ⟨w.heap.size, 1, none⟩ _ k (by show k ≠ w.heap.size; omega)).trans (HB.out.b.block k hk)⟩
              have HB1 := Lib.hid (show RBox w (wr.setCell ⟨w.heap.size, 1, none⟩ (.int .i64 (last + 1))) #[.int .i64 lim, .int .i64 (last + 1), .slice AL n cL, .slice none 0 0, .slice none 0 0] from by
                obtain ⟨c0, c1, c2, c3, c4, hr⟩ := HB.out.r
                exact ⟨heap_setCell_same wr _ 1 _ 60 _ HB.out.m, ⟨c0, c1, c2, c3, c4, (Below.heap_setCell wr ⟨w.heap.size, 1, none⟩ _ _ (by show w.heap.size + 1 ≠ w.heap.size; omega)).trans hr⟩, hb1⟩)
              generalize wr.setCell ⟨w.heap.size, 1, none⟩ (.int .i64 (last + 1)) = w1 at *
              clear d0 d1 d2 f1 hb1 HB
              have HRW := Lib.hid (HRL.out.below HB1.out.b)
              have HSZ := Lib.hid (block_lt HB1.out.m)
              go_cut [] from 52 to 71 (fun w' => ∃ v', Hid (RBox w w' #[.int .i64 lim, .int .i64 (last + 1), v', .slice none 0 0, .slice none 0 0]) ∧ Hid (OwnT w' v' (n + 1)))
              case first =>
                have e1 : w1.drew.cell? ⟨w.heap.size, 1, none⟩ = some (.int .i64 (last + 1)) := block_cell HB1.out.m
                have e2 : w1.drew.cell? ⟨w.heap.size, 2, none⟩ = some (.slice AL n cL) := block_cell HB1.out.m
                have hnc : n ≤ cL := hcL
                obtain ⟨ob, hob⟩ : ∃ ob, ob = Obj.cells #[.int .i64 (last + 1), .slice A nl c, .int .i64 0, .int .i64 0, .int .i64 steps] 111 := ⟨_, rfl⟩
                have HAT := Lib.hid (show (w1.drew.alloc ob).heap[w.heap.size]? = some (.cells #[.int .i64 lim, .int .i64 (last + 1), .slice AL n cL, .slice none 0 0, .slice none 0 0] 60 (0, 0)) from (heap_alloc_old _ _ _ HSZ.out).trans HB1.out.m)
                have HNEW := Lib.hid (show RdA (w1.drew.alloc ob) (some ⟨w1.heap.size, 0, none⟩) [.int .i64 (last + 1), .slice A nl c, .int .i64 0, .int .i64 0, .int .i64 steps] from fun j u hj => ⟨_, _, rfl, by rw [Nat.zero_add, block_cell (by rw [hob]; exact alloc_new w1.drew _)]; simpa using hj⟩)
                have HBA := Lib.hid ((HB1.out.cl (Below.refl _ w1).drew).cl ((Below.refl _ w1.drew).alloc (Nat.le_refl _) ob))
                have HRA := Lib.hid (show RdA (w1.drew.alloc ob) AL xs from HRW.out.drew.alloc ob)
                rw [hob] at HNEW HAT HBA HRA
                obtain ⟨iI, hiI, hz0, hz1, hz2⟩ := info_parts infoRTASK
                have hlx : xs.length = n * 5 := HX.out.1
                have HLX := Lib.hid hlx
                clear hlx hob
                have HA0 := Lib.hid (show AL = none → n = 0 ∧ n = 0 from fun e => ⟨(HAL.out e).1, (HAL.out e).1⟩)
                refine region_lastL (S := fun w' => w'.cell? ⟨w.heap.size, 1, none⟩ = some (.int .i64 (last + 1)) ∧ w'.cell? ⟨w.heap.size, 2, none⟩ = some (.slice AL n cL)) (by simp only [List.dropLast_cons_cons, List.dropLast_singleton]; rfl) rfl (by kernel_rfl) (by kernel_rfl) ⟨e1, e2⟩ (fun hS => ?_)
                refine takeR 0 (v := ?_) rfl (by kernel_rfl) (by kernel_rfl) (by kernel_rfl) (fun _ _ _ h => h) (Or.inl ⟨by rfl, ?_⟩) hS ?_
                rotate_left; · ((intro w hSw); (try dsimp only at hSw); go_simp; (try with_reducible rfl))
                try simp only [Act.put, List.setIfInBounds_toArray, List.set_cons_zero, List.set_cons_succ]
                refine takeR 1 (v := ?_) rfl (by kernel_rfl) (by kernel_rfl) (by kernel_rfl) (fun _ _ _ h => h) (Or.inl ⟨by rfl, ?_⟩) hS ?_
                rotate_left; · ((intro w hSw); (try dsimp only at hSw); go_simp; (try with_reducible rfl))
                try simp only [Act.put, List.setIfInBounds_toArray, List.set_cons_zero, List.set_cons_succ]
                refine takeR 2 (v := ?_) rfl (by kernel_rfl) (by kernel_rfl) (by kernel_rfl) (fun _ _ _ h => h) (Or.inl ⟨by rfl, ?_⟩) hS ?_
                rotate_left; · ((intro w hSw); (try dsimp only at hSw); go_simp; (try with_reducible rfl))
                try simp only [Act.put, List.setIfInBounds_toArray, List.set_cons_zero, List.set_cons_succ]
                refine takeR 3 (v := ?_) rfl (by kernel_rfl) (by kernel_rfl) (by kernel_rfl) (fun _ _ _ h => h) (Or.inl ⟨by rfl, ?_⟩) hS ?_
                rotate_left; · ((intro w hSw); (try dsimp only at hSw); go_simp; (try with_reducible rfl))
                try simp only [Act.put, List.setIfInBounds_toArray, List.set_cons_zero, List.set_cons_succ]
                refine takeR 4 (v := ?_) rfl (by kernel_rfl) (by kernel_rfl) (by kernel_rfl) (fun _ _ _ h => h) (Or.inl ⟨by rfl, ?_⟩) hS ?_
                rotate_left; · ((intro w hSw); (try dsimp only at hSw); go_simp; (try with_reducible rfl))
                try simp only [Act.put, List.setIfInBounds_toArray, List.set_cons_zero, List.set_cons_succ]
                refine takeR 5 (v := ?_) rfl (by kernel_rfl) (by kernel_rfl) (by kernel_rfl) (fun _ _ _ h => h) (Or.inl ⟨by rfl, ?_⟩) hS ?_
                rotate_left; · ((intro w hSw); (try dsimp only at hSw); go_simp; (try with_reducible rfl))
                try simp only [Act.put, List.setIfInBounds_toArray, List.set_cons_zero, List.set_cons_succ]
                refine takeR 6 (v := ?_) rfl (by kernel_rfl) (by kernel_rfl) (by kernel_rfl) (fun _ _ _ h => h) (Or.inl ⟨by rfl, ?_⟩) hS ?_
                rotate_left; · ((intro w hSw); (try dsimp only at hSw); go_simp; (try with_reducible rfl))
                try simp only [Act.put, List.setIfInBounds_toArray, List.set_cons_zero, List.set_cons_succ]
                refine takeR 7 (v := ?_) rfl (by kernel_rfl) (by kernel_rfl) (by kernel_rfl) (fun _ _ _ h => h) (Or.inl ⟨by rfl, ?_⟩) hS ?_
                rotate_left; · ((intro w hSw); (try dsimp only at hSw); go_simp; (try with_reducible rfl))
                try simp only [Act.put, List.setIfInBounds_toArray, List.set_cons_zero, List.set_cons_succ]
                refine takeR 8 (v := ?_) rfl (by kernel_rfl) (by kernel_rfl) (by kernel_rfl) (fun _ _ _ h => h) (Or.inl ⟨by rfl, ?_⟩) hS ?_
                rotate_left; · ((intro w hSw); (try dsimp only at hSw); go_simp; (try with_reducible rfl))
                try simp only [Act.put, List.setIfInBounds_toArray, List.set_cons_zero, List.set_cons_succ]
                refine takeR 9 (v := ?_) rfl (by kernel_rfl) (by kernel_rfl) (by kernel_rfl) (fun _ _ _ h => h) (Or.inl ⟨by rfl, ?_⟩) hS ?_
                rotate_left; · ((intro w hSw); (try dsimp only at hSw); go_simp; (try with_reducible rfl))
                try simp only [Act.put, List.setIfInBounds_toArray, List.set_cons_zero, List.set_cons_succ]
                refine takeR 10 (v := ?_) rfl (by kernel_rfl) (by kernel_rfl) (by kernel_rfl) (fun _ _ _ h => h) (Or.inl ⟨by rfl, ?_⟩) hS ?_
                rotate_left; · ((intro w hSw); (try dsimp only at hSw); go_simp; (try with_reducible rfl))
                try simp only [Act.put, List.setIfInBounds_toArray, List.set_cons_zero, List.set_cons_succ]
                refine takeR 11 (v := ?_) rfl (by kernel_rfl) (by kernel_rfl) (by kernel_rfl) (fun _ _ _ h => h) (Or.inl ⟨by rfl, ?_⟩) hS ?_
                rotate_left; · ((intro w hSw); (try dsimp only at hSw); go_simp; (try with_reducible rfl))
                try simp only [Act.put, List.setIfInBounds_toArray, List.set_cons_zero, List.set_cons_succ]
                refine takeR 12 (v := ?_) rfl (by kernel_rfl) (by kernel_rfl) (by kernel_rfl) (fun _ _ _ h => h) (Or.inl ⟨by rfl, ?_⟩) hS ?_
                rotate_left; · ((intro w hSw); (try dsimp only at hSw); go_simp; (try with_reducible rfl))
                try simp only [Act.put, List.setIfInBounds_toArray, List.set_cons_zero, List.set_cons_succ]
                refine takeR 13 (v := ?_) rfl (by kernel_rfl) (by kernel_rfl) (by kernel_rfl) (fun _ _ _ h => h) (Or.inl ⟨by rfl, ?_⟩) hS ?_
                rotate_left; · ((intro w hSw); (try dsimp only at hSw); go_simp; (try with_reducible rfl))
                try simp only [Act.put, List.setIfInBounds_toArray, List.set_cons_zero, List.set_cons_succ]
                refine oneR 14 (by kernel_rfl) rfl (fun K hK => ?_)
                go_simp
                refine hK.out _ _ ⟨(World.cell?_of_block (Below.heap_alloc _ _ _ HSZ.out)).trans hS.1, (World.cell?_of_block (Below.heap_alloc _ _ _ HSZ.out)).trans hS.2⟩ (fun hS => ?_)
                clear hK K
                try simp only [Act.put, List.setIfInBounds_toArray, List.set_cons_zero, List.set_cons_succ]
                refine oneR 15 (by kernel_rfl) rfl (fun K hK => ?_)
                refine step_append_grows rfl _ _ 57 rfl 111 iI _ 5 56 Tryd.underlying57 hiI hz0 hz1 hz2 rfl (by decide) AL n n xs (by go_simp) HA0.out HLX.out (fun b eb j u hj => by
                    obtain ⟨b2, o2, e3, hc⟩ := HRA.out j u hj
                    rw [e3] at eb
                    cases eb
                    rw [WideShapes.add_plain]; exact hc) ⟨w1.heap.size, 0, none⟩ 1 1 [.int .i64 (last + 1), .slice A nl c, .int .i64 0, .int .i64 0, .int .i64 steps] (by go_simp) rfl (fun j u hj => by
                    obtain ⟨b2, o2, e3, hc⟩ := HNEW.out j u hj
                    cases e3
                    rw [WideShapes.add_plain]; exact hc) (by simp [Value.oneCell']) (by omega) (by unfold maxLen; omega) (by omega) ?_
                intro va wa owa ga
                obtain ⟨Av, cv, rfl, _, _, _⟩ := own_rdW owa
                have HF := Lib.hid (radd_fin HBA.out ga owa)
                have hma := (ga.block _ (block_lt HAT.out) (by simp)).trans HAT.out
                have k1 : wa.cell? ⟨w.heap.size, 1, none⟩ = some (.int .i64 (last + 1)) := block_cell hma
                have k2 : wa.cell? ⟨w.heap.size, 2, none⟩ = some (.slice AL n cL) := block_cell hma
                have kf : wa.frozen? ⟨w.heap.size, 2, none⟩ = false := block_free hma
                refine hK.out _ _ ⟨k1, k2⟩ (fun hS => ?_)
                clear hK K hma owa ga
                try simp only [Act.put, List.setIfInBounds_toArray, List.set_cons_zero, List.set_cons_succ]
                refine takeR 16 (v := ?_) rfl (by kernel_rfl) (by kernel_rfl) (by kernel_rfl) (fun _ _ _ h => h) (Or.inl ⟨by rfl, ?_⟩) hS ?_
                rotate_left; · ((intro w hSw); (try dsimp only at hSw); go_simp; (try with_reducible rfl))
                try simp only [Act.put, List.setIfInBounds_toArray, List.set_cons_zero, List.set_cons_succ]
                refine endR (by kernel_rfl) rfl ?_
                go_simp
                go_wp2_with fail
                go_meet
                case rel => exact ⟨_, HF.out.1, HF.out.2⟩
              case rest =>
                obtain ⟨v', HB2, HO2⟩ := hcut
                clear HB1 HRW HSZ
                obtain ⟨w8, hw8⟩ : ∃ w8, w8 = wc := ⟨_, rfl⟩
                rw [← hw8] at HB2 HO2 ⊢
                clear hw8
                obtain ⟨c0, c1, c2, c3, c4, hrr⟩ := HB2.out.r
                obtain ⟨xs', hx'⟩ := HO2.out
                obtain ⟨Av, cv, ev, _, _, _⟩ := own_rdW hx'
                subst ev
                have m0 : w8.cell? ⟨w.heap.size, 0, none⟩ = some (.int .i64 lim) := block_cell HB2.out.m
                have m1 : w8.cell? ⟨w.heap.size, 1, none⟩ = some (.int .i64 (last + 1)) := block_cell HB2.out.m
                have m2 : w8.cell? ⟨w.heap.size, 2, none⟩ = some (.slice Av (n + 1) cv) := block_cell HB2.out.m
                have m3 : w8.cell? ⟨w.heap.size, 3, none⟩ = some (.slice none 0 0) := block_cell HB2.out.m
                have m4 : w8.cell? ⟨w.heap.size, 4, none⟩ = some (.slice none 0 0) := block_cell HB2.out.m
                have HRR := Lib.hid hrr
                clear hx' hrr
                go_wp2_with fail
                refine wp_region_held_drew (S := fun w' => w'.cell? ⟨w.heap.size, 0, none⟩ = some (.int .i64 lim) ∧ w'.cell? ⟨w.heap.size, 1, none⟩ = some (.int .i64 (last + 1)) ∧ w'.cell? ⟨w.heap.size, 2, none⟩ = some (.slice Av (n + 1) cv) ∧ w'.cell? ⟨w.heap.size, 3, none⟩ = some (.slice none 0 0) ∧ w'.cell? ⟨w.heap.size, 4, none⟩ = some (.slice none 0 0)) (by kernel_rfl) ⟨m0, m1, m2, m3, m4⟩ (fun hS => ?_)
                refine takeR 0 (v := ?_) rfl (by kernel_rfl) (by kernel_rfl) (by kernel_rfl) (fun _ _ _ h => h) (Or.inl ⟨by rfl, ?_⟩) hS ?_
                rotate_left; · ((intro w hSw); (obtain ⟨s0, s1, s2, s3, s4⟩ := hSw); go_simp; (try with_reducible rfl))
                try simp only [Act.put, List.setIfInBounds_toArray, List.set_cons_zero, List.set_cons_succ]
                refine takeR 1 (v := ?_) rfl (by kernel_rfl) (by kernel_rfl) (by kernel_rfl) (fun _ _ _ h => h) (Or.inl ⟨by rfl, ?_⟩) hS ?_
                rotate_left; · ((intro w hSw); (obtain ⟨s0, s1, s2, s3, s4⟩ := hSw); go_simp; (try with_reducible rfl))
                try simp only [Act.put, List.setIfInBounds_toArray, List.set_cons_zero, List.set_cons_succ]
                refine takeR 2 (v := ?_) rfl (by kernel_rfl) (by kernel_rfl) (by kernel_rfl) (fun _ _ _ h => h) (Or.inl ⟨by rfl, ?_⟩) hS ?_
                rotate_left; · ((intro w hSw); (obtain ⟨s0, s1, s2, s3, s4⟩ := hSw); go_simp; (try with_reducible rfl))
                try simp only [Act.put, List.setIfInBounds_toArray, List.set_cons_zero, List.set_cons_succ]
                refine oneR 3 (by kernel_rfl) rfl (fun K hK => ?_)
                rw [if_pos (by kernel_rfl)]
                refine wp_store_row 60 _ _ rfl (w.heap.size + 1) #[.int .i64 lim, .int .i64 (last + 1), .slice Av (n + 1) cv, .slice none 0 0, .slice none 0 0] rfl rfl 60 _ (show w8.drew.heap[w.heap.size + 1]? = _ from HRR.out) (by kernel_rfl) rfl (by simp [Value.oneCell']) ?_
                have hpm : (w8.drew.setRow (w.heap.size + 1) #[.int .i64 lim, .int .i64 (last + 1), .slice Av (n + 1) cv, .slice none 0 0, .slice none 0 0]).heap[w.heap.size]? = w8.heap[w.heap.size]? := setRow_other w8.drew _ _ _ (by omega)
                have hmm := hpm.trans HB2.out.m
                have HB3 := Lib.hid ((HB2.out.cl (Below.refl _ w8).drew).b.trans (below_setRow (L := w.heap.size) (g := w.heap.size + 1) (w := w8.drew) (cs := #[.int .i64 lim, .int .i64 (last + 1), .slice Av (n + 1) cv, .slice none 0 0, .slice none 0 0]) (by omega)))
                have HR3 := Lib.hid (setRow_heap w8.drew (w.heap.size + 1) _ #[.int .i64 lim, .int .i64 (last + 1), .slice Av (n + 1) cv, .slice none 0 0, .slice none 0 0] 60 _ (show w8.drew.heap[w.heap.size + 1]? = _ from HRR.out))
                have HO3 := Lib.hid (show OwnT (w8.drew.setRow (w.heap.size + 1) #[.int .i64 lim, .int .i64 (last + 1), .slice Av (n + 1) cv, .slice none 0 0, .slice none 0 0]) (.slice Av (n + 1) cv) (n + 1) from by
                  obtain ⟨xs, h1, h2⟩ := HO2.out
                  refine ⟨xs, h1, ?_⟩
                  rcases h2 with h2 | ⟨q, c9, cur, e, hb, hq, x⟩
                  · exact Or.inl h2
                  · refine Or.inr ⟨q, c9, cur, e, hb, (setRow_other w8.drew _ q _ (fun e2 => ?_)).trans hq, x⟩
                    have := HRR.out
                    rw [← e2, hq] at this
                    cases this)
                refine hK.out _ _ ⟨block_cell hmm, block_cell hmm, block_cell hmm, block_cell hmm, block_cell hmm⟩ (fun hS => ?_)
                clear hK K hpm hmm
                try simp only [Act.put]
                refine takeR 4 (v := ?_) rfl (by kernel_rfl) (by kernel_rfl) (by kernel_rfl) (fun _ _ _ h => h) (Or.inl ⟨by rfl, ?_⟩) hS ?_
                rotate_left; · ((intro w hSw); (obtain ⟨s0, s1, s2, s3, s4⟩ := hSw); go_simp; (try with_reducible rfl))
                try simp only [Act.put, List.setIfInBounds_toArray, List.set_cons_zero, List.set_cons_succ]
                refine takeR 5 (v := ?_) rfl (by kernel_rfl) (by kernel_rfl) (by kernel_rfl) (fun _ _ _ h => h) (Or.inl ⟨by rfl, ?_⟩) hS ?_
                rotate_left; · ((intro w hSw); (obtain ⟨s0, s1, s2, s3, s4⟩ := hSw); go_simp; (try with_reducible rfl))
                try simp only [Act.put, List.setIfInBounds_toArray, List.set_cons_zero, List.set_cons_succ]
                refine doneR (by kernel_rfl) ?_
                generalize w8.drew.setRow (w.heap.size + 1) #[.int .i64 lim, .int .i64 (last + 1), .slice Av (n + 1) cv, .slice none 0 0, .slice none 0 0] = wy at *
                go_wp2_with fail
                refine bodyPost_ret (results_row_tmp2 rfl _ _ (w.heap.size + 1) _ _ _ _ rfl HR3.out Tryd.underlying60 rfl (by kernel_rfl)) rfl ?_
                exact ⟨HB3.out, Or.inr ⟨HE.out, _, rfl, HO3.out⟩⟩
end Go.Proofs.YtnnadhfpkplncaaDoor
