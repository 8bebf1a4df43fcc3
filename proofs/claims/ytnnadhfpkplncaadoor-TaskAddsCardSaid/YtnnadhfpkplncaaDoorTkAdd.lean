/- Add. Condition: the machine reads, the names that are wanted read. -/
import Derived.Test.YtnnadhfpkplncaaDoorTkGive
import Derived.WalkArith
namespace Go.Proofs.YtnnadhfpkplncaaDoor
open Go.RowKit Go.Maps

/-- 'm[k] = v' as one step of a region. -/
theorem step_mapUpdate_own {P : Program} {ops : Array Oper} {o : Oper} {a : Act} {w : World} {K : Act → World → Prop} {Q : Exit → Act → World → Prop} {E : Prop}
    (hg : o.guard = none) (m x v : Operand) (t : TypeId) (hop : o.op = Op.mapUpdate t m x v)
    (k e : TypeId) (Kd : Keyed P k) (ht : P.underlying t = some (.map k e)) (R : Value → Option (DataW Unit × List MemPlace)) (b n : Nat) (D : DataW Unit)
    (hm : a.eval m = .map (some b)) (hown : w.ownsMap P k R b n D) (hn : n < maxLen) (key val : Value) (kl : Lit) (hx : a.eval x = key) (hv : a.eval v = val) (hkey : keyOf P k key = some kl)
    (d : DataW Unit) (ps : List MemPlace) (hval : R val = some (d, ps))
    (hK : ∀ w', w'.ownsMap P k R b (n + 1) (D.put kl d) → w.grownBy w' (some b) → K (a.put o.dst undef) w') :
    if Region.wanted o (yielded ops a.tmps) = true then Oper.wp P o a w K Q else E := by
  have hw : Region.wanted o (yielded ops a.tmps) = true := by simp [Region.wanted, hg]
  rw [if_pos hw]
  obtain ⟨w', hrun, r1, r2⟩ := hown.update Kd ht hn hkey hval
  unfold Oper.wp
  simp [execOp, hop, hm, hx, hv, hrun, Result.andThen]
  exact hK w' r1 r2
/-- The order of the names is broken at a place. -/
def badAt (l : List Want) (j : Nat) : Prop := ∃ x y, l[j - 1]? = some x ∧ l[j]? = some y ∧ ¬ x.1 < y.1
open Classical in
noncomputable def addE (lim : Int) (n : Nat) (l : List Want) (steps : Int) : Int :=
  if steps < 1 ∨ 65536 < steps ∨ 16 < l.length then 1 else if ∃ j, 0 < j ∧ badAt l j then 41 else if lim ≤ n then 10 else 0
def upT (T : Int → Option Nat) (id : Int) (b : Nat) : Int → Option Nat := fun i => if i = id then some b else T i
def AddPost (L M m t : Nat) (lim last : Int) (hist : Value) (n : Nat) (T : Int → Option Nat) (l : List Want) (steps : Int) (w : World) (e : Ending) (w' : World) : Prop :=
  (addE lim n l steps ≠ 0 ∧ e = .returned (.tuple #[.int .i64 0, errV (addE lim n l steps)]) ∧ Below w.heap.size w w') ∨
  (addE lim n l steps = 0 ∧ e = .returned (.tuple #[.int .i64 (last + 1), .nilIface]) ∧ ∃ b v', Mach L w' M m t lim (last + 1) hist (n + 1) (upT T (last + 1) b) ∧
    w'.heap[b]? = some (.cells #[v', .int .i64 0, .int .i64 0, .int .i64 steps] 108 (0, 0)) ∧ w'.ownsRow w.heap.size 99 2 v' l.length (wants2 l) ∧ w.heap.size ≤ b ∧ b ≠ M ∧ b ≠ m ∧ KeepM M m w w')
set_option maxRecDepth 100000 in
theorem aadd_any (M : Nat) (x : Int) (w : World) (hc : w.cell? ⟨M, 1, none⟩ = some (.int .i64 x)) (hf : w.frozen? ⟨M, 1, none⟩ = false) (hx : 0 ≤ x ∧ x ≤ 1000000) :
    Calls Tryd.prog 39 #[.pointer (some ⟨M, 1, none⟩), .int .i64 1] w fun e w' => e = .returned (.int .i64 (x + 1)) ∧ w' = w.setCell ⟨M, 1, none⟩ (.int .i64 (x + 1)) := by
  have hadd := run_call_add (P := Tryd.prog) Tryd.func57 (by kernel_rfl) (by kernel_rfl) (by kernel_rfl) .i64 (by kernel_rfl) (y := 1) (s := x + 1) hc hf (by
    have hwr : IntKind.i64.wrap (x + 1) = x + 1 := IntWalk.i64_in _ (by omega)
    simp [go_sem, hwr])
  go_enter Tryd.func39, Tryd.ntmps39
  go_wp2
  go_ret
  exact ⟨rfl, rfl⟩
theorem addE_arg {lim : Int} {n : Nat} {l : List Want} {steps : Int} (h : steps < 1 ∨ 65536 < steps ∨ 16 < l.length) : addE lim n l steps = 1 := if_pos h
theorem addE_ord {lim : Int} {n : Nat} {l : List Want} {steps : Int} (h : ¬ (steps < 1 ∨ 65536 < steps ∨ 16 < l.length)) (h2 : ∃ j, 0 < j ∧ badAt l j) : addE lim n l steps = 41 := by unfold addE; rw [if_neg h, if_pos h2]
theorem addE_full {lim : Int} {n : Nat} {l : List Want} {steps : Int} (h : ¬ (steps < 1 ∨ 65536 < steps ∨ 16 < l.length)) (h2 : ¬ ∃ j, 0 < j ∧ badAt l j) (h3 : lim ≤ n) : addE lim n l steps = 10 := by unfold addE; rw [if_neg h, if_neg h2, if_pos h3]
theorem addE_ok {lim : Int} {n : Nat} {l : List Want} {steps : Int} (h : ¬ (steps < 1 ∨ 65536 < steps ∨ 16 < l.length)) (h2 : ¬ ∃ j, 0 < j ∧ badAt l j) (h3 : ¬ lim ≤ n) : addE lim n l steps = 0 := by unfold addE; rw [if_neg h, if_neg h2, if_neg h3]
set_option maxRecDepth 100000 in
set_option maxHeartbeats 3200000 in
theorem add_any {L M m t n : Nat} {lim last : Int} {hist : Value} {T : Int → Option Nat} (l : List Want) (A : Option Addr) (c : Nat) (steps : Int) (w : World) (h : Mach L w M m t lim last hist n T)
    (hr : RdA w A (wants2 l)) (hA : A = none → l.length = 0 ∧ c = 0) (hAM : ∀ b, A = some b → b.block ≠ M) (hlast : 0 ≤ last ∧ last ≤ 900) (hT : T (last + 1) = none) (hn : n ≤ 900) :
    Calls Tryd.prog 27 #[.pointer (some ⟨M, 0, none⟩), .slice A l.length c, .int .i64 steps] w (AddPost L M m t lim last hist n T l steps w) := by
  have HM := Lib.hid h
  have HR := Lib.hid hr
  have HAM := Lib.hid hAM
  have HT := Lib.hid hT
  obtain ⟨nl, hnl⟩ : ∃ nl, nl = l.length := ⟨_, rfl⟩
  rw [← hnl] at hA ⊢
  have HNL := Lib.hid hnl
  have HCL := Lib.hid (fun (hl : l.length ≤ 1000) w' (hw : RdA w' A (wants2 l)) => clone_any l A c w' hw (by rw [← hnl]; exact hA) hl)
  rw [← hnl] at HCL
  clear h hr hT hnl hA hAM
  by_cases h1 : steps < 1
  · have HE := Lib.hid (show addE lim n l steps = 1 from addE_arg (Or.inl h1))
    go_enter Tryd.func27, Tryd.ntmps27
    go_wp2_with fail
    go_ret2
    exact Or.inl ⟨by rw [HE.out]; decide, by rw [HE.out]; rfl, Below.refl _ _⟩
  · by_cases h2 : 65536 < steps
    · have HE := Lib.hid (show addE lim n l steps = 1 from addE_arg (Or.inr (Or.inl h2)))
      go_enter Tryd.func27, Tryd.ntmps27
      go_wp2_with fail
      go_ret2
      exact Or.inl ⟨by rw [HE.out]; decide, by rw [HE.out]; rfl, Below.refl _ _⟩
    · by_cases h3 : 16 < nl
      · have HE := Lib.hid (show addE lim n l steps = 1 from addE_arg (Or.inr (Or.inr (by rw [← HNL.out]; exact h3))))
        have h3i : (16 : Int) < (nl : Int) := by omega
        go_enter Tryd.func27, Tryd.ntmps27
        go_wp2_with fail
        go_ret2
        exact Or.inl ⟨by rw [HE.out]; decide, by rw [HE.out]; rfl, Below.refl _ _⟩
      · have HNA := Lib.hid (show ¬ (steps < 1 ∨ 65536 < steps ∨ 16 < l.length) by rw [← HNL.out]; omega)
        have h3i : ¬ (16 : Int) < (nl : Int) := by omega
        go_enter Tryd.func27, Tryd.ntmps27
        go_wp2_with fail
        go_loopg [8] (nl + 1 - 1) (fun gg i wr => ∃ k : Nat, 1 ≤ k ∧ gg = nl + 1 - k ∧ i = .int .i64 k ∧ Hid (∀ j, 0 < j → j < k → ¬ badAt l j) ∧ Hid (Below w.heap.size w wr))
        case atStart => exact ⟨1, Nat.le_refl _, by omega, rfl, fun j h1 h2 => absurd h2 (by omega), Below.refl _ _⟩
        case round =>
          obtain ⟨k, hk1, hgk, rfl, HOK, HB⟩ := hrel
          by_cases hkn : k < nl
          · obtain ⟨y, hy⟩ : ∃ y, l[k]? = some y := ⟨_, List.getElem?_eq_getElem (by rw [← HNL.out]; omega)⟩
            obtain ⟨x, hx⟩ : ∃ x, l[k - 1]? = some x := ⟨_, List.getElem?_eq_getElem (by rw [← HNL.out]; omega)⟩
            obtain ⟨b, o, rfl, e1, _⟩ := want_at (HR.out.below HB.out) hy
            obtain ⟨b', o', eA, e2, _⟩ := want_at (HR.out.below HB.out) hx
            cases eA
            have HX := Lib.hid hx
            have HY := Lib.hid hy
            obtain ⟨x1, x2⟩ := x
            obtain ⟨y1, y2⟩ := y
            have hki : (k : Int) < (nl : Int) := by omega
            have hkw : IntKind.i64.wrap ((k : Int) + 1) = (k : Int) + 1 := IntWalk.i64_in _ (by omega)
            have hkm : IntKind.i64.wrap ((k : Int) - 1) = ((k - 1 : Nat) : Int) := by rw [IntWalk.i64_in _ (by omega)]; omega
            obtain ⟨k', hk'⟩ : ∃ k', k' = k - 1 := ⟨_, rfl⟩
            rw [← hk'] at hkm e2
            have hki' : (k' : Int) < (nl : Int) := by omega
            clear hx hy hk'
            by_cases hlt : x1 < y1
            · have hc1 := less_s (decide_eq_true hlt)
              have hc2 := less_p (decide_eq_true hlt)
              have HOK2 := Lib.hid (show ∀ j, 0 < j → j < k + 1 → ¬ badAt l j from fun j hj hj2 hb => by
                rcases Nat.lt_or_ge j k with h | h
                · exact HOK.out j hj h hb
                · obtain rfl : j = k := by omega
                  obtain ⟨u, v, hu, hv, hn⟩ := hb
                  rw [HX.out] at hu
                  rw [HY.out] at hv
                  cases hu
                  cases hv
                  exact hn hlt)
              clear hlt
              go_wp2
              go_quiet (fail)
              have HB2 := Lib.hid (below_drewN HB.out nq)
              generalize wr.drewN nq = wz at *
              clear e1 e2
              go_wp2
              go_roundg (nl + 1 - (k + 1))
              case measure => omega
              case rel => exact ⟨k + 1, by omega, rfl, by congr 1, HOK2, HB2⟩
            · have hc1 := less_s (decide_eq_false hlt)
              have hc2 := less_p (decide_eq_false hlt)
              have HE := Lib.hid (show addE lim n l steps = 41 from addE_ord HNA.out ⟨k, hk1, ⟨x1, x2⟩, ⟨y1, y2⟩, HX.out, HY.out, hlt⟩)
              clear hlt
              go_wp2
              go_quiet (fail)
              have HB2 := Lib.hid (below_drewN HB.out nq)
              generalize wr.drewN nq = wz at *
              clear e1 e2
              go_wp2
              go_ret2
              exact Or.inl ⟨by rw [HE.out]; decide, by rw [HE.out]; rfl, HB2.out⟩
          · have hki : ¬ (k : Int) < (nl : Int) := by omega
            have HNB := Lib.hid (show ¬ ∃ j, 0 < j ∧ badAt l j from fun ⟨j, hj, hb⟩ => by
              obtain ⟨u, v, _, hv, _⟩ := id hb
              have := (List.getElem?_eq_some_iff.1 hv).1
              exact HOK.out j hj (by have := HNL.out; omega) hb)
            have HM2 := Lib.hid (HM.out.below HB.out)
            have d0 : wr.cell? ⟨M, 0, none⟩ = some (.int .i64 lim) := block_cell HM2.out.cell
            have d2 : wr.cell? ⟨M, 2, none⟩ = some (.map (some m)) := block_cell HM2.out.cell
            have hlen : ∀ q ty, (Builtin.len_ #[89] ty #[.map (some m)]).run Tryd.prog (wr.drewN q) = .ok (.int .i64 n) (wr.drewN q) := fun q ty => by
              obtain ⟨D, a1, a2, _⟩ := HM2.out.map
              have := (block_own (w' := wr.drewN q) a1 rfl).len Tryd.underlying89 ty
              rwa [a2] at this
            clear HOK
            by_cases hfull : lim ≤ (n : Int)
            · have HE := Lib.hid (show addE lim n l steps = 10 from addE_full HNA.out HNB.out hfull)
              go_wp2
              go_quiet (fail)
              have HB2 := Lib.hid (below_drewN HB.out nq)
              generalize wr.drewN nq = wz at *
              clear d0 d2 hlen
              go_wp2
              go_ret2
              exact Or.inl ⟨by rw [HE.out]; decide, by rw [HE.out]; rfl, HB2.out⟩
            · have HE := Lib.hid (show addE lim n l steps = 0 from addE_ok HNA.out HNB.out hfull)
              go_wp2
              go_quiet (fail)
              have HB2 := Lib.hid (below_drewN HB.out nq)
              have HM3 := Lib.hid (show Mach L (wr.drewN nq) M m t lim last hist n T from HM2.out.same rfl rfl)
              generalize wr.drewN nq = wz at *
              clear d0 d2 hlen
              have d1 : wz.cell? ⟨M, 1, none⟩ = some (.int .i64 last) := block_cell HM3.out.cell
              have f1 : wz.frozen? ⟨M, 1, none⟩ = false := block_free HM3.out.cell
              go_wp2_with fail
              refine (aadd_any M last wz d1 f1 (by omega)).mono ?_
              rintro e w1 ⟨rfl, hw1⟩
              have hcell1 := heap_setCell_same wz M 1 _ 97 (.int .i64 (last + 1)) HM3.out.cell
              rw [← hw1] at hcell1
              have HC1 := Lib.hid (show w1.heap[M]? = some (.cells #[.int .i64 lim, .int .i64 (last + 1), .map (some m), .pointer (some ⟨t, 0, none⟩), hist] 97 (0, 0)) from hcell1)
              have HK1 := Lib.hid (show KeepM M m w w1 ∧ w1.heap[m]? = wz.heap[m]? ∧ M ≠ m by
                have hmM : m ≠ M := fun e => by
                  obtain ⟨D, a1, _⟩ := HM3.out.map
                  obtain ⟨es, clock, hb, _⟩ := a1
                  rw [e, HM3.out.cell] at hb
                  cases hb
                refine ⟨(KeepM.of HB2.out).trans ⟨by rw [hw1]; rfl, by rw [hw1]; rfl, by rw [hw1]; rfl, by rw [hw1, World.size_setCell]; exact Nat.le_refl _, fun i _ hi _ => by rw [hw1]; exact Below.heap_setCell _ _ _ _ hi⟩, by rw [hw1]; exact Below.heap_setCell _ _ _ _ hmM, hmM.symm⟩)
              have HS1 := Lib.hid (show w.heap.size ≤ w1.heap.size from HK1.out.1.size)
              have d2 : w1.drew.cell? ⟨M, 2, none⟩ = some (.map (some m)) := block_cell HC1.out
              obtain ⟨D, hown, hsz, hat⟩ := HM3.out.map
              have hown1 : w1.drew.ownsMap Tryd.prog 3 elemP m n D := block_own hown HK1.out.2.1
              have HR1 := Lib.hid (show RdA w1.drew A (wants2 l) from fun i u hi => by
                obtain ⟨b, o, e, hc⟩ := HR.out i u hi
                refine ⟨b, o, e, (World.cell?_of_block ?_).trans hc⟩
                refine HK1.out.1.block b (cell_lt hc) (HAM.out _ e) fun e2 => ?_
                obtain ⟨D0, ⟨es, clock, hb, _⟩, _⟩ := HM.out.map
                have e3 : b = m := e2
                rw [e3] at hc
                simp [World.cell?, hb] at hc)
              have HCL1 := Lib.hid (HCL.out (by omega) w1.drew HR1.out)
              have hwl : wfI (last + 1) := WalkArith.wf_i64 ⟨by omega, by omega⟩
              have hMm := HK1.out.2.2
              clear hw1 hcell1 d1 f1
              go_wp2_with fail
              go_region_held3 (fun w' => w'.cell? ⟨M, 2, none⟩ = some (.map (some m))) (first | exact d2 | exact d3 | exact (World.cell?_of_block (Below.heap_alloc _ _ _ (cell_lt d2))).trans d2)
                (first
                | (go_at_call 40; refine HCL1.out.mono ?_; rintro e w2 ⟨v2, rfl, ho2, hb2⟩; obtain ⟨A2, c2, e2, _, _, _⟩ := own_rdW ho2; subst e2; have hown2 := own_kept hown1 hb2; have d2 : w2.cell? ⟨M, 2, none⟩ = some (.map (some m)) := (World.cell?_of_block (hb2.block M (cell_lt d2))).trans d2; obtain ⟨w3, hrun3, hown3, hg3⟩ := (hown2.alloc (.cells #[.slice A2 nl c2, .int .i64 0, .int .i64 0, .int .i64 steps] 108)).update keyI Tryd.underlying89 (by unfold maxLen; omega) (kI hwl) (show elemP (.pointer (some ⟨w2.heap.size, 0, none⟩)) = some (.lit (.int .i64 (w2.heap.size : Nat)), []) from rfl); have dz := (World.cell?_of_block (Below.heap_alloc w2 (.cells #[.slice A2 nl c2, .int .i64 0, .int .i64 0, .int .i64 steps] 108) _ (cell_lt d2))).trans d2; have d3 : w3.cell? ⟨M, 2, none⟩ = some (.map (some m)) := hg3.cell dz (fun e => hMm (by injection e))))
              clear hrun3
              obtain ⟨ob, hob⟩ : ∃ ob, ob = Obj.cells #[.slice A2 nl c2, .int .i64 0, .int .i64 0, .int .i64 steps] 108 := ⟨_, rfl⟩
              have hbw : Below w2.heap.size w2 (w2.alloc ob) := (Below.refl _ _).alloc (Nat.le_refl _) _
              rw [← hob] at hg3
              have hM2 : M < w2.heap.size := Nat.lt_of_lt_of_le (block_lt HC1.out) hb2.size
              have hm1 : m < w1.heap.size := by have := hown1.lt; exact this
              have hm2 : m < w2.heap.size := Nat.lt_of_lt_of_le hm1 hb2.size
              have hcM : w3.heap[M]? = some (.cells #[.int .i64 lim, .int .i64 (last + 1), .map (some m), .pointer (some ⟨t, 0, none⟩), hist] 97 (0, 0)) := by
                rw [hg3.block M (by rw [World.size_alloc]; omega) (fun e => hMm (by injection e)), hbw.block M hM2, hb2.block M (block_lt HC1.out)]
                exact HC1.out
              have hkey : (keyOf Tryd.prog 3 (.int .i64 (last + 1))) = some (.int .i64 (last + 1)) := kI hwl
              have hhas : Maps.has D (.int .i64 (last + 1)) = false := by rw [(hat _ hwl).2, HT.out]; rfl
              have hmach : Mach L w3 M m t lim (last + 1) hist (n + 1) (upT T (last + 1) w2.heap.size) := by
                refine ⟨hcM, ⟨_, hown3, ?_, fun i hi => ?_⟩, HM3.out.lo⟩
                · rw [Maps.size_put (hown1.tidy keyI), hhas, hsz]; rfl
                · unfold upT
                  by_cases e : i = last + 1
                  · subst e
                    rw [atKey_put_same hown1.isMap (keyI.key hkey), has_put_same hown1.isMap (keyI.key hkey), if_pos rfl]
                    exact ⟨rfl, rfl⟩
                  · have hne : Lit.int .i64 i ≠ Lit.int .i64 (last + 1) := fun c => by injection c with _ c; exact e c
                    rw [atKey_put_other hne, has_put_other hne, if_neg e]
                    exact hat i hi
              have hblk : w3.heap[w2.heap.size]? = some (.cells #[.slice A2 nl c2, .int .i64 0, .int .i64 0, .int .i64 steps] 108 (0, 0)) := by
                rw [hg3.block _ (by rw [World.size_alloc]; omega) (fun e => by injection e with e; omega), hob]
                exact alloc_new _ _
              have hrow : w3.ownsRow w.heap.size 99 2 (.slice A2 nl c2) nl (wants2 l) := by
                refine own_lower (World.ownsRow.kept (own_keepC ho2 (Keep.of hbw (Nat.le_refl _))) hg3 ?_) HS1.out
                cases hq : (Value.slice A2 nl c2).ownBlock with
                | none => exact Or.inl rfl
                | some q =>
                  refine Or.inr fun e => ?_
                  have h9 := own_ge ho2 hq
                  injection e with e
                  have h10 : w1.drew.heap.size = w1.heap.size := rfl
                  omega
              have hkeep : KeepM M m w w3 := ((HK1.out.1.trans (KeepM.of (Below.refl w1.heap.size w1).drew)).trans (KeepM.of hb2)).trans ((KeepM.of hbw).trans ⟨hg3.os, hg3.tape, hg3.output, hg3.size, fun i hi _ hm => hg3.block i hi (fun e => hm (by injection e))⟩)
              have hsz2 := hb2.size
              have hFIN := Lib.hid (show AddPost L M m t lim last hist n T l steps w (.returned (.tuple #[.int .i64 (last + 1), .nilIface])) w3 from
                Or.inr ⟨HE.out, rfl, w2.heap.size, .slice A2 nl c2, hmach, hblk, by rw [← HNL.out]; exact hrow, Nat.le_trans HS1.out (by have : w1.drew.heap.size = w1.heap.size := rfl; omega), by omega, by omega, hkeep⟩)
              clear hmach hblk hrow hkeep hcM hkey hhas hown3 hg3 hown1 hown2 hown hat ho2 hb2 hbw hob
              go_wp2_with fail
              go_ret2
              exact hFIN.out
end Go.Proofs.YtnnadhfpkplncaaDoor
