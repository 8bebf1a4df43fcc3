/- New and Take. Condition: the table reads, who and name are such as can be read. -/
import Derived.Test.YtnnadhfpkplncaaDoorLkMay
namespace Go.Proofs.YtnnadhfpkplncaaDoor
open Go.RowKit Go.Maps

/-- What lies in cells lies on; nothing below L turns. -/
structure Keep (L : Nat) (w w' : World) : Prop where
  bl : Below L w w'
  cells : ∀ (i : Nat) (cs : Array Value) (T : TypeId) (fz : Nat × Nat), w.heap[i]? = some (.cells cs T fz) → w'.heap[i]? = some (.cells cs T fz)
theorem Keep.of {L : Nat} {w w' : World} (h : Below w.heap.size w w') (hl : L ≤ w.heap.size) : Keep L w w' := ⟨h.mono hl, fun i _ _ _ e => (h.block i (block_lt e)).trans e⟩
theorem Keep.trans {L : Nat} {a b c : World} (h : Keep L a b) (k : Keep L b c) : Keep L a c := ⟨h.bl.trans k.bl, fun i cs T fz e => k.cells i cs T fz (h.cells i cs T fz e)⟩
theorem Keep.grown {L b n : Nat} {k : TypeId} {R : Value → Option (DataW Unit × List MemPlace)} {D : DataW Unit} {w w' : World} (h : w.ownsMap Tryd.prog k R b n D) (g : w.grownBy w' (some b)) (hb : L ≤ b) : Keep L w w' := by
  have hlt := h.lt
  obtain ⟨es, clock, hm, _⟩ := h
  refine ⟨(Below.refl _ _).grown g (by omega) (fun k e => by cases e; exact hb), fun i cs T fz e => (g.block i (block_lt e) fun e2 => ?_).trans e⟩
  cases e2
  rw [hm] at e
  cases e
def upF (F : Int → List UInt8 → Int) (who : Int) (nm : List UInt8) (k : Int) : Int → List UInt8 → Int := fun i l => if i = who ∧ l = nm then k else F i l
theorem InM.store {N n b : Nat} {w' : World} {g : List UInt8 → Int} {D : DataW Unit} {nm : List UInt8} {k : Int} (hown : w'.ownsMap Tryd.prog 9 plI b (n + 1) (D.put (.string nm) (.lit (.int .i64 k)))) (hm : IsMap D) (hn : n ≤ N) (hk : k ≠ 0) (ho : okS nm)
    (h3 : ∀ l, okS l → D.atKey (.string l) (.lit (.int .i64 0)) = .lit (.int .i64 (g l)) ∧ Maps.has D (.string l) = decide (g l ≠ 0)) : InM (N + 1) w' b (fun l => if l = nm then k else g l) := by
  refine ⟨n + 1, _, hown, by omega, fun l hl => ?_⟩
  by_cases e : l = nm
  · subst e
    rw [atKey_put_same hm (keyS.key (kS ho)), has_put_same hm (keyS.key (kS ho))]
    exact ⟨by simp, by simp [hk]⟩
  · have hne : Lit.string l ≠ Lit.string nm := fun c => by injection c with c; exact e c
    rw [atKey_put_other hne, has_put_other hne]
    simp only [e, if_false]
    exact h3 l hl
theorem TabB.inner {L N t m b n : Nat} {w w' : World} {B : Int → Option Nat} {F : Int → List UInt8 → Int} {D : DataW Unit} {who k : Int} {nm : List UInt8} (h : TabB L N w t m B F) (hB : B who = some b) (hg : w.grownBy w' (some b))
    (hown : w'.ownsMap Tryd.prog 9 plI b (n + 1) (D.put (.string nm) (.lit (.int .i64 k)))) (hm : IsMap D) (hn : n ≤ N) (hk : k ≠ 0) (ho : okS nm)
    (h3 : ∀ l, okS l → D.atKey (.string l) (.lit (.int .i64 0)) = .lit (.int .i64 (F who l)) ∧ Maps.has D (.string l) = decide (F who l ≠ 0)) (hmap : ∃ es clock, w.heap[b]? = some (.map es clock)) : TabB L (N + 1) w' t m B (upF F who nm k) := by
  obtain ⟨n0, D0, h1, h2, h4⟩ := h.map
  obtain ⟨es, clock, hes⟩ := hmap
  have hbm := (h.held who b hB).2
  refine ⟨?_, ⟨n0, D0, h1.kept hg (fun e => by injection e with e; exact hbm e.symm), by omega, h4⟩, fun i hi l => ?_, fun i b' hi => ⟨?_, (h.held i b' hi).2⟩, h.lo, h.inj⟩
  · refine (hg.block t (block_lt h.cell) fun e => ?_).trans h.cell
    injection e with e
    have := h.cell
    rw [e, hes] at this
    cases this
  · have : i ≠ who := fun e => by rw [e, hB] at hi; cases hi
    unfold upF
    rw [if_neg (fun c => this c.1)]
    exact h.free i hi l
  · by_cases e : i = who
    · subst e
      rw [hB] at hi
      cases hi
      have := InM.store hown hm hn hk ho h3
      have e2 : upF F i nm k i = fun l => if l = nm then k else F i l := by funext l; unfold upF; simp
      rw [e2]; exact this
    · have hbb : b' ≠ b := fun c => e (h.inj i who b' hi (by rw [c]; exact hB))
      have e2 : upF F who nm k i = F i := by funext l; unfold upF; rw [if_neg (fun c => e c.1)]
      rw [e2]
      obtain ⟨n1, D1, a1, a2, a3⟩ := (h.held i b' hi).1
      exact ⟨n1, D1, a1.kept hg (fun c => by injection c with c; exact hbb c), by omega, a3⟩
theorem TabB.outer {L N t m n : Nat} {w w' : World} {B : Int → Option Nat} {F : Int → List UInt8 → Int} {D : DataW Unit} {who : Int} (h : TabB L N w t m B F) (hw : wfI who) (hB : B who = none) (hL : L ≤ w.heap.size)
    (hn : n ≤ N) (hm : IsMap D) (h3 : ∀ i, wfI i → D.atKey (.int .i64 i) .nil = spotD (B i) ∧ Maps.has D (.int .i64 i) = (B i).isSome)
    (hg : (w.alloc (.map #[] 0)).grownBy w' (some m)) (hown : w'.ownsMap Tryd.prog 3 elemM m (n + 1) (D.put (.int .i64 who) (.lit (.int .i64 (w.heap.size : Nat))))) (hmap : ∃ es clock, w.heap[m]? = some (.map es clock)) :
    TabB L (N + 1) w' t m (fun i => if i = who then some w.heap.size else B i) F := by
  obtain ⟨es, clock, hes⟩ := hmap
  have hmlt := block_lt hes
  have ha : Below w.heap.size w (w.alloc (.map #[] 0)) := (Below.refl _ _).alloc (Nat.le_refl _) _
  have h1 := h.below ha
  have hsz : (w.alloc (.map #[] 0)).heap.size = w.heap.size + 1 := World.size_alloc _ _
  have hlt : ∀ i b, B i = some b → b < w.heap.size := fun i b hi => by
    obtain ⟨n1, D1, a1, _⟩ := (h.held i b hi).1
    exact a1.lt
  refine ⟨?_, ⟨n + 1, _, hown, by omega, fun i hi => ?_⟩, fun i hi l => ?_, fun i b hi => ?_, ⟨h.lo.1, fun i b hi => ?_⟩, fun i j b hi hj => ?_⟩
  · refine (hg.block t (block_lt h1.cell) fun e => ?_).trans h1.cell
    injection e with e
    have := h.cell
    rw [e, hes] at this
    cases this
  · by_cases e : i = who
    · subst e
      rw [atKey_put_same hm (keyI.key (kI hw)), has_put_same hm (keyI.key (kI hw))]
      exact ⟨by simp [spotD], by simp⟩
    · have hne : Lit.int .i64 i ≠ Lit.int .i64 who := fun c => by injection c with _ c; exact e c
      rw [atKey_put_other hne, has_put_other hne]
      simp only [e, if_false]
      exact h3 i hi
  · by_cases e : i = who
    · rw [if_pos e] at hi; cases hi
    · rw [if_neg e] at hi; exact h.free i hi l
  · by_cases e : i = who
    · rw [if_pos e] at hi
      cases hi
      subst e
      refine ⟨⟨0, .map [], (World.ownsMap_made w Tryd.prog 9 plI).kept hg (fun c => by injection c with c; omega), Nat.zero_le _, fun l _ => ?_⟩, by omega⟩
      rw [h.free i hB l]
      exact ⟨rfl, rfl⟩
    · rw [if_neg e] at hi
      obtain ⟨⟨n1, D1, a1, a2, a3⟩, a4⟩ := h1.held i b hi
      exact ⟨⟨n1, D1, a1.kept hg (fun c => by injection c with c; exact a4 c), by omega, a3⟩, a4⟩
  · by_cases e : i = who
    · rw [if_pos e] at hi; cases hi; exact hL
    · rw [if_neg e] at hi; exact h.lo.2 i b hi
  · by_cases e : i = who <;> by_cases e2 : j = who
    · rw [e, e2]
    · rw [if_pos e] at hi
      rw [if_neg e2] at hj
      cases hi
      have := hlt j _ hj
      omega
    · rw [if_neg e] at hi
      rw [if_pos e2] at hj
      cases hj
      have := hlt i _ hi
      omega
    · rw [if_neg e] at hi
      rw [if_neg e2] at hj
      exact h.inj i j b hi hj
theorem own_map {k : TypeId} {R : Value → Option (DataW Unit × List MemPlace)} {b n : Nat} {D : DataW Unit} {w : World} (h : w.ownsMap Tryd.prog k R b n D) : ∃ es clock, w.heap[b]? = some (.map es clock) := by
  obtain ⟨es, clock, hm, _⟩ := h
  exact ⟨es, clock, hm⟩
theorem TabB.mono {L N N' t m : Nat} {B : Int → Option Nat} {w : World} {F : Int → List UInt8 → Int} (h : TabB L N w t m B F) (hn : N ≤ N') : TabB L N' w t m B F := by
  obtain ⟨n, D, h1, h2, h3⟩ := h.map
  exact ⟨h.cell, ⟨n, D, h1, by omega, h3⟩, h.free, fun i b e => ⟨(h.held i b e).1.mono hn, (h.held i b e).2⟩, h.lo, h.inj⟩
theorem up_up (F : Int → List UInt8 → Int) (who : Int) (nm : List UInt8) (j k : Int) : upF (upF F who nm j) who nm k = upF F who nm k := by
  funext i l
  unfold upF
  split <;> rfl
theorem take_ne {F : Int → List UInt8 → Int} {B : Int → Option Nat} {who k : Int} {nm : List UInt8} (h : ∀ i b, i ≠ who → B i = some b → ∃ l, okS l ∧ F i l ≠ 0) (hn : okS nm) (hk : k ≠ 0) (i : Int) (b : Nat) (hi : B i = some b) : ∃ l, okS l ∧ upF F who nm k i l ≠ 0 := by
  by_cases e : i = who
  · exact ⟨nm, hn, by unfold upF; rw [if_pos ⟨e, rfl⟩]; exact hk⟩
  · obtain ⟨l, h1, h2⟩ := h i b e hi
    exact ⟨l, h1, by unfold upF; rw [if_neg (fun c => e c.1)]; exact h2⟩
theorem eqm_nil (w : World) : Sem.run Tryd.prog (binOp .eql 77 (.map none) (.map none)) w = .ok (.bool true) w := by kernel_rfl
theorem eqm_some (b : Nat) (w : World) : Sem.run Tryd.prog (binOp .eql 77 (.map (some b)) (.map none)) w = .ok (.bool false) w := by kernel_rfl
/-- What Take leaves. -/
def takeF (F : Int → List UInt8 → Int) (who : Int) (nm : List UInt8) (all : Bool) (n : Int) : Int → List UInt8 → Int := if n = 0 then upF F who nm (if all then 2 else 1) else F
def TakePost (L N : Nat) (t : Nat) (F : Int → List UInt8 → Int) (who : Int) (nm : List UInt8) (all : Bool) (w : World) (e : Ending) (w' : World) : Prop :=
  ∃ n, e = .returned (errV n) ∧ MayIs F who nm all n ∧ Tab L (N + 3) w' t (takeF F who nm all n) ∧ Keep L w w'
set_option maxRecDepth 100000 in
theorem new_any (w : World) : Calls Tryd.prog 8 #[] w fun e w' => ∃ t, e = .returned (.pointer (some ⟨t, 0, none⟩)) ∧ Tab w.heap.size 0 w' t (fun _ _ => 0) ∧ w.heap.size ≤ t ∧ Below w.heap.size w w' := by
  have hmm := @run_makeMap Tryd.prog
  go_enter Tryd.func8, Tryd.ntmps8
  go_wp2
  go_ret
  exact ⟨_, rfl, tab_made w, Nat.le_succ _, ((Below.refl _ _).alloc (Nat.le_refl _) _).alloc (by rw [World.size_alloc]; omega) _⟩
set_option maxRecDepth 100000 in
set_option maxHeartbeats 3200000 in
theorem take_any {L N t : Nat} {F : Int → List UInt8 → Int} (who : Int) (nm : List UInt8) (all : Bool) (w : World) (h : Tab L N w t F) (hw : wfI who) (hn : okS nm) (hL : L ≤ w.heap.size) (hN : N ≤ 100000) :
    Calls Tryd.prog 9 #[.pointer (some ⟨t, 0, none⟩), .int .i64 who, .string ⟨nm.toArray⟩, .bool all] w (TakePost L N t F who nm all w) := by
  obtain ⟨m, B, h, hne⟩ := h
  have HM := Lib.hid (may_any who nm all w h hw hn)
  have HT := Lib.hid h
  have HNE := Lib.hid hne
  have hmm := @run_makeMap Tryd.prog
  clear h hne
  go_enter Tryd.func9, Tryd.ntmps9
  go_wp2_with fail
  refine HM.out.mono ?_
  rintro e w1 ⟨n, rfl, hm, hb1⟩
  have HI := Lib.hid hm
  have HB1 := Lib.hid hb1
  have HT1 := Lib.hid (HT.out.below hb1)
  have hL1 : L ≤ w1.heap.size := Nat.le_trans hL hb1.size
  clear hm hb1
  by_cases hn0 : n = 0
  · subst hn0
    rw [show errV 0 = .nilIface from rfl]
    have hc : w1.cell? ⟨t, 0, none⟩ = some (.map (some m)) := block_cell HT1.out.cell
    have hl1 := look_out HT1.out hw
    obtain ⟨bw, hbw⟩ : ∃ b, b = B who := ⟨_, rfl⟩
    rw [← hbw] at hl1
    have HBW := Lib.hid hbw
    clear hbw
    cases bw with
    | none =>
      obtain ⟨n1, D1, hown1, hn1, hat1⟩ := HT1.out.map
      have hL1' := HT1.out.lo.1
      have HAT1 := Lib.hid hat1
      have HLO := Lib.hid hL1'
      have heq := eqm_nil w1
      clear hat1 hL1'
      go_wp2_with (at_mapUpdate; refine Hid.out ?_)
      unfold Hid
      refine wpList_mapUpdate_own _ rfl _ _ _ 74 rfl 3 77 keyI Tryd.underlying74 elemM m n1 D1 rfl (hown1.alloc _) (by unfold maxLen; omega) _ _ _ rfl rfl (kI hw) (.lit (.int .i64 (w1.heap.size : Nat))) [] rfl ?_
      intro w2 hown2 hg2
      have HT2 := Lib.hid (HT1.out.outer hw HBW.out.symm hL1 hn1 hown1.isMap HAT1.out hg2 hown2 (own_map hown1))
      have HB2 := Lib.hid (show (fun i => if i = who then some w1.heap.size else B i) who = some w1.heap.size from if_pos rfl)
      have HK2 := Lib.hid ((Keep.of HB1.out hL).trans ((Keep.of ((Below.refl _ _).alloc (Nat.le_refl _) (.map #[] 0)) hL1).trans (Keep.grown (hown1.alloc (.map #[] 0)) hg2 HLO.out)))
      have HNE2 := Lib.hid (show ∀ i b, i ≠ who → (fun i => if i = who then some w1.heap.size else B i) i = some b → ∃ l, okS l ∧ F i l ≠ 0 from fun i b hne hi => HNE.out i b (by rw [← hi]; exact (if_neg hne).symm))
      obtain ⟨B2, hB2⟩ : ∃ B2, B2 = fun i => if i = who then some w1.heap.size else B i := ⟨_, rfl⟩
      rw [← hB2] at HT2 HB2 HNE2
      obtain ⟨bb, hbb⟩ : ∃ bb, bb = w1.heap.size := ⟨_, rfl⟩
      rw [← hbb] at HB2 ⊢
      clear hown1 hown2 hg2 hB2 hbb hl1 heq hc
      have hc3 : w2.cell? ⟨t, 0, none⟩ = some (.map (some m)) := block_cell HT2.out.cell
      have hl3 := look_out HT2.out hw
      rw [HB2.out] at hl3
      obtain ⟨n3, D3, hown3, hn3, hat3⟩ := (HT2.out.held who _ HB2.out).1
      have HAT3 := Lib.hid hat3
      have HLB := Lib.hid (HT2.out.lo.2 who _ HB2.out)
      have HO3 := Lib.hid hown3
      clear hat3
      go_wp2_with (at_mapUpdate; refine Hid.out ?_)
      unfold Hid
      refine wpList_mapUpdate_own _ rfl _ _ _ 77 rfl 9 3 keyS Tryd.underlying77 plI _ n3 D3 rfl hown3 (by unfold maxLen; omega) _ _ _ rfl rfl (kS hn) (.lit (.int .i64 1)) [] (plainElem_int Tryd.underlying3 (by decide)) ?_
      intro w4 hown4 hg4
      have HT4 := Lib.hid (HT2.out.inner HB2.out hg4 hown4 (HO3.out.isMap) hn3 (by decide) hn HAT3.out (own_map HO3.out))
      have HK4 := Lib.hid (HK2.out.trans (Keep.grown HO3.out hg4 HLB.out))
      clear hown3 hown4 hg4
      cases all with
      | false =>
        go_wp2
        go_ret
        refine ⟨0, rfl, HI.out, ⟨m, _, by unfold takeF; rw [if_pos rfl]; exact HT4.out.mono (by omega), fun i b hi => ?_⟩, HK4.out⟩
        exact take_ne HNE2.out hn (by decide) i b hi
      | true =>
        have hc5 : w4.cell? ⟨t, 0, none⟩ = some (.map (some m)) := block_cell HT4.out.cell
        have hl5 := look_out HT4.out hw
        rw [HB2.out] at hl5
        obtain ⟨n5, D5, hown5, hn5, hat5⟩ := (HT4.out.held who _ HB2.out).1
        have HAT5 := Lib.hid hat5
        have HO5 := Lib.hid hown5
        clear hat5
        go_wp2_with (at_mapUpdate; refine Hid.out ?_)
        unfold Hid
        refine wpList_mapUpdate_own _ rfl _ _ _ 77 rfl 9 3 keyS Tryd.underlying77 plI _ n5 D5 rfl hown5 (by unfold maxLen; omega) _ _ _ rfl rfl (kS hn) (.lit (.int .i64 2)) [] (plainElem_int Tryd.underlying3 (by decide)) ?_
        intro w6 hown6 hg6
        have HT6 := Lib.hid (HT4.out.inner HB2.out hg6 hown6 (HO5.out.isMap) hn5 (by decide) hn HAT5.out (own_map HO5.out))
        have HK6 := Lib.hid (HK4.out.trans (Keep.grown HO5.out hg6 HLB.out))
        clear hown5 hown6 hg6
        go_wp2
        go_ret
        refine ⟨0, rfl, HI.out, ⟨m, _, by unfold takeF; rw [if_pos rfl]; have := HT6.out; rw [up_up] at this; exact this.mono (by omega), fun i b hi => ?_⟩, HK6.out⟩
        exact take_ne HNE2.out hn (by decide) i b hi
    | some b =>
      have HB2 := Lib.hid HBW.out.symm
      have HNE2 := Lib.hid (show ∀ i b, i ≠ who → B i = some b → ∃ l, okS l ∧ F i l ≠ 0 from fun i b _ hi => HNE.out i b hi)
      have HK2 := Lib.hid (Keep.of HB1.out hL)
      have heq := eqm_some b w1
      clear hc hl1
      have hc3 : w1.cell? ⟨t, 0, none⟩ = some (.map (some m)) := block_cell HT1.out.cell
      have hl3 := look_out HT1.out hw
      rw [HB2.out] at hl3
      obtain ⟨n3, D3, hown3, hn3, hat3⟩ := (HT1.out.held who _ HB2.out).1
      have HAT3 := Lib.hid hat3
      have HLB := Lib.hid (HT1.out.lo.2 who _ HB2.out)
      have HO3 := Lib.hid hown3
      clear hat3
      go_wp2_with (at_mapUpdate; refine Hid.out ?_)
      unfold Hid
      refine wpList_mapUpdate_own _ rfl _ _ _ 77 rfl 9 3 keyS Tryd.underlying77 plI _ n3 D3 rfl hown3 (by unfold maxLen; omega) _ _ _ rfl rfl (kS hn) (.lit (.int .i64 1)) [] (plainElem_int Tryd.underlying3 (by decide)) ?_
      intro w4 hown4 hg4
      have HT4 := Lib.hid (HT1.out.inner HB2.out hg4 hown4 (HO3.out.isMap) hn3 (by decide) hn HAT3.out (own_map HO3.out))
      have HK4 := Lib.hid (HK2.out.trans (Keep.grown HO3.out hg4 HLB.out))
      clear hown3 hown4 hg4
      cases all with
      | false =>
        go_wp2
        go_ret
        refine ⟨0, rfl, HI.out, ⟨m, _, by unfold takeF; rw [if_pos rfl]; exact HT4.out.mono (by omega), fun i b hi => ?_⟩, HK4.out⟩
        exact take_ne HNE2.out hn (by decide) i b hi
      | true =>
        have hc5 : w4.cell? ⟨t, 0, none⟩ = some (.map (some m)) := block_cell HT4.out.cell
        have hl5 := look_out HT4.out hw
        rw [HB2.out] at hl5
        obtain ⟨n5, D5, hown5, hn5, hat5⟩ := (HT4.out.held who _ HB2.out).1
        have HAT5 := Lib.hid hat5
        have HO5 := Lib.hid hown5
        clear hat5
        go_wp2_with (at_mapUpdate; refine Hid.out ?_)
        unfold Hid
        refine wpList_mapUpdate_own _ rfl _ _ _ 77 rfl 9 3 keyS Tryd.underlying77 plI _ n5 D5 rfl hown5 (by unfold maxLen; omega) _ _ _ rfl rfl (kS hn) (.lit (.int .i64 2)) [] (plainElem_int Tryd.underlying3 (by decide)) ?_
        intro w6 hown6 hg6
        have HT6 := Lib.hid (HT4.out.inner HB2.out hg6 hown6 (HO5.out.isMap) hn5 (by decide) hn HAT5.out (own_map HO5.out))
        have HK6 := Lib.hid (HK4.out.trans (Keep.grown HO5.out hg6 HLB.out))
        clear hown5 hown6 hg6
        go_wp2
        go_ret
        refine ⟨0, rfl, HI.out, ⟨m, _, by unfold takeF; rw [if_pos rfl]; have := HT6.out; rw [up_up] at this; exact this.mono (by omega), fun i b hi => ?_⟩, HK6.out⟩
        exact take_ne HNE2.out hn (by decide) i b hi
  · rw [show errV n = errN n from if_neg hn0]
    unfold errN
    go_wp2_with fail
    go_ret
    refine ⟨n, ?_, HI.out, ?_, Keep.of HB1.out hL⟩
    · rw [show errV n = errN n from if_neg hn0]; rfl
    · unfold takeF
      rw [if_neg hn0]
      exact Tab.mono ⟨m, B, HT1.out, HNE.out⟩ (by omega)
end Go.Proofs.YtnnadhfpkplncaaDoor
