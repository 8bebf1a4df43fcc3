/- Run: the last step done; the task ends. Condition: the machine and the task read. -/
import Derived.Test.YtnnadhfpkplncaaDoorTkTook
namespace Go.Proofs.YtnnadhfpkplncaaDoor
open Go.RowKit Go.Maps

theorem OwnE.on {L : Nat} {w w' : World} {v : Value} {n : Nat} (h : OwnE L w v n) (k : CellsOn w w') : OwnE L w' v n := by
  obtain ⟨xs, h1, h2⟩ := h
  refine ⟨xs, h1, ?_⟩
  rcases h2 with h2 | ⟨g, c, cur, e, hb, hq, x⟩
  · exact Or.inl h2
  · exact Or.inr ⟨g, c, cur, e, hb, k _ _ _ hq, x⟩
set_option maxRecDepth 100000 in
set_option maxHeartbeats 6400000 in
theorem run_ended {L N : Nat} {W : World} {M m t b : Nat} {lim last : Int} {hist : Value} {n nh : Nat} {T T' : Int → Option Nat} {F : Int → List UInt8 → Int} {r : List Held} (h : Mach L W M m t lim last hist (n + 1) T) {i : Int} (hi : wfI i) (hT : T i = some b) (hT' : T' = fun j => if j = i then none else T j)
    (ht : Tab (m + 1) N W t F) (ha : Agr F r) {A0 : Option Addr} {c0 : Nat} {tk dn : Int} (hb : W.heap[b]? = some (.cells #[.slice A0 0 c0, .int .i64 tk, .int .i64 dn, .int .i64 (dn + 1)] 108 (0, 0)))
    (hO : OwnE L W hist nh) (hLb : L ≤ b) (hdn : 0 ≤ dn ∧ dn ≤ 100000) (hnh : nh ≤ 100000) :
    Calls Tryd.prog 36 #[.pointer (some ⟨M, 0, none⟩), .int .i64 i] W fun e w' => e = .returned (.tuple #[.agg #[.int .i64 i, .int .i64 3, .int .i64 (dn + 1)], .nilIface]) ∧
      ∃ hist' p q ec, OwnE L w' hist' (nh + 1) ∧ Mid hist L N W w' M m t b lim last hist' n T' (freeL r i) #[.slice A0 0 c0, .int .i64 tk, .int .i64 (dn + 1), .int .i64 (dn + 1)] p q ec := by
  have HW := Lib.hid (block_lt hb)
  obtain ⟨w1, hw1⟩ : ∃ w1, w1 = W.alloc (.cells #[.int .i64 0, .int .i64 0, .int .i64 0] 101) := ⟨_, rfl⟩
  have hb1 : Below W.heap.size W w1 := by rw [hw1]; exact (Below.refl _ _).alloc (Nat.le_refl _) _
  have HM1 := Lib.hid (h.below hb1)
  obtain ⟨w2, hw2⟩ : ∃ w2, w2 = w1.alloc (.cells #[.int .i64 i, .int .i64 0, .int .i64 0] 101) := ⟨_, rfl⟩
  have hs1 : w1.heap.size = W.heap.size + 1 := by rw [hw1, World.size_alloc]
  have hb2 : Below W.heap.size W w2 := hb1.trans (by rw [hw2]; exact (Below.refl _ _).alloc (by omega) _)
  have HLW := Lib.hid (show L ≤ W.heap.size by have := h.lo.1; have := block_lt h.cell; omega)
  have HMID := Lib.hid (show Mid hist L N W w2 M m t b lim last hist (n + 1) T r #[.slice A0 0 c0, .int .i64 tk, .int .i64 dn, .int .i64 (dn + 1)] W.heap.size (W.heap.size + 1) #[.int .i64 i, .int .i64 0, .int .i64 0] from
    ⟨h.below hb2, ⟨F, ht.below hb2, ha⟩, (hb2.block b (block_lt hb)).trans hb, by rw [hw2, ← hs1]; exact alloc_new _ _, ⟨_, _, _, by rw [hw2, heap_alloc_old _ _ _ (by omega), hw1]; exact alloc_new _ _⟩, fun g cs Tp _ _ _ e => (hb2.block g (block_lt e)).trans e, hb2.mono HLW.out⟩)
  have HO5 := Lib.hid (hO.below hb2)
  have HOQ := Lib.hid (show ∀ k, hist.ownBlock = some k → k ≠ W.heap.size + 1 ∧ k ≠ W.heap.size ∧ L ≤ k from fun k hk => by
    obtain ⟨xs, h1, h2⟩ := hO
    rcases h2 with ⟨e, _⟩ | ⟨g', c', cur, e, hgl, hg, _⟩
    · rw [e] at hk; cases hk
    · rw [e] at hk
      cases hk
      have := block_lt hg
      show g' ≠ W.heap.size + 1 ∧ g' ≠ W.heap.size ∧ L ≤ g'
      exact ⟨by omega, by omega, hgl⟩)
  have e0 : w2.cell? ⟨b, 0, none⟩ = some (.slice A0 0 c0) := block_cell HMID.out.task
  have k2 : w2.cell? ⟨b, 2, none⟩ = some (.int .i64 dn) := block_cell HMID.out.task
  have z2 : w2.frozen? ⟨b, 2, none⟩ = false := block_free HMID.out.task
  rw [hw2, hw1] at e0 k2 z2
  have hdw : IntKind.i64.wrap (dn + 1) = dn + 1 := IntWalk.i64_in _ (by omega)
  have HHT := Lib.hid hT
  have HHT' := Lib.hid hT'
  clear h ht ha hb hO hb1 hb2 hT hT'
  go_enter Tryd.func36, Tryd.ntmps36
  go_wp2_with fail
  rw [← hw1]
  refine (find_any HM1.out hi HHT.out).mono ?_
  rintro e w1' ⟨rfl, hw1'⟩
  subst hw1'
  rw [hw1]
  go_wp2_with fail
  rw [← hw1, ← hw2]
  clear hw1 hw2 e0 k2 z2 hs1 HM1
  have HM6 := Lib.hid (show Mid hist L N W (w2.setCell ⟨b, 2, none⟩ (.int .i64 (dn + 1))) M m t b lim last hist (n + 1) T r #[.slice A0 0 c0, .int .i64 tk, .int .i64 (dn + 1), .int .i64 (dn + 1)] W.heap.size (W.heap.size + 1) #[.int .i64 i, .int .i64 0, .int .i64 0] from HMID.out.setB 2 (.int .i64 (dn + 1)) hLb)
  have HO6 := Lib.hid (OwnE.set (u := .int .i64 (dn + 1)) (o := 2) HO5.out HMID.out.task (by decide))
  generalize w2.setCell ⟨b, 2, none⟩ (.int .i64 (dn + 1)) = w6 at *
  clear HMID HO5
  go_cut [] from 80 to 109 (fun w' => Hid (Mid hist L N W w' M m t b lim last hist (n + 1) T r #[.slice A0 0 c0, .int .i64 tk, .int .i64 (dn + 1), .int .i64 (dn + 1)] W.heap.size (W.heap.size + 1) #[.int .i64 i, .int .i64 2, .int .i64 (dn + 1)]) ∧ Hid (OwnE L w' hist nh))
  case first =>
    have q1 : w6.cell? ⟨b, 2, none⟩ = some (.int .i64 (dn + 1)) := block_cell HM6.out.task
    have q2 : w6.cell? ⟨W.heap.size + 1, 1, none⟩ = some (.int .i64 0) := block_cell HM6.out.ev
    have q3 : w6.cell? ⟨W.heap.size + 1, 2, none⟩ = some (.int .i64 0) := block_cell HM6.out.ev
    have q4 : w6.frozen? ⟨W.heap.size + 1, 1, none⟩ = false := block_free HM6.out.ev
    have q5 : w6.frozen? ⟨W.heap.size + 1, 2, none⟩ = false := block_free HM6.out.ev
    have hbq : ¬ b = W.heap.size + 1 := by have := HW.out; omega
    have hqb : ¬ W.heap.size + 1 = b := by have := HW.out; omega
    have HBO := Lib.hid (HM6.out.both HO6.out (fun k hk => (HOQ.out k hk).1) (.int .i64 2) (.int .i64 (dn + 1)) HLW.out (Nat.le_succ _) (Nat.ne_of_lt (Nat.lt_succ_self _)))
    go_region
    all_goals
      go_wp2
      go_meet
      case rel => first | exact ⟨HBO.out.1.1.drew HLW.out, HBO.out.1.2.drew⟩ | exact ⟨HBO.out.2.1.drew HLW.out, HBO.out.2.2.drew⟩
  case rest =>
    obtain ⟨HM7, HO7⟩ := hcut
    clear HM6 HO6
    obtain ⟨w7, hw7⟩ : ∃ w7, w7 = wc := ⟨_, rfl⟩
    rw [← hw7] at HM7 HO7 ⊢
    clear hw7
    have q1 : w7.cell? ⟨b, 2, none⟩ = some (.int .i64 (dn + 1)) := block_cell HM7.out.task
    have q2 : w7.cell? ⟨b, 3, none⟩ = some (.int .i64 (dn + 1)) := block_cell HM7.out.task
    have hee : ((dn + 1 : Int) == dn + 1) = true := by simp
    go_wp2
    go_quiet (fail)
    have HM8 := Lib.hid (HM7.out.cl (below_drewN (Below.refl _ _) nq) (Nat.le_trans HLW.out HM7.out.low.size))
    have HO8 := Lib.hid (show OwnE L (w7.drewN nq) hist nh from HO7.out)
    generalize w7.drewN nq = w8 at *
    clear q1 q2 HM7 HO7
    have q3 : w8.cell? ⟨W.heap.size + 1, 1, none⟩ = some (.int .i64 2) := block_cell HM8.out.ev
    have q4 : w8.frozen? ⟨W.heap.size + 1, 1, none⟩ = false := block_free HM8.out.ev
    go_wp2_with fail
    have HM9 := Lib.hid (show Mid hist L N W (w8.setCell ⟨W.heap.size + 1, 1, none⟩ (.int .i64 3)) M m t b lim last hist (n + 1) T r #[.slice A0 0 c0, .int .i64 tk, .int .i64 (dn + 1), .int .i64 (dn + 1)] W.heap.size (W.heap.size + 1) #[.int .i64 i, .int .i64 3, .int .i64 (dn + 1)] from HM8.out.setE 1 (.int .i64 3) HLW.out (Nat.le_succ _) (Nat.ne_of_lt (Nat.lt_succ_self _)))
    have HO9 := Lib.hid (show OwnE L (w8.setCell ⟨W.heap.size + 1, 1, none⟩ (.int .i64 3)) hist nh from by
      obtain ⟨xs, h1, h2⟩ := HO8.out
      refine ⟨xs, h1, ?_⟩
      rcases h2 with h2 | ⟨g, c, cur, e, hb, hq, x⟩
      · exact Or.inl h2
      · exact Or.inr ⟨g, c, cur, e, hb, (Below.heap_setCell _ _ _ _ (show g ≠ W.heap.size + 1 from (HOQ.out g (by rw [e]; rfl)).1)).trans hq, x⟩)
    generalize w8.setCell ⟨W.heap.size + 1, 1, none⟩ (.int .i64 3) = w9 at *
    clear q3 q4 HM8 HO8
    obtain ⟨F9, t9, a9⟩ := HM9.out.tab
    refine (drop_any HM9.out.mach hi HHT.out t9).mono ?_
    rintro e wA ⟨rfl, hmA, htA, hcA, hlA⟩
    rw [← HHT'.out] at hmA
    obtain ⟨x0, x1, x2, hrr⟩ := HM9.out.res
    have HM7 := Lib.hid (show Mid hist L N W wA M m t b lim last hist n T' (freeL r i) #[.slice A0 0 c0, .int .i64 tk, .int .i64 (dn + 1), .int .i64 (dn + 1)] W.heap.size (W.heap.size + 1) #[.int .i64 i, .int .i64 3, .int .i64 (dn + 1)] from
      ⟨hmA, ⟨_, htA, a9.free i⟩, hcA _ _ _ HM9.out.task, hcA _ _ _ HM9.out.ev, ⟨x0, x1, x2, hcA _ _ _ hrr⟩, fun g cs Tp h1 h2 h3 e => hcA _ _ _ (HM9.out.cells g cs Tp h1 h2 h3 e), HM9.out.low.trans hlA⟩)
    have HO7 := Lib.hid (HO9.out.on hcA)
    clear t9 a9 hmA htA hcA hlA hrr HM9 HO9
    obtain ⟨w7, hw7⟩ : ∃ w7, w7 = wA := ⟨_, rfl⟩
    rw [← hw7] at HM7 HO7 ⊢
    clear hw7
    go_wp2
    go_cut [] from 99 to 109 (fun w' => ∃ hist', Hid (Mid hist L N W w' M m t b lim last hist' n T' (freeL r i) #[.slice A0 0 c0, .int .i64 tk, .int .i64 (dn + 1), .int .i64 (dn + 1)] W.heap.size (W.heap.size + 1) #[.int .i64 i, .int .i64 3, .int .i64 (dn + 1)]) ∧ Hid (OwnE L w' hist' (nh + 1)) ∧ Hid (∀ k, hist'.ownBlock = some k → k ≠ W.heap.size))
    case first =>
      have m4 : w7.cell? ⟨M, 4, none⟩ = some hist := block_cell HM7.out.mach.cell
      have m5 : w7.cell? ⟨W.heap.size + 1, 0, none⟩ = some (.int .i64 i) := block_cell HM7.out.ev
      have m6 : w7.cell? ⟨W.heap.size + 1, 1, none⟩ = some (.int .i64 3) := block_cell HM7.out.ev
      have m7 : w7.cell? ⟨W.heap.size + 1, 2, none⟩ = some (.int .i64 (dn + 1)) := block_cell HM7.out.ev
      obtain ⟨ob, hob⟩ : ∃ ob, ob = Obj.cells #[.int .i64 i, .int .i64 3, .int .i64 (dn + 1)] 101 := ⟨_, rfl⟩
      have HMB := Lib.hid ((HM7.out.drew HLW.out).cl ((Below.refl _ w7.drew).alloc (Nat.le_refl _) ob) (Nat.le_trans HLW.out HM7.out.low.size))
      have HOB := Lib.hid (OwnE.below (show OwnE L w7.drew hist nh from HO7.out) ((Below.refl _ w7.drew).alloc (Nat.le_refl _) ob))
      have HNEW := Lib.hid (show RdA (w7.drew.alloc ob) (some ⟨w7.heap.size, 0, none⟩) [.int .i64 i, .int .i64 3, .int .i64 (dn + 1)] from fun j u hj => ⟨_, _, rfl, by rw [Nat.zero_add, block_cell (by rw [hob]; exact alloc_new w7.drew _)]; simpa using hj⟩)
      rw [hob] at HMB HOB HNEW
      obtain ⟨iI, hiI, hz0, hz1, hz2⟩ := info_parts infoTEVT
      obtain ⟨xs, hxs⟩ := HOB.out
      have HXS := Lib.hid hxs
      have HLS := Lib.hid (Nat.le_trans HLW.out HM7.out.low.size)
      have HLM := Lib.hid (show M < w7.heap.size ∧ W.heap.size + 1 < w7.heap.size from ⟨block_lt HM7.out.mach.cell, block_lt HM7.out.ev⟩)
      clear hob hxs
      refine region_lastL (S := fun w' => w'.cell? ⟨M, 4, none⟩ = some hist ∧ w'.cell? ⟨W.heap.size + 1, 0, none⟩ = some (.int .i64 i) ∧ w'.cell? ⟨W.heap.size + 1, 1, none⟩ = some (.int .i64 3) ∧ w'.cell? ⟨W.heap.size + 1, 2, none⟩ = some (.int .i64 (dn + 1))) (by simp only [List.dropLast_cons_cons, List.dropLast_singleton]; rfl) rfl (by kernel_rfl) (by kernel_rfl) ⟨m4, m5, m6, m7⟩ (fun hS => ?_)
      refine takeR 0 (v := ?_) rfl (by kernel_rfl) (by kernel_rfl) (by kernel_rfl) (fun _ _ _ h => h) (Or.inl ⟨by rfl, ?_⟩) hS ?_
      rotate_left; · ((intro w hSw); (obtain ⟨s0, s1, s2, s3⟩ := hSw); go_simp; (try with_reducible rfl))
      try simp only [Act.put, List.setIfInBounds_toArray, List.set_cons_zero, List.set_cons_succ]
      refine takeR 1 (v := ?_) rfl (by kernel_rfl) (by kernel_rfl) (by kernel_rfl) (fun _ _ _ h => h) (Or.inl ⟨by rfl, ?_⟩) hS ?_
      rotate_left; · ((intro w hSw); (obtain ⟨s0, s1, s2, s3⟩ := hSw); go_simp; (try with_reducible rfl))
      try simp only [Act.put, List.setIfInBounds_toArray, List.set_cons_zero, List.set_cons_succ]
      refine takeR 2 (v := ?_) rfl (by kernel_rfl) (by kernel_rfl) (by kernel_rfl) (fun _ _ _ h => h) (Or.inl ⟨by rfl, ?_⟩) hS ?_
      rotate_left; · ((intro w hSw); (obtain ⟨s0, s1, s2, s3⟩ := hSw); go_simp; (try with_reducible rfl))
      try simp only [Act.put, List.setIfInBounds_toArray, List.set_cons_zero, List.set_cons_succ]
      refine takeR 3 (v := ?_) rfl (by kernel_rfl) (by kernel_rfl) (by kernel_rfl) (fun _ _ _ h => h) (Or.inl ⟨by rfl, ?_⟩) hS ?_
      rotate_left; · ((intro w hSw); (obtain ⟨s0, s1, s2, s3⟩ := hSw); go_simp; (try with_reducible rfl))
      try simp only [Act.put, List.setIfInBounds_toArray, List.set_cons_zero, List.set_cons_succ]
      refine takeR 4 (v := ?_) rfl (by kernel_rfl) (by kernel_rfl) (by kernel_rfl) (fun _ _ _ h => h) (Or.inl ⟨by rfl, ?_⟩) hS ?_
      rotate_left; · ((intro w hSw); (obtain ⟨s0, s1, s2, s3⟩ := hSw); go_simp; (try with_reducible rfl))
      try simp only [Act.put, List.setIfInBounds_toArray, List.set_cons_zero, List.set_cons_succ]
      refine takeR 5 (v := ?_) rfl (by kernel_rfl) (by kernel_rfl) (by kernel_rfl) (fun _ _ _ h => h) (Or.inl ⟨by rfl, ?_⟩) hS ?_
      rotate_left; · ((intro w hSw); (obtain ⟨s0, s1, s2, s3⟩ := hSw); go_simp; (try with_reducible rfl))
      try simp only [Act.put, List.setIfInBounds_toArray, List.set_cons_zero, List.set_cons_succ]
      refine oneR 6 (by kernel_rfl) rfl (fun K hK => ?_)
      go_simp
      refine hK.out _ _ ⟨(World.cell?_of_block (Below.heap_alloc _ _ _ HLM.out.1)).trans hS.1, (World.cell?_of_block (Below.heap_alloc _ _ _ HLM.out.2)).trans hS.2.1, (World.cell?_of_block (Below.heap_alloc _ _ _ HLM.out.2)).trans hS.2.2.1, (World.cell?_of_block (Below.heap_alloc _ _ _ HLM.out.2)).trans hS.2.2.2⟩ (fun hS => ?_)
      clear hK K
      try simp only [Act.put, List.setIfInBounds_toArray, List.set_cons_zero, List.set_cons_succ]
      refine oneR 7 (by kernel_rfl) rfl (fun K hK => ?_)
      refine step_append_src rfl _ _ 95 rfl L 101 iI _ 3 24 Tryd.underlying95 hiI hz0 hz1 hz2 rfl (by decide) hist nh xs (by go_simp) HXS.out (some ⟨w7.heap.size, 0, none⟩) 1 1 [.int .i64 i, .int .i64 3, .int .i64 (dn + 1)] (by go_simp) rfl HNEW.out (by simp [Value.oneCell']) (by unfold maxLen; omega) (by omega) (by simp; have := HLS.out; omega) ?_
      intro va wa owa ga hat
      obtain ⟨Av, cv, rfl, _, _, _⟩ := own_rdW owa
      have HNP := Lib.hid (show ∀ k, (Value.slice Av (nh + 1) cv).ownBlock = some k → k ≠ W.heap.size from fun k hk => by
        rcases hat with e | e
        · rw [e] at hk; exact (HOQ.out k hk).2.1
        · rw [e] at hk
          cases hk
          have := HLM.out.2
          simp
          omega)
      have HF := Lib.hid (HMB.out.hist HOB.out HOQ.out ga owa HLW.out)
      have hma : wa.heap[M]? = some (.cells #[.int .i64 lim, .int .i64 last, .map (some m), .pointer (some ⟨t, 0, none⟩), hist] 97 (0, 0)) := by
        refine (ga.block M (block_lt HMB.out.mach.cell) fun e => ?_).trans HMB.out.mach.cell
        have := HMB.out.mach.cell
        rcases HXS.out.2 with ⟨e2, _⟩ | ⟨g2, _, cur, e2, _, hg, _⟩
        · rw [e2] at e; cases e
        · rw [e2] at e
          cases e
          rw [hg] at this
          cases this
      have hqa := (ga.block (W.heap.size + 1) (block_lt HMB.out.ev) fun e => (HOQ.out _ e.symm).1 rfl).trans HMB.out.ev
      have k4 : wa.cell? ⟨M, 4, none⟩ = some hist := block_cell hma
      have kf : wa.frozen? ⟨M, 4, none⟩ = false := block_free hma
      refine hK.out _ _ ⟨k4, block_cell hqa, block_cell hqa, block_cell hqa⟩ (fun hS => ?_)
      clear hK K hma hqa owa ga hat
      try simp only [Act.put, List.setIfInBounds_toArray, List.set_cons_zero, List.set_cons_succ]
      refine takeR 8 (v := ?_) rfl (by kernel_rfl) (by kernel_rfl) (by kernel_rfl) (fun _ _ _ h => h) (Or.inl ⟨by rfl, ?_⟩) hS ?_
      rotate_left; · ((intro w hSw); (obtain ⟨s0, s1, s2, s3⟩ := hSw); go_simp; (try with_reducible rfl))
      try simp only [Act.put, List.setIfInBounds_toArray, List.set_cons_zero, List.set_cons_succ]
      refine takeR 9 (v := ?_) rfl (by kernel_rfl) (by kernel_rfl) (by kernel_rfl) (fun _ _ _ h => h) (Or.inl ⟨by rfl, ?_⟩) hS ?_
      rotate_left; · ((intro w hSw); (obtain ⟨s0, s1, s2, s3⟩ := hSw); go_simp; (try with_reducible rfl))
      try simp only [Act.put, List.setIfInBounds_toArray, List.set_cons_zero, List.set_cons_succ]
      refine endR (by kernel_rfl) rfl ?_
      go_simp
      go_wp2_with fail
      go_meet
      case rel => exact ⟨_, HF.out.1, HF.out.2, HNP⟩
    case rest =>
      obtain ⟨hist', HM8, HO8, HNP⟩ := hcut
      clear HM7 HO7
      go_wp2_with ((with_reducible refine stop_loadE _ rfl ?_))
      unfold Hid
      obtain ⟨c0, c1, c2, hrr⟩ := HM8.out.res
      refine wpList_load_row rfl 101 _ rfl (W.heap.size + 1) rfl 101 _ (0, 0) _ HM8.out.ev Tryd.underlying101 rfl (by kernel_rfl) ?_
      refine wpList_store_row rfl 101 _ _ rfl W.heap.size _ rfl rfl 101 _ hrr (by kernel_rfl) rfl (by simp [Value.oneCell']) ?_
      have HF := Lib.hid (HM8.out.setP HO8.out HNP.out (.int .i64 i) (.int .i64 3) (.int .i64 (dn + 1)) HLW.out (Nat.le_refl _) (by omega))
      have HR3 := Lib.hid (setRow_heap wc W.heap.size _ #[.int .i64 i, .int .i64 3, .int .i64 (dn + 1)] 101 _ hrr)
      generalize wc.setRow W.heap.size #[.int .i64 i, .int .i64 3, .int .i64 (dn + 1)] = wy at *
      clear hrr
      go_wp2
      refine bodyPost_ret (results_row_tmp rfl _ _ W.heap.size _ _ _ _ rfl HR3.out Tryd.underlying101 rfl (by kernel_rfl)) rfl ?_
      exact ⟨rfl, hist', _, _, _, HF.out.2, HF.out.1⟩
end Go.Proofs.YtnnadhfpkplncaaDoor
