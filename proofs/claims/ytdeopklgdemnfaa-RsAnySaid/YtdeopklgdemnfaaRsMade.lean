/- All parts that rows of factors make of some parts. Condition: the rows and parts fit one another. -/
import Derived.Test.YtdeopklgdemnfaaRsEven
namespace Go.Proofs.Ytdeopklgdemnfaa
open Go.RowKit Gf Rs

/-- The first rows of a matrix of one's own: each in a block of its own. -/
def RowsIn (fb : Nat) (w : World) (hs : List Value) (ls : List (List F)) : Prop :=
  ∀ (i : Nat) (l : List F), ls[i]? = some l → ∃ s, hs[i]? = some (.slice (some ⟨s, 0, none⟩) l.length l.length) ∧ s ≠ fb ∧ w.heap[s]? = some (.cells (arrB l) 5 (0, 0))
theorem RowsIn.nil (fb : Nat) (w : World) (hs : List Value) : RowsIn fb w hs [] := fun i l h => by simp at h
theorem RowsIn.keep {fb : Nat} {w w' : World} {hs : List Value} {ls : List (List F)} (h : RowsIn fb w hs ls) (k : Keep fb w w') : RowsIn fb w' hs ls := fun i l hi => by
  obtain ⟨s, h1, h2, h3⟩ := h i l hi
  exact ⟨s, h1, h2, (k.block s (block_lt h3) h2).trans h3⟩
/-- A store into a block of another element type. -/
theorem RowsIn.set {fb g o : Nat} {w : World} {hs : List Value} {ls : List (List F)} {cs : Array Value} {T : TypeId} (h : RowsIn fb w hs ls) (hg : w.heap[g]? = some (.cells cs T (0, 0))) (hT : T ≠ 5) (u : Value) : RowsIn fb (w.setCell ⟨g, o, none⟩ u) hs ls := fun i l hi => by
  obtain ⟨s, h1, h2, h3⟩ := h i l hi
  refine ⟨s, h1, h2, ?_⟩
  rw [Below.heap_setCell _ _ _ _ (fun e => by
    have e' : s = g := e
    subst e'
    rw [h3] at hg
    injection hg with hg
    injection hg with _ hg _
    exact hT hg.symm)]
  exact h3
theorem RowsIn.snoc {fb s : Nat} {w : World} {hs : List Value} {ls : List (List F)} {l : List F} (h : RowsIn fb w hs ls) (h1 : s ≠ fb) (h2 : w.heap[s]? = some (.cells (arrB l) 5 (0, 0))) (h3 : ls.length < hs.length) :
    RowsIn fb w (hs.set ls.length (.slice (some ⟨s, 0, none⟩) l.length l.length)) (ls ++ [l]) := fun i m hi => by
  rcases Nat.lt_or_ge i ls.length with hl | hl
  · rw [List.getElem?_append_left hl] at hi
    obtain ⟨s', a, b, c⟩ := h i m hi
    exact ⟨s', by rw [List.getElem?_set_ne (by omega)]; exact a, b, c⟩
  · rw [List.getElem?_append_right hl] at hi
    have e : i = ls.length := by
      rcases Nat.eq_or_lt_of_le hl with e | e
      · exact e.symm
      · rw [List.getElem?_eq_none (by simp; omega)] at hi; cases hi
    subst e
    simp at hi
    subst hi
    exact ⟨s, by simp [h3], h1, h2⟩
theorem RowsIn.mat {fb g : Nat} {w : World} {hs : List Value} {ls : List (List F)} {T : TypeId} (h : RowsIn fb w hs ls) (hl : hs.length = ls.length) (hne : g ≠ fb) (hg : w.heap[g]? = some (.cells hs.toArray T (0, 0))) : RdM fb w (some ⟨g, 0, none⟩) ls := by
  refine ⟨hs, hl, RdV.whole hg hne, fun i u l h1 h2 => ?_⟩
  obtain ⟨s, a, b, c⟩ := h i l h2
  rw [h1] at a
  cases a
  exact ⟨some ⟨s, 0, none⟩, l.length, rfl, Nat.le_refl _, RdB.whole c b⟩
theorem infoBS : (Try.prog.info? 37).map (fun i => (i.zero, i.size, i.bytes)) = some (some (.slice none 0 0), 1, 24) := by kernel_rfl
/-- n nil slices. -/
def nils (n : Nat) : List Value := List.replicate n (.slice none 0 0)
theorem nils_length (n : Nat) : (nils n).length = n := by simp [nils]
def arrV (l : List Value) : Array Value := l.toArray
theorem arrV_at (l : List Value) (i : Nat) : (arrV l)[i]? = l[i]? := by simp [arrV]
theorem arrV_set (l : List Value) (i : Nat) (v : Value) : (arrV l).setIfInBounds i v = arrV (l.set i v) := by simp [arrV]
theorem run_makeBS (n : Nat) (hn : n ≤ 1048576) (w : World) : (Instr.makeSlice 44 (.int .i64 (n : Int)) (.int .i64 (n : Int))).run Try.prog w
    = .ok (.slice (some ⟨w.heap.size, 0, none⟩) n n) (w.alloc (.cells (arrV (nils n)) 37)) := by
  obtain ⟨i0, hi, hz0, hz1, hz2⟩ := info_parts infoBS
  have h := run_make (P := Try.prog) w 44 37 i0 (.slice none 0 0) Try.underlying44 hi hz0 .i64 .i64 n n (by omega) (by omega) (by rw [hz2]; omega) (by omega)
  rw [hz1] at h
  have e : madeCells #[.slice none 0 0] n = arrV (nils n) := by
    unfold arrV nils
    apply Array.toList_inj.1
    rw [toList_madeCells_one]
  simpa [Value.cells, e] using h

/-- The data, and all parts of it. -/
def dataF (K : Nat) (first parts : List (List F)) (n : Nat) : List (List F) := (List.range K).map fun j => mixL (first.getD j []) parts n
def outF (K N : Nat) (data : List (List F)) (n : Nat) : List (List F) := (List.range N).map fun i => mixL (rowF K i) data n
theorem mixL_length (row : List F) (parts : List (List F)) (n : Nat) : (mixL row parts n).length = n := by simp [mixL]
theorem dataF_length (K : Nat) (first parts : List (List F)) (n : Nat) : (dataF K first parts n).length = K := by simp [dataF]
theorem outF_length (K N : Nat) (data : List (List F)) (n : Nat) : (outF K N data n).length = N := by simp [outF]
theorem take_snoc_map {α : Type} (f : Nat → α) (N j : Nat) (h : j < N) : ((List.range N).map f).take (j + 1) = ((List.range N).map f).take j ++ [f j] := by
  rw [List.take_succ_eq_append_getElem (by simpa using h)]; simp

/-- A matrix of N rows is answered, no error; nothing old has turned. -/
def MatPost (fb : Nat) (w : World) (N : Nat) (ls : List (List F)) (e : Ending) (w' : World) : Prop :=
  ∃ g, e = .returned (.tuple #[.slice (some ⟨g, 0, none⟩) N N, .nilIface]) ∧ w.heap.size ≤ g ∧ RdM fb w' (some ⟨g, 0, none⟩) ls ∧ Keep fb w w'
set_option maxRecDepth 100000 in
set_option maxHeartbeats 1600000 in
theorem rsmade_any (cb K M fb : Nat) (hK : 1 ≤ K) (hs0 : K + M ≤ 32) (A1 A2 : Option Addr) (c1 c2 : Nat) (parts first : List (List F)) (n : Nat) (hn : n ≤ 1048576) (hp : parts.length = K) (hf : first.length = K)
    (hlen : ∀ j, j < K → (parts.getD j []).length = n) (hrow : ∀ j, j < K → (first.getD j []).length = K) (w : World) (h : CodeAt cb K M fb w) (h1 : RdM fb w A1 parts) (h2 : RdM fb w A2 first) :
    Calls Try.prog 23 #[.pointer (some ⟨cb, 0, none⟩), .slice A1 parts.length c1, .int .i64 n, .slice A2 first.length c2] w (MatPost fb w (K + M) (outF K (K + M) (dataF K first parts n) n)) := by
  have hmk1 := run_makeBS K (by omega)
  have hmk2 : ∀ w : World, (Instr.makeSlice 44 (.int .i64 ((K : Int) + (M : Int))) (.int .i64 ((K : Int) + (M : Int)))).run Try.prog w
      = .ok (.slice (some ⟨w.heap.size, 0, none⟩) (K + M) (K + M)) (w.alloc (.cells (arrV (nils (K + M))) 37)) := fun w => by
    have := run_makeBS (K + M) (by omega) w
    simpa using this
  have h0 := h.c0
  have h2c := h.c2
  have hcl := block_lt h.1
  have hfl := h.2.2.lt
  have HP := Lib.hid hp
  have HFL := Lib.hid hf
  clear hp hf
  go_enter Try.func23, Try.ntmps23
  go_wp2
  go_loopw [11, 23] (fun _ i wr => ∃ (j : Nat) (hs : List Value), j ≤ K ∧ i = .int .i64 j ∧ Keep fb w wr ∧ Hid (hs.length = K) ∧ Hid (wr.heap[w.heap.size]? = some (.cells (arrV hs) 37 (0, 0))) ∧ RowsIn fb wr hs ((dataF K first parts n).take j)) (fun _ i _ => K - (intOf i).toNat)
  case atStart => exact ⟨0, nils K, by omega, rfl, (Keep.refl fb w).alloc _, nils_length K, heap_new _ _ _ rfl, RowsIn.nil _ _ _⟩
  case round =>
    obtain ⟨j, hs, hj, rfl, hk, hsl, hsb, hri⟩ := hrel
    have h2r := (h.keep hk).c2
    have hgs : w.heap.size ≠ fb := by omega
    by_cases hlt : j < K
    · have hlf : j < first.length := by rw [HFL.out]; exact hlt
      obtain ⟨b2, o2, A3, c3, rfl, hb2, hc2w, hl3, h3⟩ := h2.at hlf
      have hfj : first[j].length = K := by
        have := hrow j hlt
        rwa [List.getD_eq_getElem?_getD, List.getElem?_eq_getElem hlf] at this
      have hgd : first.getD j [] = first[j] := by rw [List.getD_eq_getElem?_getD, List.getElem?_eq_getElem hlf]; rfl
      have hc2 := hk.cell hb2 hc2w
      have HG := Lib.hid hgd
      have HF := Lib.hid hfj
      clear hgd hfj hc2w
      have hlw := block_lt hsb.out
      obtain ⟨hv, hhv⟩ : ∃ v, hs[j]? = some v := ⟨_, List.getElem?_eq_getElem (by rw [hsl.out]; exact hlt)⟩
      have HV := Lib.hid hhv
      clear hhv
      have hkd := hk.drew
      have hmix := mix_any fb A3 A1 c3 c1 first[j] parts n hn (by rw [HF.out]; omega) (by rw [HF.out, HP.out]; omega) (fun i hi => hlen i (by rw [HF.out] at hi; exact hi)) wr.drew (hkd.field h.2.2) (h3.keep hkd) (h1.keep hkd)
      have HM := Lib.hid hmix
      clear hmix
      go_wp2
      go_region_law (first | (go_simp; go_at_call 28; refine HM.out.mono ?_; rintro e w5 ⟨rfl, hs5, hk5⟩; have hsb5 := (hk5.block _ hlw hgs).trans hsb.out; have hc5 := (block_cell (o := j) hsb5).trans ((arrV_at _ _).trans HV.out); have hf5 := block_free (o := j) hsb5))
      all_goals
        have hk6 := hkd.trans hk5
        have hs5' : w5.heap[wr.heap.size]? = some (.cells (arrB (mixL first[j] parts n)) 5 (0, 0)) := hs5
        have hri5 := hri.keep ((Keep.refl fb wr).drew.trans hk5)
        have hne5 : wr.heap.size ≠ fb := by have := hk.size; omega
        clear hkd hk5 hs5 hri hsb hk HM h2r hc2
        go_wp2
        refine ⟨⟨j + 1, hs.set j (.slice (some ⟨wr.heap.size, 0, none⟩) n n), by omega, by go_num, hk6.set (Nat.le_refl _) hgs _, by unfold Hid; rw [List.length_set]; exact hsl.out, ?_, ?_⟩, by simp [intOf]; omega⟩
        · rw [← arrV_set]; exact block_set hsb5 _
        · have ht : (dataF K first parts n).take (j + 1) = (dataF K first parts n).take j ++ [mixL first[j] parts n] := by
            unfold dataF; rw [take_snoc_map _ K j hlt, HG.out]
          rw [ht]
          have hlen5 : ((dataF K first parts n).take j).length = j := by simp [dataF]; omega
          have := (hri5.set (o := j) hsb5 (by decide) (.slice (some ⟨wr.heap.size, 0, none⟩) n n)).snoc (s := wr.heap.size) (l := mixL first[j] parts n) hne5
            (by rw [Below.heap_setCell _ _ _ _ (show wr.heap.size ≠ w.heap.size by omega)]; exact hs5') (by rw [hlen5, hsl.out]; exact hlt)
          rw [hlen5, mixL_length] at this
          exact this
    · go_wp2_with fail
      obtain rfl : K = j := by omega
      refine (all_any cb K M fb hs0 _ (h.keep hk)).mono ?_
      rintro e w' ⟨rfl, rfl⟩
      have hlw := block_lt hsb.out
      have htk : (dataF K first parts n).take K = dataF K first parts n := List.take_of_length_le (by rw [dataF_length]; exact Nat.le_refl _)
      rw [htk] at hri
      have hdm : RdM fb wr (some ⟨w.heap.size, 0, none⟩) (dataF K first parts n) := hri.mat (by rw [hsl.out, dataF_length]) hgs hsb.out
      have hdl : ∀ i, i < K → ((dataF K first parts n).getD i []).length = n := by
        intro i hi
        rw [List.getD_eq_getElem?_getD, List.getElem?_eq_getElem (by rw [dataF_length]; exact hi)]
        simp [dataF, mixL_length]
      generalize hD : dataF K first parts n = D at *
      have HD : Hid (D.length = K) := by unfold Hid; rw [← hD, dataF_length]
      have HDE := Lib.hid hD
      have Hdl := Lib.hid hdl
      clear hD hdl htk hri hmk1
      go_wp2
      obtain ⟨wo, rfl⟩ : ∃ wo : World, wo = wr := ⟨_, rfl⟩
      clear h2r
      go_loopw [13, 14, 15, 46] (fun _ _ _ i wr => ∃ (j : Nat) (hs : List Value), j ≤ K + M ∧ i = .int .i64 j ∧ Keep fb wo wr ∧ Hid (hs.length = K + M) ∧ Hid (wr.heap[wo.heap.size]? = some (.cells (arrV hs) 37 (0, 0))) ∧ RowsIn fb wr hs ((outF K (K + M) D n).take j)) (fun _ _ _ i _ => K + M - (intOf i).toNat)
      case atStart => exact ⟨0, nils (K + M), by omega, rfl, (Keep.refl fb wo).alloc _, nils_length _, heap_new _ _ _ rfl, RowsIn.nil _ _ _⟩
      case round =>
        clear hsl hsb
        obtain ⟨j, hs, hj, rfl, hk2, hsl, hsb, hri⟩ := hrel
        have hgo : wo.heap.size ≠ fb := by omega
        have hkw := hk.trans hk2
        have hc := h.keep hkw
        have hlw2 := block_lt hsb.out
        by_cases hlt : j < K + M
        · go_wp2_with fail
          refine (row_good cb K M fb hs0 j hlt _ hc).mono ?_
          rintro e w1 ⟨rfl, hr1, hk1⟩
          have hc1 := hc.keep hk1
          have h2r := hc1.c2
          have hsb1 := (hk1.block _ hlw2 hgo).trans hsb.out
          have hlw3 := block_lt hsb1
          have hnr : wr.heap.size ≠ fb := by have := hk2.size; omega
          have hrow1 : RdB fb w1 (some ⟨wr.heap.size, 0, none⟩) (rowF K j) := RdB.whole hr1 hnr
          have hd1 := hdm.keep (hk2.trans hk1)
          obtain ⟨hv, hhv⟩ : ∃ v, hs[j]? = some v := ⟨_, List.getElem?_eq_getElem (by rw [hsl.out]; exact hlt)⟩
          have HV := Lib.hid hhv
          clear hhv
          have hkd := Keep.refl fb w1
          have hmix := mix_any fb (some ⟨wr.heap.size, 0, none⟩) (some ⟨w.heap.size, 0, none⟩) K K (rowF K j) D n hn (by rw [rowF_length]; omega) (by rw [rowF_length, HD.out]; exact Nat.le_refl _) (fun i hi => Hdl.out i (by rw [rowF_length] at hi; exact hi)) w1 (hkd.field hc1.2.2) (hrow1.keep hkd) (hd1.keep hkd)
          rw [rowF_length, HD.out] at hmix
          have HM := Lib.hid hmix
          clear hmix
          go_wp2_with fail
          refine HM.out.mono ?_
          rintro e w5 ⟨rfl, hs5, hk5⟩
          have hsb5 := (hk5.block _ hlw3 hgo).trans hsb1
          have hc5 := (block_cell (o := j) hsb5).trans ((arrV_at _ _).trans HV.out)
          have hf5 := block_free (o := j) hsb5
          all_goals
            have hs5' : w5.heap[w1.heap.size]? = some (.cells (arrB (mixL (rowF K j) D n)) 5 (0, 0)) := hs5
            have hk6 := hkd.trans hk5
            have hri5 := hri.keep (hk1.trans hk6)
            have hne5 : w1.heap.size ≠ fb := by have := hk1.size; have := hk2.size; omega
            have hkA := (hk2.trans hk1).trans hk6
            clear hkd hk5 hs5 hri hsb hsb1 hk2 HM h2r hk6 hk1
            go_wp2
            refine ⟨⟨j + 1, hs.set j (.slice (some ⟨w1.heap.size, 0, none⟩) n n), by omega, by go_num, hkA.set (Nat.le_refl _) hgo _, by unfold Hid; rw [List.length_set]; exact hsl.out, ?_, ?_⟩, by simp [intOf]; omega⟩
            · rw [← arrV_set]; exact block_set hsb5 _
            · have ht : (outF K (K + M) D n).take (j + 1) = (outF K (K + M) D n).take j ++ [mixL (rowF K j) D n] := by
                unfold outF; rw [take_snoc_map _ (K + M) j hlt]
              rw [ht]
              have hlen5 : ((outF K (K + M) D n).take j).length = j := by simp [outF]; omega
              have := (hri5.set (o := j) hsb5 (by decide) (.slice (some ⟨w1.heap.size, 0, none⟩) n n)).snoc (s := w1.heap.size) (l := mixL (rowF K j) D n) hne5
                (by rw [Below.heap_setCell _ _ _ _ (show w1.heap.size ≠ wo.heap.size by omega)]; exact hs5') (by rw [hlen5, hsl.out]; exact hlt)
              rw [hlen5, mixL_length] at this
              exact this
        · go_wp2
          go_ret2
          have ej : j = K + M := by omega
          subst ej
          rw [List.take_of_length_le (by rw [outF_length]; exact Nat.le_refl _)] at hri
          refine ⟨wo.heap.size, rfl, hk.size, ?_, hkw⟩
          exact hri.mat (by rw [hsl.out, outF_length]) hgo hsb.out
end Go.Proofs.Ytdeopklgdemnfaa
