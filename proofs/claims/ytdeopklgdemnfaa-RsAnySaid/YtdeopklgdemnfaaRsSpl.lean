/- A text in parts, a text of parts; Decode's errors of arguments. Condition: the numbers are such as a code can have. -/
import Derived.Test.YtdeopklgdemnfaaRsDec
import Derived.Laws.CopyOwn
import Derived.Laws.AppendOwnNone
namespace Go.Proofs.Ytdeopklgdemnfaa
open Go.RowKit Gf Rs

set_option maxRecDepth 100000 in
theorem decode_nil (A1 A2 : Option Addr) (n1 c1 n2 c2 : Nat) (w : World) : Calls Try.prog 18 #[.pointer none, .slice A1 n1 c1, .slice A2 n2 c2] w fun e w' => e = .returned (.tuple #[.slice none 0 0, errN 1]) ∧ w = w' := by
  go_enter Try.func18, Try.ntmps18
  go_wp2
  go_ret2
  exact ⟨rfl, rfl⟩
set_option maxRecDepth 100000 in
set_option maxHeartbeats 800000 in
theorem decode_arg (cb K M fb : Nat) (hs0 : K + M ≤ 32) (A1 A2 : Option Addr) (n1 c1 n2 c2 : Nat) (hn : n1 ≠ K + M ∨ n2 ≠ K + M) (w : World) (h : CodeAt cb K M fb w) :
    Calls Try.prog 18 #[.pointer (some ⟨cb, 0, none⟩), .slice A1 n1 c1, .slice A2 n2 c2] w fun e w' => e = .returned (.tuple #[.slice none 0 0, errN 1]) ∧ w = w' := by
  by_cases h1 : n1 = K + M
  · have hal1 : ((n1 : Int) != (K : Int) + (M : Int)) = false := by rw [h1]; simp
    have hal2 : ((n2 : Int) != (K : Int) + (M : Int)) = true := by rw [bne_iff_ne]; omega
    go_enter Try.func18, Try.ntmps18
    go_wp2_with (go_at_call 24; refine (all_any cb K M fb hs0 _ h).mono ?_; rintro e w' ⟨rfl, rfl⟩)
    go_ret2
    exact ⟨rfl, rfl⟩
  · have hal1 : ((n1 : Int) != (K : Int) + (M : Int)) = true := by rw [bne_iff_ne]; omega
    go_enter Try.func18, Try.ntmps18
    go_wp2_with (go_at_call 24; refine (all_any cb K M fb hs0 _ h).mono ?_; rintro e w' ⟨rfl, rfl⟩)
    go_ret2
    exact ⟨rfl, rfl⟩
set_option maxRecDepth 100000 in
theorem split_nil (A : Option Addr) (n c : Nat) (w : World) : Calls Try.prog 17 #[.pointer none, .slice A n c] w fun e w' => e = .returned (.slice none 0 0) ∧ w = w' := by
  go_enter Try.func17, Try.ntmps17
  go_wp2
  go_ret
  exact ⟨rfl, rfl⟩
/-- How long parts are. -/
def partN (K len : Nat) : Nat := (len + K - 1) / K
def splitF (K : Nat) (l : List F) : List (List F) := (List.range K).map fun i => (List.range (partN K l.length)).map fun j => gd l (i * partN K l.length + j)
theorem partN_le {K len : Nat} (hK : 1 ≤ K) : partN K len ≤ len := by
  unfold partN
  rw [Nat.div_le_iff_le_mul_add_pred (by omega)]
  have : len ≤ K * len := Nat.le_mul_of_pos_left _ (by omega)
  omega
/-- copy onto a row of one's own, as one step of a region. -/
theorem step_copy_k {P : Program} {ops : Array Oper} {o : Oper} {a : Act} {w : World} {K : Act → World → Prop} {Q : Exit → Act → World → Prop} {E : Prop}
    (hgd : o.guard = none) (d s : Operand) (dT sT : TypeId) (hop : o.op = Op.call { callee := Callee.builtin Builtin.copy, args := #[d, s], argTypes := #[dT, sT] })
    (elem : TypeId) (hu : P.underlying dT = some (.slice elem)) (hsz : (P.info? elem).map (·.size) = some 1)
    (g off dLen dCap : Nat) (ad : Addr) (sLen sCap : Nat) (hd : a.eval d = .slice (some ⟨g, off, none⟩) dLen dCap) (hs : a.eval s = .slice (some ad) sLen sCap)
    (cur : Array Value) (t : TypeId) (hg : w.heap[g]? = some (.cells cur t (0, 0))) (cs : List Value) (hn : cs.length = Nat.min sLen dLen)
    (hsrc : ∀ j v, cs[j]? = some v → w.cell? (ad.add j) = some v) (hfit : off + cs.length ≤ cur.size) (h1 : ∀ v ∈ cs, v.oneCell' = true)
    (h : ∀ w', Only g w w' → Hid (w'.heap[g]? = some (.cells (cur.toList.take off ++ cs ++ cur.toList.drop (off + cs.length)).toArray t (0, 0))) → K (a.put o.dst (goInt cs.length)) w') :
    if Region.wanted o (yielded ops a.tmps) = true then Oper.wp P o a w K Q else E := by
  have hw : Region.wanted o (yielded ops a.tmps) = true := by simp [Region.wanted, hgd]
  have hrun := run_copy_row (P := P) w dT sT o.type elem g off dLen dCap ad sLen sCap cur t cs hu hsz hg hn hsrc hfit h1
  rw [if_pos hw]
  unfold Oper.wp
  simp only [execOp, hop, resolve, invoke, builtin, Sem.run_bind, Sem.run_pure, Result.andThen_ok, List.map_toArray, List.map_cons, List.map_nil, hd, hs, hrun]
  exact h _ (Only.setRow _ _ _) (setRow_heap _ _ _ _ _ _ hg)
/-- The part of a text from q on, with noughts behind it. -/
theorem part_cells {l : List F} {q n : Nat} : (l.drop q).take n ++ List.replicate (n - ((l.drop q).take n).length) fz = (List.range n).map fun j => gd l (q + j) := by
  apply List.ext_getElem
  · simp only [List.length_append, List.length_take, List.length_drop, List.length_replicate, List.length_map, List.length_range]; omega
  · intro k h1 h2
    simp only [List.length_map, List.length_range] at h2
    simp only [List.getElem_append, List.length_take, List.length_drop, List.getElem_take, List.getElem_drop, List.getElem_replicate, List.getElem_map, List.getElem_range]
    split
    · rename_i hlt
      rw [gd_eq]
    · rename_i hlt
      unfold gd
      rw [List.getD_eq_getElem?_getD, List.getElem?_eq_none (by omega)]; rfl
theorem copied {l : List F} {q n : Nat} : (List.take 0 (arrB (List.replicate n fz)).toList ++ ((l.drop q).take n).map B ++ List.drop (0 + (((l.drop q).take n).map B).length) (arrB (List.replicate n fz)).toList).toArray = arrB ((List.range n).map fun j => gd l (q + j)) := by
  rw [← part_cells]
  unfold arrB
  apply Array.toList_inj.1
  simp [List.drop_replicate]
theorem splitF_length (K : Nat) (l : List F) : (splitF K l).length = K := by simp [splitF]
theorem RdB.tail {fb q : Nat} {w : World} {A : Option Addr} {l : List F} (h : RdB fb w A l) (hq : q < l.length) : ∃ b o, A = some ⟨b, o, none⟩ ∧ b ≠ fb ∧ b < w.heap.size ∧ ∀ (j : Nat) (u : Value), ((l.drop q).map B)[j]? = some u → w.cell? ⟨b, o + q + j, none⟩ = some u := by
  obtain ⟨b, o, h1, h2, h3⟩ := h.at hq
  refine ⟨b, o, h1, h2, cell_lt h3, fun j u hj => ?_⟩
  rw [List.getElem?_map, List.getElem?_drop, ← List.getElem?_map] at hj
  obtain ⟨b', o', e1, _, e3⟩ := h _ u hj
  rw [h1] at e1
  cases e1
  rw [Nat.add_assoc]; exact e3
set_option maxRecDepth 100000 in
set_option maxHeartbeats 1600000 in
theorem split_any (cb K M fb : Nat) (hK : 1 ≤ K) (hK2 : K ≤ 32) (A : Option Addr) (c : Nat) (l : List F) (hl : l.length ≤ 1048576) (hc : l.length ≤ c) (w : World) (h : CodeAt cb K M fb w) (h1 : RdB fb w A l) :
    Calls Try.prog 17 #[.pointer (some ⟨cb, 0, none⟩), .slice A l.length c] w fun e w' => ∃ g, e = .returned (.slice (some ⟨g, 0, none⟩) K K) ∧ w.heap.size ≤ g ∧ RdM fb w' (some ⟨g, 0, none⟩) (splitF K l) ∧ Keep fb w w' := by
  have hmk1 := run_makeBS K (by omega)
  obtain ⟨iB, hiB, hzB0, hzB1, hzB2⟩ := info_parts infoB
  have hszB : (Try.prog.info? 5).map (·.size) = some 1 := by rw [hiB, Option.map_some, hzB1]
  have h0 := h.c0
  have hfl := h.2.2.lt
  have hpn := partN_le (len := l.length) hK
  go_enter Try.func17, Try.ntmps17
  have hk0 : ((K : Int) == 0) = false := by rw [beq_eq_false_iff_ne]; omega
  have hpi : ((l.length : Int) + (K : Int) - 1) / (K : Int) = ((partN K l.length : Nat) : Int) := by
    unfold partN
    rw [Int.natCast_ediv]
    congr 1
    omega
  have hmk3 := run_makeB (partN K l.length) (by omega)
  go_wp2
  go_region
  rw [hpi]
  clear hpi
  go_wp2
  have hsp : splitF K l = (List.range K).map fun i => (List.range (partN K l.length)).map fun j => gd l (i * partN K l.length + j) := rfl
  have HSP := Lib.hid hsp
  clear hsp
  generalize partN K l.length = n at *
  go_loopw [7, 30] (fun _ i wr => ∃ (p : Nat) (hs : List Value), p ≤ K ∧ i = .int .i64 p ∧ Keep fb w wr ∧ Hid (hs.length = K) ∧ Hid (wr.heap[w.heap.size]? = some (.cells (arrV hs) 37 (0, 0))) ∧ RowsIn fb wr hs ((splitF K l).take p)) (fun _ i _ => K - (intOf i).toNat)
  case atStart => exact ⟨0, nils K, by omega, rfl, ((Keep.refl fb w).alloc _).drew, nils_length K, heap_new _ _ _ rfl, RowsIn.nil _ _ _⟩
  case round =>
    obtain ⟨p, hs, hp, rfl, hk, hsl, hsb, hri⟩ := hrel
    have hgs : w.heap.size ≠ fb := by omega
    by_cases hlt : p < K
    · have hqle : p * n ≤ 32 * 1048576 := Nat.mul_le_mul (by omega) (by omega)
      have hqi : (p : Int) * (n : Int) = ((p * n : Nat) : Int) := by simp
      have hrowp : (splitF K l).take (p + 1) = (splitF K l).take p ++ [(List.range n).map fun j => gd l (p * n + j)] := by
        rw [HSP.out]; exact take_snoc_map _ K p hlt
      have HRP := Lib.hid hrowp
      clear hrowp
      generalize p * n = q at *
      obtain ⟨hv, hhv⟩ : ∃ v, hs[p]? = some v := ⟨_, List.getElem?_eq_getElem (by rw [hsl.out]; exact hlt)⟩
      have hlw := block_lt hsb.out
      have hcv : (wr.alloc (.cells (arrB (List.replicate n fz)) 5)).cell? ⟨w.heap.size, p, none⟩ = some hv := (World.cell?_of_block (Below.heap_alloc _ _ _ hlw)).trans ((block_cell hsb.out).trans ((arrV_at _ _).trans hhv))
      have hfv : (wr.alloc (.cells (arrB (List.replicate n fz)) 5)).frozen? ⟨w.heap.size, p, none⟩ = false := (World.frozen?_of_block (Below.heap_alloc _ _ _ hlw)).trans (block_free hsb.out)
      have HV := Lib.hid hhv
      clear hhv
      have q1 := block_set (o := p) hsb.out (.slice (some ⟨wr.heap.size, 0, none⟩) n n)
      rw [arrV_set] at q1
      have hr1 := hri.set (o := p) hsb.out (by decide) (.slice (some ⟨wr.heap.size, 0, none⟩) n n)
      have hk1 := hk.set (o := p) (Nat.le_refl _) hgs (.slice (some ⟨wr.heap.size, 0, none⟩) n n)
      have hs1 : (wr.setCell ⟨w.heap.size, p, none⟩ (.slice (some ⟨wr.heap.size, 0, none⟩) n n)).heap.size = wr.heap.size := by simp [World.setCell]
      have hne3 : wr.heap.size ≠ fb := by omega
      have fin : Hid (∀ w', Keep fb (wr.setCell ⟨w.heap.size, p, none⟩ (.slice (some ⟨wr.heap.size, 0, none⟩) n n)) w' → w'.heap[wr.heap.size]? = some (.cells (arrB ((List.range n).map fun j => gd l (q + j))) 5 (0, 0)) →
          Keep fb w w' ∧ Hid ((hs.set p (.slice (some ⟨wr.heap.size, 0, none⟩) n n)).length = K) ∧ Hid (w'.heap[w.heap.size]? = some (.cells (arrV (hs.set p (.slice (some ⟨wr.heap.size, 0, none⟩) n n))) 37 (0, 0))) ∧
          RowsIn fb w' (hs.set p (.slice (some ⟨wr.heap.size, 0, none⟩) n n)) ((splitF K l).take (p + 1))) := fun w' k hb => by
        have hlen5 : ((splitF K l).take p).length = p := by rw [List.length_take, splitF_length]; omega
        refine ⟨hk1.trans k, by unfold Hid; rw [List.length_set]; exact hsl.out, (k.block _ (by rw [hs1]; exact hlw) hgs).trans q1, ?_⟩
        have := (hr1.keep k).snoc (s := wr.heap.size) (l := (List.range n).map fun j => gd l (q + j)) hne3 hb (by rw [hlen5, hsl.out]; exact hlt)
        rw [hlen5, ← HRP.out] at this
        simpa using this
      have hrz : ((wr.setCell ⟨w.heap.size, p, none⟩ (.slice (some ⟨wr.heap.size, 0, none⟩) n n)).alloc (.cells (arrB (List.replicate n fz)) 5)).heap[wr.heap.size]? = some (.cells (arrB (List.replicate n fz)) 5 (0, 0)) := heap_new _ _ _ hs1.symm
      have HRZ := Lib.hid hrz
      have HS1 := Lib.hid hs1
      have kws := (Keep.refl fb (wr.setCell ⟨w.heap.size, p, none⟩ (.slice (some ⟨wr.heap.size, 0, none⟩) n n))).alloc (.cells (arrB (List.replicate n fz)) 5)
      have hlo : w.heap.size < (wr.setCell ⟨w.heap.size, p, none⟩ (.slice (some ⟨wr.heap.size, 0, none⟩) n n)).heap.size := by rw [hs1]; exact hlw
      have hca : ((wr.setCell ⟨w.heap.size, p, none⟩ (.slice (some ⟨wr.heap.size, 0, none⟩) n n)).alloc (.cells (arrB (List.replicate n fz)) 5)).cell? ⟨w.heap.size, p, none⟩ = some (.slice (some ⟨wr.heap.size, 0, none⟩) n n) := by
        rw [World.cell?_of_block (Below.heap_alloc _ _ _ hlo), block_cell q1, arrV_at, List.getElem?_set_self (by rw [hsl.out]; exact hlt)]
      clear hrz hs1 q1 hr1 hri hlo
      by_cases hq : q < l.length
      · have hqZ : (q : Int) < (l.length : Int) := by omega
        have hqc : (q : Int) ≤ (c : Int) := by omega
        have hqlz : (q : Int) ≤ (l.length : Int) := by omega
        have hwq : IntKind.i64.wrap (q : Int) = q := IntWalk.i64_in _ (by omega)
        have hcq : ¬ c = q := by omega
        obtain ⟨b, o, rfl, hb, hbl, hsrc⟩ := (h1.keep ((hk1.alloc (.cells (arrB (List.replicate n fz)) 5)).drew)).tail hq
        have HSRC : Hid (∀ (j : Nat) (u : Value), (((l.drop q).take n).map B)[j]? = some u → ((wr.setCell ⟨w.heap.size, p, none⟩ (.slice (some ⟨wr.heap.size, 0, none⟩) n n)).alloc (.cells (arrB (List.replicate n fz)) 5)).drew.cell? ((⟨b, o + q, none⟩ : Addr).add j) = some u) := fun j u hj => by
          have e : (⟨b, o + q, none⟩ : Addr).add j = ⟨b, o + q + j, none⟩ := by unfold Addr.add; split <;> simp_all
          rw [e]
          refine hsrc j u ?_
          rw [List.map_take, List.getElem?_take] at hj
          split at hj
          · exact hj
          · cases hj
        clear hsrc hk1
        go_wp2
        go_region_law (first | (refine step_copy_k rfl _ _ 37 37 rfl 5 Try.underlying37 hszB wr.heap.size 0 n n ⟨b, o + q, none⟩ (l.length - q) (c - q) rfl rfl (arrB (List.replicate n fz)) 5 HRZ.out (((l.drop q).take n).map B) (by rw [List.length_map, List.length_take, List.length_drop]; exact Nat.min_comm _ _) HSRC.out (by simp [arrB]; omega) (by intro u hu; obtain ⟨x, _, rfl⟩ := List.mem_map.1 hu; rfl) ?_; intro w5 ho5 hh5))
        all_goals
          have hfin := fin.out _ (kws.drew.only ho5 (by rw [HS1.out]; exact Nat.le_refl _) hne3) (by rw [← copied]; exact hh5.out)
          have HF := Lib.hid hfin
          clear hfin ho5 hh5 hca HSRC hwq
          go_wp2
          obtain ⟨f1, f2, f3, f4⟩ := HF.out
          exact ⟨⟨p + 1, _, by omega, by go_num, f1, f2, f3, f4⟩, by simp [intOf]; omega⟩
      · have hq0 : (List.range n).map (fun j => gd l (q + j)) = List.replicate n fz := by
          rw [← part_cells, List.drop_eq_nil_of_le (by omega)]; simp
        have hfin := fin.out _ kws (by rw [hq0]; exact HRZ.out)
        have HF := Lib.hid hfin
        clear hfin hk1
        go_wp2
        obtain ⟨f1, f2, f3, f4⟩ := HF.out
        exact ⟨⟨p + 1, _, by omega, by go_num, f1, f2, f3, f4⟩, by simp [intOf]; omega⟩
    · go_wp2
      go_ret
      obtain rfl : p = K := by omega
      rw [List.take_of_length_le (by rw [splitF_length]; exact Nat.le_refl _)] at hri
      exact ⟨w.heap.size, rfl, Nat.le_refl _, hri.mat (by rw [hsl.out, splitF_length]) hgs hsb.out, hk⟩
end Go.Proofs.Ytdeopklgdemnfaa
