/- What is known while parts are lost one by one. Plain arithmetic and lists of one's own. -/
import Derived.Test.YtdeopklgdemnfaaRsTxt
import Derived.Test.YtdeopklgdemnfaaRsOut
namespace Go.Proofs.Ytdeopklgdemnfaa
open Go.RowKit Gf Rs

/-- How many are there. -/
def cntT (N : Nat) (ts : List Bool) : Nat := ((List.range N).filter (fl ts)).length
theorem cntT_eq {N : Nat} {ts : List Bool} (h : ts.length = N) : cntT N ts = ts.count true := by
  subst h
  unfold cntT
  induction ts with
  | nil => rfl
  | cons t ts ih =>
    have e : (fl (t :: ts)) ∘ Nat.succ = fl ts := by funext i; rfl
    have e0 : fl (t :: ts) 0 = t := rfl
    rw [List.length_cons, List.range_succ_eq_map, List.filter_cons, List.filter_map, e, e0, List.count_cons]
    cases t with
    | true => simp [ih]
    | false => simp [ih]
/-- The parts that are left, of those that D makes; cnt are lost. -/
structure Left (K M n : Nat) (D lst : List (List F)) (ts : List Bool) (cnt : Nat) : Prop where
  tl : ts.length = K + M
  ll : lst.length = K + M
  same : ∀ i, i < K + M → fl ts i = true → lst.getD i [] = mixL (rowF K i) D n
  short : ∀ (i : Nat) (l : List F), lst[i]? = some l → l.length ≤ n
  cnt : cnt + cntT (K + M) ts = K + M
theorem Left.start {K M n : Nat} {D : List (List F)} : Left K M n D (outF K (K + M) D n) (List.replicate (K + M) true) 0 := by
  refine ⟨by simp, outF_length _ _ _ _, fun i hi _ => ?_, fun i l hl => ?_, ?_⟩
  · rw [List.getD_eq_getElem?_getD, outF_at hi]; rfl
  · have hi := (List.getElem?_eq_some_iff.1 hl).1
    rw [outF_length] at hi
    rw [outF_at hi] at hl
    cases hl
    rw [mixL_length]; exact Nat.le_refl _
  · rw [cntT_eq (by simp)]; simp
theorem Left.lose {K M n cnt a : Nat} {D lst : List (List F)} {ts : List Bool} (h : Left K M n D lst ts cnt) (ha : a < K + M) (ht : fl ts a = true) : Left K M n D (lst.set a []) (ts.set a false) (cnt + 1) := by
  have htl := h.tl
  have hll := h.ll
  have ha2 : a < ts.length := by omega
  have hta : ts[a] = true := by rw [← fl_eq ha2]; exact ht
  refine ⟨by simp [htl], by simp [hll], fun i hi hf => ?_, fun i l hl => ?_, ?_⟩
  · by_cases e : a = i
    · subst e
      unfold fl at hf
      rw [List.getD_eq_getElem?_getD, List.getElem?_set_self ha2] at hf
      cases hf
    · rw [List.getD_eq_getElem?_getD, List.getElem?_set_ne e, ← List.getD_eq_getElem?_getD]
      refine h.same i hi ?_
      unfold fl at hf ⊢
      rw [List.getD_eq_getElem?_getD, List.getElem?_set_ne e] at hf
      rw [List.getD_eq_getElem?_getD]; exact hf
  · by_cases e : a = i
    · subst e
      rw [List.getElem?_set_self (by omega)] at hl
      cases hl
      exact Nat.zero_le _
    · rw [List.getElem?_set_ne e] at hl
      exact h.short i l hl
  · have h1 := h.cnt
    rw [cntT_eq htl] at h1
    rw [cntT_eq (by simp [htl])]
    have hc : 0 < ts.count true := List.count_pos_iff.2 (by rw [← hta]; exact List.getElem_mem ha2)
    have h2 : (ts.set a false).count true = ts.count true - 1 := by
      rw [List.count_set ha2, hta]; simp
    omega
/-- A list of lists of one's own stays while a block of other elements is written. -/
theorem OutR.other {base g i : Nat} {w : World} {v u : Value} {ls : List (List F)} {cs : Array Value} {T : TypeId} {p : Nat × Nat} (h : OutR base w v ls) (hg : w.heap[g]? = some (.cells cs T p)) (h1 : T ≠ 37) (h2 : T ≠ 5) : OutR base (w.setCell ⟨g, i, none⟩ u) v ls := by
  have hgr : w.grownBy (w.setCell ⟨g, i, none⟩ u) (some g) := ⟨rfl, rfl, rfl, by simp [World.setCell], fun k _ hk => Below.heap_setCell _ _ _ _ (fun e => hk (by rw [e]))⟩
  obtain ⟨hs, e1, e2⟩ := h
  refine ⟨hs, e1.kept hgr (Or.inr fun e => ownsRow_ne e1 hg h1 e.symm), fun k q l hq hl => ?_⟩
  rcases e2 k q l hq hl with h | ⟨s, off, c, cs', f1, f2, f3, f4, f5⟩
  · exact Or.inl h
  · refine Or.inr ⟨s, off, c, cs', f1, f2, f3, (hgr.block s (block_lt f4) fun e => ?_).trans f4, f5⟩
    cases e
    rw [hg] at f4
    cases f4
    exact h2 rfl
theorem Left.few {K M n cnt : Nat} {D lst : List (List F)} {ts : List Bool} (h : Left K M n D lst ts cnt) (hc : M < cnt) : decS K M lst ts = ([], 20) :=
  decS_lost (n := n) h.ll h.tl (fun i hi hf => by rw [h.same i hi hf, mixL_length]) (by have := h.cnt; unfold cntT at this; omega)
theorem Left.all {K M n cnt : Nat} {D lst : List (List F)} {ts : List Bool} (h : Left K M n D lst ts cnt) (hK : 1 ≤ K) (hs : K + M ≤ 32) (hD : D.length = K) (hDl : ∀ j, j < K → (D.getD j []).length = n) (hc : cnt ≤ M) : decS K M lst ts = (outF K (K + M) D n, 0) :=
  decS_all hK hs hD hDl h.ll h.tl h.same (by have := h.cnt; unfold cntT at this; omega)
/-- The text of all parts is the text. -/
theorem join_out {K M : Nat} (hK : 1 ≤ K) (l : List F) : joinS K (outF K (K + M) (splitF K l) (partN K l.length)) (l.length : Int) = (l, 0) ∧ (catF K (outF K (K + M) (splitF K l) (partN K l.length))).length ≤ l.length + K := by
  obtain ⟨h1, h2⟩ := join_split hK l
  have h3 := joinS_data (K := K) (ls := outF K (K + M) (splitF K l) (partN K l.length)) (ls' := splitF K l) (m := (l.length : Int)) (by rw [outF_length]; omega) (by rw [splitF_length]; omega) fun i hi => by
    have e1 : (outF K (K + M) (splitF K l) (partN K l.length))[i]? = some (mixL (rowF K i) (splitF K l) (partN K l.length)) := outF_at (by omega)
    rw [e1, out_data (fun j hj => splitF_row hj) hi, List.getD_eq_getElem?_getD, List.getElem?_eq_getElem (by rw [splitF_length]; exact hi)]; rfl
  rw [h3.1, h3.2]
  exact ⟨h1, h2⟩
end Go.Proofs.Ytdeopklgdemnfaa
