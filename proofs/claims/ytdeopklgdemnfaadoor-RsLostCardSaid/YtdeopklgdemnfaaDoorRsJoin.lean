/- The text of all parts; the append of what reads as a list. Condition: the numbers are such as a code can have. -/
import Derived.Test.YtdeopklgdemnfaaDoorRsMds
namespace Go.Proofs.YtdeopklgdemnfaaDoor
open Go.RowKit Gf Rs

/-- append(own, x...) where x reads as a list, nil or not. -/
theorem wpList_append_rd {P : Program} {w : World} {ops : Array Oper} {rest : List Oper} {o : Oper} {a : Act} {Q : Exit → Act → World → Prop} (hgd : o.guard = none) (s x : Operand) (t : TypeId)
    (ho : o.op = .call { callee := .builtin .append, args := #[s, x], argTypes := #[t, t] })
    (base : Nat) (e : TypeId) (i : TypeInfo) (z : Value) (bytes : Nat) (ht : P.underlying t = some (.slice e)) (hi : P.info? e = some i) (hz : i.zero = some z)
    (hsize : i.size = 1) (hby : i.bytes = bytes) (hzs : z.cells.size = 1)
    (v : Value) (n : Nat) (xs : List Value) (hs : a.eval s = v) (hown : w.ownsRow base e 1 v n xs)
    (fb : Nat) (A : Option Addr) (m c : Nat) (news : List Value) (hx : a.eval x = .slice A m c) (hl : news.length = m) (hrd : RdV fb w A news) (h1 : ∀ u ∈ news, u.oneCell' = true)
    (h63 : n + m ≤ maxLen) (hbytes : (n + m) * bytes ≤ 140737488355328) (hbase : base ≤ w.heap.size)
    (h : ∀ v' w', w'.ownsRow base e 1 v' (n + m) (xs ++ news) → w.grownBy w' v.ownBlock → wpList P ops Q rest (a.put o.dst v') w') : wpList P ops Q (o :: rest) a w := by
  cases A with
  | none =>
    have hn : news = [] := by
      cases news with
      | nil => rfl
      | cons u us =>
        obtain ⟨b, o', e1, _⟩ := hrd 0 u rfl
        cases e1
    subst hn
    simp only [List.length_nil] at hl
    subst hl
    refine wpList_plain hgd fun K hK => ?_
    have hrun : (Builtin.append_ #[t, t] o.type #[v, .slice none 0 c]).run P w = .ok v w := by
      rcases hown.2 with ⟨rfl, rfl⟩ | ⟨g, cap, cur, rfl, _, _, hnc, _⟩
      · simp [Builtin.append_, run_underlying ht, sizeOf, typeInfo, hi, Builtin.lenOf, Builtin.firstCells]
      · simp [Builtin.append_, run_underlying ht, sizeOf, typeInfo, hi, Builtin.lenOf, Builtin.firstCells, hnc, storeCells]
    unfold Oper.wp
    simp [execOp, ho, resolve, invoke, builtin, hs, hx, hrun, Result.andThen]
    refine hK _ _ (h _ _ ?_ ⟨rfl, rfl, rfl, Nat.le_refl _, fun _ _ _ => rfl⟩)
    simpa using hown
  | some ad =>
    refine wpList_append_own w hgd s x t ho base e i z 1 bytes ht hi hz hsize hby hzs (by decide) v n xs hs hown ad m c news hx (by omega) (fun j u hj => ?_) h1 h63 hbytes hbase fun v' w' h2 h3 _ => h v' w' h2 h3
    obtain ⟨b, o', e1, _, e2⟩ := hrd j u hj
    cases e1
    rw [WideShapes.add_plain]; exact e2
theorem B_one {l : List F} : ∀ u ∈ l.map B, u.oneCell' = true := fun u hu => by
  obtain ⟨x, _, rfl⟩ := List.mem_map.1 hu; rfl
/-- What is one's own reads as a list, beside each block that lay there before. -/
theorem ownsRow_hd {fb base n : Nat} {w : World} {v : Value} {l : List F} (h : w.ownsRow base 5 1 v n (l.map B)) (hb : fb < base) : Hd fb w v l := by
  have hn : l.length = n := by simpa using h.1
  subst hn
  rcases h.2 with ⟨rfl, h0⟩ | ⟨g, cap, cur, rfl, hbg, hg, hnc, _, _, ht⟩
  · have : l = [] := List.length_eq_zero_iff.1 h0
    subst this
    exact ⟨none, 0, rfl, Nat.le_refl _, fun i v hi => by simp at hi⟩
  · refine ⟨some ⟨g, 0, none⟩, cap, rfl, hnc, RdV.block hg (by omega) fun i v hi => ?_⟩
    rw [← ht] at hi
    rw [List.getElem?_take] at hi
    split at hi
    · simpa using hi
    · cases hi
theorem RdV.take {fb k : Nat} {w : World} {A : Option Addr} {vs : List Value} (h : RdV fb w A vs) : RdV fb w A (vs.take k) := fun i v hi => by
  rw [List.getElem?_take] at hi
  split at hi
  · exact h i v hi
  · cases hi
set_option maxRecDepth 100000 in
theorem join_nil (A1 : Option Addr) (n c1 : Nat) (m : Int) (w : World) : Calls Tryd.prog 48 #[.pointer none, .slice A1 n c1, .int .i64 m] w fun e w' => e = .returned (.tuple #[.slice none 0 0, errN 1]) ∧ w = w' := by
  go_enter Tryd.func48, Tryd.ntmps48
  go_wp2
  go_ret2
  exact ⟨rfl, rfl⟩
set_option maxRecDepth 100000 in
set_option maxHeartbeats 800000 in
theorem join_arg (cb K M fb : Nat) (A1 : Option Addr) (n c1 : Nat) (m : Int) (hn : n < K ∨ m < 0) (w : World) (h : CodeAt cb K M fb w) : Calls Tryd.prog 48 #[.pointer (some ⟨cb, 0, none⟩), .slice A1 n c1, .int .i64 m] w fun e w' => e = .returned (.tuple #[.slice none 0 0, errN 1]) ∧ w = w' := by
  have h0 := h.c0
  by_cases h1 : n < K
  · have hb : decide (n < K) = true := by simp [h1]
    go_enter Tryd.func48, Tryd.ntmps48
    go_wp2
    go_ret2
    exact ⟨rfl, rfl⟩
  · have hb : decide (n < K) = false := by simp; omega
    have hm : m < 0 := by omega
    go_enter Tryd.func48, Tryd.ntmps48
    go_wp2
    go_ret2
    exact ⟨rfl, rfl⟩
/-- The first K parts, one behind the other. -/
def catF (K : Nat) (ls : List (List F)) : List F := (ls.take K).flatten
theorem cat_snoc {ls : List (List F)} {j : Nat} (h : j < ls.length) : catF (j + 1) ls = catF j ls ++ ls[j] := by
  unfold catF
  rw [List.take_succ_eq_append_getElem h, List.flatten_append]
  simp
theorem cat_le {ls : List (List F)} {i j : Nat} (h : i ≤ j) : (catF i ls).length ≤ (catF j ls).length := by
  induction j with
  | zero => obtain rfl : i = 0 := by omega
            exact Nat.le_refl _
  | succ j ih =>
    rcases Nat.lt_or_ge j ls.length with h2 | h2
    · rcases Nat.lt_or_ge i (j + 1) with h3 | h3
      · have := ih (by omega)
        rw [cat_snoc h2, List.length_append]
        omega
      · obtain rfl : i = j + 1 := by omega
        exact Nat.le_refl _
    · rcases Nat.lt_or_ge i (j + 1) with h3 | h3
      · have := ih (by omega)
        have e : catF (j + 1) ls = catF j ls := by unfold catF; rw [List.take_of_length_le (by omega), List.take_of_length_le h2]
        rw [e]; exact this
      · obtain rfl : i = j + 1 := by omega
        exact Nat.le_refl _
def JoinPost (fb : Nat) (w : World) (c : List F) (m : Nat) (e : Ending) (w' : World) : Prop :=
  if c.length < m then e = .returned (.tuple #[.slice none 0 0, errN 2]) ∧ Keep fb w w'
  else ∃ h, e = .returned (.tuple #[h, .nilIface]) ∧ Hd fb w' h (c.take m) ∧ Keep fb w w'
set_option maxRecDepth 100000 in
set_option maxHeartbeats 1600000 in
theorem join_any (cb K M fb : Nat) (hK : 1 ≤ K) (hK2 : K ≤ 32) (A1 : Option Addr) (c1 : Nat) (ls : List (List F)) (hl : K ≤ ls.length) (hc1 : ls.length ≤ c1) (m : Nat) (htot : (catF K ls).length ≤ 1048576) (w : World) (h : CodeAt cb K M fb w) (h1 : RdM fb w A1 ls) :
    Calls Tryd.prog 48 #[.pointer (some ⟨cb, 0, none⟩), .slice A1 ls.length c1, .int .i64 m] w (JoinPost fb w (catF K ls) m) := by
  obtain ⟨iB, hiB, hzB0, hzB1, hzB2⟩ := info_parts infoB
  have h0 := h.c0
  have hfl := h.2.2.lt
  have hb : decide (ls.length < K) = false := by simp; omega
  have hKc : (K : Int) ≤ (c1 : Int) := by omega
  have hK0 : (K : Int) ≤ (ls.length : Int) := by omega
  have hA := h1.at (i := 0) (by omega)
  obtain ⟨b0, o0, _, _, rfl, hb0, _⟩ := hA
  have HT := Lib.hid htot
  clear htot
  go_enter Tryd.func48, Tryd.ntmps48
  go_wp2
  go_loopw [8, 10, 34] (fun v _ i wr => ∃ j : Nat, j ≤ K ∧ i = .int .i64 j ∧ Keep fb w wr ∧ wr.ownsRow w.heap.size 5 1 v (catF j ls).length ((catF j ls).map B)) (fun _ _ i _ => K - (intOf i).toNat)
  case atStart => exact ⟨0, by omega, rfl, Keep.refl fb w, World.ownsRow_nil _ _ _ _⟩
  case round =>
    obtain ⟨j, hj, rfl, hk, hown⟩ := hrel
    obtain ⟨A3, c3, rfl⟩ := ownsRow_shape hown
    have hsz := hk.size
    by_cases hlt : j < K
    · obtain ⟨b2, o2, A4, c4, e2, hb2, hc2w, hl4, h4⟩ := (h1.keep hk).at (i := j) (by omega)
      cases e2
      have hle := cat_le (ls := ls) (show j + 1 ≤ K from hlt)
      have hcs := cat_snoc (show j < ls.length by omega)
      have HCS := Lib.hid hcs
      rw [hcs, List.length_append] at hle
      have hT := HT.out
      clear hcs
      go_wp2_with (at_builtin; refine Hid.out ?_)
      unfold Hid
      refine wpList_append_rd rfl _ _ 54 rfl w.heap.size 5 iB (.int .u8 0) 1 Tryd.underlying54 hiB hzB0 hzB1 hzB2 rfl _ _ _ rfl hown fb A4 _ c4 (ls[j].map B) rfl (by simp) h4 B_one (by unfold maxLen; omega) (by omega) hsz ?_
      intro v1 w1 hown1 hgrow1
      have hk1 := hk.grown (by omega) hgrow1 (fun k e => ⟨(hown.lt k e).1, by have := (hown.lt k e).1; omega⟩)
      rw [← List.map_append, ← HCS.out] at hown1
      have hlen : (catF j ls).length + ls[j].length = (catF (j + 1) ls).length := by rw [HCS.out, List.length_append]
      rw [hlen] at hown1
      clear hlen hown hle hT
      go_wp2
      exact ⟨⟨j + 1, by omega, by go_num, hk1, hown1⟩, by simp [intOf]; omega⟩
    · obtain rfl : j = K := by omega
      have hd := ownsRow_hd (fb := fb) hown hfl
      generalize hcg : catF j ls = c at *
      by_cases hlm : c.length < m
      · have hb2 : decide (c.length < m) = true := by simp [hlm]
        have HLM := Lib.hid hlm
        clear hlm
        go_wp2
        go_ret2
        unfold JoinPost
        rw [if_pos HLM.out]
        exact ⟨rfl, hk⟩
      · have hb2 : decide (c.length < m) = false := by simp [hlm]
        have HLM := Lib.hid hlm
        have hmc : (m : Int) ≤ (c3 : Int) := by
          obtain ⟨_, _, e1, e2, _⟩ := hd
          cases e1
          omega
        have hmlen : ((c.take m).length) = m := by rw [List.length_take]; omega
        clear hlm
        have hd2 : Hd fb wr (.slice A3 m c3) (c.take m) := by
          obtain ⟨_, _, e1, e2, e3⟩ := hd
          cases e1
          refine ⟨A3, c3, by rw [hmlen], by rw [hmlen]; omega, ?_⟩
          have := RdV.take (k := m) e3
          rwa [← List.map_take] at this
        have HD := Lib.hid hd2
        clear hd hd2 hmlen
        cases A3 with
        | none =>
          go_wp2
          go_ret2
          unfold JoinPost
          rw [if_neg HLM.out]
          exact ⟨_, rfl, HD.out, hk⟩
        | some a3 =>
          go_wp2
          go_ret2
          unfold JoinPost
          rw [if_neg HLM.out]
          exact ⟨_, rfl, HD.out, hk⟩
end Go.Proofs.YtdeopklgdemnfaaDoor
