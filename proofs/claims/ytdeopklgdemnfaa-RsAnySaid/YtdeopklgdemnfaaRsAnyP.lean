/- Which parts are there, and what is read while two blocks may turn. No condition of its own. -/
import Derived.Test.YtdeopklgdemnfaaRsCx
namespace Go.Proofs.Ytdeopklgdemnfaa
open Go.RowKit Gf Rs

theorem small5 (k : Int) : ∃ K : Nat, 1 ≤ K ∧ K ≤ 5 ∧ wrap64 (1 + wrap64 ((IntKind.u64.wrap k).tmod 5)) = K := by
  have e : 0 ≤ IntKind.u64.wrap k := by rw [IntKind.wrap_u64]; omega
  rw [Int.tmod_eq_emod_of_nonneg e]
  refine ⟨(1 + IntKind.u64.wrap k % 5).toNat, by omega, by omega, ?_⟩
  unfold wrap64
  omega
theorem small4 (k : Int) : ∃ M : Nat, M ≤ 4 ∧ wrap64 ((IntKind.u64.wrap k).tmod 5) = M := by
  have e : 0 ≤ IntKind.u64.wrap k := by rw [IntKind.wrap_u64]; omega
  rw [Int.tmod_eq_emod_of_nonneg e]
  refine ⟨(IntKind.u64.wrap k % 5).toNat, by omega, ?_⟩
  unfold wrap64
  omega
/-- Is part i there? -/
def isF (t : List Bool) (i : Nat) : Bool := decide (t.length ≤ i) || t.getD i false
def flF (t : List Bool) (j : Nat) : List Bool := (List.range j).map (isF t)
def cntF (t : List Bool) (j : Nat) : Nat := ((List.range j).filter (isF t)).length
theorem flF_snoc (t : List Bool) (j : Nat) : flF t (j + 1) = flF t j ++ [isF t j] := by simp [flF, List.range_succ]
theorem cntF_yes {t : List Bool} {j : Nat} (h : isF t j = true) : cntF t (j + 1) = cntF t j + 1 := by simp [cntF, List.range_succ, h]
theorem cntF_no {t : List Bool} {j : Nat} (h : isF t j = false) : cntF t (j + 1) = cntF t j := by simp [cntF, List.range_succ, h]
theorem cntF_le (t : List Bool) (j : Nat) : cntF t j ≤ j := by
  have := List.length_filter_le (isF t) (List.range j)
  simpa [cntF] using this
theorem flF_length (t : List Bool) (j : Nat) : (flF t j).length = j := by simp [flF]
theorem flF_fl {t : List Bool} {N i : Nat} (h : i < N) : fl (flF t N) i = isF t i := by
  simp [fl, flF, List.getD_eq_getElem?_getD, h]
theorem flF_cnt (t : List Bool) (N : Nat) : ((List.range N).filter (fl (flF t N))).length = cntF t N := by
  unfold cntF
  congr 1
  refine List.filter_congr fun i hi => ?_
  exact flF_fl (List.mem_range.1 hi)
/-- What is read while blocks fb and gm may turn. -/
def Both (fb gm : Nat) (w : World) (A : Option Addr) (ls : List (List F)) : Prop :=
  ∃ hs : List Value, hs.length = ls.length ∧ (∀ i v, hs[i]? = some v → ∃ b o, A = some ⟨b, o, none⟩ ∧ b ≠ fb ∧ b ≠ gm ∧ w.cell? ⟨b, o + i, none⟩ = some v) ∧
    ∀ (i : Nat) (h : Value) (l : List F), hs[i]? = some h → ls[i]? = some l → ∃ A' c, h = .slice A' l.length c ∧ l.length ≤ c ∧ ∀ j v, (l.map B)[j]? = some v → ∃ b o, A' = some ⟨b, o, none⟩ ∧ b ≠ fb ∧ b ≠ gm ∧ w.cell? ⟨b, o + j, none⟩ = some v
theorem Both.rdm {fb gm : Nat} {w : World} {A : Option Addr} {ls : List (List F)} (h : Both fb gm w A ls) : RdM fb w A ls := by
  obtain ⟨hs, h1, h2, h3⟩ := h
  refine ⟨hs, h1, fun i v hi => ?_, fun i u l hi hl => ?_⟩
  · obtain ⟨b, o, e1, e2, _, e3⟩ := h2 i v hi
    exact ⟨b, o, e1, e2, e3⟩
  · obtain ⟨A', c, e, hc, hr⟩ := h3 i u l hi hl
    refine ⟨A', c, e, hc, fun j v hj => ?_⟩
    obtain ⟨b, o, e1, e2, _, e3⟩ := hr j v hj
    exact ⟨b, o, e1, e2, e3⟩
theorem Both.stay {fb gm : Nat} {w w' : World} {A : Option Addr} {ls : List (List F)} (h : Both fb gm w A ls) (k : ∀ b, b < w.heap.size → b ≠ fb → b ≠ gm → w'.heap[b]? = w.heap[b]?) : Both fb gm w' A ls := by
  obtain ⟨hs, h1, h2, h3⟩ := h
  refine ⟨hs, h1, fun i v hi => ?_, fun i u l hi hl => ?_⟩
  · obtain ⟨b, o, e1, e2, e3, e4⟩ := h2 i v hi
    exact ⟨b, o, e1, e2, e3, by rw [← e4]; exact World.cell?_of_block (k b (cell_lt e4) e2 e3)⟩
  · obtain ⟨A', c, e, hc, hr⟩ := h3 i u l hi hl
    refine ⟨A', c, e, hc, fun j v hj => ?_⟩
    obtain ⟨b, o, e1, e2, e3, e4⟩ := hr j v hj
    exact ⟨b, o, e1, e2, e3, by rw [← e4]; exact World.cell?_of_block (k b (cell_lt e4) e2 e3)⟩
theorem Both.of {fb gm g : Nat} {w : World} {ls : List (List F)} {ms : List Value} {T : TypeId} {p : Nat × Nat} (h : RdM fb w (some ⟨g, 0, none⟩) ls) (hg : g ≠ gm) (hm : w.heap[gm]? = some (.cells (arrV ms) T p)) (hs : ∀ u ∈ ms, ∃ A n c, u = .slice A n c) : Both fb gm w (some ⟨g, 0, none⟩) ls := by
  obtain ⟨hs', h1, h2, h3⟩ := h
  refine ⟨hs', h1, fun i v hi => ?_, fun i u l hi hl => ?_⟩
  · obtain ⟨b, o, e1, e2, e3⟩ := h2 i v hi
    cases e1
    exact ⟨g, 0, rfl, e2, hg, e3⟩
  · obtain ⟨A', c, e, hc, hr⟩ := h3 i u l hi hl
    refine ⟨A', c, e, hc, fun j v hj => ?_⟩
    obtain ⟨b, o, e1, e2, e3⟩ := hr j v hj
    refine ⟨b, o, e1, e2, ?_, e3⟩
    rintro rfl
    have e4 : (arrV ms)[o + j]? = some v := by
      simp only [World.cell?, hm] at e3
      exact e3
    rw [arrV_at] at e4
    obtain ⟨A2, n2, c2, rfl⟩ := hs v (List.mem_of_getElem? e4)
    rw [List.getElem?_map] at hj
    cases hx : l[j]? with
    | none => rw [hx] at hj; cases hj
    | some x => rw [hx] at hj; simp [B] at hj
/-- The first n of what was made. -/
structure Made (T : TypeId) (fb gm N n : Nat) (w : World) (ms : List Value) (R : List (List F)) : Prop where
  len : ms.length = 2
  sl : ∀ u ∈ ms, ∃ A n c, u = .slice A n c
  at_ : w.heap[gm]? = some (.cells (arrV ms) T (0, 0))
  rd : ∀ j, j < n → ∃ A c, ms[j]? = some (.slice A N c) ∧ Both fb gm w A R
theorem Made.stay {T : TypeId} {fb gm N n : Nat} {w w' : World} {ms : List Value} {R : List (List F)} (h : Made T fb gm N n w ms R) (hne : gm ≠ fb) (k : Keep fb w w') : Made T fb gm N n w' ms R :=
  ⟨h.len, h.sl, (k.block gm (block_lt h.at_) hne).trans h.at_, fun j hj => by
    obtain ⟨A, c, e, hb⟩ := h.rd j hj
    exact ⟨A, c, e, hb.stay fun b h1 h2 _ => k.block b h1 h2⟩⟩
theorem Made.put {T : TypeId} {fb gm N n g c : Nat} {w : World} {ms : List Value} {R : List (List F)} (h : Made T fb gm N n w ms R) (hn : n < 2) (hr : RdM fb w (some ⟨g, 0, none⟩) R) (hg : g ≠ gm) :
    Made T fb gm N (n + 1) (w.setCell ⟨gm, n, none⟩ (.slice (some ⟨g, 0, none⟩) N c)) (ms.set n (.slice (some ⟨g, 0, none⟩) N c)) R := by
  have hb : ∀ b, b ≠ gm → (w.setCell ⟨gm, n, none⟩ (.slice (some ⟨g, 0, none⟩) N c)).heap[b]? = w.heap[b]? := fun b hb => Below.heap_setCell _ _ _ _ hb
  have q := block_set (o := n) h.at_ (.slice (some ⟨g, 0, none⟩) N c)
  rw [arrV_set] at q
  refine ⟨by simp [h.len], fun u hu => ?_, q, fun j hj => ?_⟩
  · rcases List.mem_or_eq_of_mem_set hu with hu | rfl
    · exact h.sl u hu
    · exact ⟨_, _, _, rfl⟩
  · by_cases e : j = n
    · subst e
      exact ⟨_, c, by rw [List.getElem?_set_self (by rw [h.len]; exact hn)], (Both.of hr hg h.at_ h.sl).stay fun b _ _ h3 => hb b h3⟩
    · obtain ⟨A, c', e1, hbo⟩ := h.rd j (by omega)
      exact ⟨A, c', by rw [List.getElem?_set_ne (Ne.symm e)]; exact e1, hbo.stay fun b _ _ h3 => hb b h3⟩
theorem dec_mat {fb K M : Nat} {w w' : World} {ls R : List (List F)} {ts : List Bool} {e : Ending} (hl : ls.length = K + M) (ht : ts.length = K + M) (hp : DecPost fb w K M ls ts e w') (hd : decS K M ls ts = (R, 0)) : MatPost fb w (K + M) R e w' := by
  unfold DecPost at hp
  unfold decS at hd
  rw [if_pos ⟨hl, ht⟩] at hd
  split at hp
  · rename_i hn
    rw [hn] at hd
    simp at hd
  · rename_i n hn
    rw [hn] at hd
    simp only at hd
    split at hp
    · rename_i hlt
      rw [if_pos hlt] at hd
      simp at hd
    · rename_i hlt
      rw [if_neg hlt] at hd
      split at hp
      · rename_i hm
        rw [hm] at hd
        simp at hd
      · rename_i X hm
        rw [hm] at hd
        simp only [Prod.mk.injEq, and_true] at hd
        rw [← hd]
        exact hp
theorem infoTBl : ∃ i : TypeInfo, Try.prog.info? 4 = some i ∧ i.zero = some (.bool false) ∧ i.size = 1 ∧ i.bytes = 1 := by
  obtain ⟨iB, h1, h2, h3, h4⟩ := info_parts infoBool
  exact ⟨iB, h1, h2, h3, h4⟩
/-- append(l, x) of one flag onto one's own. -/
theorem app_flag {w : World} {ops : Array Oper} {rest : List Oper} {o : Oper} {a : Act} {Q : Exit → Act → World → Prop} (hgd : o.guard = none) (s x : Operand)
    (ho : o.op = .call { callee := .builtin .append, args := #[s, x], argTypes := #[38, 38] }) (base : Nat) (v : Value) (n : Nat) (l : List Bool) (hs : a.eval s = v) (hown : w.ownsRow base 4 1 v n (l.map Value.bool))
    (g : Nat) (b : Bool) (hx : a.eval x = .slice (some ⟨g, 0, none⟩) 1 1) (hc : w.cell? ⟨g, 0, none⟩ = some (.bool b)) (hn : n ≤ 1048576) (hbase : base ≤ w.heap.size)
    (h : ∀ v' w', w'.ownsRow base 4 1 v' (n + 1) ((l ++ [b]).map Value.bool) → w.grownBy w' v.ownBlock → wpList Try.prog ops Q rest (a.put o.dst v') w') : wpList Try.prog ops Q (o :: rest) a w := by
  obtain ⟨iB, h1, h2, h3, h4⟩ := infoTBl
  refine wpList_append_own w hgd s x 38 ho base 4 iB (.bool false) 1 1 Try.underlying38 h1 h2 h3 h4 rfl (by decide) v n _ hs hown ⟨g, 0, none⟩ 1 1 [.bool b] hx rfl (fun j u hj => ?_) (fun u hu => by rw [List.mem_singleton.1 hu]; rfl) (by unfold maxLen; omega) (by omega) hbase (fun v' w' e1 e2 _ => h v' w' ?_ e2)
  · match j, hj with
    | 0, hj => cases hj; simpa [Addr.add] using hc
  · rw [List.map_append]; exact e1
end Go.Proofs.Ytdeopklgdemnfaa
