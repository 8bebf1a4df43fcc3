/- All parts of those that are there. Condition: as many flags as parts. -/
import Derived.Test.YtdeopklgdemnfaaRsInvx
import Derived.Maps.AppendAt
namespace Go.Proofs.Ytdeopklgdemnfaa
open Go.RowKit Gf Rs

def fl (ts : List Bool) (i : Nat) : Bool := ts.getD i false
theorem fl_eq {ts : List Bool} {i : Nat} (h : i < ts.length) : fl ts i = ts[i] := by unfold fl; rw [List.getD_eq_getElem?_getD, List.getElem?_eq_getElem h]; rfl
/-- The first K of those below i that are there. -/
def pick (K : Nat) (ts : List Bool) (i : Nat) : List Nat := ((List.range i).filter (fl ts)).take K
theorem pick_zero (K : Nat) (ts : List Bool) : pick K ts 0 = [] := by simp [pick]
theorem pick_le (K : Nat) (ts : List Bool) (i : Nat) : (pick K ts i).length ≤ K := by simp only [pick, List.length_take]; omega
theorem pick_no {K : Nat} {ts : List Bool} {i : Nat} (h : fl ts i = false) : pick K ts (i + 1) = pick K ts i := by
  unfold pick; rw [List.range_succ, List.filter_append]; simp [h]
theorem pick_full {K : Nat} {ts : List Bool} {i : Nat} (h : (pick K ts i).length = K) : pick K ts (i + 1) = pick K ts i := by
  unfold pick at *
  rw [List.range_succ, List.filter_append, List.take_append_of_le_length]
  rw [List.length_take] at h; omega
theorem pick_yes {K : Nat} {ts : List Bool} {i : Nat} (h : fl ts i = true) (h2 : (pick K ts i).length < K) : pick K ts (i + 1) = pick K ts i ++ [i] := by
  unfold pick at *
  rw [List.length_take] at h2
  rw [List.range_succ, List.filter_append, List.take_of_length_le (by simp [h]; omega), List.take_of_length_le (by omega)]
  simp [h]
theorem ownsRow_shape {w : World} {base n size : Nat} {T : TypeId} {v : Value} {xs : List Value} (h : w.ownsRow base T size v n xs) : ∃ A c, v = .slice A n c := by
  rcases h.2 with ⟨rfl, rfl⟩ | ⟨g, c, _, rfl, _⟩
  · exact ⟨none, 0, rfl⟩
  · exact ⟨_, c, rfl⟩
/-- The rows and the parts that were picked, at entry world w. -/
structure Rows2 (fb : Nat) (w wr : World) (K : Nat) (ts : List Bool) (ls : List (List F)) (ps : List Nat) (v1 v2 : Value) (hs1 hs2 : List Value) : Prop where
  own1 : wr.ownsRow w.heap.size 37 1 v1 ps.length hs1
  own2 : wr.ownsRow w.heap.size 37 1 v2 ps.length hs2
  apart : v1.ownBlock = none ∨ v1.ownBlock ≠ v2.ownBlock
  apart2 : v2.ownBlock = none ∨ v2.ownBlock ≠ v1.ownBlock
  rows : RowsIn fb wr hs1 (ps.map (rowF K))
  parts : ∀ p i : Nat, ps[p]? = some i → ∃ l A c, ls[i]? = some l ∧ hs2[p]? = some (.slice A l.length c) ∧ l.length ≤ c ∧ RdB fb w A l
theorem grow_drew (w : World) (row : Option Nat) : w.grownBy w.drew row := ⟨rfl, rfl, rfl, Nat.le_refl _, fun _ _ _ => rfl⟩
theorem grow_refl (w : World) (row : Option Nat) : w.grownBy w row := ⟨rfl, rfl, rfl, Nat.le_refl _, fun _ _ _ => rfl⟩
theorem grow_alloc {w w' : World} {row : Option Nat} (h : w.grownBy w' row) (o : Obj) : w.grownBy (w'.alloc o) row := h.trans (World.grownBy_alloc _ _ _)
theorem one_at {w : World} {b : Nat} {x : Value} {T : TypeId} {p : Nat × Nat} (h : w.heap[b]? = some (.cells #[x] T p)) : ∀ j u, [x][j]? = some u → w.cell? ((⟨b, 0, none⟩ : Addr).add j) = some u := by
  intro j u hj
  match j, hj with
  | 0, hj =>
    simp at hj
    subst hj
    simp [Addr.add, World.cell?, h]
/-- A block of other elements is none of one's own row. -/
theorem ownsRow_ne {w : World} {base n size s : Nat} {T T' : TypeId} {v : Value} {xs : List Value} {cs : Array Value} {p : Nat × Nat} (h : w.ownsRow base T size v n xs) (hs : w.heap[s]? = some (.cells cs T' p)) (hT : T' ≠ T) : some s ≠ v.ownBlock := fun e => by
  rcases h.2 with ⟨rfl, _⟩ | ⟨g, cap, cur, rfl, _, hg, _⟩
  · simp [Value.ownBlock] at e
  · simp only [Value.ownBlock, Option.some.injEq] at e
    subst e
    rw [hs] at hg
    injection hg with hg
    injection hg with _ hg _
    exact hT hg
theorem Rows2.step {fb : Nat} {w wr w1 Wa w2 Wb w3 : World} {K r c5 : Nat} {ts : List Bool} {ls : List (List F)} {ps : List Nat} {v1 v2 v1' v2' : Value} {hs1 hs2 : List Value} {j : Nat} {l : List F} {A5 : Option Addr}
    (h : Rows2 fb w wr K ts ls ps v1 v2 hs1 hs2) (hf : fb < w.heap.size) (hk : Keep fb w wr) (hk1 : Keep fb wr w1) (hr : wr.heap.size ≤ r) (hrb : w1.heap[r]? = some (.cells (arrB (rowF K j)) 5 (0, 0)))
    (hlj : ls[j]? = some l) (hc5 : l.length ≤ c5) (hA5 : RdB fb w A5 l)
    (ga : w1.grownBy Wa none) (g1 : Wa.grownBy w2 v1.ownBlock) (gb : w2.grownBy Wb none) (g2 : Wb.grownBy w3 v2.ownBlock)
    (o1 : w2.ownsRow w.heap.size 37 1 v1' (ps.length + 1) (hs1 ++ [.slice (some ⟨r, 0, none⟩) K K])) (a1 : v1'.ownBlock = v1.ownBlock ∨ v1'.ownBlock = some Wa.heap.size)
    (o2 : w3.ownsRow w.heap.size 37 1 v2' (ps.length + 1) (hs2 ++ [.slice A5 l.length c5])) (a2 : v2'.ownBlock = v2.ownBlock ∨ v2'.ownBlock = some Wb.heap.size) :
    Keep fb w w3 ∧ Rows2 fb w w3 K ts ls (ps ++ [j]) v1' v2' (hs1 ++ [.slice (some ⟨r, 0, none⟩) K K]) (hs2 ++ [.slice A5 l.length c5]) := by
  have hsz := hk.size
  have hsz1 := hk1.size
  have hsa := ga.size
  have hs2' := g1.size
  have hsb := gb.size
  have hs3 := g2.size
  have b1 := h.own1.lt
  have b2 := h.own2.lt
  have n2 : v2.ownBlock = none ∨ v2.ownBlock ≠ v1'.ownBlock := by
    rcases a1 with e | e
    · rw [e]; exact h.apart2
    · rw [e]
      cases e2 : v2.ownBlock with
      | none => exact Or.inl rfl
      | some k => exact Or.inr (fun e3 => by
          have := (b2 k e2).2
          have e3 := Option.some.inj e3
          omega)
  have hb1 : ∀ k, v1'.ownBlock = some k → k < Wb.heap.size := fun k e => by have := (o1.lt k e).2; omega
  have n1 : v1'.ownBlock = none ∨ v1'.ownBlock ≠ v2.ownBlock := by
    rcases n2 with e | e
    · cases e3 : v1'.ownBlock with
      | none => exact Or.inl rfl
      | some k => exact Or.inr (by rw [e]; exact fun h => by cases h)
    · exact Or.inr (Ne.symm e)
  have n1' : v1'.ownBlock = none ∨ v1'.ownBlock ≠ v2'.ownBlock := by
    rcases a2 with e | e
    · rw [e]; exact n1
    · rw [e]
      cases e2 : v1'.ownBlock with
      | none => exact Or.inl rfl
      | some k => exact Or.inr (fun e3 => by
          have := hb1 k e2
          have e3 := Option.some.inj e3
          omega)
  have kA : Keep fb w w3 := by
    have k1 := hk.trans hk1
    have k2 := k1.grown (by omega) ga (fun k e => by cases e)
    have k3 := k2.grown (by omega) g1 (fun k e => ⟨(b1 k e).1, by have := (b1 k e).1; omega⟩)
    have k4 := k3.grown (by omega) gb (fun k e => by cases e)
    exact k4.grown (by omega) g2 (fun k e => ⟨(b2 k e).1, by have := (b2 k e).1; omega⟩)
  refine ⟨kA, ?_, ?_, n1', ?_, ?_, ?_⟩
  · rw [List.length_append, List.length_singleton]
    exact (o1.kept gb (by cases e : v1'.ownBlock <;> simp)).kept g2 n1
  · rw [List.length_append, List.length_singleton]; exact o2
  · rcases n1' with e | e
    · cases e3 : v2'.ownBlock with
      | none => exact Or.inl rfl
      | some k => exact Or.inr (by rw [e]; exact fun h => by cases h)
    · exact Or.inr (Ne.symm e)
  · have key : ∀ (s : Nat) (q : List F), s < w1.heap.size → w1.heap[s]? = some (.cells (arrB q) 5 (0, 0)) → some s ≠ v1.ownBlock → some s ≠ v2.ownBlock → w3.heap[s]? = some (.cells (arrB q) 5 (0, 0)) := fun s q hs hq e1 e2 => by
      rw [g2.block s (by omega) e2, gb.block s (by omega) (fun e => by cases e), g1.block s (by omega) e1, ga.block s hs (fun e => by cases e)]; exact hq
    have hl1 : hs1.length = ps.length := by simpa using h.own1.1
    intro i q hi
    rw [List.map_append] at hi
    rcases Nat.lt_or_ge i (ps.map (rowF K)).length with hlt | hge
    · rw [List.getElem?_append_left hlt] at hi
      obtain ⟨s, e1, e2, e3⟩ := h.rows i q hi
      have hs := block_lt e3
      refine ⟨s, ?_, e2, ?_⟩
      · rw [List.getElem?_append_left (by rw [hl1]; simpa using hlt)]; exact e1
      · exact key s q (by omega) ((hk1.block s hs e2).trans e3) (ownsRow_ne h.own1 e3 (by decide)) (ownsRow_ne h.own2 e3 (by decide))
    · rw [List.getElem?_append_right hge] at hi
      have e : i = ps.length := by
        have h1 : i - (ps.map (rowF K)).length < 1 := by
          have := (List.getElem?_eq_some_iff.1 hi).1
          simpa using this
        simp only [List.length_map] at h1 hge
        omega
      subst e
      simp at hi
      subst hi
      refine ⟨r, ?_, by omega, ?_⟩
      · rw [List.getElem?_append_right (by omega), hl1, Nat.sub_self, rowF_length]; rfl
      · refine key r _ (block_lt hrb) hrb (fun e => ?_) (fun e => ?_)
        · have := (b1 r e.symm).2; omega
        · have := (b2 r e.symm).2; omega
  · intro p i hp
    have hl2 : hs2.length = ps.length := by simpa using h.own2.1
    rcases Nat.lt_or_ge p ps.length with hlt | hge
    · rw [List.getElem?_append_left hlt] at hp
      obtain ⟨q, A, c, e1, e2, e3⟩ := h.parts p i hp
      exact ⟨q, A, c, e1, by rw [List.getElem?_append_left (by omega)]; exact e2, e3⟩
    · rw [List.getElem?_append_right hge] at hp
      have e : p = ps.length := by
        have := (List.getElem?_eq_some_iff.1 hp).1
        simp at this
        omega
      subst e
      simp at hp
      subst hp
      exact ⟨l, A5, c5, hlj, by rw [List.getElem?_append_right (by omega), hl2, Nat.sub_self]; rfl, hc5, hA5⟩
theorem own_drew {w : World} {base n size : Nat} {T : TypeId} {v : Value} {xs : List Value} (h : w.ownsRow base T size v n xs) : w.drew.ownsRow base T size v n xs := h
theorem ownsRow_keep {fb : Nat} {w w' : World} {base n size : Nat} {T : TypeId} {v : Value} {xs : List Value} (h : w.ownsRow base T size v n xs) (k : Keep fb w w') (hb : fb < base) : w'.ownsRow base T size v n xs := by
  refine ⟨h.1, ?_⟩
  rcases h.2 with h2 | ⟨g, cap, cur, e, hbg, hg, r⟩
  · exact Or.inl h2
  · exact Or.inr ⟨g, cap, cur, e, hbg, (k.block g (block_lt hg) (by omega)).trans hg, r⟩
/-- append onto a row of one's own, as one step of a region. -/
theorem step_append_own_k {P : Program} {ops : Array Oper} {o : Oper} {a : Act} {w : World} {K : Act → World → Prop} {Q : Exit → Act → World → Prop} {E : Prop}
    (hgd : o.guard = none) (s x : Operand) (t : TypeId) (hop : o.op = Op.call { callee := Callee.builtin Builtin.append, args := #[s, x], argTypes := #[t, t] })
    (base : Nat) (e : TypeId) (i : TypeInfo) (z : Value) (size bytes : Nat) (ht : P.underlying t = some (.slice e)) (hi : P.info? e = some i) (hz : i.zero = some z)
    (hsize : i.size = size) (hby : i.bytes = bytes) (hzs : z.cells.size = size) (hsz : 0 < size)
    (v : Value) (n : Nat) (xs : List Value) (hs : a.eval s = v) (hown : w.ownsRow base e size v n xs)
    (ad : Addr) (m c : Nat) (news : List Value) (hx : a.eval x = .slice (some ad) m c) (hl : news.length = m * size) (hnews : ∀ j u, news[j]? = some u → w.cell? (ad.add j) = some u) (h1 : ∀ u ∈ news, u.oneCell' = true)
    (h63 : n + m ≤ maxLen) (hbytes : (n + m) * bytes ≤ 140737488355328) (hbase : base ≤ w.heap.size)
    (h : ∀ v' w', w'.ownsRow base e size v' (n + m) (xs ++ news) → w.grownBy w' v.ownBlock → (v'.ownBlock = v.ownBlock ∨ v'.ownBlock = some w.heap.size) → K (a.put o.dst v') w') :
    if Region.wanted o (yielded ops a.tmps) = true then Oper.wp P o a w K Q else E := by
  obtain ⟨v', w', hr, h2, h3, _, h5⟩ := run_append_own_at (P := P) w base t o.type e i z size bytes ht hi hz hsize hby hzs hsz v n xs hown ad m c news hl hnews h1 h63 hbytes hbase
  exact step_append_run hgd s x #[t, t] hop _ _ _ _ hs hx hr (h _ _ h2 h3 h5)
theorem own_rdv {fb base n c : Nat} {w : World} {T : TypeId} {A : Option Addr} {xs : List Value} (h : w.ownsRow base T 1 (.slice A n c) n xs) (hb : fb < base) : RdV fb w A xs := by
  rcases h.2 with ⟨_, rfl⟩ | ⟨g, cap, cur, e, hg, hh, _, _, _, ht⟩
  · have h0 := h.1
    have hx : xs = [] := List.eq_nil_of_length_eq_zero (by omega)
    intro i v hi
    rw [hx] at hi
    simp at hi
  · injection e with e1 e2 e3
    subst e1
    refine RdV.block hh (by omega) fun i v hi => ?_
    rw [← ht, List.getElem?_take] at hi
    split at hi
    · simpa using hi
    · cases hi
theorem Rows2.mat1 {fb c3 c4 : Nat} {w wr : World} {K : Nat} {ts : List Bool} {ls : List (List F)} {ps : List Nat} {A3 A4 : Option Addr} {hs1 hs2 : List Value} (h : Rows2 fb w wr K ts ls ps (.slice A3 ps.length c3) (.slice A4 ps.length c4) hs1 hs2) (hf : fb < w.heap.size) :
    RdM fb wr A3 (ps.map (rowF K)) := by
  refine ⟨hs1, by have := h.own1.1; simpa using this, own_rdv h.own1 hf, fun i v l h1 h2 => ?_⟩
  obtain ⟨s, a, b, c⟩ := h.rows i l h2
  rw [h1] at a
  cases a
  exact ⟨_, _, rfl, Nat.le_refl _, RdB.whole c b⟩
theorem Rows2.mat2 {fb c3 c4 : Nat} {w wr : World} {K : Nat} {ts : List Bool} {ls : List (List F)} {ps : List Nat} {A3 A4 : Option Addr} {hs1 hs2 : List Value} (h : Rows2 fb w wr K ts ls ps (.slice A3 ps.length c3) (.slice A4 ps.length c4) hs1 hs2) (hf : fb < w.heap.size) (k : Keep fb w wr) :
    RdM fb wr A4 (ps.map fun i => ls.getD i []) := by
  refine ⟨hs2, by have := h.own2.1; simpa using this, own_rdv h.own2 hf, fun i v l h1 h2 => ?_⟩
  rw [List.getElem?_map] at h2
  cases hp : ps[i]? with
  | none => rw [hp] at h2; cases h2
  | some p =>
    rw [hp] at h2
    obtain ⟨q, A, c, e1, e2, e3, e4⟩ := h.parts i p hp
    simp only [Option.map_some, Option.some.injEq, List.getD_eq_getElem?_getD, e1, Option.getD_some] at h2
    subst h2
    rw [h1] at e2
    cases e2
    exact ⟨A, c, rfl, e3, e4.keep k⟩
theorem evF_there {ls : List (List F)} : ∀ (ts : List Bool) (m n : Int), evF m (evZ ls ts) = some n → (0 ≤ m → n = m) ∧ ∀ (i : Nat) (l : List F), ls[i]? = some l → ts[i]? = some true → (l.length : Int) = n := by
  induction ls with
  | nil => intro ts m n h; simp [evZ, evF] at h; exact ⟨fun _ => h.symm, fun i l hi => by simp at hi⟩
  | cons a ls ih =>
    intro ts m n h
    cases ts with
    | nil => simp [evZ, evF] at h; exact ⟨fun _ => h.symm, fun i l _ hi => by simp at hi⟩
    | cons t ts =>
      simp only [evZ, List.map_cons, List.zip_cons_cons, evF] at h
      cases t with
      | false =>
        rw [if_neg (by decide)] at h
        obtain ⟨h1, h2⟩ := ih ts m n h
        refine ⟨h1, fun i l hi ht => ?_⟩
        cases i with
        | zero => simp at ht
        | succ i => exact h2 i l (by simpa using hi) (by simpa using ht)
      | true =>
        rw [if_pos rfl] at h
        by_cases hm : m < 0
        · rw [if_pos hm] at h
          obtain ⟨h1, h2⟩ := ih ts _ n h
          refine ⟨fun h0 => by omega, fun i l hi ht => ?_⟩
          cases i with
          | zero => simp at hi; subst hi; exact (h1 (by omega)).symm
          | succ i => exact h2 i l (by simpa using hi) (by simpa using ht)
        · rw [if_neg hm] at h
          by_cases he : m = (a.length : Int)
          · rw [if_pos he] at h
            obtain ⟨h1, h2⟩ := ih ts _ n h
            refine ⟨h1, fun i l hi ht => ?_⟩
            cases i with
            | zero => simp at hi; subst hi; rw [← he]; exact (h1 (by omega)).symm
            | succ i => exact h2 i l (by simpa using hi) (by simpa using ht)
          · rw [if_neg he] at h; cases h
theorem pick_mem {K i q : Nat} {ts : List Bool} (h : i ∈ pick K ts q) : i < q ∧ fl ts i = true := by
  have := List.mem_of_mem_take h
  rw [List.mem_filter, List.mem_range] at this
  exact this
theorem fl_some {ts : List Bool} {i : Nat} (h : fl ts i = true) : ts[i]? = some true := by
  unfold fl at h
  rw [List.getD_eq_getElem?_getD] at h
  cases e : ts[i]? with
  | none => rw [e] at h; cases h
  | some b => rw [e] at h; simpa using h
/-- What Decode answers, of as many parts and flags as there must be. -/
def DecPost (fb : Nat) (w : World) (K M : Nat) (ls : List (List F)) (ts : List Bool) (e : Ending) (w' : World) : Prop :=
  match evF (-1) (evZ ls ts) with
  | none => e = .returned (.tuple #[.slice none 0 0, errN 2]) ∧ Keep fb w w'
  | some n => if (pick K ts (K + M)).length < K then e = .returned (.tuple #[.slice none 0 0, errN 20]) ∧ Keep fb w w'
    else match minv K (mf ((pick K ts (K + M)).map (rowF K))) with
      | none => e = .returned (.tuple #[.slice none 0 0, errN 14]) ∧ Keep fb w w'
      | some X => MatPost fb w (K + M) (outF K (K + M) (dataF K (sq K X) ((pick K ts (K + M)).map fun i => ls.getD i []) n.toNat) n.toNat) e w'
theorem DecPost.zero {fb K M : Nat} {w w' : World} {ls : List (List F)} {ts : List Bool} {ps : List Nat} {n : Int} {e : Ending} (h1 : evF (-1) (evZ ls ts) = some n) (h2 : pick K ts (K + M) = ps) (h3 : ps.length = K) (h4 : minv K (mf (ps.map (rowF K))) = none)
    (he : e = .returned (.tuple #[.slice none 0 0, errN 14])) (hk : Keep fb w w') : DecPost fb w K M ls ts e w' := by
  unfold DecPost
  rw [h1]
  simp only
  rw [h2, if_neg (by omega), h4]
  exact ⟨he, hk⟩
theorem DecPost.yes {fb K M : Nat} {w w' : World} {ls : List (List F)} {ts : List Bool} {ps : List Nat} {n : Int} {e : Ending} {X : Mat} (h1 : evF (-1) (evZ ls ts) = some n) (h2 : pick K ts (K + M) = ps) (h3 : ps.length = K) (h4 : minv K (mf (ps.map (rowF K))) = some X)
    (hm : MatPost fb w (K + M) (outF K (K + M) (dataF K (sq K X) (ps.map fun i => ls.getD i []) n.toNat) n.toNat) e w') : DecPost fb w K M ls ts e w' := by
  unfold DecPost
  rw [h1]
  simp only
  rw [h2, if_neg (by omega), h4]
  exact hm
set_option maxRecDepth 100000 in
set_option maxHeartbeats 1600000 in
theorem decode_any (cb K M fb : Nat) (hK : 1 ≤ K) (hs0 : K + M ≤ 32) (A1 A2 : Option Addr) (c1 c2 : Nat) (ls : List (List F)) (ts : List Bool) (hl : ls.length = K + M) (ht : ts.length = K + M) (hlen : ∀ (i : Nat) (l : List F), ls[i]? = some l → l.length ≤ 1048576) (w : World) (h : CodeAt cb K M fb w) (h1 : RdM fb w A1 ls) (h2 : RdV fb w A2 (ts.map Value.bool)) :
    Calls Try.prog 18 #[.pointer (some ⟨cb, 0, none⟩), .slice A1 ls.length c1, .slice A2 ts.length c2] w (DecPost fb w K M ls ts) := by
  have h0 := h.c0
  have hfl := h.2.2.lt
  have HL := Lib.hid hl
  have HT := Lib.hid ht
  have HLEN := Lib.hid hlen
  have heven := even_any fb A1 A2 c1 c2 ls ts (by rw [hl]; omega) hlen (by rw [hl, ht]) w h1 h2
  have HEV := Lib.hid heven
  have hal1 : ((ls.length : Int) != (K : Int) + (M : Int)) = false := by rw [hl]; simp
  have hal2 : ((ts.length : Int) != (K : Int) + (M : Int)) = false := by rw [ht]; simp
  clear hl ht hlen heven
  obtain ⟨iS, hiS, hzS0, hzS1, hzS2⟩ := info_parts infoBS
  go_enter Try.func18, Try.ntmps18
  go_wp2_with fail
  refine (all_any cb K M fb hs0 _ h).mono ?_
  rintro e w' ⟨rfl, rfl⟩
  go_wp2_with fail
  refine (all_any cb K M fb hs0 _ h).mono ?_
  rintro e w' ⟨rfl, rfl⟩
  go_wp2_with fail
  refine HEV.out.mono ?_
  rintro e w' ⟨rfl, rfl⟩
  cases hev : evF (-1) (evZ ls ts) with
  | none =>
    have HE := Lib.hid hev
    clear hev
    unfold evRes errN
    go_wp2
    go_ret2
    unfold DecPost
    rw [HE.out]
    exact ⟨rfl, Keep.refl _ _⟩
  | some n =>
    have HE := Lib.hid hev
    clear hev
    unfold evRes
    go_wp2
    go_loopw [10, 11, 12, 13, 14, 44] (fun v1 v2 _ _ _ i wr => ∃ (j : Nat) (hs1 hs2 : List Value), j ≤ K + M ∧ i = .int .i64 j ∧ Keep fb w wr ∧ Rows2 fb w wr K ts ls (pick K ts j) v1 v2 hs1 hs2) (fun _ _ _ _ _ i _ => K + M - (intOf i).toNat)
    case atStart =>
      refine ⟨0, [], [], by omega, rfl, Keep.refl fb w, ?_⟩
      rw [pick_zero]
      exact ⟨World.ownsRow_nil _ _ _ _, World.ownsRow_nil _ _ _ _, Or.inl rfl, Or.inl rfl, RowsIn.nil _ _ _, fun p i h => by simp at h⟩
    case round =>
      obtain ⟨j, hs1, hs2, hj, rfl, hk, hr2⟩ := hrel
      have h0r := (h.keep hk).c0
      by_cases hlt : j < K + M
      · have hjt : j < ts.length := by rw [HT.out]; exact hlt
        obtain ⟨A3, c3, hv1⟩ := ownsRow_shape hr2.own1
        obtain ⟨A4, c4, hv2⟩ := ownsRow_shape hr2.own2
        subst hv1
        subst hv2
        obtain ⟨b2, o2, rfl, hb2, hc2⟩ := h2.bool hjt
        have hc2r := hk.cell hb2 hc2
        cases htj : ts[j] with
        | false =>
          rw [htj] at hc2r hc2
          have hfj : fl ts j = false := (fl_eq hjt).trans htj
          have HF := Lib.hid hfj
          clear htj hfj
          have HR2 := Lib.hid hr2
          clear hr2
          go_wp2
          refine ⟨⟨j + 1, hs1, hs2, by omega, by go_num, hk, ?_⟩, by simp [intOf]; omega⟩
          rw [pick_no HF.out]; exact HR2.out
        | true =>
          rw [htj] at hc2r hc2
          have hfj : fl ts j = true := (fl_eq hjt).trans htj
          have HF := Lib.hid hfj
          clear htj hfj
          have HR2 := Lib.hid hr2
          clear hr2
          by_cases hful : (pick K ts j).length = K
          · have hfb : (((pick K ts j).length : Int) == (K : Int)) = true := by rw [hful]; simp
            have HFU := Lib.hid hful
            clear hful
            go_wp2
            refine ⟨⟨j + 1, hs1, hs2, by omega, by go_num, hk, ?_⟩, by simp [intOf]; omega⟩
            rw [pick_full HFU.out]; exact HR2.out
          · have hple := pick_le K ts j
            have hfb : (((pick K ts j).length : Int) == (K : Int)) = false := by rw [beq_eq_false_iff_ne]; omega
            have hlp : (pick K ts j).length < K := by omega
            clear hful
            have hjl : j < ls.length := by rw [HL.out]; exact hlt
            have hrow := row_good cb K M fb hs0 j hlt wr (h.keep hk)
            have HRO := Lib.hid hrow
            clear hrow
            go_wp2_with fail
            refine HRO.out.mono ?_
            rintro e w1 ⟨rfl, hrb, hk1⟩
            obtain ⟨b5, o5, A5, c5, rfl, hb5, hc5w, hl5, h5⟩ := h1.at hjl
            have hlj : ls[j]? = some ls[j] := List.getElem?_eq_getElem hjl
            generalize hq : ls[j] = q at *
            clear hq
            have hkw1 := hk.trans hk1
            have hb5l := cell_lt hc5w
            have hszw := hkw1.size
            have hcP : w1.cell? ⟨b5, o5 + j, none⟩ = some (.slice A5 q.length c5) := hkw1.cell hb5 hc5w
            have hcA : (w1.alloc (.cells #[.slice (some ⟨wr.heap.size, 0, none⟩) K K] 37)).cell? ⟨b5, o5 + j, none⟩ = some (.slice A5 q.length c5) := (World.cell?_of_block (Below.heap_alloc _ _ _ (show b5 < w1.heap.size from by omega))).trans hcP
            have own1d : Hid (w1.ownsRow w.heap.size 37 1 (.slice A3 (pick K ts j).length c3) (pick K ts j).length hs1) := ownsRow_keep HR2.out.own1 hk1 hfl
            have own2d : Hid (w1.ownsRow w.heap.size 37 1 (.slice A4 (pick K ts j).length c4) (pick K ts j).length hs2) := ownsRow_keep HR2.out.own2 hk1 hfl
            have HB1 : Hid (∀ k, Value.ownBlock (.slice A3 (pick K ts j).length c3) = some k → k < w1.heap.size ∧ w.heap.size ≤ k) := fun k e => ⟨(own1d.out.lt k e).2, (own1d.out.lt k e).1⟩
            have HAP := Lib.hid HR2.out.apart2
            have HLJ := Lib.hid hlj
            clear hlj
            go_wp2
            go_region_law (first
              | (refine step_append_own_k rfl _ _ 44 rfl w.heap.size 37 iS (.slice none 0 0) 1 24 Try.underlying44 hiS hzS0 hzS1 hzS2 rfl (by decide) (.slice A3 (pick K ts j).length c3) (pick K ts j).length hs1 rfl
                  (by first | exact own1d.out.alloc _ | exact (own1d.out.alloc _).alloc _) _ 1 _ [.slice (some ⟨wr.heap.size, 0, none⟩) K K] rfl rfl
                  (by first | exact one_at (heap_new _ _ _ (by simp)) | exact one_at ((Below.heap_alloc _ _ _ (by simp)).trans (heap_new _ _ _ (by simp)))) (by intro u hu; simp at hu; subst hu; rfl) (by unfold maxLen; omega) (by omega) (by simp; omega) ?_
                 intro v1' w2 own1' g1 a1
                 try have hcB := g1.cell hcA (fun e => by have := (HB1.out _ e.symm).2; simp at this; omega))
              | (refine step_append_own_k rfl _ _ 44 rfl w.heap.size 37 iS (.slice none 0 0) 1 24 Try.underlying44 hiS hzS0 hzS1 hzS2 rfl (by decide) (.slice A4 (pick K ts j).length c4) (pick K ts j).length hs2 rfl
                  (by first | exact ((own_drew (own2d.out.alloc _)).kept g1 HAP.out).alloc _ | exact (own_drew ((own2d.out.alloc _).alloc _)).kept g1 HAP.out) _ 1 _ [.slice A5 q.length c5] rfl rfl
                  (by first | exact one_at (heap_new _ _ _ (by simp)) | exact one_at ((g1.block _ (by first | (simp; done) | (simp; omega)) (fun e => by have := (HB1.out _ e.symm).1; omega)).trans (by first | exact heap_new _ _ _ (by simp) | exact (Below.heap_alloc _ _ _ (by simp)).trans (heap_new _ _ _ (by simp))))) (by intro u hu; simp at hu; subst hu; rfl) (by unfold maxLen; omega) (by omega) (by first | (have := g1.size; simp at this ⊢; omega) | (have := g1.size; simp at this; omega) | (have := g1.size; simp; omega) | omega) ?_
                 intro v2' w3 own2' g2 a2))
            all_goals
              have hst := HR2.out.step (j := j) hfl hk hk1 (Nat.le_refl _) hrb HLJ.out hl5 h5 (by first | exact grow_drew _ _ | exact grow_alloc (grow_drew _ _) _ | exact grow_alloc (grow_alloc (grow_drew _ _) _) _) g1 (by first | exact grow_refl _ _ | exact grow_alloc (grow_refl _ _) _) g2 own1' a1 own2' a2
              rw [← pick_yes HF.out hlp] at hst
              have HST := Lib.hid hst
              clear hst g1 g2 own1' own2' a1 a2 hrb hk1 HR2 own1d own2d HB1 HAP hcA hcP hk
              go_wp2
              exact ⟨⟨j + 1, _, _, by omega, by go_num, HST.out.1, HST.out.2⟩, by simp [intOf]; omega⟩
      · have ej : j = K + M := by omega
        have hge : ¬ K + M < ts.length := by rw [HT.out]; omega
        subst ej
        have hge2 : ¬ ((K : Int) + (M : Int)) < (ts.length : Int) := by omega
        obtain ⟨A3, c3, hv1⟩ := ownsRow_shape hr2.own1
        obtain ⟨A4, c4, hv2⟩ := ownsRow_shape hr2.own2
        subst hv1
        subst hv2
        have hple := pick_le K ts (K + M)
        have HR2 := Lib.hid hr2
        clear hr2
        by_cases hful : (pick K ts (K + M)).length < K
        · have hfu := Lib.hid hful
          go_wp2
          go_ret2
          unfold DecPost
          rw [HE.out]
          simp only [hful, if_true]
          exact ⟨rfl, hk⟩
        · have hpk : (pick K ts (K + M)).length = K := by omega
          have HPK := Lib.hid hpk
          have hlk : ¬ ((pick K ts (K + M)).length : Int) < (K : Int) := by omega
          clear hpk
          have h2r := (h.keep hk).c2
          have hm1 := HR2.out.mat1 hfl
          have hm2 := HR2.out.mat2 hfl hk
          have hpl : ∀ (i p : Nat), (pick K ts (K + M))[i]? = some p → ∃ l, ls[p]? = some l ∧ (l.length : Int) = n := fun i p hp => by
            obtain ⟨h1, h2⟩ := pick_mem (List.mem_of_getElem? hp)
            have hpl : p < ls.length := by rw [HL.out]; exact h1
            exact ⟨ls[p], List.getElem?_eq_getElem hpl, (evF_there ts _ n HE.out).2 p _ (List.getElem?_eq_getElem hpl) (fl_some h2)⟩
          generalize hps : pick K ts (K + M) = ps at *
          have HPS := Lib.hid hps
          clear hps
          have hinv := invert_any fb K hK (by omega) A3 c3 (ps.map (rowF K)) (by rw [List.length_map]; exact HPK.out) (fun i l hl => by
            rw [List.getElem?_map] at hl
            cases e : ps[i]? with
            | none => rw [e] at hl; cases hl
            | some p => rw [e] at hl; simp at hl; rw [← hl]; exact rowF_length _ _) wr (hk.field h.2.2) hm1
          have HI : Hid (Calls Try.prog 25 #[.pointer (some ⟨fb, 0, none⟩), .slice A3 ps.length c3] wr (InvPost fb K wr (ps.map (rowF K)))) := by unfold Hid; rw [HPK.out]; exact hinv
          clear hinv
          go_wp2_with fail
          refine HI.out.mono ?_
          rintro e w5 hpost
          unfold InvPost at hpost
          cases hmi : minv K (mf (ps.map (rowF K))) with
          | none =>
            rw [hmi] at hpost
            obtain ⟨rfl, hk5⟩ := hpost
            have HMI := Lib.hid hmi
            clear hmi
            unfold errN
            go_wp2
            go_ret2
            exact DecPost.zero HE.out HPS.out HPK.out HMI.out rfl (hk.trans hk5)
          | some X =>
            rw [hmi] at hpost
            obtain ⟨g, rfl, hge, hmat, hk5⟩ := hpost
            have HMI := Lib.hid hmi
            clear hmi
            have h0p : 0 < ps.length := by omega
            obtain ⟨l0, hl0, hn0⟩ := hpl 0 ps[0] (List.getElem?_eq_getElem h0p)
            obtain ⟨N, rfl⟩ : ∃ N : Nat, n = N := ⟨_, hn0.symm⟩
            have hN : N ≤ 1048576 := by
              have := HLEN.out _ _ hl0
              omega
            have hlenN : ∀ i, i < K → ((ps.map fun i => ls.getD i []).getD i []).length = N := fun i hi => by
              have hip : i < ps.length := by rw [HPK.out]; exact hi
              obtain ⟨l, hl, hln⟩ := hpl i ps[i] (List.getElem?_eq_getElem hip)
              rw [List.getD_eq_getElem?_getD, List.getElem?_map, List.getElem?_eq_getElem hip, Option.map_some, Option.getD_some, List.getD_eq_getElem?_getD, hl]
              exact Int.ofNat_inj.1 hln
            have hsq : ∀ i, i < K → ((sq K X).getD i []).length = K := fun i hi => by
              rw [List.getD_eq_getElem?_getD, sq, List.getElem?_map, List.getElem?_range hi]
              exact rowL_length _ _
            have hmade := rsmade_any cb K M fb hK hs0 A4 (some ⟨g, 0, none⟩) c4 K (ps.map fun i => ls.getD i []) (sq K X) N hN (by rw [List.length_map]; exact HPK.out) (sq_length K X) hlenN hsq w5 (h.keep (hk.trans hk5)) (hm2.keep hk5) hmat
            rw [List.length_map, sq_length] at hmade
            have HM := Lib.hid hmade
            clear hmade hsq hlenN hpl hl0 hn0
            have h2r5 := (h.keep (hk.trans hk5)).c2
            go_wp2_with fail
            refine HM.out.mono ?_
            rintro e w6 ⟨g6, rfl, hge6, hmat6, hk6⟩
            go_wp2
            go_ret2
            refine DecPost.yes HE.out HPS.out HPK.out HMI.out ⟨g6, rfl, ?_, hmat6, (hk.trans hk5).trans hk6⟩
            have := (hk.trans hk5).size
            omega
end Go.Proofs.Ytdeopklgdemnfaa
