/- The reference's inverse. Condition: the matrix reads, no row is too long. -/
import Derived.Test.YtdeopklgdemnfaaDoorRsRJoin
namespace Go.Proofs.YtdeopklgdemnfaaDoor
open Go.RowKit Gf Rs

/-- One list of one's own. -/
theorem OutR.at {base n c : Nat} {w : World} {A : Option Addr} {ls : List (List F)} (h : OutR base w (.slice A n c) ls) {i : Nat} (hi : i < ls.length) :
    ∃ g A' c', A = some ⟨g, 0, none⟩ ∧ base ≤ g ∧ g < w.heap.size ∧ w.cell? ⟨g, i, none⟩ = some (.slice A' ls[i].length c') ∧ w.frozen? ⟨g, i, none⟩ = false ∧ OwnV base w (.slice A' ls[i].length c') ls[i] := by
  obtain ⟨hs, h1, h2⟩ := h
  have hn : hs.length = ls.length := by simpa using h1.1
  have hlt := World.ownsRow.lt h1
  have he : n = ls.length := by
    obtain ⟨_, _, e⟩ := ownsRow_shape h1
    cases e; rfl
  subst he
  rcases h1.2 with ⟨e, h0⟩ | ⟨g, cap, cur, e, hbg, _⟩
  · omega
  · cases e
    have hc := World.ownsRow.cellAt h1 i (by omega)
    have hi2 : i < hs.length := by omega
    rw [List.getElem?_eq_getElem hi2] at hc
    have ho := h2 i _ _ (List.getElem?_eq_getElem hi2) (List.getElem?_eq_getElem hi)
    obtain ⟨A', c', e2⟩ := ho.shape
    rw [e2] at hc ho
    exact ⟨g, A', c', rfl, hbg, (hlt g rfl).2, hc, World.ownsRow.frozenAt h1 i, ho⟩
theorem OutR.set {base n c g i : Nat} {w : World} {ls : List (List F)} (h : OutR base w (.slice (some ⟨g, 0, none⟩) n c) ls) {u : Value} {l : List F} (hu : OwnV base w u l) :
    OutR base (w.setCell ⟨g, i, none⟩ u) (.slice (some ⟨g, 0, none⟩) n c) (ls.set i l) ∧ ∀ (v : Value) (q : List F), OwnV base w v q → OwnV base (w.setCell ⟨g, i, none⟩ u) v q := by
  obtain ⟨hs, h1, h2⟩ := h
  have he : n = ls.length := by
    obtain ⟨_, _, e⟩ := ownsRow_shape h1
    cases e; rfl
  subst he
  have hst := World.ownsRow.stored h1 i u
  have keep : ∀ (v : Value) (q : List F), OwnV base w v q → OwnV base (w.setCell ⟨g, i, none⟩ u) v q := fun v q hq => hq.kept h1 hst.2
  refine ⟨⟨hs.set i u, by rw [List.length_set]; exact hst.1, fun k v q hv hq => ?_⟩, keep⟩
  rw [List.getElem?_set] at hv hq
  by_cases e : i = k
  · subst e
    rw [if_pos rfl] at hv hq
    split at hv
    · cases hv
      split at hq
      · cases hq; exact keep _ _ hu
      · cases hq
    · cases hv
  · rw [if_neg e] at hv hq
    exact keep _ _ (h2 k v q hv hq)
set_option maxRecDepth 100000 in
set_option maxHeartbeats 800000 in
theorem square_any (fb : Nat) (A1 : Option Addr) (c1 : Nat) (m : List (List F)) (hm : m.length ≤ 1048576) (hl : ∀ (i : Nat) (l : List F), m[i]? = some l → l.length ≤ 1048576) (w : World) (h : RdM fb w A1 m) :
    Calls Tryd.prog 60 #[.slice A1 m.length c1] w fun e w' => (Sq m → e = .returned (.bool true)) ∧ (¬ Sq m → e = .returned (.bool false)) ∧ w = w' := by
  have HL := Lib.hid hl
  clear hl
  go_enter Tryd.func60, Tryd.ntmps60
  go_wp2
  go_loop [3] (fun i => ∃ j : Nat, j ≤ m.length ∧ i = .int .i64 j ∧ Hid (∀ (i : Nat) (l : List F), i < j → m[i]? = some l → l.length = m.length)) (fun i => m.length - (intOf i).toNat)
  case atStart => exact ⟨0, by omega, rfl, fun i l hi => by omega⟩
  case round =>
    obtain ⟨j, hj, rfl, hall⟩ := hrel
    by_cases hlt : j < m.length
    · obtain ⟨b2, o2, A3, c3, rfl, hb2, hc2, hl3, h3⟩ := h.at hlt
      have hmj := List.getElem?_eq_getElem hlt
      have HMJ := Lib.hid hmj
      clear hmj
      generalize hq : m[j] = q at *
      clear hq
      have hql := HL.out j q HMJ.out
      by_cases hqe : q.length = m.length
      · have HQE := Lib.hid hqe
        have hqb : ((q.length : Int) != (m.length : Int)) = false := by rw [hqe]; simp
        clear hqe
        go_wp2
        refine ⟨⟨j + 1, by omega, by go_num, fun i l h1 h2 => ?_⟩, by simp [intOf]; omega⟩
        by_cases e : i = j
        · subst e
          have := h2.symm.trans HMJ.out
          cases this
          exact HQE.out
        · exact hall.out i l (by omega) h2
      · have hns : ¬ Sq m := fun s => hqe (s.2.2 j q HMJ.out)
        have HNS := Lib.hid hns
        have hqb : ((q.length : Int) != (m.length : Int)) = true := by simp; omega
        clear hns
        go_wp2
        go_ret
        exact ⟨fun s => absurd s HNS.out, fun _ => rfl, rfl⟩
    · have hall' : ∀ (i : Nat) (l : List F), m[i]? = some l → l.length = m.length := fun i l hi => hall.out i l (by have := (List.getElem?_eq_some_iff.1 hi).1; omega) hi
      by_cases h0 : 0 < m.length
      · by_cases h32 : m.length ≤ 32
        · have hsq : Sq m := ⟨h0, h32, hall'⟩
          have hd : decide ((m.length : Int) ≤ 32) = true := by simp; omega
          have HS := Lib.hid hsq
          clear hsq hall'
          go_wp2
          go_ret
          exact ⟨fun _ => rfl, fun s => absurd HS.out s, rfl⟩
        · have hsq : ¬ Sq m := fun s => h32 s.2.1
          have hd : decide ((m.length : Int) ≤ 32) = false := by simp; omega
          have HS := Lib.hid hsq
          clear hsq hall'
          go_wp2
          go_ret
          exact ⟨fun s => absurd s HS.out, fun _ => rfl, rfl⟩
      · have hsq : ¬ Sq m := fun s => h0 s.1
        have HS := Lib.hid hsq
        clear hsq hall'
        go_wp2
        go_ret
        exact ⟨fun s => absurd s HS.out, fun _ => rfl, rfl⟩
/-- The matrix with one beside it, as rows. -/
def rowsM (n : Nat) (M : Mat) : List (List F) := (List.range n).map fun i => rowL (2 * n) (M i)
theorem rowsM_length (n : Nat) (M : Mat) : (rowsM n M).length = n := by simp [rowsM]
theorem rowsM_at {n i : Nat} {M : Mat} (h : i < n) : (rowsM n M)[i]'(by rw [rowsM_length]; exact h) = rowL (2 * n) (M i) := by simp [rowsM]
theorem rowsM_congr {n : Nat} {M M' : Mat} (h : ∀ i k, i < n → M i k = M' i k) : rowsM n M = rowsM n M' :=
  List.map_congr_left fun i hi => rowL_congr fun k _ => h i k (List.mem_range.1 hi)
theorem rowsM_set {n i : Nat} {M : Mat} (_ : i < n) (r : Nat → F) : (rowsM n M).set i (rowL (2 * n) r) = rowsM n (fun p => if p = i then r else M p) := by
  apply List.ext_getElem
  · simp [rowsM]
  · intro k h1 h2
    simp only [List.getElem_set, rowsM, List.getElem_map, List.getElem_range]
    by_cases e : i = k
    · subst e; simp
    · rw [if_neg e, if_neg (Ne.symm e)]
theorem rowL_snoc {k : Nat} {r : Nat → F} : rowL (k + 1) r = rowL k r ++ [r k] := by
  unfold rowL; rw [List.range_succ, List.map_append]; rfl
theorem beside {n i : Nat} {m : List (List F)} {l : List F} (hm : m[i]? = some l) (hl : l.length = n) : l ++ rowL n (dl i) = rowL (2 * n) (aug n (mf m) i) := by
  apply List.ext_getElem
  · simp [rowL, hl]; omega
  · intro k h1 h2
    have hmi : m.getD i [] = l := by rw [List.getD_eq_getElem?_getD, hm]; rfl
    simp only [rowL, List.length_map, List.length_range] at h2
    simp only [List.getElem_append, rowL, List.getElem_map, List.getElem_range]
    by_cases e : k < l.length
    · rw [dif_pos e]
      unfold aug; rw [if_pos (by omega)]
      unfold mf; rw [hmi, gd_eq e]
    · rw [dif_neg e]
      unfold aug; rw [if_neg (by omega)]
      unfold dl
      by_cases e2 : i = k - l.length
      · rw [if_pos e2, if_pos (by omega)]
      · rw [if_neg e2, if_neg (by omega)]
/-- A row of the matrix in memory. -/
theorem OwnV.cell {b q c : Nat} {w : World} {A : Option Addr} {r : Nat → F} (h : OwnV b w (.slice A q c) (rowL q r)) {k : Nat} (hk : k < q) : ∃ s o, A = some ⟨s, o, none⟩ ∧ b ≤ s ∧ s < w.heap.size ∧ ∀ k, k < q → w.cell? ⟨s, o + k, none⟩ = some (.int .u8 ((r k).1 : Int)) := by
  rcases h with ⟨e, h0⟩ | ⟨s, off, c', cs, e, _, h3, h4, h5⟩
  · have := congrArg List.length h0
    rw [rowL_length] at this
    simp at this
    omega
  · rw [rowL_length] at e
    cases e
    refine ⟨s, off, rfl, h3, block_lt h4, fun k hk => ?_⟩
    have := h5 k (B (r k)) (by rw [List.getElem?_map, rowL_at hk]; rfl)
    simp only [World.cell?, h4]
    exact this
theorem OutR.mat {base n c : Nat} {w : World} {A : Option Addr} {M : Mat} (h : OutR base w (.slice A n c) (rowsM n M)) {i : Nat} (hi : i < n) :
    ∃ g A' c', A = some ⟨g, 0, none⟩ ∧ base ≤ g ∧ g < w.heap.size ∧ w.cell? ⟨g, i, none⟩ = some (.slice A' (2 * n) c') ∧ w.frozen? ⟨g, i, none⟩ = false ∧ OwnV base w (.slice A' (2 * n) c') (rowL (2 * n) (M i)) := by
  obtain ⟨g, A', c', h1, h2, h3, h4, h5, h6⟩ := h.at (i := i) (by rw [rowsM_length]; exact hi)
  rw [rowsM_at hi, rowL_length] at h4 h6
  exact ⟨g, A', c', h1, h2, h3, h4, h5, h6⟩
theorem OwnV.cap {b q c : Nat} {w : World} {A : Option Addr} {l : List F} (h : OwnV b w (.slice A q c) l) (hl : l.length = q) : q ≤ c := by
  rcases h with ⟨e, h0⟩ | ⟨s, off, c', cs, e, h2, _⟩
  · cases e; exact Nat.le_refl _
  · cases e; exact h2
theorem OwnV.half {b n c s o : Nat} {w : World} {r : Nat → F} (h : OwnV b w (.slice (some ⟨s, o, none⟩) (2 * n) c) (rowL (2 * n) r)) : OwnV b w (.slice (some ⟨s, o + n, none⟩) n (c - n)) (rowL n fun k => r (n + k)) := by
  rcases h with ⟨e, h0⟩ | ⟨s', off, c', cs, e, h2, h3, h4, h5⟩
  · cases e
  · rw [rowL_length] at e h2
    cases e
    refine Or.inr ⟨s, o + n, c - n, cs, by rw [rowL_length], by rw [rowL_length]; omega, h3, h4, fun i v hi => ?_⟩
    rw [List.getElem?_map] at hi
    have hin : i < n := by
      rcases Nat.lt_or_ge i n with h1 | h1
      · exact h1
      · rw [List.getElem?_eq_none (by rw [rowL_length]; exact h1)] at hi; cases hi
    rw [rowL_at hin] at hi
    have := h5 (n + i) v (by rw [List.getElem?_map, rowL_at (show n + i < 2 * n by omega)]; exact hi)
    rw [Nat.add_assoc]; exact this
end Go.Proofs.YtdeopklgdemnfaaDoor
