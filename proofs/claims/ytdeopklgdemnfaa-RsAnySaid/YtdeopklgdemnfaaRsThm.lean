/- Whichever parts are lost, up to as many as there are of parity: all are made again; with one more lost nothing is. Plain arithmetic, no Go in it. -/
import Derived.Test.YtdeopklgdemnfaaRsSpec
namespace Go.Proofs.Ytdeopklgdemnfaa
open Go.RowKit Gf Rs

theorem evF_ts {n : Nat} {ls : List (List F)} : ∀ (ts : List Bool) (m : Int), (∀ (i : Nat) (l : List F), ls[i]? = some l → ts[i]? = some true → l.length = n) → (m = -1 ∨ m = n) → ∃ r, evF m (evZ ls ts) = some r ∧ (r = -1 ∨ r = n) := by
  induction ls with
  | nil => intro ts m _ hm; exact ⟨m, by simp [evZ, evF], hm⟩
  | cons a ls ih =>
    intro ts m h hm
    cases ts with
    | nil => exact ⟨m, by simp [evZ, evF], hm⟩
    | cons t ts =>
      have hr : ∀ (i : Nat) (l : List F), ls[i]? = some l → ts[i]? = some true → l.length = n := fun i l h1 h2 => h (i + 1) l (by simpa using h1) (by simpa using h2)
      cases t with
      | false => simpa [evZ, evF] using ih ts m hr hm
      | true =>
        have ha : a.length = n := h 0 a rfl rfl
        simp only [evZ, List.map_cons, List.zip_cons_cons, evF, if_true]
        rcases hm with rfl | rfl
        · rw [if_pos (by omega), ha]
          exact ih ts n hr (Or.inr rfl)
        · rw [if_neg (by omega), if_pos (by omega)]
          exact ih ts n hr (Or.inr rfl)
theorem pick_nodup (K : Nat) (ts : List Bool) (i : Nat) : (pick K ts i).Nodup := ((List.nodup_range (n := i)).sublist List.filter_sublist).sublist (List.take_sublist _ _)
theorem pick_count {K : Nat} {ts : List Bool} {i : Nat} : (pick K ts i).length = min K ((List.range i).filter (fl ts)).length := by unfold pick; rw [List.length_take]
/-- All parts are made again of as many as there are of data. -/
theorem decS_all {K M n : Nat} {D ls : List (List F)} {ts : List Bool} (hK : 1 ≤ K) (hs : K + M ≤ 32) (hD : D.length = K) (hDl : ∀ j, j < K → (D.getD j []).length = n) (hl : ls.length = K + M) (ht : ts.length = K + M)
    (hag : ∀ i, i < K + M → fl ts i = true → ls.getD i [] = mixL (rowF K i) D n) (hc : K ≤ ((List.range (K + M)).filter (fl ts)).length) : decS K M ls ts = (outF K (K + M) D n, 0) := by
  have hlen : ∀ (i : Nat) (l : List F), ls[i]? = some l → ts[i]? = some true → l.length = n := fun i l h1 h2 => by
    have hi := (List.getElem?_eq_some_iff.1 h1).1
    have := hag i (by omega) (by unfold fl; rw [List.getD_eq_getElem?_getD, h2]; rfl)
    rw [List.getD_eq_getElem?_getD, h1, Option.getD_some] at this
    rw [this, mixL_length]
  have hpk : (pick K ts (K + M)).length = K := by rw [pick_count]; omega
  have hmem : ∀ i, i ∈ pick K ts (K + M) → i < K + M ∧ fl ts i = true := fun i hi => pick_mem hi
  obtain ⟨r, hr, hr2⟩ := evF_ts ts (-1) hlen (Or.inl rfl)
  have hrn : r = (n : Int) := by
    have h0 : 0 < (pick K ts (K + M)).length := by omega
    obtain ⟨h1, h2⟩ := hmem _ (List.getElem_mem h0)
    have := (evF_there ts _ _ hr).2 _ _ (List.getElem?_eq_getElem (show (pick K ts (K + M))[0] < ls.length by omega)) (fl_some h2)
    rcases hr2 with e | e
    · omega
    · exact e
  subst hrn
  obtain ⟨X, hX⟩ := mds (N := K + M) (by omega) hpk (pick_nodup _ _ _) (fun i hi => (hmem i hi).1) (by omega)
  have hdec : decS K M ls ts = (outF K (K + M) (dataF K (sq K X) ((pick K ts (K + M)).map fun i => ls.getD i []) n) n, 0) := by
    unfold decS
    rw [if_pos ⟨hl, ht⟩, hr]
    simp only
    rw [if_neg (by omega), hX]
    rfl
  rw [hdec, back hX hpk hD hDl fun q hq => ?_]
  have hq2 : q < (pick K ts (K + M)).length := by omega
  obtain ⟨h1, h2⟩ := hmem _ (List.getElem_mem hq2)
  rw [List.getD_eq_getElem?_getD, List.getElem?_map, List.getElem?_eq_getElem hq2, Option.map_some, Option.getD_some, hag _ h1 h2]
  congr 2
  rw [List.getD_eq_getElem?_getD, List.getElem?_eq_getElem hq2]; rfl
/-- With fewer nothing is made. -/
theorem decS_lost {K M n : Nat} {ls : List (List F)} {ts : List Bool} (hl : ls.length = K + M) (ht : ts.length = K + M)
    (hag : ∀ i, i < K + M → fl ts i = true → (ls.getD i []).length = n) (hc : ((List.range (K + M)).filter (fl ts)).length < K) : decS K M ls ts = ([], 20) := by
  have hlen : ∀ (i : Nat) (l : List F), ls[i]? = some l → ts[i]? = some true → l.length = n := fun i l h1 h2 => by
    have hi := (List.getElem?_eq_some_iff.1 h1).1
    have := hag i (by omega) (by unfold fl; rw [List.getD_eq_getElem?_getD, h2]; rfl)
    rw [List.getD_eq_getElem?_getD, h1, Option.getD_some] at this
    exact this
  obtain ⟨r, hr, _⟩ := evF_ts ts (-1) hlen (Or.inl rfl)
  unfold decS
  rw [if_pos ⟨hl, ht⟩, hr]
  simp only
  rw [if_pos (by rw [pick_count]; omega)]
theorem splitF_row {K : Nat} {l : List F} {j : Nat} (h : j < K) : ((splitF K l).getD j []).length = partN K l.length := by
  rw [List.getD_eq_getElem?_getD, List.getElem?_eq_getElem (by rw [splitF_length]; exact h)]
  simp [splitF]
theorem encS_split {K M : Nat} (hK : 1 ≤ K) (l : List F) : encS K M (splitF K l) = (outF K (K + M) (splitF K l) (partN K l.length), 0) := by
  have h : ∀ (i : Nat) (q : List F), (splitF K l)[i]? = some q → q.length = partN K l.length := fun i q hi => by
    have hlt := (List.getElem?_eq_some_iff.1 hi).1
    rw [splitF_length] at hlt
    have := splitF_row (l := l) hlt
    rw [List.getD_eq_getElem?_getD, hi] at this
    exact this
  unfold encS
  rw [if_pos (splitF_length _ _)]
  obtain ⟨r, hr, hr2⟩ := evF_ts (ls := splitF K l) (n := partN K l.length) (List.replicate K true) (-1) (fun i q h1 _ => h i q h1) (Or.inl rfl)
  have h0 : 0 < (splitF K l).length := by rw [splitF_length]; omega
  have := (evF_all K _ _ (splitF_length _ _) hr).2 0 _ (List.getElem?_eq_getElem h0)
  have h1 := h 0 _ (List.getElem?_eq_getElem h0)
  have hrn : r = ((partN K l.length : Nat) : Int) := by omega
  rw [hr, hrn]; rfl
end Go.Proofs.Ytdeopklgdemnfaa
