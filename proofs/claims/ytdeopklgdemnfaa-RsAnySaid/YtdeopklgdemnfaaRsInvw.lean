/- The walk of the inverse. Condition: a matrix that is square, of at most 32 rows. -/
import Derived.Test.YtdeopklgdemnfaaRsApp
import Derived.Laws.NewBlocks
import Derived.RegionTactic
import Derived.BigRegion
namespace Go.Proofs.Ytdeopklgdemnfaa
open Go.RowKit Gf Rs

def rowL (q : Nat) (r : Nat → F) : List F := (List.range q).map r
theorem rowL_length (q : Nat) (r : Nat → F) : (rowL q r).length = q := by simp [rowL]
theorem rowL_at {q k : Nat} {r : Nat → F} (h : k < q) : (rowL q r)[k]? = some (r k) := by simp [rowL, h]
theorem rowL_congr {q : Nat} {r s : Nat → F} (h : ∀ k, k < q → r k = s k) : rowL q r = rowL q s := List.map_congr_left fun k hk => h k (List.mem_range.1 hk)
theorem rowL_set {q k : Nat} {r : Nat → F} (x : F) : (rowL q r).set k x = rowL q (fun i => if i = k then x else r i) := by
  apply List.ext_getElem
  · simp [rowL]
  · intro i h1 h2
    simp only [List.getElem_set, rowL, List.getElem_map, List.getElem_range]
    by_cases e : k = i
    · rw [if_pos e, if_pos e.symm]
    · rw [if_neg e, if_neg (Ne.symm e)]
def mf (m : List (List F)) : Mat := fun i k => gd (m.getD i []) k
/-- A row's header. -/
def hdr (q : Nat) (s : Nat) : Value := .slice (some ⟨s, 0, none⟩) q q
/-- The first k rows of the matrix that is worked on, row i in block σ i. -/
structure WR (fb g n : Nat) (w : World) (k : Nat) (σ : Nat → Nat) (M : Mat) : Prop where
  le : k ≤ n
  inj : ∀ i j, i < k → j < k → σ i = σ j → i = j
  head : w.heap[g]? = some (.cells (arrV ((List.range k).map (fun i => hdr (2 * n) (σ i)) ++ nils (n - k))) 37 (0, 0))
  row : ∀ i, i < k → σ i ≠ fb ∧ g < σ i ∧ w.heap[σ i]? = some (.cells (arrB (rowL (2 * n) (M i))) 5 (0, 0))
theorem WR.keep {fb g n k : Nat} {w w' : World} {σ : Nat → Nat} {M : Mat} (h : WR fb g n w k σ M) (hg : g ≠ fb) (q : Keep fb w w') : WR fb g n w' k σ M :=
  ⟨h.le, h.inj, (q.block g (block_lt h.head) hg).trans h.head, fun i hi => by
    obtain ⟨a, b, c⟩ := h.row i hi
    exact ⟨a, b, (q.block _ (block_lt c) a).trans c⟩⟩
/-- One more row. -/
theorem WR.snoc {fb g n s k : Nat} {w w' : World} {σ : Nat → Nat} {M : Mat} (h : WR fb g n w k σ M) (hj : k < n) (h1 : s ≠ fb) (h2 : g < s) (h3 : w'.heap[s]? = some (.cells (arrB (rowL (2 * n) (M k))) 5 (0, 0))) (h4 : ∀ i, i < k → σ i ≠ s)
    (hg : w'.heap[g]? = some (.cells ((arrV ((List.range k).map (fun i => hdr (2 * n) (σ i)) ++ nils (n - k))).setIfInBounds k (hdr (2 * n) s)) 37 (0, 0))) (ho : ∀ i, i < k → w'.heap[σ i]? = w.heap[σ i]?) :
    WR fb g n w' (k + 1) (fun i => if i = k then s else σ i) M := by
  refine ⟨by omega, ?_, ?_, ?_⟩
  · intro i j hi hj' e
    have e : (if i = k then s else σ i) = (if j = k then s else σ j) := e
    by_cases e1 : i = k
    · by_cases e2 : j = k
      · omega
      · rw [if_pos e1, if_neg e2] at e; exact absurd e.symm (h4 j (by omega))
    · by_cases e2 : j = k
      · rw [if_neg e1, if_pos e2] at e; exact absurd e (h4 i (by omega))
      · rw [if_neg e1, if_neg e2] at e; exact h.inj i j (by omega) (by omega) e
  · rw [arrV_set] at hg
    rw [hg]
    congr 3
    apply List.ext_getElem
    · simp [nils]; omega
    · intro i a b
      simp only [List.getElem_set, List.getElem_append, List.length_map, List.length_range, nils, List.getElem_replicate, List.getElem_map, List.getElem_range]
      by_cases e1 : k = i
      · subst e1; simp
      · rw [if_neg e1]
        by_cases e2 : i < k
        · rw [dif_pos e2, dif_pos (by omega), if_neg (by omega)]
        · rw [dif_neg e2, dif_neg (by omega)]
  · intro i hi
    show (if i = k then s else σ i) ≠ fb ∧ g < (if i = k then s else σ i) ∧ w'.heap[if i = k then s else σ i]? = _
    by_cases e : i = k
    · subst e; rw [if_pos rfl]; exact ⟨h1, h2, h3⟩
    · rw [if_neg e]
      obtain ⟨a, b, c⟩ := h.row i (by omega)
      exact ⟨a, b, by rw [ho i (by omega)]; exact c⟩
theorem WR.fresh {fb g n s k : Nat} {w : World} {σ : Nat → Nat} {M : Mat} (h : WR fb g n w k σ M) (hs : w.heap.size ≤ s) : ∀ i, i < k → σ i ≠ s := fun i hi e => by
  have := block_lt (h.row i hi).2.2
  omega
/-- A row's header. -/
theorem WR.at {fb g n k i : Nat} {w : World} {σ : Nat → Nat} {M : Mat} (h : WR fb g n w k σ M) (hi : i < k) : w.cell? ⟨g, i, none⟩ = some (.slice (some ⟨σ i, 0, none⟩) (2 * n) (2 * n)) := by
  rw [block_cell h.head, arrV_at, List.getElem?_append_left (by simp; omega), List.getElem?_map, List.getElem?_range hi]; rfl
/-- Two rows exchanged. -/
def swpI {α : Type} (f : Nat → α) (j a : Nat) : Nat → α := fun i => if i = j then f a else if i = a then f j else f i
theorem WR.swap {fb g n j a : Nat} {w w' : World} {σ : Nat → Nat} {M : Mat} (h : WR fb g n w n σ M) (hj : j < n) (ha : a < n)
    (hg : w'.heap[g]? = some (.cells (((arrV ((List.range n).map (fun i => hdr (2 * n) (σ i)) ++ nils (n - n))).setIfInBounds j (hdr (2 * n) (σ a))).setIfInBounds a (hdr (2 * n) (σ j))) 37 (0, 0))) (ho : ∀ t, t ≠ g → w'.heap[t]? = w.heap[t]?) :
    WR fb g n w' n (swpI σ j a) (swp M j a) := by
  refine ⟨Nat.le_refl _, ?_, ?_, ?_⟩
  · intro p q hp hq e
    have hπ : ∀ i, swpI σ j a i = σ (if i = j then a else if i = a then j else i) := fun i => by
      unfold swpI; split
      · rfl
      · split <;> rfl
    rw [hπ, hπ] at e
    have e2 := h.inj _ _ (by split <;> (try split) <;> omega) (by split <;> (try split) <;> omega) e
    revert e2
    split <;> split <;> (try split) <;> (try split) <;> omega
  · rw [arrV_set, arrV_set] at hg
    rw [hg]
    congr 3
    apply List.ext_getElem
    · simp [nils]
    · intro i p q
      simp only [List.length_append, List.length_map, List.length_range, nils, Nat.sub_self, List.replicate_zero, List.length_nil, Nat.add_zero] at q
      simp only [List.getElem_set, List.getElem_append, List.length_map, List.length_range, List.getElem_map, List.getElem_range, swpI]
      rw [dif_pos q, dif_pos q]
      by_cases e1 : a = i
      · rw [if_pos e1]
        by_cases e2 : i = j
        · rw [if_pos e2]; subst e1; subst e2; rfl
        · rw [if_neg e2, if_pos e1.symm]
      · rw [if_neg e1]
        by_cases e2 : j = i
        · rw [if_pos e2, if_pos e2.symm]
        · rw [if_neg e2, if_neg (Ne.symm e2), if_neg (Ne.symm e1)]
  · intro i hi
    have key : ∀ p, p < n → σ p ≠ fb ∧ g < σ p ∧ w'.heap[σ p]? = some (.cells (arrB (rowL (2 * n) (M p))) 5 (0, 0)) := fun p hp => by
      obtain ⟨x, y, z⟩ := h.row p hp
      exact ⟨x, y, by rw [ho _ (Nat.ne_of_gt y)]; exact z⟩
    simp only [swpI, swp]
    by_cases e1 : i = j
    · rw [if_pos e1, if_pos e1]; exact key a ha
    · rw [if_neg e1, if_neg e1]
      by_cases e2 : i = a
      · rw [if_pos e2, if_pos e2]; exact key j hj
      · rw [if_neg e2, if_neg e2]; exact key i hi
/-- One row made anew. -/
theorem WR.turn {fb g n j : Nat} {w w' : World} {σ : Nat → Nat} {M M' : Mat} (h : WR fb g n w n σ M) (hj : j < n) (hg : g ≠ fb) (q : Keep2 fb (σ j) w w') (hr : w'.heap[σ j]? = some (.cells (arrB (rowL (2 * n) (M' j))) 5 (0, 0)))
    (hM : ∀ i k, i < n → i ≠ j → M' i k = M i k) : WR fb g n w' n σ M' := by
  refine ⟨Nat.le_refl _, h.inj, (q.block g (block_lt h.head) hg (Nat.ne_of_lt (h.row j hj).2.1)).trans h.head, fun i hi => ?_⟩
  obtain ⟨a, b, c⟩ := h.row i hi
  refine ⟨a, b, ?_⟩
  by_cases e : i = j
  · subst e; exact hr
  · rw [q.block _ (block_lt c) a (fun e2 => e (h.inj i j hi hj e2)), c, rowL_congr (fun k _ => (hM i k hi e).symm)]
theorem row_cell {s q k : Nat} {w : World} {r : Nat → F} (h : w.heap[s]? = some (.cells (arrB (rowL q r)) 5 (0, 0))) (hk : k < q) : w.cell? ⟨s, k, none⟩ = some (.int .u8 ((r k).1 : Int)) := by
  rw [block_cell h, arrB_at, rowL_at hk]; rfl
theorem f_zero {x : F} (h : x = fz) : ((x.1 : Int) == 0) = true := by subst h; rfl
theorem f_nonzero {x : F} (h : x ≠ fz) : ((x.1 : Int) == 0) = false := by
  have := fpos h
  simp; omega
/-- A row of the matrix with its row of the one behind it. -/
theorem aug_row {n i : Nat} {m : List (List F)} {l : List F} (hm : m[i]? = some l) (hl : l.length = n) : (l ++ List.replicate n fz).set (n + i) fo = rowL (2 * n) (aug n (mf m) i) := by
  apply List.ext_getElem
  · simp [rowL, hl]; omega
  · intro k h1 h2
    simp only [List.length_set, List.length_append, List.length_replicate, hl] at h1
    simp only [List.getElem_set, rowL, List.getElem_map, List.getElem_range, List.getElem_append, List.getElem_replicate]
    have hmi : m.getD i [] = l := by rw [List.getD_eq_getElem?_getD, hm]; rfl
    unfold aug
    by_cases e : n + i = k
    · subst e; rw [if_pos rfl, if_neg (by omega)]; simp [dl]
    · rw [if_neg e]
      by_cases e2 : k < l.length
      · rw [dif_pos e2, if_pos (by omega)]
        unfold mf; rw [hmi, gd_eq e2]
      · rw [dif_neg e2, if_neg (by omega)]
        unfold dl; rw [if_neg e]
theorem run_makeRoom (n : Nat) (hn : n ≤ 1048576) (w : World) : (Instr.makeSlice 37 (.int .i64 0) (.int .i64 (2 * (n : Int)))).run Try.prog w
    = .ok (.slice (some ⟨w.heap.size, 0, none⟩) 0 (2 * n)) (w.alloc (.cells (arrB (List.replicate (2 * n) fz)) 5)) := by
  obtain ⟨i0, hi, hz0, hz1, hz2⟩ := info_parts infoB
  have h := run_make (P := Try.prog) w 37 5 i0 (.int .u8 0) Try.underlying37 hi hz0 .i64 .i64 0 (2 * (n : Int)) (by omega) (by omega) (by rw [hz2]; omega) (by omega)
  rw [hz1, show (2 * (n : Int)).toNat = 2 * n by omega] at h
  simpa [Value.cells, made_zeros] using h
theorem fill_row (n : Nat) (l : List F) (hl : l.length = n) :
    (List.take n (List.take 0 (arrB (List.replicate (2 * n) fz)).toList ++ List.map B l ++ List.drop (0 + n) (arrB (List.replicate (2 * n) fz)).toList).toArray.toList ++ List.replicate n (Value.int .u8 0) ++
      List.drop (n + n) (List.take 0 (arrB (List.replicate (2 * n) fz)).toList ++ List.map B l ++ List.drop (0 + n) (arrB (List.replicate (2 * n) fz)).toList).toArray.toList).toArray = arrB (l ++ List.replicate n fz) := by
  have e : Value.int .u8 0 = B fz := rfl
  unfold arrB
  rw [e]
  apply Array.toList_inj.1
  simp only [List.take_zero, List.nil_append, Nat.zero_add, List.map_append, List.map_replicate]
  rw [List.take_append_of_le_length (by simp [hl]), List.take_of_length_le (by simp [hl]), List.drop_eq_nil_of_le (by simp [hl]; omega), List.append_nil]
theorem oneB (x : F) : (B x).oneCell' = true := rfl
/-- Behind the taking from the first p rows. -/
def midM (M : Mat) (j a p : Nat) : Mat := fun i k => if i = j then unit M j a k else if i < p then stp M j a i k else swp M j a i k
theorem midM_j {M : Mat} {j a p : Nat} : midM M j a p j = unit M j a := by funext k; simp [midM]
theorem midM_ge {M : Mat} {j a p i : Nat} (h : i ≠ j) (h2 : p ≤ i) (k : Nat) : midM M j a p i k = swp M j a i k := by
  unfold midM; rw [if_neg h, if_neg (by omega)]
theorem midM_end {M : Mat} {j a n i : Nat} (h : i < n) (k : Nat) : midM M j a n i k = stp M j a i k := by
  unfold midM
  by_cases e : i = j
  · subst e; rw [if_pos rfl, stp_at]
  · rw [if_neg e, if_pos h]
theorem midM_next {M : Mat} {j a p i : Nat} (h : i ≠ p) (k : Nat) : midM M j a (p + 1) i k = midM M j a p i k := by
  unfold midM
  by_cases e : i = j
  · rw [if_pos e, if_pos e]
  · rw [if_neg e, if_neg e]
    by_cases e2 : i < p
    · rw [if_pos (by omega), if_pos e2]
    · rw [if_neg (by omega), if_neg e2]
theorem midM_skip {M : Mat} {j a : Nat} (i k : Nat) : midM M j a (j + 1) i k = midM M j a j i k := by
  unfold midM
  by_cases e : i = j
  · rw [if_pos e, if_pos e]
  · rw [if_neg e, if_neg e]
    by_cases e2 : i < j
    · rw [if_pos (by omega), if_pos e2]
    · rw [if_neg (by omega), if_neg e2]
theorem gd_rowL {q k : Nat} {r : Nat → F} (h : k < q) : gd (rowL q r) k = r k := by
  rw [gd_eq (by rw [rowL_length]; exact h)]; simp [rowL]
theorem took {n p j a : Nat} {M : Mat} (hpj : p ≠ j) : (List.range (2 * n)).map (fun k => fadd (gd (rowL (2 * n) (swp M j a p)) k) (fmul (gd (rowL (2 * n) (unit M j a)) k) (swp M j a p j))) = rowL (2 * n) (midM M j a (p + 1) p) := by
  refine List.map_congr_left fun k hk => ?_
  have hk := List.mem_range.1 hk
  rw [gd_rowL hk, gd_rowL hk]
  unfold midM
  rw [if_neg hpj, if_pos (by omega), stp_ne hpj]
theorem WR.congr {fb g n : Nat} {w : World} {σ : Nat → Nat} {M M' : Mat} (h : WR fb g n w n σ M) (hM : ∀ i k, i < n → M' i k = M i k) : WR fb g n w n σ M' :=
  ⟨h.le, h.inj, h.head, fun i hi => by
    obtain ⟨a, b, c⟩ := h.row i hi
    exact ⟨a, b, by rw [c, rowL_congr (fun k _ => (hM i k hi).symm)]⟩⟩
/-- A square of numbers as rows. -/
def sq (n : Nat) (X : Mat) : List (List F) := (List.range n).map fun i => rowL n (X i)
theorem sq_length (n : Nat) (X : Mat) : (sq n X).length = n := by simp [sq]
/-- The inverse is answered, or an error where there is none. -/
def InvPost (fb n : Nat) (w : World) (m : List (List F)) (e : Ending) (w' : World) : Prop :=
  match minv n (mf m) with
  | none => e = .returned (.tuple #[.slice none 0 0, errN 14]) ∧ Keep fb w w'
  | some X => MatPost fb w n (sq n X) e w'
theorem run_next {n j a : Nat} {M A : Mat} {d : Nat} (h : run n d 0 A = run n (n - j) j M) (hj : j < n) (hp : pv n j M = some a) : run n d 0 A = run n (n - (j + 1)) (j + 1) (stp M j a) := by
  rw [h, show n - j = (n - (j + 1)) + 1 by omega]
  simp only [run, hp]
theorem run_stop {n j : Nat} {M : Mat} {m : Mat} (h : run n n 0 (aug n m) = run n (n - j) j M) (hj : j < n) (hp : pv n j M = none) : minv n m = none := by
  unfold minv
  rw [h, show n - j = (n - (j + 1)) + 1 by omega]
  simp only [run, hp, Option.map_none]
theorem run_done {n j : Nat} {M : Mat} {m : Mat} (h : run n n 0 (aug n m) = run n (n - j) j M) (hj : j = n) : minv n m = some fun i k => M i (n + k) := by
  unfold minv
  rw [h, hj, Nat.sub_self]
  rfl
theorem InvPost.no {fb n j : Nat} {w w' : World} {m : List (List F)} {e : Ending} {M : Mat} (h : run n n 0 (aug n (mf m)) = run n (n - j) j M) (hj : j < n) (hp : pv n j M = none) (he : e = .returned (.tuple #[.slice none 0 0, errN 14])) (hk : Keep fb w w') : InvPost fb n w m e w' := by
  unfold InvPost
  rw [run_stop h hj hp]
  exact ⟨he, hk⟩
theorem InvPost.yes {fb n j : Nat} {w w' : World} {m : List (List F)} {e : Ending} {M : Mat} (h : run n n 0 (aug n (mf m)) = run n (n - j) j M) (hj : j = n) (hp : MatPost fb w n (sq n fun i k => M i (n + k)) e w') : InvPost fb n w m e w' := by
  unfold InvPost
  rw [run_done h hj]
  exact hp
set_option maxRecDepth 100000 in
set_option maxHeartbeats 1600000 in
theorem invert_any (fb n : Nat) (hn1 : 1 ≤ n) (hn : n ≤ 32) (A : Option Addr) (c : Nat) (m : List (List F)) (hm : m.length = n) (hr : ∀ (i : Nat) (l : List F), m[i]? = some l → l.length = n) (w : World) (hf : FieldIn fb w) (h : RdM fb w A m) :
    Calls Try.prog 25 #[.pointer (some ⟨fb, 0, none⟩), .slice A n c] w (InvPost fb n w m) := by
  have hmk1 := run_makeBS n (by omega)
  have hmk3 := run_makeRoom n (by omega)
  have hfl := hf.lt
  have HM := Lib.hid hm
  have HR := Lib.hid hr
  clear hm hr
  obtain ⟨iB, hiB, hzB0, hzB1, hzB2⟩ := info_parts infoB
  go_enter Try.func25, Try.ntmps25
  go_wp2
  go_loopw [8, 22] (fun _ i wr => ∃ (j : Nat) (σ : Nat → Nat), j ≤ n ∧ i = .int .i64 j ∧ Keep fb w wr ∧ WR fb w.heap.size n wr j σ (aug n (mf m))) (fun _ i _ => n - (intOf i).toNat)
  case atStart => exact ⟨0, id, by omega, rfl, (Keep.refl fb w).alloc _, ⟨by omega, fun i j hi => by omega, heap_new _ _ _ rfl, fun i hi => by omega⟩⟩
  case round =>
    obtain ⟨j, σ, hj, rfl, hk, hwr⟩ := hrel
    have hgs : w.heap.size ≠ fb := by omega
    by_cases hlt : j < n
    · have hltm : j < m.length := by rw [HM.out]; exact hlt
      obtain ⟨b2, o2, A3, c3, rfl, hb2, hc2w, hl3, h3w⟩ := h.at hltm
      have hlj : m[j].length = n := HR.out j _ (List.getElem?_eq_getElem hltm)
      have hmj : m[j]? = some m[j] := List.getElem?_eq_getElem hltm
      obtain ⟨b3, o3, rfl, hb3, hcc3⟩ := h3w.at (i := 0) (by omega)
      clear hcc3
      have h3 := (h3w.keep hk).keep (Keep.refl fb wr).drew
      have hc2 := hk.cell hb2 hc2w
      rw [hlj] at hc2
      have HLJ := Lib.hid hlj
      have HMJ := Lib.hid hmj
      clear hlj hmj hc2w
      have hl2 := block_lt hwr.head
      have Hc3 : Hid (∀ (i : Nat) (u : Value), (m[j].map B)[i]? = some u → (wr.alloc (.cells (arrB (List.replicate (2 * n) fz)) 5)).drew.cell? ((⟨b3, o3, none⟩ : Addr).add i) = some u) := fun i u hi => by
        obtain ⟨b, o, e1, e2, e3⟩ := (RdV.keep h3 ((Keep.refl fb wr.drew).alloc (.cells (arrB (List.replicate (2 * n) fz)) 5))) i u hi
        cases e1
        have : (⟨b3, o3, none⟩ : Addr).add i = ⟨b3, o3 + i, none⟩ := by unfold Addr.add; split <;> simp_all
        rw [this]; exact e3
      go_wp2
      have hw2 : IntKind.i64.wrap (2 * (n : Int)) = 2 * (n : Int) := IntWalk.i64_in _ (by omega)
      have hgz : wr.cell? ⟨w.heap.size, j, none⟩ = some (.slice none 0 0) := by
        rw [block_cell hwr.head, arrV_at, List.getElem?_append_right (by simp), List.length_map, List.length_range, Nat.sub_self, nils, List.getElem?_replicate, if_pos (by omega)]
      have hgf : wr.frozen? ⟨w.heap.size, j, none⟩ = false := block_free hwr.head
      have hgs2 : w.heap.size ≠ wr.heap.size := by omega
      have hsz := hk.size
      have hgz1 : (wr.alloc (.cells (arrB (List.replicate (2 * n) fz)) 5)).drew.cell? ⟨w.heap.size, j, none⟩ = some (.slice none 0 0) := ((Keep.refl fb wr).alloc _).cell hgs hgz
      have hgf1 : (wr.alloc (.cells (arrB (List.replicate (2 * n) fz)) 5)).drew.frozen? ⟨w.heap.size, j, none⟩ = false := (World.frozen?_alloc_past _ _ _ hl2).trans hgf
      have hc2a : (wr.alloc (.cells (arrB (List.replicate (2 * n) fz)) 5)).cell? ⟨b2, o2 + j, none⟩ = some (.slice (some ⟨b3, o3, none⟩) n c3) := ((Keep.refl fb wr).alloc _).cell hb2 hc2
      go_region_law (first | (refine step_append_room_k rfl _ _ 37 rfl 5 iB Try.underlying37 hiB hzB1 wr.heap.size 0 (2 * n) rfl (arrB (List.replicate (2 * n) fz)) (heap_new wr _ _ rfl) ⟨b3, o3, none⟩ n c3 (m[j].map B) rfl ?c2 Hc3.out ?c4 ?c5 ?c6 ?_; (case c2 => (simp [HLJ.out])); (case c4 => (intro u hu; obtain ⟨x, _, rfl⟩ := List.mem_map.1 hu; rfl)); (case c5 => omega); (case c6 => (simp [arrB]; omega)); intro w1 ho1 hh1) | (refine step_append_zeros_k rfl _ _ 37 3 rfl 5 iB (.int .u8 0) Try.underlying37 Try.underlying3 hiB hzB0 hzB1 rfl rfl wr.heap.size n (2 * n) n rfl rfl _ hh1.out ?c8 ?c9 ?c10 hzB2 ?c12 ?_; (case c8 => omega); (case c9 => (simp [HLJ.out, arrB]; omega)); (case c10 => omega); (case c12 => omega); intro w2 ho2 hh2; have hgz2 := (ho2.cell hgs2).trans ((ho1.cell hgs2).trans hgz1); have hgf2 := (ho2.frozen hgs2).trans ((ho1.frozen hgs2).trans hgf1)))
      all_goals
        clear hw2 hc2a hgz1 hgf1
        have hK2 : Keep fb wr w2 := (((Keep.refl fb wr).alloc _).drew.only ho1 (Nat.le_refl _) (by omega)).only ho2 (Nat.le_refl _) (by omega)
        have hrow : w2.heap[wr.heap.size]? = some (.cells (arrB (m[j] ++ List.replicate n fz)) 5 (0, 0)) := by
          rw [hh2.out]; congr 2
          exact fill_row n m[j] HLJ.out
        have hW2 := hwr.keep hgs hK2
        have hlast : w2.heap[wr.heap.size]? = some (.cells (arrB (m[j] ++ List.replicate n fz)) 5 (0, 0)) := hrow
        have q1 := block_set (o := j) hW2.head (hdr (2 * n) wr.heap.size)
        have q2 := (Below.heap_setCell w2 ⟨w.heap.size, j, none⟩ (hdr (2 * n) wr.heap.size) wr.heap.size (Ne.symm hgs2)).trans hrow
        have hKw := (hk.trans hK2).set (o := j) (Nat.le_refl _) hgs (hdr (2 * n) wr.heap.size)
        have hdrE : Value.slice (some ⟨wr.heap.size, 0, none⟩) (n + n) (2 * n) = hdr (2 * n) wr.heap.size := by unfold hdr; rw [show n + n = 2 * n by omega]
        rw [hdrE]
        have hcg := (block_cell (o := j) q1).trans (show _ = some (hdr (2 * n) wr.heap.size) by
          rw [Array.getElem?_setIfInBounds_self_of_lt]
          simp [arrV, nils]; omega)
        have hcr : (w2.setCell ⟨w.heap.size, j, none⟩ (hdr (2 * n) wr.heap.size)).cell? ⟨wr.heap.size, n + j, none⟩ = some (B fz) := by
          rw [block_cell q2, arrB_at, List.getElem?_append_right (by rw [HLJ.out]; omega), HLJ.out]
          rw [List.getElem?_replicate, if_pos (by omega)]; rfl
        have hfr : (w2.setCell ⟨w.heap.size, j, none⟩ (hdr (2 * n) wr.heap.size)).frozen? ⟨wr.heap.size, n + j, none⟩ = false := block_free q2
        unfold hdr at hcg hcr hfr ⊢
        have hb1 : ((n : Int) + (j : Int)) < ((2 * n : Nat) : Int) := by omega
        have q3 := block_set (o := n + j) q2 (B fo)
        rw [arrB_set, aug_row HMJ.out HLJ.out] at q3
        have q4 := (Below.heap_setCell (w2.setCell ⟨w.heap.size, j, none⟩ (hdr (2 * n) wr.heap.size)) ⟨wr.heap.size, n + j, none⟩ (B fo) w.heap.size (show w.heap.size ≠ wr.heap.size from hgs2)).trans q1
        have hWn : WR fb w.heap.size n ((w2.setCell ⟨w.heap.size, j, none⟩ (hdr (2 * n) wr.heap.size)).setCell ⟨wr.heap.size, n + j, none⟩ (B fo)) (j + 1) (fun i => if i = j then wr.heap.size else σ i) (aug n (mf m)) := by
          refine hW2.snoc hlt (by omega) hl2 q3 (hwr.fresh (Nat.le_refl _)) q4 ?_
          intro i hi
          rw [Below.heap_setCell _ _ _ _ (show σ i ≠ wr.heap.size from hwr.fresh (Nat.le_refl _) i hi), Below.heap_setCell _ _ _ _ (show σ i ≠ w.heap.size from Nat.ne_of_gt (hW2.row i hi).2.1)]
        have HWn := Lib.hid hWn
        have hKn := hKw.set (g := wr.heap.size) (o := n + j) hsz (by omega) (B fo)
        clear hWn q1 q2 q3 q4 hW2 hrow hlast hK2
        go_wp2
        exact ⟨⟨j + 1, _, by omega, by go_num, hKn, HWn.out⟩, by simp [intOf]; omega⟩
    · go_wp2
      have ejn : n = j := by omega
      have hwr' : WR fb w.heap.size n wr n σ (aug n (mf m)) := by rw [← ejn] at hwr; exact hwr
      clear hwr ejn
      go_loopw [9, 10, 11, 12, 13, 48] (fun _ _ _ _ _ i wr => ∃ (j : Nat) (σ : Nat → Nat) (M : Mat), j ≤ n ∧ i = .int .i64 j ∧ Keep fb w wr ∧ WR fb w.heap.size n wr n σ M ∧ Hid (run n n 0 (aug n (mf m)) = run n (n - j) j M)) (fun _ _ _ _ _ i _ => n - (intOf i).toNat)
      case atStart => exact ⟨0, σ, _, by omega, rfl, hk, hwr', rfl⟩
      case round =>
        clear hk hwr'
        obtain ⟨j, σ, M, hj, rfl, hk, hwr, hrun⟩ := hrel
        by_cases hlt : j < n
        · go_wp2
          go_loop [10] (fun i => ∃ a : Nat, j ≤ a ∧ a ≤ n ∧ i = .int .i64 a ∧ Hid (∀ i, j ≤ i → i < a → M i j = fz)) (fun i => n - (intOf i).toNat)
          case atStart => exact ⟨j, by omega, by omega, rfl, fun i h1 h2 => by omega⟩
          case round =>
            obtain ⟨a, ha1, ha2, rfl, hall⟩ := hrel
            by_cases halt : a < n
            · have hca := hwr.at halt
              have hea := row_cell (hwr.row a halt).2.2 (show j < 2 * n by omega)
              by_cases hz : M a j = fz
              · have hzb := f_zero hz
                have HZ := Lib.hid hz
                clear hz
                go_wp2
                refine ⟨⟨a + 1, by omega, by omega, by go_num, ?_⟩, by simp [intOf]; omega⟩
                intro i h1 h2
                by_cases e : i = a
                · subst e; exact HZ.out
                · exact hall.out i h1 (by omega)
              · have hzb := f_nonzero hz
                have HZ := Lib.hid hz
                clear hz
                have hpv := pv_some ha1 halt HZ.out hall.out
                have HPV := Lib.hid hpv
                clear hpv
                have hcj := hwr.at hlt
                have hfj : wr.frozen? ⟨w.heap.size, j, none⟩ = false := block_free hwr.head
                have hfa : wr.frozen? ⟨w.heap.size, a, none⟩ = false := block_free hwr.head
                go_wp2
                clear hea hzb
                obtain ⟨v1, hv1⟩ := cell?_setCell_some (w := wr) (p := ⟨w.heap.size, j, none⟩) (x := .slice (some ⟨σ a, 0, none⟩) (2 * n) (2 * n)) (q := ⟨w.heap.size, a, none⟩) (v := .slice (some ⟨σ a, 0, none⟩) (2 * n) (2 * n)) (by go_simp)
                go_region
                have q1 := block_set (o := j) hwr.head (hdr (2 * n) (σ a))
                have q2 := block_set (o := a) q1 (hdr (2 * n) (σ j))
                have hW2 : WR fb w.heap.size n ((wr.setCell ⟨w.heap.size, j, none⟩ (hdr (2 * n) (σ a))).setCell ⟨w.heap.size, a, none⟩ (hdr (2 * n) (σ j))).drew n (swpI σ j a) (swp M j a) :=
                  hwr.swap hlt halt q2 (fun t ht => by
                    show ((wr.setCell ⟨w.heap.size, j, none⟩ (hdr (2 * n) (σ a))).setCell ⟨w.heap.size, a, none⟩ (hdr (2 * n) (σ j))).heap[t]? = _
                    rw [Below.heap_setCell _ _ _ _ (show t ≠ w.heap.size from ht), Below.heap_setCell _ _ _ _ (show t ≠ w.heap.size from ht)])
                have hK2 : Keep fb w ((wr.setCell ⟨w.heap.size, j, none⟩ (hdr (2 * n) (σ a))).setCell ⟨w.heap.size, a, none⟩ (hdr (2 * n) (σ j))).drew :=
                  ((hk.set (o := j) (Nat.le_refl _) hgs _).set (o := a) (Nat.le_refl _) hgs _).drew
                unfold hdr at hW2 hK2
                generalize ((wr.setCell ⟨w.heap.size, j, none⟩ (.slice (some ⟨σ a, 0, none⟩) (2 * n) (2 * n))).setCell ⟨w.heap.size, a, none⟩ (.slice (some ⟨σ j, 0, none⟩) (2 * n) (2 * n))).drew = w2 at *
                clear hv1 q1 q2 hcj hfj hfa hca hwr hk
                have hcj := hW2.at hlt
                obtain ⟨hj1, hj2, hj3⟩ := hW2.row j hlt
                have hcjj := row_cell hj3 (show j < 2 * n by omega)
                have hsw : swp M j a j = M a := by simp [swp]
                rw [hsw] at hcjj
                have hpos := fpos HZ.out
                go_wp2_with fail
                refine (inv_pos fb (M a j).1 hpos (M a j).2 _ (hK2.field hf)).mono ?_
                rintro e w3 ⟨rfl, ha3⟩
                have hk3 := Keep.of_at ha3
                have hW3 := hW2.keep hgs hk3
                have hK3 := hK2.trans hk3
                clear hW2 hK2 ha3 hk3 hcj hcjj hj3
                have hcj := hW3.at hlt
                have hj2' := (hW3.row j hlt).2.1
                have hj3 := (hW3.row j hlt).2.2
                have hscale := scale_any fb (swpI σ j a j) (2 * n) (rowL (2 * n) (swp M j a j)) (by rw [rowL_length]; omega) (finv (M a j)) w3 (hK3.field hf) hj3 hj1
                rw [rowL_length] at hscale
                have HSC := Lib.hid hscale
                clear hscale
                go_wp2_with fail
                refine HSC.out.mono ?_
                rintro e w4 ⟨rfl, hr4, hk4⟩
                have hrow4 : (rowL (2 * n) (swp M j a j)).map (fun b => fmul b (finv (M a j))) = rowL (2 * n) (unit M j a) := by
                  rw [hsw]; unfold rowL; rw [List.map_map]; rfl
                rw [hrow4] at hr4
                have hW4 : WR fb w.heap.size n w4 n (swpI σ j a) (midM M j a 0) := hW3.turn hlt hgs hk4 (by rw [midM_j]; exact hr4) (fun i k _ hij => midM_ge hij (by omega) k)
                have hlj := block_lt hj3
                have hK4 := hK3.trans2 hk4 (Nat.le_of_lt hj2')
                clear hW3 hK3 hk4 hr4 hj3 hcj HSC hj2'
                go_wp2
                go_loopw [13, 108] (fun _ i wr => ∃ p : Nat, p ≤ n ∧ i = .int .i64 p ∧ Keep fb w wr ∧ WR fb w.heap.size n wr n (swpI σ j a) (midM M j a p)) (fun _ i _ => n - (intOf i).toNat)
                case atStart => exact ⟨0, by omega, rfl, hK4, hW4⟩
                case round =>
                  clear hK4 hW4
                  obtain ⟨p, hp, rfl, hk, hwr⟩ := hrel
                  by_cases hplt : p < n
                  · by_cases hpj : p = j
                    · go_wp2
                      refine ⟨⟨p + 1, by omega, by go_num, hk, hwr.congr fun i k _ => ?_⟩, by simp [intOf]; omega⟩
                      rw [hpj]; exact midM_skip i k
                    · have hcp := hwr.at hplt
                      have hcj := hwr.at hlt
                      obtain ⟨hp1, hp2, hp3⟩ := hwr.row p hplt
                      obtain ⟨hj1', hj2', hj3'⟩ := hwr.row j hlt
                      have hcpj := row_cell hp3 (show j < 2 * n by omega)
                      have hmp : rowL (2 * n) (midM M j a p p) = rowL (2 * n) (swp M j a p) := rowL_congr fun k _ => midM_ge hpj (Nat.le_refl _) k
                      rw [hmp] at hp3
                      rw [midM_j] at hj3'
                      rw [midM_ge hpj (Nat.le_refl _)] at hcpj
                      have hne := fun e => hpj (hwr.inj p j hplt hlt e)
                      have hT := take_any fb (swpI σ j a p) (swpI σ j a j) (2 * n) (2 * n) (rowL (2 * n) (swp M j a p)) (rowL (2 * n) (unit M j a)) (by rw [rowL_length]; omega) (by rw [rowL_length, rowL_length]) (swp M j a p j) wr.drew (hk.drew.field hf) hp3 hp1 hj3' hj1' (Ne.symm hne)
                      rw [rowL_length, rowL_length, took hpj] at hT
                      have HT := Lib.hid hT
                      clear hT
                      have hpji : ¬ (p : Int) = (j : Int) := by omega
                      have hj2n : (j : Int) < 2 * (n : Int) := by omega
                      go_wp2
                      go_region_law (first | (go_simp; go_at_call 32; refine HT.out.mono ?_; rintro e w5 ⟨rfl, hr5, hk5⟩))
                      all_goals
                        have hW5 : WR fb w.heap.size n w5 n (swpI σ j a) (midM M j a (p + 1)) := (hwr.keep hgs (Keep.refl fb wr).drew).turn hplt hgs hk5 hr5 (fun i k _ hip => midM_next hip k)
                        have hK5 := hk.drew.trans2 hk5 (Nat.le_of_lt hp2)
                        clear hwr hk hk5 hr5 HT hcp hcj hp3 hj3' hcpj
                        go_wp2
                        exact ⟨⟨p + 1, by omega, by go_num, hK5, hW5⟩, by simp [intOf]; omega⟩
                  · go_wp2
                    have epn : p = n := by omega
                    subst epn
                    exact ⟨⟨j + 1, swpI σ j a, stp M j a, by omega, by go_num, hk, hwr.congr fun i k hi => (midM_end hi k).symm, run_next hrun.out hlt HPV.out⟩, by simp [intOf]; omega⟩
            · have ea : a = n := by omega
              go_wp2
              go_ret2
              exact InvPost.no hrun.out hlt (pv_none.2 fun i h1 h2 => hall.out i h1 (by omega)) rfl hk
        · have ejn : j = n := by omega
          have HEJ := Lib.hid ejn
          clear ejn
          go_wp2
          obtain ⟨wo, rfl⟩ : ∃ wo : World, wo = wr := ⟨_, rfl⟩
          have hlo := block_lt hwr.head
          go_loopw [15, 137] (fun _ i wr => ∃ (p : Nat) (hs : List Value), p ≤ n ∧ i = .int .i64 p ∧ Keep fb wo wr ∧ Hid (hs.length = n) ∧ Hid (wr.heap[wo.heap.size]? = some (.cells (arrV hs) 37 (0, 0))) ∧ RowsRd fb wo.heap.size wr hs ((sq n fun i k => M i (n + k)).take p)) (fun _ i _ => n - (intOf i).toNat)
          case atStart => exact ⟨0, nils n, by omega, rfl, (Keep.refl fb wo).alloc _, nils_length n, heap_new _ _ _ rfl, RowsRd.nil _ _ _ _⟩
          case round =>
            obtain ⟨p, hs, hp, rfl, hk2, hsl, hsb, hri⟩ := hrel
            have hgo : wo.heap.size ≠ fb := by have := hk.size; omega
            by_cases hplt : p < n
            · have hW := hwr.keep hgs hk2
              have hcp := hW.at hplt
              obtain ⟨hp1, hp2, hp3⟩ := hW.row p hplt
              have hlg := block_lt hsb.out
              have HN : Hid (∀ (i : Nat) (u : Value), ((rowL n fun k => M p (n + k)).map B)[i]? = some u → wr.cell? ((⟨σ p, n, none⟩ : Addr).add i) = some u) := fun i u hi => by
                have : (⟨σ p, n, none⟩ : Addr).add i = ⟨σ p, n + i, none⟩ := by unfold Addr.add; split <;> simp_all
                rw [this]
                rw [List.getElem?_map] at hi
                have hin : i < n := by
                  rcases Nat.lt_or_ge i n with h1 | h1
                  · exact h1
                  · rw [List.getElem?_eq_none (by rw [rowL_length]; exact h1)] at hi; cases hi
                rw [rowL_at hin] at hi
                cases hi
                exact row_cell hp3 (by omega)
              clear hW hp3
              have hwe : (n : Int) ≤ 2 * (n : Int) := by omega
              have h2n : 2 * n - n = n := by omega
              have HL : Hid (((rowL n fun k => M p (n + k)).map B).length = n * 1) := by unfold Hid; rw [List.length_map, rowL_length, Nat.mul_one]
              have HO : Hid (∀ u ∈ (rowL n fun k => M p (n + k)).map B, u.oneCell' = true) := fun u hu => by
                obtain ⟨x, _, rfl⟩ := List.mem_map.1 hu; rfl
              obtain ⟨hv, hhv⟩ : ∃ v, hs[p]? = some v := ⟨_, List.getElem?_eq_getElem (by rw [hsl.out]; exact hplt)⟩
              have HV := Lib.hid hhv
              clear hhv
              go_wp2_with (at_builtin; refine Hid.out ?_)
              unfold Hid
              refine wpList_append_own _ rfl _ _ 37 rfl wr.heap.size 5 iB (.int .u8 0) 1 1 Try.underlying37 hiB hzB0 hzB1 hzB2 rfl (by decide) (.slice none 0 0) 0 [] rfl (World.ownsRow_nil _ _ _ _) ⟨σ p, n, none⟩ n n ((rowL n fun k => M p (n + k)).map B) ?c1 HL.out HN.out HO.out ?c5 ?c6 (Nat.le_refl _) ?_
              case c1 => rfl
              case c5 => unfold maxLen; omega
              case c6 => omega
              intro v1 w1 hown1 hgrow1 hnil1
              obtain ⟨g1, c1, rfl, hg1, hc1, hr1, hl1⟩ := own_row (fb := fb) (by rw [Nat.zero_add, List.nil_append] at hown1; exact hown1) (by omega) (by have := hk.size; have := hk2.size; omega)
              have hK1 := (Keep.refl fb wr).grown (by have := hk.size; have := hk2.size; omega) hgrow1 (fun k h => by simp [Value.ownBlock] at h)
              have hsb1 := (hK1.block _ hlg hgo).trans hsb.out
              have hc5 := (block_cell (o := p) hsb1).trans ((arrV_at _ _).trans HV.out)
              have hf5 := block_free (o := p) hsb1
              all_goals
                have hlen : ((sq n fun i k => M i (n + k)).take p).length = p := by rw [List.length_take, sq_length]; omega
                have ht : (sq n fun i k => M i (n + k)).take (p + 1) = (sq n fun i k => M i (n + k)).take p ++ [rowL n fun k => M p (n + k)] := take_snoc_map _ n p hplt
                have hri1 := ((hri.keep hK1).set (o := p) (.slice (some ⟨g1, 0, none⟩) (0 + n) c1)).snoc (l := rowL n fun k => M p (n + k)) (c := c1) (A := some ⟨g1, 0, none⟩) (by rw [hl1]; omega) (fun b hb => by cases hb; show g1 ≠ _; omega)
                  (RdV.set hr1 (fun b hb => by cases hb; show g1 ≠ _; omega) _) (by rw [hlen, hsl.out]; exact hplt)
                rw [hlen, ← ht, hl1] at hri1
                have hsb2 := block_set (o := p) hsb1 (.slice (some ⟨g1, 0, none⟩) (0 + n) c1)
                rw [arrV_set] at hsb2
                have hK2 := (hk2.trans hK1).set (o := p) (Nat.le_refl _) hgo (.slice (some ⟨g1, 0, none⟩) (0 + n) c1)
                clear hown1 hnil1 hgrow1 hri hK1 hsb hsb1 hr1
                simp only [Nat.zero_add] at hri1 hsb2 hK2
                go_wp2
                refine ⟨⟨p + 1, hs.set p (.slice (some ⟨g1, 0, none⟩) n c1), by omega, by go_num, hK2, ?_, hsb2, hri1⟩, by simp [intOf]; omega⟩
                unfold Hid; rw [List.length_set]; exact hsl.out
            · go_wp2
              go_ret2
              obtain rfl : p = n := by omega
              rw [List.take_of_length_le (by rw [sq_length]; exact Nat.le_refl _)] at hri
              refine InvPost.yes hrun.out HEJ.out ⟨wo.heap.size, rfl, hk.size, ?_, hk.trans hk2⟩
              exact hri.mat (by rw [hsl.out, sq_length]) hgo hsb.out
end Go.Proofs.Ytdeopklgdemnfaa
