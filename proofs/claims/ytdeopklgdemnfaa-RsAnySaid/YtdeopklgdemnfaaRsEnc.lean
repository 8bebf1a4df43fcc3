/- All parts of data. Condition: such as a code can have; not too many parts, none too long. -/
import Derived.Test.YtdeopklgdemnfaaRsMade
namespace Go.Proofs.Ytdeopklgdemnfaa
open Go.RowKit Gf Rs

theorem infoBool : (Try.prog.info? 4).map (fun i => (i.zero, i.size, i.bytes)) = some (some (.bool false), 1, 1) := by kernel_rfl
/-- The first j of n flags are set. -/
def flagsA (n j : Nat) : List Value := (List.range n).map fun p => .bool (decide (p < j))
theorem flagsA_length (n j : Nat) : (flagsA n j).length = n := by simp [flagsA]
theorem flagsA_set (n j : Nat) : (flagsA n j).set j (.bool true) = flagsA n (j + 1) := by
  apply List.ext_getElem
  · simp [flagsA]
  · intro i h1 h2
    simp only [List.getElem_set, flagsA, List.getElem_map, List.getElem_range]
    by_cases e : j = i
    · subst e; simp
    · rw [if_neg e]; congr 1; simp; omega
theorem flagsA_at {n j : Nat} (h : j < n) : (flagsA n j)[j]? = some (.bool false) := by simp [flagsA, h]
theorem flagsA_all (n : Nat) : flagsA n n = (List.replicate n true).map Value.bool := by
  apply List.ext_getElem
  · simp [flagsA]
  · intro i h1 h2
    simp only [flagsA, List.length_map, List.length_range] at h1
    simp [flagsA, h1]
theorem run_makeBool (n : Nat) (hn : n ≤ 1048576) (w : World) : (Instr.makeSlice 38 (.int .i64 (n : Int)) (.int .i64 (n : Int))).run Try.prog w
    = .ok (.slice (some ⟨w.heap.size, 0, none⟩) n n) (w.alloc (.cells (arrV (flagsA n 0)) 4)) := by
  obtain ⟨i0, hi, hz0, hz1, hz2⟩ := info_parts infoBool
  have h := run_make (P := Try.prog) w 38 4 i0 (.bool false) Try.underlying38 hi hz0 .i64 .i64 n n (by omega) (by omega) (by rw [hz2]; omega) (by omega)
  rw [hz1] at h
  have e : madeCells #[.bool false] n = arrV (flagsA n 0) := by
    unfold arrV flagsA
    apply Array.toList_inj.1
    rw [toList_madeCells_one]
    simp [List.map_const']
  simpa [Value.cells, e] using h
/-- The rows of the one. -/
def idF (K : Nat) : List (List F) := (List.range K).map fun i => (List.range K).map (dl i)
theorem idF_length (K : Nat) : (idF K).length = K := by simp [idF]
theorem idF_row (K j : Nat) (hj : j < K) : ((idF K).getD j []).length = K := by
  rw [List.getD_eq_getElem?_getD, List.getElem?_eq_getElem (by rw [idF_length]; exact hj)]
  simp [idF]
theorem id_set (K j : Nat) : (List.replicate K fz).set j fo = (List.range K).map (dl j) := by
  apply List.ext_getElem
  · simp
  · intro k h1 h2
    simp [List.getElem_set, dl]
/-- The one's rows make the data anew. -/
theorem dataF_id {K n : Nat} {parts : List (List F)} (hp : parts.length = K) (hl : ∀ j, j < K → (parts.getD j []).length = n) : dataF K (idF K) parts n = parts := by
  apply List.ext_getElem
  · rw [dataF_length, hp]
  · intro j h1 h2
    rw [dataF_length] at h1
    have hj : (parts.getD j []) = parts[j] := by rw [List.getD_eq_getElem?_getD, List.getElem?_eq_getElem h2]; rfl
    have hjl := hl j h1
    rw [hj] at hjl
    have e1 : (idF K).getD j [] = (List.range K).map (dl j) := by
      rw [List.getD_eq_getElem?_getD, List.getElem?_eq_getElem (by rw [idF_length]; exact h1)]
      simp [idF]
    simp only [dataF, List.getElem_map, List.getElem_range]
    rw [e1]
    apply List.ext_getElem
    · rw [mixL_length, hjl]
    · intro i h3 h4
      rw [mixL_length] at h3
      simp only [mixL, List.getElem_map, List.getElem_range, mixAt, List.length_map, List.length_range]
      rw [sm_congr (g := fun l => fmul (dl j l) ((parts.getD l []).getD i fz)) fun l hl' => by rw [List.getD_eq_getElem?_getD, List.getElem?_eq_getElem (by simpa using hl')]; simp]
      rw [sm_dl h1 (fun l => (parts.getD l []).getD i fz), hj, List.getD_eq_getElem?_getD, List.getElem?_eq_getElem h4]; rfl

set_option maxRecDepth 100000 in
theorem encode_arg (cb K M fb : Nat) (A1 : Option Addr) (c1 n : Nat) (hn : n ≠ K) (w : World) (h : CodeAt cb K M fb w) :
    Calls Try.prog 16 #[.pointer (some ⟨cb, 0, none⟩), .slice A1 n c1] w fun e w' => e = .returned (.tuple #[.slice none 0 0, errN 1]) ∧ w = w' := by
  have h0 := h.c0
  have hb : ((n : Int) != (K : Int)) = true := by simp; omega
  go_enter Try.func16, Try.ntmps16
  go_wp2
  go_ret2
  exact ⟨rfl, rfl⟩
set_option maxRecDepth 100000 in
theorem encode_nil (A1 : Option Addr) (n c1 : Nat) (w : World) : Calls Try.prog 16 #[.pointer none, .slice A1 n c1] w fun e w' => e = .returned (.tuple #[.slice none 0 0, errN 1]) ∧ w = w' := by
  go_enter Try.func16, Try.ntmps16
  go_wp2
  go_ret2
  exact ⟨rfl, rfl⟩
/-- What Encode answers: the parts, or the error that they are not of one length. -/
def EncPost (fb : Nat) (w : World) (K M : Nat) (ls : List (List F)) (e : Ending) (w' : World) : Prop :=
  match evF (-1) (evZ ls (List.replicate K true)) with
  | some n => MatPost fb w (K + M) (outF K (K + M) ls n.toNat) e w'
  | none => e = .returned (.tuple #[.slice none 0 0, errN 2]) ∧ Keep fb w w'
theorem evF_all {ls : List (List F)} : ∀ (K : Nat) (m n : Int), ls.length = K → evF m (evZ ls (List.replicate K true)) = some n → (0 ≤ m → n = m) ∧ ∀ (i : Nat) (l : List F), ls[i]? = some l → (l.length : Int) = n := by
  induction ls with
  | nil => intro K m n hK h; simp [evZ, evF] at h; exact ⟨fun _ => h.symm, fun i l hi => by simp at hi⟩
  | cons a ls ih =>
    intro K m n hK h
    cases K with
    | zero => simp at hK
    | succ K =>
      simp only [evZ, List.map_cons, List.replicate_succ, List.zip_cons_cons, evF, if_true] at h
      by_cases hm : m < 0
      · rw [if_pos hm] at h
        obtain ⟨h1, h2⟩ := ih K _ n (by simpa using hK) h
        refine ⟨fun h0 => by omega, fun i l hi => ?_⟩
        cases i with
        | zero => simp at hi; subst hi; exact (h1 (by omega)).symm
        | succ i => exact h2 i l (by simpa using hi)
      · rw [if_neg hm] at h
        by_cases he : m = (a.length : Int)
        · rw [if_pos he] at h
          obtain ⟨h1, h2⟩ := ih K _ n (by simpa using hK) h
          refine ⟨h1, fun i l hi => ?_⟩
          cases i with
          | zero => simp at hi; subst hi; rw [← he]; exact (h1 (by omega)).symm
          | succ i => exact h2 i l (by simpa using hi)
        · rw [if_neg he] at h; cases h
set_option maxRecDepth 100000 in
set_option maxHeartbeats 1600000 in
theorem encode_any (cb K M fb : Nat) (hK : 1 ≤ K) (hs0 : K + M ≤ 32) (A1 : Option Addr) (c1 : Nat) (ls : List (List F)) (hl : ls.length = K) (hlen : ∀ (i : Nat) (l : List F), ls[i]? = some l → l.length ≤ 1048576) (w : World) (h : CodeAt cb K M fb w) (h1 : RdM fb w A1 ls) :
    Calls Try.prog 16 #[.pointer (some ⟨cb, 0, none⟩), .slice A1 K c1] w (EncPost fb w K M ls) := by
  have h0 := h.c0
  have hmk1 := run_makeBool K (by omega)
  have hmk2 := run_makeBS K (by omega)
  have hmk3 := run_makeB K (by omega)
  have hfl := h.2.2.lt
  have HL := Lib.hid hl
  have HLEN := Lib.hid hlen
  clear hl hlen
  go_enter Try.func16, Try.ntmps16
  go_wp2
  go_loopw [8, 31] (fun _ i wr => ∃ (j : Nat) (hs : List Value), j ≤ K ∧ i = .int .i64 j ∧ Keep fb w wr ∧ Hid (hs.length = K) ∧ Hid (wr.heap[w.heap.size]? = some (.cells (arrV (flagsA K j)) 4 (0, 0))) ∧ Hid (wr.heap[w.heap.size + 1]? = some (.cells (arrV hs) 37 (0, 0))) ∧ RowsIn fb wr hs ((idF K).take j)) (fun _ i _ => K - (intOf i).toNat)
  case atStart => exact ⟨0, nils K, by omega, rfl, ((Keep.refl fb w).alloc _).alloc _, nils_length K, (Below.heap_alloc _ _ _ (by simp)).trans (heap_new _ _ _ rfl), heap_new _ _ _ (by simp), RowsIn.nil _ _ _⟩
  case round =>
    obtain ⟨j, hs, hj, rfl, hk, hsl, hg1, hg2, hri⟩ := hrel
    by_cases hlt : j < K
    · obtain ⟨hv, hhv⟩ : ∃ v, hs[j]? = some v := ⟨_, List.getElem?_eq_getElem (by rw [hsl.out]; exact hlt)⟩
      have hc1 : wr.cell? ⟨w.heap.size, j, none⟩ = some (.bool false) := (block_cell hg1.out).trans ((arrV_at _ _).trans (flagsA_at hlt))
      have hf1 : wr.frozen? ⟨w.heap.size, j, none⟩ = false := block_free hg1.out
      have hc2 : wr.cell? ⟨w.heap.size + 1, j, none⟩ = some hv := (block_cell hg2.out).trans ((arrV_at _ _).trans hhv)
      have hf2 : wr.frozen? ⟨w.heap.size + 1, j, none⟩ = false := block_free hg2.out
      have hzz : (arrB (List.replicate K fz))[j]? = some (B fz) := by rw [arrB_at]; simp [hlt]
      have hl2 := block_lt hg2.out
      have HV := Lib.hid hhv
      clear hhv
      have hl1 := block_lt hg1.out
      have hn1 : w.heap.size ≠ fb := by omega
      have hn2 : w.heap.size + 1 ≠ fb := by omega
      have hn3 : wr.heap.size ≠ fb := by omega
      have q1 := block_set (o := j) hg1.out (.bool true)
      have q2 : (wr.setCell ⟨w.heap.size, j, none⟩ (.bool true)).heap[w.heap.size + 1]? = some (.cells (arrV hs) 37 (0, 0)) := (Below.heap_setCell _ _ _ _ (show w.heap.size + 1 ≠ w.heap.size by omega)).trans hg2.out
      have q3 := block_set (o := j) q2 (.slice (some ⟨wr.heap.size, 0, none⟩) K K)
      have r1 := hri.set (o := j) hg1.out (by decide) (.bool true)
      have r2 := r1.set (o := j) q2 (by decide) (.slice (some ⟨wr.heap.size, 0, none⟩) K K)
      have k1 := hk.set (o := j) (Nat.le_refl _) hn1 (.bool true)
      have k2 := k1.set (o := j) (Nat.le_succ _) hn2 (.slice (some ⟨wr.heap.size, 0, none⟩) K K)
      have q4 := (Below.heap_setCell (wr.setCell ⟨w.heap.size, j, none⟩ (.bool true)) ⟨w.heap.size + 1, j, none⟩ (.slice (some ⟨wr.heap.size, 0, none⟩) K K) w.heap.size (show w.heap.size ≠ w.heap.size + 1 by omega)).trans q1
      have hz2 : ((wr.setCell ⟨w.heap.size, j, none⟩ (.bool true)).setCell ⟨w.heap.size + 1, j, none⟩ (.slice (some ⟨wr.heap.size, 0, none⟩) K K)).heap.size = wr.heap.size := by simp [World.setCell]
      have Q1 := Lib.hid q1
      have Q3 := Lib.hid q3
      have Q4 := Lib.hid q4
      have HZ2 := Lib.hid hz2
      clear q1 q2 q3 q4 hz2
      go_wp2
      refine ⟨⟨j + 1, hs.set j (.slice (some ⟨wr.heap.size, 0, none⟩) K K), by omega, by go_num, k2.alloc _, by unfold Hid; rw [List.length_set]; exact hsl.out, ?_, ?_, ?_⟩, by simp [intOf]; omega⟩
      · rw [← flagsA_set, ← arrV_set]
        exact (Below.heap_alloc _ _ _ (by rw [HZ2.out]; exact hl1)).trans Q4.out
      · rw [← arrV_set]
        exact (Below.heap_alloc _ _ _ (by rw [HZ2.out]; exact hl2)).trans Q3.out
      · have ht : (idF K).take (j + 1) = (idF K).take j ++ [(List.range K).map (dl j)] := by
          unfold idF; rw [take_snoc_map _ K j hlt]
        have hlen5 : ((idF K).take j).length = j := by simp [idF]; omega
        have := (r2.keep ((Keep.refl fb _).alloc (.cells ((arrB (List.replicate K fz)).setIfInBounds j (.int .u8 1)) 5))).snoc (s := wr.heap.size) (l := (List.range K).map (dl j)) hn3
          (by rw [show (Value.int .u8 1) = B fo from rfl, arrB_set, id_set]; exact heap_new _ _ _ HZ2.out.symm) (by rw [hlen5, hsl.out]; exact hlt)
        rw [hlen5] at this
        rw [ht]
        simpa using this
    · go_wp2_with fail
      obtain rfl : K = j := by omega
      have hn1 : w.heap.size ≠ fb := by omega
      have hn2 : w.heap.size + 1 ≠ fb := by omega
      have hk' := hk
      have hb := RdV.whole (T := 4) (vs := flagsA K K) hg1.out hn1
      rw [flagsA_all] at hb
      have heven := even_any fb A1 (some ⟨w.heap.size, 0, none⟩) c1 K ls (List.replicate K true) (by rw [HL.out]; omega) HLEN.out (by rw [HL.out]; simp) wr (h1.keep hk) hb
      rw [HL.out, List.length_replicate] at heven
      refine heven.mono ?_
      rintro e w' ⟨rfl, rfl⟩
      cases hev : evF (-1) (evZ ls (List.replicate K true)) with
      | none =>
        have HE := Lib.hid hev
        clear hev
        unfold evRes errN
        go_wp2
        go_ret2
        unfold EncPost
        rw [HE.out]
        exact ⟨rfl, hk⟩
      | some n =>
        have HE := Lib.hid hev
        have hev' := hev
        clear hev
        unfold evRes
        have hal := (evF_all K _ _ HL.out hev').2
        have h0l : 0 < ls.length := by rw [HL.out]; omega
        have h00 := hal 0 ls[0] (List.getElem?_eq_getElem h0l)
        obtain ⟨N, rfl⟩ : ∃ N : Nat, n = N := ⟨_, h00.symm⟩
        have hlenN : ∀ j, j < K → (ls.getD j []).length = N := by
          intro i hi
          have hi2 : i < ls.length := by rw [HL.out]; exact hi
          have := hal i ls[i] (List.getElem?_eq_getElem hi2)
          rw [List.getD_eq_getElem?_getD, List.getElem?_eq_getElem hi2]
          exact Int.ofNat_inj.1 this
        have hN : N ≤ 1048576 := by
          have := HLEN.out 0 ls[0] (List.getElem?_eq_getElem h0l)
          omega
        have hid : RdM fb wr (some ⟨w.heap.size + 1, 0, none⟩) (idF K) := by
          refine RowsIn.mat (hs := hs) ?_ (by rw [hsl.out, idF_length]) hn2 hg2.out
          rwa [List.take_of_length_le (by rw [idF_length]; exact Nat.le_refl _)] at hri
        have hmade := rsmade_any cb K M fb hK hs0 A1 (some ⟨w.heap.size + 1, 0, none⟩) c1 K ls (idF K) N hN HL.out (idF_length K) hlenN (fun i hi => idF_row K i hi) wr (h.keep hk) (h1.keep hk) hid
        rw [HL.out, idF_length, dataF_id HL.out hlenN] at hmade
        have HM := Lib.hid hmade
        clear hmade hal h00 hev' heven
        have HLN := Lib.hid hlenN
        clear hlenN
        go_wp2_with fail
        refine HM.out.mono ?_
        rintro e w5 ⟨g, rfl, hge, hmat, hk5⟩
        go_wp2
        go_ret2
        unfold EncPost
        rw [HE.out]
        exact ⟨g, rfl, Nat.le_trans hk.size hge, hmat, hk.trans hk5⟩
end Go.Proofs.Ytdeopklgdemnfaa
