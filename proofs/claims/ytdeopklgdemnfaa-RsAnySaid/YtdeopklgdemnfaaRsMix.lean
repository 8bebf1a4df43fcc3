/- The sum of parts, each times a factor. Condition: as many parts as factors at least, all of one length. -/
import Derived.Test.YtdeopklgdemnfaaRsMem
import Derived.Deep.RegionHeld3
import Derived.Deep.RegionLaw
import Derived.Deep.AppendLies
namespace Go.Proofs.Ytdeopklgdemnfaa
open Go.RowKit Gf Rs

/-- Byte i of the sum of the first j parts times their factors. -/
def mixAt (row : List F) (parts : List (List F)) (j i : Nat) : F := sm j (fun l => fmul (row.getD l fz) ((parts.getD l []).getD i fz))
def mixL (row : List F) (parts : List (List F)) (n : Nat) : List F := (List.range n).map (mixAt row parts row.length)
/-- Behind j whole parts and i bytes of the next one. -/
def midL (row : List F) (parts : List (List F)) (n j i : Nat) : List F := (List.range n).map fun k => if k < i then mixAt row parts (j + 1) k else mixAt row parts j k
theorem midL_length (row : List F) (parts : List (List F)) (n j i : Nat) : (midL row parts n j i).length = n := by simp [midL]
theorem midL_at {row : List F} {parts : List (List F)} {n j i k : Nat} (h : k < n) : (midL row parts n j i)[k]'(by simp [midL_length, h]) = if k < i then mixAt row parts (j + 1) k else mixAt row parts j k := by simp [midL]
theorem midL_zero (row : List F) (parts : List (List F)) (n : Nat) : midL row parts n 0 0 = List.replicate n fz := by
  apply List.ext_getElem
  · simp [midL]
  · intro k h1 h2
    simp [midL, mixAt, sm_zero]
theorem midL_next (row : List F) (parts : List (List F)) (n j : Nat) : midL row parts n j n = midL row parts n (j + 1) 0 := by
  apply List.ext_getElem
  · simp [midL]
  · intro k h1 h2
    simp only [midL, List.length_map, List.length_range] at h1
    simp [midL, h1]
theorem midL_end (row : List F) (parts : List (List F)) (n : Nat) : midL row parts n row.length 0 = mixL row parts n := by
  apply List.ext_getElem
  · simp [midL, mixL]
  · intro k h1 h2
    simp [midL, mixL]
theorem midL_set (row : List F) (parts : List (List F)) (n j i : Nat) :
    (midL row parts n j i).set i (fadd (mixAt row parts j i) (fmul (row.getD j fz) ((parts.getD j []).getD i fz))) = midL row parts n j (i + 1) := by
  apply List.ext_getElem
  · simp [midL]
  · intro k h1 h2
    rw [List.getElem_set]
    simp only [List.length_set, midL_length] at h1
    rw [midL_at h1, midL_at h1]
    by_cases e : i = k
    · subst e; rw [if_pos rfl, if_pos (by omega)]; exact (sm_succ _ _).symm
    · rw [if_neg e]
      by_cases e2 : k < i
      · rw [if_pos e2, if_pos (by omega)]
      · rw [if_neg e2, if_neg (by omega)]

theorem fmul_F (fb : Nat) (x y : F) (w : World) (hf : FieldIn fb w) :
    Calls Try.prog 8 #[.pointer (some ⟨fb, 0, none⟩), .int .u8 (x.1 : Int), .int .u8 (y.1 : Int)] w fun e w' => e = .returned (.int .u8 ((fmul x y).1 : Int)) ∧ Keep fb w w' :=
  (mul_any fb x.1 y.1 (by omega) (by have := x.2; omega) (by omega) (by have := y.2; omega) w hf).mono fun _ _ ⟨he, ha⟩ => ⟨by rw [he, Int.toNat_natCast, Int.toNat_natCast]; rfl, Keep.of_at ha⟩
theorem fadd_F (fb : Nat) (x y : F) (w : World) :
    Calls Try.prog 11 #[.pointer (some ⟨fb, 0, none⟩), .int .u8 (x.1 : Int), .int .u8 (y.1 : Int)] w fun e w' => e = .returned (.int .u8 ((fadd x y).1 : Int)) ∧ w = w' :=
  (add_any fb x.1 y.1 w).mono fun _ _ ⟨he, hw⟩ => ⟨by rw [he, u8_xor_nat _ _ x.2 y.2]; rfl, hw⟩

set_option maxRecDepth 100000 in
set_option maxHeartbeats 1600000 in
theorem mix_any (fb : Nat) (A1 A2 : Option Addr) (c1 c2 : Nat) (row : List F) (parts : List (List F)) (n : Nat) (hn : n ≤ 1048576) (hr : row.length ≤ 64) (hp : row.length ≤ parts.length)
    (hlen : ∀ j, j < row.length → (parts.getD j []).length = n) (w : World) (hf : FieldIn fb w) (h1 : RdB fb w A1 row) (h2 : RdM fb w A2 parts) :
    Calls Try.prog 28 #[.pointer (some ⟨fb, 0, none⟩), .slice A1 row.length c1, .slice A2 parts.length c2, .int .i64 n] w fun e w' =>
      e = .returned (.slice (some ⟨w.heap.size, 0, none⟩) n n) ∧ w'.heap[w.heap.size]? = some (.cells (arrB (mixL row parts n)) 5 (0, 0)) ∧ Keep fb w w' := by
  have hmk := run_makeB n hn
  have hfl := hf.lt
  go_enter Try.func28, Try.ntmps28
  go_wp2
  go_loopw [10, 11, 18] (fun _ _ i wr => ∃ j : Nat, j ≤ row.length ∧ i = .int .i64 j ∧ Keep fb w wr ∧ wr.heap[w.heap.size]? = some (.cells (arrB (midL row parts n j 0)) 5 (0, 0))) (fun _ _ i _ => row.length - (intOf i).toNat)
  case atStart => exact ⟨0, by omega, rfl, (Keep.refl fb w).alloc _, by rw [midL_zero]; exact heap_new _ _ _ rfl⟩
  case round =>
    obtain ⟨j, hj, rfl, hk, hs⟩ := hrel
    by_cases hlt : j < row.length
    · obtain ⟨b1, o1, rfl, hb1, hc1w⟩ := h1.at hlt
      obtain ⟨b2, o2, A3, c3, rfl, hb2, hc2w, hl3, h3⟩ := h2.at (i := j) (by omega)
      have hl : parts[j].length = n := by
        have := hlen j hlt
        rwa [List.getD_eq_getElem?_getD, List.getElem?_eq_getElem (show j < parts.length by omega)] at this
      have er : row.getD j fz = row[j] := by rw [List.getD_eq_getElem?_getD, List.getElem?_eq_getElem hlt]; rfl
      have ep : parts.getD j [] = parts[j] := by rw [List.getD_eq_getElem?_getD, List.getElem?_eq_getElem (show j < parts.length by omega)]; rfl
      rw [hl] at hc2w
      have hc1 := hk.cell hb1 hc1w
      have hc2 := hk.cell hb2 hc2w
      unfold B at hc1
      have HL := Lib.hid hl
      have ER := Lib.hid er
      have EP := Lib.hid ep
      clear hl er ep hc1w hc2w
      go_wp2
      obtain ⟨wo, rfl⟩ : ∃ wo : World, wo = wr := ⟨_, rfl⟩
      clear hc1 hc2
      go_loopw [12, 13, 28] (fun _ _ i wr => ∃ k : Nat, k ≤ n ∧ i = .int .i64 k ∧ Keep fb w wr ∧ wr.heap[w.heap.size]? = some (.cells (arrB (midL row parts n j k)) 5 (0, 0))) (fun _ _ i _ => n - (intOf i).toNat)
      case atStart => exact ⟨0, by omega, rfl, hk, hs⟩
      case round =>
        clear hk hs
        obtain ⟨k, hkn, rfl, hk, hs⟩ := hrel
        by_cases hlt2 : k < n
        · have hlt3 : k < parts[j].length := by rw [HL.out]; exact hlt2
          obtain ⟨b3, o3, rfl, hb3, hc3w⟩ := h3.at hlt3
          have hc3 := hk.cell hb3 hc3w
          unfold B at hc3
          clear hc3w
          have hcs : wr.cell? ⟨w.heap.size, k, none⟩ = some (.int .u8 ((mixAt row parts j k).1 : Int)) := by
            rw [block_cell hs, arrB_at, List.getElem?_eq_getElem (by rw [midL_length]; exact hlt2), midL_at hlt2, if_neg (by omega)]; rfl
          have hfs : wr.frozen? ⟨w.heap.size, k, none⟩ = false := block_free hs
          have hkd := hk.drew
          have hfi := hkd.field hf
          have hsd : wr.drew.heap[w.heap.size]? = some (.cells (arrB (midL row parts n j k)) 5 (0, 0)) := hs
          have hcd : wr.drew.cell? ⟨w.heap.size, k, none⟩ = some (.int .u8 ((mixAt row parts j k).1 : Int)) := hcs
          have hgs : w.heap.size ≠ fb := by omega
          have hlw := block_lt hs
          go_wp2
          go_region_law (first | (go_simp; go_at_call 8; refine (fmul_F fb row[j] parts[j][k] _ hfi).mono ?_; rintro e w5 ⟨rfl, hk5⟩; have hc5 := hk5.cell hgs hcd; have hs5 := (hk5.block _ hlw hgs).trans hsd; have hf5 := block_free (o := k) hs5) | (go_simp; go_at_call 11; refine (fadd_F fb (mixAt row parts j k) (fmul row[j] parts[j][k]) _).mono ?_; rintro e w6 ⟨rfl, rfl⟩))
          all_goals
            have hk6 := hkd.trans hk5
            clear hkd hk5 hsd hs hk hcs hfs hcd
            go_wp2
            refine ⟨⟨k + 1, by omega, by go_num, hk6.set (Nat.le_refl _) hgs _, ?_⟩, by simp [intOf]; omega⟩
            rw [← midL_set, ← arrB_set]
            rw [ER.out, EP.out, List.getD_eq_getElem?_getD, List.getElem?_eq_getElem hlt3]
            exact block_set hs5 _
        · go_wp2
          obtain rfl : k = n := by omega
          refine ⟨⟨j + 1, by omega, by go_num, hk, by rw [← midL_next]; exact hs⟩, by simp [intOf]; omega⟩
    · go_wp2
      obtain rfl : j = row.length := by omega
      go_ret
      exact ⟨rfl, by rw [← midL_end]; exact hs, hk⟩
end Go.Proofs.Ytdeopklgdemnfaa
