/- A code in memory: made, its numbers, a row of it. Condition: the numbers of parts are such as a code can have. -/
import Derived.Test.YtdeopklgdemnfaaRsMix
namespace Go.Proofs.Ytdeopklgdemnfaa
open Go.RowKit Gf Rs

def errN (n : Int) : Value := .iface 67 (.int .i64 n)
/-- A code's block. -/
def CodeAt (cb K M fb : Nat) (w : World) : Prop := w.heap[cb]? = some (.cells #[.int .i64 K, .int .i64 M, .pointer (some ⟨fb, 0, none⟩)] 69 (0, 0)) ∧ cb ≠ fb ∧ FieldIn fb w
theorem CodeAt.keep {cb K M fb : Nat} {w w' : World} (h : CodeAt cb K M fb w) (k : Keep fb w w') : CodeAt cb K M fb w' :=
  ⟨(k.block cb (block_lt h.1) h.2.1).trans h.1, h.2.1, k.field h.2.2⟩
theorem CodeAt.c0 {cb K M fb : Nat} {w : World} (h : CodeAt cb K M fb w) : w.cell? ⟨cb, 0, none⟩ = some (.int .i64 K) := block_cell h.1
theorem CodeAt.c1 {cb K M fb : Nat} {w : World} (h : CodeAt cb K M fb w) : w.cell? ⟨cb, 1, none⟩ = some (.int .i64 M) := block_cell h.1
theorem CodeAt.c2 {cb K M fb : Nat} {w : World} (h : CodeAt cb K M fb w) : w.cell? ⟨cb, 2, none⟩ = some (.pointer (some ⟨fb, 0, none⟩)) := block_cell h.1

set_option maxRecDepth 100000 in
theorem data_any (cb K M fb : Nat) (w : World) (h : CodeAt cb K M fb w) : Calls Try.prog 29 #[.pointer (some ⟨cb, 0, none⟩)] w fun e w' => e = .returned (.int .i64 K) ∧ w = w' := by
  have h0 := h.c0
  go_enter Try.func29, Try.ntmps29
  go_wp2
  go_ret
  exact ⟨rfl, rfl⟩
set_option maxRecDepth 100000 in
theorem parity_any (cb K M fb : Nat) (w : World) (h : CodeAt cb K M fb w) : Calls Try.prog 30 #[.pointer (some ⟨cb, 0, none⟩)] w fun e w' => e = .returned (.int .i64 M) ∧ w = w' := by
  have h0 := h.c1
  go_enter Try.func30, Try.ntmps30
  go_wp2
  go_ret
  exact ⟨rfl, rfl⟩
set_option maxRecDepth 100000 in
theorem all_any (cb K M fb : Nat) (hs : K + M ≤ 32) (w : World) (h : CodeAt cb K M fb w) : Calls Try.prog 24 #[.pointer (some ⟨cb, 0, none⟩)] w fun e w' => e = .returned (.int .i64 (K + M : Nat)) ∧ w = w' := by
  go_enter Try.func24, Try.ntmps24
  go_wp2_with (first | (go_at_call 29; refine (data_any cb K M fb _ h).mono ?_; rintro e w' ⟨rfl, rfl⟩) | (go_at_call 30; refine (parity_any cb K M fb _ h).mono ?_; rintro e w' ⟨rfl, rfl⟩))
  go_ret
  exact ⟨by simp, rfl⟩
set_option maxRecDepth 100000 in
theorem new_bad (k m : Int) (h : k < 1 ∨ m < 0 ∨ 32 < k ∨ 32 - k < m) (w : World) : Calls Try.prog 14 #[.int .i64 k, .int .i64 m] w fun e w' => e = .returned (.tuple #[.pointer none, errN 1]) ∧ w = w' := by
  by_cases h1 : k < 1
  · go_enter Try.func14, Try.ntmps14
    go_wp2
    go_ret2
    exact ⟨rfl, rfl⟩
  by_cases h2 : m < 0
  · go_enter Try.func14, Try.ntmps14
    go_wp2
    go_ret2
    exact ⟨rfl, rfl⟩
  by_cases h3 : 32 < k
  · go_enter Try.func14, Try.ntmps14
    go_wp2
    go_ret2
    exact ⟨rfl, rfl⟩
  have h4 : 32 - k < m := by omega
  go_enter Try.func14, Try.ntmps14
  go_wp2
  go_ret2
  exact ⟨rfl, rfl⟩
set_option maxRecDepth 100000 in
theorem new_good (K M : Nat) (h1 : 1 ≤ K) (h2 : K + M ≤ 32) (w : World) : Calls Try.prog 14 #[.int .i64 K, .int .i64 M] w fun e w' =>
    e = .returned (.tuple #[.pointer (some ⟨w.heap.size + 1, 0, none⟩), .nilIface]) ∧ CodeAt (w.heap.size + 1) K M w.heap.size w' ∧ Below w.heap.size w w' ∧ w'.heap.size = w.heap.size + 2 := by
  go_enter Try.func14, Try.ntmps14
  go_wp2_with (go_at_call 7; refine (new_any _).mono ?_; rintro e w' ⟨rfl, rfl⟩)
  go_ret2
  refine ⟨rfl, ⟨heap_new _ _ _ (by simp), by omega, ?_⟩, ((Below.refl _ _).alloc (Nat.le_refl _) _).alloc (by simp) _, by simp⟩
  have := newField w
  unfold FieldIn at *
  rw [Below.heap_alloc _ _ _ (by simp)]; exact this

/-- Row i of a code of K parts of data. -/
def ofN (x : Nat) : F := ⟨x % 256, Nat.mod_lt _ (by decide)⟩
def rowF (K i : Nat) : List F := if i < K then (List.range K).map (dl i) else (List.range K).map fun j => finv (ofN (i ^^^ j))
theorem rowF_length (K i : Nat) : (rowF K i).length = K := by unfold rowF; split <;> simp
theorem xor_pos {i j : Nat} (h : i ≠ j) : i ^^^ j ≠ 0 := fun e => h (by
  have := congrArg (· ^^^ j) e
  simpa [Nat.xor_assoc] using this)
set_option maxRecDepth 100000 in
set_option maxHeartbeats 800000 in
theorem row_bad (cb K M fb : Nat) (hs : K + M ≤ 32) (i : Int) (hi : i < 0 ∨ (K + M : Nat) ≤ i) (w : World) (h : CodeAt cb K M fb w) :
    Calls Try.prog 21 #[.pointer (some ⟨cb, 0, none⟩), .int .i64 i] w fun e w' => e = .returned (.tuple #[.slice none 0 0, errN 1]) ∧ w = w' := by
  by_cases h1 : i < 0
  · go_enter Try.func21, Try.ntmps21
    go_wp2
    go_ret2
    exact ⟨rfl, rfl⟩
  · have h2 : ((K + M : Nat) : Int) ≤ i := by omega
    go_enter Try.func21, Try.ntmps21
    go_wp2_with (go_at_call 24; refine (all_any cb K M fb hs _ h).mono ?_; rintro e w' ⟨rfl, rfl⟩)
    go_ret2
    exact ⟨rfl, rfl⟩
set_option maxRecDepth 100000 in
set_option maxHeartbeats 800000 in
theorem row_good (cb K M fb : Nat) (hs : K + M ≤ 32) (i : Nat) (hi : i < K + M) (w : World) (h : CodeAt cb K M fb w) :
    Calls Try.prog 21 #[.pointer (some ⟨cb, 0, none⟩), .int .i64 i] w fun e w' => e = .returned (.tuple #[.slice (some ⟨w.heap.size, 0, none⟩) K K, .nilIface]) ∧
      w'.heap[w.heap.size]? = some (.cells (arrB (rowF K i)) 5 (0, 0)) ∧ Keep fb w w' := by
  have hmk := run_makeB K (by omega)
  have h0 := h.c0
  have h2 := h.c2
  have hcl := block_lt h.1
  have hfl := h.2.2.lt
  go_enter Try.func21, Try.ntmps21
  go_wp2_with fail
  refine (all_any cb K M fb hs _ h).mono ?_
  rintro e w' ⟨rfl, rfl⟩
  have hi2 : (i : Int) < ((K + M : Nat) : Int) := by omega
  by_cases hlt : i < K
  · have hz : (arrB (List.replicate K fz))[i]? = some (B fz) := by rw [arrB_at]; simp [hlt]
    have HZ : rowF K i = (List.replicate K fz).set i fo := by
      unfold rowF; rw [if_pos hlt]
      apply List.ext_getElem
      · simp
      · intro k h1 h2
        simp [List.getElem_set, dl]
    have HZ' := Lib.hid HZ
    clear HZ
    go_wp2
    go_ret2
    refine ⟨rfl, ?_, (Keep.refl fb w).alloc _⟩
    rw [HZ'.out, ← arrB_set]
    exact heap_new _ _ _ rfl
  · go_wp2
    go_loopw [7, 8, 9, 36] (fun _ _ _ k wr => ∃ j : Nat, j ≤ K ∧ k = .int .i64 j ∧ Keep fb w wr ∧ wr.heap[w.heap.size]? = some (.cells (arrB ((List.range K).map fun p => if p < j then finv (ofN (i ^^^ p)) else fz)) 5 (0, 0))) (fun _ _ _ k _ => K - (intOf k).toNat)
    case atStart => exact ⟨0, by omega, rfl, (Keep.refl fb w).alloc _, by
      rw [show (List.range K).map (fun p => if p < 0 then finv (ofN (i ^^^ p)) else fz) = List.replicate K fz by simp [List.map_const']]
      exact heap_new _ _ _ rfl⟩
    case round =>
      obtain ⟨j, hj, rfl, hk, hsb⟩ := hrel
      have h2r := (h.keep hk).c2
      by_cases hlt2 : j < K
      · have hx : i ^^^ j < 256 := xor_lt (by omega) (by omega)
        have hx0 : 0 < (ofN (i ^^^ j)).1 := by
          have := xor_pos (show i ≠ j by omega)
          simp only [ofN]; omega
        have hgs : w.heap.size ≠ fb := by omega
        have hlw := block_lt hsb
        go_wp2_with fail
        rw [show (bits .xor .i64 (i : Int) (j : Int) % 256) = (((ofN (i ^^^ j)).1 : Nat) : Int) by
          rw [i64_xor_nat i j (by omega) (by omega)]; simp [ofN]]
        refine (inv_pos fb _ hx0 (ofN (i ^^^ j)).2 _ (hk.field h.2.2)).mono ?_
        rintro e w5 ⟨rfl, ha⟩
        have hk5 := Keep.of_at ha
        have hs5 := (hk5.block _ hlw hgs).trans hsb
        have hc5 : w5.cell? ⟨w.heap.size, j, none⟩ = some (B fz) := by
          rw [block_cell hs5, arrB_at]; simp [hlt2]
        have hf5 : w5.frozen? ⟨w.heap.size, j, none⟩ = false := block_free hs5
        have hk6 := hk.trans hk5
        clear hk hk5 ha hsb h2r
        go_wp2
        refine ⟨⟨j + 1, by omega, by go_num, hk6.set (Nat.le_refl _) hgs _, ?_⟩, by simp [intOf]; omega⟩
        have e1 := block_set (o := j) hs5 (B (finv (ofN (i ^^^ j))))
        rw [arrB_set] at e1
        refine e1.trans ?_
        congr 3
        apply List.ext_getElem
        · simp
        · intro p h1 h2
          simp only [List.getElem_set, List.getElem_map, List.getElem_range]
          by_cases e : j = p
          · subst e; rw [if_pos rfl, if_pos (by omega)]
          · rw [if_neg e]
            by_cases e2 : p < j
            · rw [if_pos e2, if_pos (by omega)]
            · rw [if_neg e2, if_neg (by omega)]
      · go_wp2
        obtain rfl : j = K := by omega
        go_ret2
        refine ⟨rfl, ?_, hk⟩
        rw [hsb]; unfold rowF; rw [if_neg hlt]
        congr 3
        apply List.map_congr_left
        intro p hp
        rw [if_pos (List.mem_range.1 hp)]
end Go.Proofs.Ytdeopklgdemnfaa
