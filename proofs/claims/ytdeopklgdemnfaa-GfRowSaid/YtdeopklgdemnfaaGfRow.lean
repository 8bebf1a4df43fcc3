/- The walk of the law on the products of a number with all numbers. No condition but that the number is a byte. -/
import Derived.Test.YtdeopklgdemnfaaGfField
namespace Go.Proofs.Ytdeopklgdemnfaa
open Go.RowKit Gf

/-- How many of the first k numbers have the product j with X. -/
def cn (X : Nat) : Nat → Nat → Nat
  | 0, _ => 0
  | k + 1, j => cn X k j + if gm X k = j then 1 else 0
theorem cn_le (X k j : Nat) : cn X k j ≤ k := by
  induction k with
  | zero => exact Nat.le_refl _
  | succ k ih => unfold cn; split <;> omega
theorem cn_zero (k : Nat) : cn 0 k 0 = k := by
  induction k with
  | zero => rfl
  | succ k ih => unfold cn; rw [if_pos (gm_zero_left k), ih]
theorem cn_one {X j : Nat} (hX0 : 0 < X) (hX : X < 256) (hj : j < 256) (k : Nat) (hk : k ≤ 256) : cn X k j = if gm (gi X) j < k then 1 else 0 := by
  induction k with
  | zero => rfl
  | succ k ih =>
    unfold cn
    rw [ih (by omega)]
    have e : gm X k = j ↔ gm (gi X) j = k := by
      constructor
      · rintro rfl; rw [gm_assoc, gm_comm (gi X), gm_gi hX0 hX, one_gm k (by omega)]
      · intro h; rw [← h, gm_assoc, gm_gi hX0 hX, one_gm j hj]
    by_cases h : gm X k = j
    · rw [if_pos h, e.1 h, if_neg (by omega), if_pos (by omega)]
    · rw [if_neg h]
      have : gm (gi X) j ≠ k := fun h' => h (e.2 h')
      by_cases h2 : gm (gi X) j < k
      · rw [if_pos h2, if_pos (by omega)]
      · rw [if_neg h2, if_neg (by omega)]
def seenA (X k : Nat) : Array Value := Array.ofFn (n := 256) fun j => .int .i64 (cn X k j.1)
theorem seenA_at (X k j : Nat) (hj : j < 256) : (seenA X k)[j]? = some (.int .i64 (cn X k j)) := by
  simp [seenA, hj]
theorem seenA_set (X k : Nat) : (seenA X k).setIfInBounds (gm X k) (.int .i64 (cn X k (gm X k) + 1 : Int)) = seenA X (k + 1) := by
  apply Array.ext
  · simp [seenA]
  · intro i h1 h2
    have h3 : i < (seenA X k).size := by simpa [seenA] using h2
    rw [Array.getElem_setIfInBounds h3]
    simp only [seenA, Array.getElem_ofFn, cn]
    split <;> simp_all
def seen0 : Array Value := Array.replicate 256 (.int .i64 0)
theorem seen0_eq (X : Nat) : seen0 = seenA X 0 := by
  apply Array.ext
  · simp [seen0, seenA]
  · intro i h1 h2
    simp [seen0, seenA, cn]
theorem zeroSeen (w : World) : (zeroValue 24).run Try.prog w = .ok (.agg seen0) w := by kernel_rfl
theorem heap_alloc_new (w : World) (o : Obj) (n : Nat) (h : n = w.heap.size) : (w.alloc o).heap[n]? = some o := by
  subst h; exact Array.getElem?_push_size
/-- The worlds of the loops: the field in block b, the counts in block b + 1. -/
def RowIn (b X k : Nat) (W v : World) : Prop := FW b W v ∧ b + 1 < v.heap.size ∧ v.heap[b + 1]? = some (.cells (seenA X k) 24 (0, 0))
theorem RowIn.cell {b X k : Nat} {W v : World} (h : RowIn b X k W v) (j : Nat) (hj : j < 256) : v.cell? ⟨b + 1, j, none⟩ = some (.int .i64 (cn X k j)) := by
  simp [World.cell?, h.2.2, seenA_at X k j hj]
theorem RowIn.free {b X k : Nat} {W v : World} (h : RowIn b X k W v) (j : Nat) : v.frozen? ⟨b + 1, j, none⟩ = false := by
  simp [World.frozen?, h.2.2]
theorem RowIn.at {b X k : Nat} {W v v' : World} (h : RowIn b X k W v) (a : At b madeF 66 v v') : RowIn b X k W v' :=
  ⟨h.1.at a, by rw [a.size]; exact h.2.1, by rw [a.other _ (by omega)]; exact h.2.2⟩
theorem RowIn.count {b X k : Nat} {W v : World} (h : RowIn b X k W v) : RowIn b X (k + 1) W (v.setCell ⟨b + 1, gm X k, none⟩ (.int .i64 (cn X k (gm X k) + 1 : Int))) := by
  have hb : FieldIn b (v.setCell ⟨b + 1, gm X k, none⟩ (.int .i64 (cn X k (gm X k) + 1 : Int))) := by
    have e := Below.heap_setCell v ⟨b + 1, gm X k, none⟩ (.int .i64 (cn X k (gm X k) + 1 : Int)) b (by simp)
    unfold FieldIn; rw [e]; exact h.1.1
  refine ⟨⟨hb, h.1.2.1.setCell (by simp) _, ?_⟩, ?_, ?_⟩
  · simp [World.setCell]; exact h.1.2.2
  · simp [World.setCell]; exact h.2.1
  · simp only [World.setCell, Array.getElem?_modify, if_true, h.2.2, Option.map_some]
    simp [seenA_set]

set_option maxRecDepth 100000 in
set_option maxHeartbeats 1600000 in
theorem row_nat (X : Nat) (hX : X < 256) (W : World) :
    Calls Try.prog 3 #[.int .u8 (X : Int)] W (FieldEnd W) := by
  have h := FW.new W
  have hz := zeroSeen
  have hr : RowIn W.heap.size X 0 W ((W.alloc (.cells freshF 66)).alloc (.cells seen0 24)) := by
    refine ⟨⟨?_, h.2.1.alloc (by simp) _, by simp; omega⟩, by simp, ?_⟩
    · have := h.1
      unfold FieldIn at *
      rw [Below.heap_alloc _ _ _ (by simp)]; exact this
    · rw [seen0_eq X]
      exact heap_alloc_new _ _ _ (by simp)
  clear h
  go_enter Try.func3, Try.ntmps3
  go_wp2_with (go_at_call 7; refine (new_any _).mono ?_; rintro e w1 ⟨rfl, rfl⟩)
  go_loopw [5] (fun i wr => ∃ k : Nat, k ≤ 256 ∧ i = .int .i64 k ∧ RowIn W.heap.size X k W wr) (fun i _ => 256 - (intOf i).toNat)
  case atStart => exact ⟨0, by omega, rfl, hr⟩
  case round =>
    clear hr
    obtain ⟨k, hk, rfl, hr⟩ := hrel
    by_cases hlt : k < 256
    · have hg := gm_lt X k
      go_wp2_with fail
      refine (mul_any W.heap.size X k (by omega) (by omega) (by omega) (by omega) _ hr.1.1).mono ?_
      rintro e v ⟨rfl, a⟩
      have hr2 := hr.at a
      clear hr
      rw [Int.toNat_natCast, Int.toNat_natCast]
      go_wp2_with fail
      refine (rmul_nat X k hX hlt _).mono ?_
      rintro e v2 ⟨rfl, rfl⟩
      have hc := hr2.cell (gm X k) hg
      have hf := hr2.free (gm X k)
      have hle := cn_le X k (gm X k)
      go_wp2
      refine ⟨⟨k + 1, by omega, by go_num, hr2.count⟩, by simp [intOf]; omega⟩
    · have hk2 : k = 256 := by omega
      go_wp2
      subst hk2
      go_loopw [7] (fun i wr => ∃ k : Nat, k ≤ 256 ∧ i = .int .i64 k ∧ RowIn W.heap.size X 256 W wr) (fun i _ => 256 - (intOf i).toNat)
      case atStart => exact ⟨0, by omega, rfl, hr⟩
      case round =>
        clear hr
        obtain ⟨k, hk, rfl, hr⟩ := hrel
        by_cases hlt : k < 256
        · have hc := hr.cell k hlt
          rcases Nat.eq_zero_or_pos X with h0 | h0
          · subst h0
            go_wp2
            refine ⟨⟨k + 1, by omega, by go_num, hr⟩, by simp [intOf]; omega⟩
          · rw [cn_one h0 hX hlt 256 (by omega), if_pos (gm_lt _ _)] at hc
            have hn : ((X : Int) != 0) = true := by simp; omega
            go_wp2
            refine ⟨⟨k + 1, by omega, by go_num, hr⟩, by simp [intOf]; omega⟩
        · have hc := hr.cell 0 (by omega)
          rcases Nat.eq_zero_or_pos X with h0 | h0
          · subst h0
            rw [cn_zero] at hc
            go_wp2_with fail
            refine (sure7_any _).mono ?_; rintro e v ⟨rfl, hb⟩; go_wp2_with fail
            go_ret
            exact ⟨rfl, hr.1.below hb⟩
          · have hn : ((X : Int) != 0) = true := by simp; omega
            go_wp2_with fail
            refine (sure7_any _).mono ?_; rintro e v ⟨rfl, hb⟩; go_wp2_with fail
            go_ret
            exact ⟨rfl, hr.1.below hb⟩
theorem row_walk (x : Int) (hx0 : 0 ≤ x) (hx : x < 256) (w : World) :
    Calls Try.prog 3 #[.int .u8 x] w fun e w' => e = .returned (.bool true) ∧ Below w.heap.size w w' := by
  obtain ⟨X, rfl⟩ := Int.eq_ofNat_of_zero_le hx0
  exact row_nat X (by omega) w
end Go.Proofs.Ytdeopklgdemnfaa
