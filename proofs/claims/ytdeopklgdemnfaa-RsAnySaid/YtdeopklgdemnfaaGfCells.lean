/- The field's cells in memory, behind each round of the making of its tables; a world in which one block alone may have changed. No condition. -/
import Derived.Test.YtdeopklgdemnfaaGfOnce
import Derived.Test.YtdeopklgdemnfaaGfPlain
import Derived.LoopTactic
import Derived.Outline
import Derived.OwnWalk
import Derived.Lib.Hide
import Derived.IntWalk
import Derived.Laws.BitsAllLaws
namespace Go.Proofs.Ytdeopklgdemnfaa
open Go.RowKit Gf

def tail0 : Array Value := Array.replicate 510 (.int .u8 0) ++ Array.replicate 256 (.int .i64 0)
theorem tail0_size : tail0.size = 766 := by simp [tail0]
/-- A field's cells behind i rounds of the making of its tables. -/
def tabs (x0 x1 x2 : Value) : Nat → Array Value
  | 0 => #[x0, x1, x2] ++ tail0
  | i + 1 => (((tabs x0 x1 x2 i).setIfInBounds (3 + i) (.int .u8 (pw i))).setIfInBounds (3 + (i + 255)) (.int .u8 (pw i))).setIfInBounds (513 + pw i) (.int .i64 i)
theorem tabs_size (x0 x1 x2 : Value) (i : Nat) : (tabs x0 x1 x2 i).size = 769 := by
  induction i with
  | zero => simp [tabs, tail0_size]
  | succ i ih => simp [tabs, ih]
theorem tabs_set0 (x0 x1 x2 y : Value) (i : Nat) : (tabs x0 x1 x2 i).setIfInBounds 0 y = tabs y x1 x2 i := by
  induction i with
  | zero => simp [tabs]
  | succ i ih =>
    simp only [tabs]
    have hp := pw_bd i
    rw [Array.setIfInBounds_comm _ _ (show 513 + pw i ≠ 0 by omega), Array.setIfInBounds_comm _ _ (show 3 + (i + 255) ≠ 0 by omega), Array.setIfInBounds_comm _ _ (show 3 + i ≠ 0 by omega), ih]
theorem tabs_set1 (x0 x1 x2 y : Value) (i : Nat) : (tabs x0 x1 x2 i).setIfInBounds 1 y = tabs x0 y x2 i := by
  induction i with
  | zero => simp [tabs]
  | succ i ih =>
    simp only [tabs]
    have hp := pw_bd i
    rw [Array.setIfInBounds_comm _ _ (show 513 + pw i ≠ 1 by omega), Array.setIfInBounds_comm _ _ (show 3 + (i + 255) ≠ 1 by omega), Array.setIfInBounds_comm _ _ (show 3 + i ≠ 1 by omega), ih]
theorem tabs_head (x0 x1 x2 : Value) (i : Nat) : (tabs x0 x1 x2 i)[0]? = some x0 ∧ (tabs x0 x1 x2 i)[1]? = some x1 ∧ (tabs x0 x1 x2 i)[2]? = some x2 := by
  induction i with
  | zero => refine ⟨?_, ?_, ?_⟩ <;> (simp only [tabs]; rw [Array.getElem?_append_left (by simp)]; rfl)
  | succ i ih =>
    simp only [tabs]
    have hp := pw_bd i
    simp only [Array.getElem?_setIfInBounds_ne (show 513 + pw i ≠ 0 by omega), Array.getElem?_setIfInBounds_ne (show 513 + pw i ≠ 1 by omega), Array.getElem?_setIfInBounds_ne (show 513 + pw i ≠ 2 by omega),
      Array.getElem?_setIfInBounds_ne (show 3 + (i + 255) ≠ 0 by omega), Array.getElem?_setIfInBounds_ne (show 3 + (i + 255) ≠ 1 by omega), Array.getElem?_setIfInBounds_ne (show 3 + (i + 255) ≠ 2 by omega),
      Array.getElem?_setIfInBounds_ne (show 3 + i ≠ 0 by omega), Array.getElem?_setIfInBounds_ne (show 3 + i ≠ 1 by omega), Array.getElem?_setIfInBounds_ne (show 3 + i ≠ 2 by omega)]
    exact ih
theorem tabs_at (x0 x1 x2 : Value) (i : Nat) (hi : i ≤ 255) : ∀ k, k < i → (tabs x0 x1 x2 i)[3 + k]? = some (.int .u8 (pw k)) ∧ (tabs x0 x1 x2 i)[3 + (k + 255)]? = some (.int .u8 (pw k)) ∧ (tabs x0 x1 x2 i)[513 + pw k]? = some (.int .i64 k) := by
  induction i with
  | zero => intro k hk; omega
  | succ i ih =>
    intro k hk
    have hs := tabs_size x0 x1 x2 i
    have hp := pw_bd i
    have hpk := pw_bd k
    simp only [tabs]
    rcases Nat.lt_succ_iff_lt_or_eq.1 hk with h | rfl
    · obtain ⟨a, b, c⟩ := ih (by omega) k h
      have hne : pw i ≠ pw k := fun e => by have := pw_inj (by omega) (by omega) e; omega
      refine ⟨?_, ?_, ?_⟩
      · rw [Array.getElem?_setIfInBounds_ne (by omega), Array.getElem?_setIfInBounds_ne (by omega), Array.getElem?_setIfInBounds_ne (by omega)]; exact a
      · rw [Array.getElem?_setIfInBounds_ne (by omega), Array.getElem?_setIfInBounds_ne (by omega), Array.getElem?_setIfInBounds_ne (by omega)]; exact b
      · rw [Array.getElem?_setIfInBounds_ne (by omega), Array.getElem?_setIfInBounds_ne (by omega), Array.getElem?_setIfInBounds_ne (by omega)]; exact c
    · refine ⟨?_, ?_, ?_⟩
      · rw [Array.getElem?_setIfInBounds_ne (by omega), Array.getElem?_setIfInBounds_ne (by omega), Array.getElem?_setIfInBounds_self_of_lt (by simp [hs]; omega)]
      · rw [Array.getElem?_setIfInBounds_ne (by omega), Array.getElem?_setIfInBounds_self_of_lt (by simp [hs]; omega)]
      · rw [Array.getElem?_setIfInBounds_self_of_lt (by simp [hs]; omega)]
theorem tabs_exp (x0 x1 x2 : Value) (k : Nat) (hk : k < 510) : (tabs x0 x1 x2 255)[3 + k]? = some (.int .u8 (pw k)) := by
  rcases Nat.lt_or_ge k 255 with h | h
  · exact (tabs_at x0 x1 x2 255 (by omega) k h).1
  · have := (tabs_at x0 x1 x2 255 (by omega) (k - 255) (by omega)).2.1
    rw [show k - 255 + 255 = k by omega] at this
    rw [this, ← pw_add_255, show k - 255 + 255 = k by omega]
theorem tabs_log (x0 x1 x2 : Value) (a : Nat) (h0 : 0 < a) (h : a < 256) : (tabs x0 x1 x2 255)[513 + a]? = some (.int .i64 (lg a)) := by
  have hl := lg_spec a h0 h
  have := (tabs_at x0 x1 x2 255 (by omega) (lg a) hl.1).2.2
  rwa [hl.2] at this

theorem i64_xor_nat (a b : Nat) (ha : a < 4294967296) (hb : b < 4294967296) : bits .xor .i64 (a : Int) (b : Int) = ((a ^^^ b : Nat) : Int) := by
  have h : a ^^^ b < 4294967296 := Nat.xor_lt_two_pow (n := 32) ha hb
  show IntKind.i64.wrap ((BitVec.ofInt 64 (a : Int) ^^^ BitVec.ofInt 64 (b : Int)).toNat : Int) = _
  rw [BitVec.toNat_xor, ofInt_u64 a (by omega), ofInt_u64 b (by omega)]
  exact IntWalk.i64_in _ (by omega)

/-- Block b alone may have changed from w to w'; it holds the cells c. -/
structure At (b : Nat) (c : Array Value) (T : TypeId) (w w' : World) : Prop where
  os : w'.os = w.os
  tape : w'.tape = w.tape
  output : w'.output = w.output
  size : w'.heap.size = w.heap.size
  other : ∀ k, k ≠ b → w'.heap[k]? = w.heap[k]?
  here : w'.heap[b]? = some (.cells c T (0, 0))
theorem At.refl {b : Nat} {c : Array Value} {T : TypeId} {w : World} (h : w.heap[b]? = some (.cells c T (0, 0))) : At b c T w w := ⟨rfl, rfl, rfl, rfl, fun _ _ => rfl, h⟩
theorem At.cell {b : Nat} {c : Array Value} {T : TypeId} {w w' : World} (h : At b c T w w') (o : Nat) : w'.cell? ⟨b, o, none⟩ = c[o]? := by
  simp [World.cell?, h.here]
theorem At.frozen {b : Nat} {c : Array Value} {T : TypeId} {w w' : World} (h : At b c T w w') (o : Nat) : w'.frozen? ⟨b, o, none⟩ = false := by
  simp [World.frozen?, h.here]
theorem At.set {b : Nat} {c : Array Value} {T : TypeId} {w w' : World} (h : At b c T w w') (o : Nat) (v : Value) : At b (c.setIfInBounds o v) T w (w'.setCell ⟨b, o, none⟩ v) :=
  ⟨h.os, h.tape, h.output, by simp [World.setCell, h.size], fun k hk => by rw [Below.heap_setCell _ _ _ _ hk]; exact h.other k hk, by
    simp only [World.setCell, Array.getElem?_modify, if_true, h.here, Option.map_some]; simp⟩
theorem At.drew {b : Nat} {c : Array Value} {T : TypeId} {w w' : World} (h : At b c T w w') : At b c T w w'.drew := ⟨h.os, h.tape, h.output, h.size, h.other, h.here⟩
theorem At.trans {b : Nat} {c d : Array Value} {T : TypeId} {w w' w'' : World} (h : At b c T w w') (k : At b d T w' w'') : At b d T w w'' :=
  ⟨k.os.trans h.os, k.tape.trans h.tape, k.output.trans h.output, k.size.trans h.size, fun i hi => (k.other i hi).trans (h.other i hi), k.here⟩
theorem At.below {b : Nat} {c : Array Value} {T : TypeId} {w w' : World} (h : At b c T w w') : Below b w w' :=
  ⟨h.os, h.tape, h.output, by rw [h.size]; exact Nat.le_refl _, fun k hk => h.other k (by omega)⟩

end Go.Proofs.Ytdeopklgdemnfaa
