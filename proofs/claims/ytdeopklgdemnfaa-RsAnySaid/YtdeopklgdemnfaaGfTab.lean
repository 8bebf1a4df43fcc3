/- The walk of the making of a field and of its tables. Condition: the field's block holds the fresh cells. -/
import Derived.Test.YtdeopklgdemnfaaGfCells
namespace Go.Proofs.Ytdeopklgdemnfaa
open Go.RowKit Gf

set_option maxRecDepth 100000 in
set_option maxHeartbeats 800000 in
theorem tables_any (b : Nat) (x0 x1 x2 : Value) (w : World) (hb : w.heap[b]? = some (.cells (tabs x0 x1 x2 0) 66 (0, 0))) :
    Calls Try.prog 27 #[.pointer (some ⟨b, 0, none⟩)] w fun e w' => e = .returned (.tuple #[]) ∧ At b (tabs x0 x1 x2 255) 66 w w' := by
  go_enter Try.func27, Try.ntmps27
  go_wp2
  go_loopw [2, 4] (fun x i wr => ∃ k : Nat, k ≤ 255 ∧ i = .int .i64 k ∧ x = .int .i64 (pw k) ∧ At b (tabs x0 x1 x2 k) 66 w wr) (fun _ i _ => 255 - (intOf i).toNat)
  case atStart => exact ⟨0, by omega, rfl, rfl, At.refl hb⟩
  case round =>
    obtain ⟨k, hk, rfl, rfl, hat⟩ := hrel
    by_cases hlt : k < 255
    · have hs := tabs_size x0 x1 x2 k
      have hp := pw_bd k
      have c1 := hat.cell (3 + k)
      have c2 := hat.cell (3 + (k + 255))
      have f1 := hat.frozen (3 + k)
      have f2 := hat.frozen (3 + (k + 255))
      obtain ⟨v1, e1⟩ : ∃ v, (tabs x0 x1 x2 k)[3 + k]? = some v := ⟨_, Array.getElem?_eq_getElem (by omega)⟩
      obtain ⟨v2, e2⟩ : ∃ v, (tabs x0 x1 x2 k)[3 + (k + 255)]? = some v := ⟨_, Array.getElem?_eq_getElem (by omega)⟩
      rw [e1] at c1
      rw [e2] at c2
      have H1 := Lib.hid e1
      have H2 := Lib.hid e2
      have HS := Lib.hid hs
      clear e1 e2 hs
      go_wp2
      go_region
      have hat2 := ((hat.set (3 + k) (.int .u8 (pw k))).set (3 + (k + 255)) (.int .u8 (pw k))).drew
      clear c1 c2 f1 f2
      generalize ((wr.setCell ⟨b, 3 + k, none⟩ (.int .u8 (pw k))).setCell ⟨b, 3 + (k + 255), none⟩ (.int .u8 (pw k))).drew = w2 at *
      have c3 := hat2.cell (513 + pw k)
      have f3 := hat2.frozen (513 + pw k)
      obtain ⟨v3, e3⟩ : ∃ v, (((tabs x0 x1 x2 k).setIfInBounds (3 + k) (.int .u8 (pw k))).setIfInBounds (3 + (k + 255)) (.int .u8 (pw k)))[513 + pw k]? = some v := ⟨_, Array.getElem?_eq_getElem (by have := HS.out; simp; omega)⟩
      rw [e3] at c3
      clear e3
      go_wp2
      all_goals (
        refine ⟨⟨k + 1, by omega, by go_num, ?_, hat2.set (513 + pw k) (.int .i64 k)⟩, by simp [intOf]; omega⟩
        first
          | (rw [show ((pw k : Int) * 2) = ((2 * pw k : Nat) : Int) by omega]
             refine congrArg (Value.int .i64) ?_
             refine (i64_xor_nat (2 * pw k) 285 (by omega) (by omega)).trans ?_
             simp only [pw, dbl]; rw [if_pos (by omega)])
          | (refine congrArg (Value.int .i64) ?_
             simp only [pw, dbl]; rw [if_neg (by omega)]; omega))
    · obtain rfl : k = 255 := by omega
      go_wp2
      go_end0
      exact ⟨rfl, hat⟩
end Go.Proofs.Ytdeopklgdemnfaa
