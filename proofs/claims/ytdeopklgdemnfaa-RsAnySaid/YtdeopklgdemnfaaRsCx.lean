/- What holds on a law's way behind a code. No condition of its own. -/
import Derived.Test.YtdeopklgdemnfaaRsLostP
import Derived.Test.YtdeopklgdemnfaaRsSure
import Derived.Test.YtdeopklgdemnfaaRsLists
namespace Go.Proofs.Ytdeopklgdemnfaa
open Go.RowKit Gf Rs

structure Cx (W w : World) (K M cb fb : Nat) : Prop where
  below : Below W.heap.size W w
  code : CodeAt cb K M fb w
  fbs : W.heap.size < fb
theorem Cx.next {W w w' : World} {K M cb fb : Nat} (h : Cx W w K M cb fb) (k : Below w.heap.size w w') : Cx W w' K M cb fb :=
  ⟨h.below.trans (k.mono h.below.size), h.code.keep (Keep.of_below k), h.fbs⟩
theorem Cx.keep {W w w' : World} {K M cb fb : Nat} (h : Cx W w K M cb fb) (k : Keep fb w w') : Cx W w' K M cb fb :=
  ⟨h.below.trans (k.below (Nat.le_of_lt h.fbs) h.below.size), h.code.keep k, h.fbs⟩
theorem Cx.lt {W w : World} {K M cb fb : Nat} (h : Cx W w K M cb fb) : fb < w.heap.size := h.code.2.2.lt
theorem Cx.bs {W w : World} {K M cb fb : Nat} {A : Option Addr} {vs : List Value} (h : Cx W w K M cb fb) (q : RdV W.heap.size W A vs) : RdV fb w A vs := fun i v hi => by
  obtain ⟨b, o, e1, e2, e3⟩ := q i v hi
  have := cell_lt e3
  have := h.fbs
  exact ⟨b, o, e1, by omega, by rw [← e3]; exact World.cell?_of_block (h.below.block b (by omega))⟩
theorem small8 (k : Int) : ∃ K : Nat, 1 ≤ K ∧ K ≤ 8 ∧ wrap64 (1 + wrap64 ((IntKind.u64.wrap k).tmod 8)) = K := by
  have e : 0 ≤ IntKind.u64.wrap k := by rw [IntKind.wrap_u64]; omega
  rw [Int.tmod_eq_emod_of_nonneg e]
  refine ⟨(1 + IntKind.u64.wrap k % 8).toNat, by omega, by omega, ?_⟩
  unfold wrap64
  omega
theorem small6 (k : Int) : ∃ M : Nat, M ≤ 5 ∧ wrap64 ((IntKind.u64.wrap k).tmod 6) = M := by
  have e : 0 ≤ IntKind.u64.wrap k := by rw [IntKind.wrap_u64]; omega
  rw [Int.tmod_eq_emod_of_nonneg e]
  refine ⟨(IntKind.u64.wrap k % 6).toNat, by omega, ?_⟩
  unfold wrap64
  omega
theorem smallN (z : Int) {K M : Nat} (h : 1 ≤ K) (h2 : K + M ≤ 32) : ∃ a : Nat, a < K + M ∧ wrap64 ((IntKind.u64.wrap z).tmod ((K : Int) + (M : Int))) = a := by
  have e : 0 ≤ IntKind.u64.wrap z := by rw [IntKind.wrap_u64]; omega
  rw [Int.tmod_eq_emod_of_nonneg e]
  have h1 := Int.emod_nonneg (IntKind.u64.wrap z) (show ((K : Int) + (M : Int)) ≠ 0 by omega)
  have h3 := Int.emod_lt_of_pos (IntKind.u64.wrap z) (show 0 < (K : Int) + (M : Int) by omega)
  refine ⟨(IntKind.u64.wrap z % ((K : Int) + (M : Int))).toNat, by omega, ?_⟩
  unfold wrap64
  omega
end Go.Proofs.Ytdeopklgdemnfaa
