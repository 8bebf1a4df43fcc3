/- What holds on a law's way, behind the two codes that it makes. No condition of its own. -/
import Derived.Test.YtdeopklgdemnfaaDoorRsHelp
import Derived.Test.YtdeopklgdemnfaaDoorRsSure
import Derived.Test.YtdeopklgdemnfaaDoorRsOpen
namespace Go.Proofs.YtdeopklgdemnfaaDoor
open Go.RowKit Gf Rs

structure Ctx (W w : World) (K M cb fb rb : Nat) : Prop where
  below : Below W.heap.size W w
  code : CodeAt cb K M fb w
  size : w.heap[W.heap.size]? = some (.cells #[.int .i64 K, .int .i64 M] 47 (0, 0))
  rcode : w.heap[rb]? = some (.cells #[.int .i64 K, .int .i64 M] 51 (0, 0))
  fbs : W.heap.size < fb
  rbs : W.heap.size < rb
  rbf : rb ≠ fb
theorem Ctx.next {W w w' : World} {K M cb fb rb : Nat} (h : Ctx W w K M cb fb rb) (k : Below w.heap.size w w') : Ctx W w' K M cb fb rb :=
  ⟨h.below.trans (k.mono h.below.size), h.code.keep (Keep.of_below k), (k.block _ (block_lt h.size)).trans h.size, (k.block _ (block_lt h.rcode)).trans h.rcode, h.fbs, h.rbs, h.rbf⟩
theorem Ctx.keep {W w w' : World} {K M cb fb rb : Nat} (h : Ctx W w K M cb fb rb) (k : Keep fb w w') : Ctx W w' K M cb fb rb :=
  ⟨h.below.trans (k.below (Nat.le_of_lt h.fbs) h.below.size), h.code.keep k, (k.block _ (block_lt h.size) (Nat.ne_of_lt h.fbs)).trans h.size, (k.block _ (block_lt h.rcode) h.rbf).trans h.rcode, h.fbs, h.rbs, h.rbf⟩
theorem Ctx.s0 {W w : World} {K M cb fb rb : Nat} (h : Ctx W w K M cb fb rb) : w.cell? ⟨W.heap.size, 0, none⟩ = some (.int .i64 K) := block_cell h.size
theorem Ctx.s1 {W w : World} {K M cb fb rb : Nat} (h : Ctx W w K M cb fb rb) : w.cell? ⟨W.heap.size, 1, none⟩ = some (.int .i64 M) := block_cell h.size
theorem Ctx.r0 {W w : World} {K M cb fb rb : Nat} (h : Ctx W w K M cb fb rb) : w.cell? ⟨rb, 0, none⟩ = some (.int .i64 K) := block_cell h.rcode
theorem Ctx.r1 {W w : World} {K M cb fb rb : Nat} (h : Ctx W w K M cb fb rb) : w.cell? ⟨rb, 1, none⟩ = some (.int .i64 M) := block_cell h.rcode
theorem Ctx.lt {W w : World} {K M cb fb rb : Nat} (h : Ctx W w K M cb fb rb) : W.heap.size < w.heap.size := block_lt h.size
theorem Ctx.bss {W w : World} {K M cb fb rb : Nat} {A : Option Addr} {ls : List (List F)} (h : Ctx W w K M cb fb rb) (k : RdM W.heap.size W A ls) : RdM fb w A ls := by
  obtain ⟨hs, h1, h2, h3⟩ := k.below h.below
  have up : ∀ (A : Option Addr) (vs : List Value), RdV W.heap.size W A vs → RdV fb w A vs := fun A vs q i v hi => by
    obtain ⟨b, o, e1, e2, e3⟩ := q i v hi
    have := cell_lt e3
    have := h.fbs
    exact ⟨b, o, e1, by omega, by rw [← e3]; exact World.cell?_of_block (h.below.block b (by omega))⟩
  obtain ⟨hs, h1, h2, h3⟩ := k
  refine ⟨hs, h1, up _ _ h2, fun i u l hi hl => ?_⟩
  obtain ⟨A', c', e, hc, hr⟩ := h3 i u l hi hl
  exact ⟨A', c', e, hc, up _ _ hr⟩
theorem Ctx.bs {W w : World} {K M cb fb rb : Nat} {A : Option Addr} {vs : List Value} (h : Ctx W w K M cb fb rb) (q : RdV W.heap.size W A vs) : RdV fb w A vs := fun i v hi => by
  obtain ⟨b, o, e1, e2, e3⟩ := q i v hi
  have := cell_lt e3
  have := h.fbs
  exact ⟨b, o, e1, by omega, by rw [← e3]; exact World.cell?_of_block (h.below.block b (by omega))⟩
/-- Behind the two codes. -/
theorem ctx_made {W w1 w2 : World} {K M : Nat} (hc : CodeAt (W.heap.size + 2) K M (W.heap.size + 1) w1) (hb : Below (W.heap.size + 1) (W.alloc (.cells #[.int .i64 K, .int .i64 M] 47)) w1) (hb2 : Below w1.heap.size w1 w2) :
    Ctx W (w2.alloc (.cells #[.int .i64 K, .int .i64 M] 51)) K M (W.heap.size + 2) (W.heap.size + 1) w2.heap.size := by
  have h1 := hb.size
  simp only [World.size_alloc] at h1
  have h2 := hb2.size
  have hl := block_lt hc.1
  have k1 : Below w1.heap.size w1 (w2.alloc (.cells #[.int .i64 K, .int .i64 M] 51)) := hb2.alloc h2 _
  refine ⟨(((Below.refl W.heap.size W).alloc (Nat.le_refl _) (.cells #[.int .i64 K, .int .i64 M] 47)).trans (hb.mono (Nat.le_succ _))).trans (k1.mono (by omega)), hc.keep (Keep.of_below k1), ?_, heap_new _ _ _ rfl, by omega, by omega, by omega⟩
  exact (k1.block _ (by omega)).trans ((hb.block _ (by omega)).trans (heap_new _ _ _ rfl))
theorem good_or (k m : Int) : (∃ K M : Nat, k = K ∧ m = M ∧ 1 ≤ K ∧ K + M ≤ 32) ∨ (k < 1 ∨ m < 0 ∨ 32 < k ∨ 32 - k < m) := by
  by_cases h : k < 1 ∨ m < 0 ∨ 32 < k ∨ 32 - k < m
  · exact Or.inr h
  · exact Or.inl ⟨k.toNat, m.toNat, by omega, by omega, by omega, by omega⟩
end Go.Proofs.YtdeopklgdemnfaaDoor
