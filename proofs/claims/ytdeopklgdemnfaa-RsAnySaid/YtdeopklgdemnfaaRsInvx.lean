/- The exported inverse: of every matrix, or the error. No condition of its own but that the matrix reads. -/
import Derived.Test.YtdeopklgdemnfaaRsInvw
namespace Go.Proofs.Ytdeopklgdemnfaa
open Go.RowKit Gf Rs

/-- What reads beside one block reads beside a new one. -/
theorem RdV.fresh {fb : Nat} {w w' : World} {A : Option Addr} {vs : List Value} (h : RdV fb w A vs) (hb : ∀ k, k < w.heap.size → w'.heap[k]? = w.heap[k]?) : RdV w.heap.size w' A vs := fun i v hi => by
  obtain ⟨b, o, h1, h2, h3⟩ := h i v hi
  have := cell_lt h3
  exact ⟨b, o, h1, by omega, by rw [← h3]; exact World.cell?_of_block (hb b this)⟩
theorem RdM.fresh {fb : Nat} {w w' : World} {A : Option Addr} {ls : List (List F)} (h : RdM fb w A ls) (hb : ∀ k, k < w.heap.size → w'.heap[k]? = w.heap[k]?) : RdM w.heap.size w' A ls := by
  obtain ⟨hs, h1, h2, h3⟩ := h
  refine ⟨hs, h1, h2.fresh hb, fun i v l hi hl => ?_⟩
  obtain ⟨A', c, e, hc, hr⟩ := h3 i v l hi hl
  exact ⟨A', c, e, hc, RdV.fresh hr hb⟩
theorem MatPost.shape {fb N : Nat} {w w' : World} {ls : List (List F)} {e : Ending} (h : MatPost fb w N ls e w') : ∃ a b, e = .returned (.tuple #[a, b]) := by
  obtain ⟨g, h1, _⟩ := h
  exact ⟨_, _, h1⟩
theorem InvPost.shape {fb n : Nat} {w w' : World} {m : List (List F)} {e : Ending} (h : InvPost fb n w m e w') : ∃ a b, e = .returned (.tuple #[a, b]) := by
  unfold InvPost at h
  split at h
  · exact ⟨_, _, h.1⟩
  · exact h.shape
/-- May a matrix be asked for its inverse? -/
def Sq (m : List (List F)) : Prop := 1 ≤ m.length ∧ m.length ≤ 32 ∧ ∀ (i : Nat) (l : List F), m[i]? = some l → l.length = m.length
/-- What Invert answers. -/
def XInvPost (w : World) (m : List (List F)) (e : Ending) (w' : World) : Prop :=
  (Sq m → InvPost w.heap.size m.length (w.alloc (.cells freshF 66)) m e w') ∧ (¬ Sq m → e = .returned (.tuple #[.slice none 0 0, errN 1]) ∧ w' = w)
end Go.Proofs.Ytdeopklgdemnfaa
