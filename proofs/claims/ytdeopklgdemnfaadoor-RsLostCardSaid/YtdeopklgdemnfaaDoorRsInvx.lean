/- The exported inverse: of every matrix, or the error. No condition of its own but that the matrix reads. -/
import Derived.Test.YtdeopklgdemnfaaDoorRsInvw
namespace Go.Proofs.YtdeopklgdemnfaaDoor
open Go.RowKit Gf Rs

/-- What reads beside one block reads beside a new one. -/
theorem RdV.fresh {fb : Nat} {w w' : World} {A : Option Addr} {vs : List Value} (h : RdV fb w A vs) (hb : ∀ k, k < w.heap.size → w'.heap[k]? = w.heap[k]?) : RdV w.heap.size w' A vs := fun i v hi => by
  obtain ⟨b, o, h1, h2, h3⟩ := h i v hi
  have := cell_lt h3
  exact ⟨b, o, h1, by omega, by rw [← h3]; exact World.cell?_of_block (hb b this)⟩
theorem RdM.fresh {fb : Nat} {w w' : World} {A : Option Addr} {ls : List (List F)} (h : RdM fb w A ls) (hb : ∀ k, k < w.heap.size → w'.heap[k]? = w.heap[k]?) : RdM w.heap.size w' A ls := by
  obtain ⟨hs, h1, h2, h3⟩ := h
  refine ⟨hs, h1, h2.fresh hb, fun i v l hi hl => ?_⟩
  obtain ⟨A', c, e, hc, hr⟩ := h3 i v l hi hl
  exact ⟨A', c, e, hc, RdV.fresh hr hb⟩
theorem MatPost.shape {fb N : Nat} {w w' : World} {ls : List (List F)} {e : Ending} (h : MatPost fb w N ls e w') : ∃ a b, e = .returned (.tuple #[a, b]) := by
  obtain ⟨g, h1, _⟩ := h
  exact ⟨_, _, h1⟩
theorem InvPost.shape {fb n : Nat} {w w' : World} {m : List (List F)} {e : Ending} (h : InvPost fb n w m e w') : ∃ a b, e = .returned (.tuple #[a, b]) := by
  unfold InvPost at h
  split at h
  · exact ⟨_, _, h.1⟩
  · exact h.shape
/-- May a matrix be asked for its inverse? -/
def Sq (m : List (List F)) : Prop := 1 ≤ m.length ∧ m.length ≤ 32 ∧ ∀ (i : Nat) (l : List F), m[i]? = some l → l.length = m.length
/-- What Invert answers. -/
def XInvPost (w : World) (m : List (List F)) (e : Ending) (w' : World) : Prop :=
  (Sq m → InvPost w.heap.size m.length (w.alloc (.cells freshF 98)) m e w') ∧ (¬ Sq m → e = .returned (.tuple #[.slice none 0 0, errN 1]) ∧ w' = w)
set_option maxRecDepth 100000 in
set_option maxHeartbeats 1600000 in
theorem xinvert_any (fb : Nat) (A : Option Addr) (c : Nat) (m : List (List F)) (hm : m.length ≤ 1048576) (hl : ∀ (i : Nat) (l : List F), m[i]? = some l → l.length ≤ 1048576) (w : World) (h : RdM fb w A m) :
    Calls Tryd.prog 43 #[.slice A m.length c] w (XInvPost w m) := by
  have HL := Lib.hid hl
  clear hl
  by_cases h0 : m.length = 0
  · have hns : ¬ Sq m := fun s => by have := s.1; omega
    have HNS := Lib.hid hns
    clear hns
    go_enter Tryd.func43, Tryd.ntmps43
    go_wp2
    go_ret2
    exact ⟨fun s => absurd s HNS.out, fun _ => ⟨rfl, rfl⟩⟩
  by_cases h32 : 32 < m.length
  · have hns : ¬ Sq m := fun s => by have := s.2.1; omega
    have HNS := Lib.hid hns
    clear hns
    go_enter Tryd.func43, Tryd.ntmps43
    go_wp2
    go_ret2
    exact ⟨fun s => absurd s HNS.out, fun _ => ⟨rfl, rfl⟩⟩
  have hz : ((m.length : Int) == 0) = false := by rw [beq_eq_false_iff_ne]; omega
  have hz32 : (m.length : Int) ≤ 32 := by omega
  go_enter Tryd.func43, Tryd.ntmps43
  go_wp2
  go_loop [5, 17] (fun _ i => ∃ j : Nat, j ≤ m.length ∧ i = .int .i64 j ∧ Hid (∀ (i : Nat) (l : List F), i < j → m[i]? = some l → l.length = m.length)) (fun _ i => m.length - (intOf i).toNat)
  case atStart => exact ⟨0, by omega, rfl, fun i l hi => by omega⟩
  case round =>
    obtain ⟨j, hj, rfl, hall⟩ := hrel
    by_cases hlt : j < m.length
    · obtain ⟨b2, o2, A3, c3, rfl, hb2, hc2, hl3, h3⟩ := h.at hlt
      have hmj := List.getElem?_eq_getElem hlt
      have HMJ := Lib.hid hmj
      clear hmj
      generalize hq : m[j] = q at *
      clear hq
      have hql := HL.out j q HMJ.out
      by_cases hqe : q.length = m.length
      · have HQE := Lib.hid hqe
        have hqb : ((q.length : Int) != (m.length : Int)) = false := by rw [hqe]; simp
        clear hqe
        go_wp2
        refine ⟨⟨j + 1, by omega, by go_num, fun i l h1 h2 => ?_⟩, by simp [intOf]; omega⟩
        by_cases e : i = j
        · subst e
          have := h2.symm.trans HMJ.out
          cases this
          exact HQE.out
        · exact hall.out i l (by omega) h2
      · have hns : ¬ Sq m := fun s => hqe (s.2.2 j q HMJ.out)
        have HNS := Lib.hid hns
        have hqb : ((q.length : Int) != (m.length : Int)) = true := by simp; omega
        clear hns
        go_wp2
        go_ret2
        exact ⟨fun s => absurd s HNS.out, fun _ => ⟨rfl, rfl⟩⟩
    · have hsq : Sq m := ⟨by omega, by omega, fun i l hi => hall.out i l (by have := (List.getElem?_eq_some_iff.1 hi).1; omega) hi⟩
      have HSQ := Lib.hid hsq
      have hlr : ∀ (i : Nat) (l : List F), m[i]? = some l → l.length = m.length := hsq.2.2
      have hmr : RdM w.heap.size (w.alloc (.cells freshF 98)) A m := h.fresh (fun k hk => Below.heap_alloc _ _ _ hk)
      have hinv := invert_any w.heap.size m.length (by omega) (by omega) A c m rfl hlr (w.alloc (.cells freshF 98)) (newField w) hmr
      have HI := Lib.hid hinv
      clear hsq hlr hinv
      go_wp2_with fail
      refine (new_any _).mono ?_
      rintro e w' ⟨rfl, rfl⟩
      go_wp2_with fail
      refine HI.out.mono ?_
      rintro e w' hpost
      obtain ⟨r1, r2, rfl⟩ := hpost.shape
      have HP := Lib.hid hpost
      clear hpost
      go_wp2
      go_ret2
      exact ⟨fun _ => HP.out, fun s => absurd HSQ.out s⟩
end Go.Proofs.YtdeopklgdemnfaaDoor
