/- The reference's list of what is held: May. Condition: the list reads. -/
import Derived.Test.YtnnadhfpkplncaaDoorLkTake
import Derived.Laws.Strings
namespace Go.Proofs.YtnnadhfpkplncaaDoor
open Go.RowKit Go.Maps

abbrev Held := Int × List UInt8 × Bool
def hcells (h : Held) : List Value := [.int .i64 h.1, .string ⟨h.2.1.toArray⟩, .bool h.2.2]
def hits3 (r : List Held) : List Value := r.flatMap hcells
theorem hits3_at {r : List Held} {i : Nat} {x : Held} (h : r[i]? = some x) : (hits3 r)[i * 3]? = some (.int .i64 x.1) ∧ (hits3 r)[i * 3 + 1]? = some (.string ⟨x.2.1.toArray⟩) ∧ (hits3 r)[i * 3 + 2]? = some (.bool x.2.2) := by
  induction r generalizing i with
  | nil => simp at h
  | cons y r ih =>
    have e : hits3 (y :: r) = .int .i64 y.1 :: .string ⟨y.2.1.toArray⟩ :: .bool y.2.2 :: hits3 r := rfl
    cases i with
    | zero =>
      simp only [List.getElem?_cons_zero, Option.some.injEq] at h
      subst h
      exact ⟨rfl, rfl, rfl⟩
    | succ i =>
      have := ih (i := i) (by simpa using h)
      rw [e, show (i + 1) * 3 = i * 3 + 1 + 1 + 1 by omega]
      exact this
/-- A slice's cells as they lie. -/
def RdA (w : World) (A : Option Addr) (vs : List Value) : Prop := ∀ i u, vs[i]? = some u → ∃ b o, A = some ⟨b, o, none⟩ ∧ w.cell? ⟨b, o + i, none⟩ = some u
theorem cell_keep {L b o : Nat} {w w' : World} {u : Value} (k : Keep L w w') (h : w.cell? ⟨b, o, none⟩ = some u) : w'.cell? ⟨b, o, none⟩ = some u := by
  unfold World.cell? at h ⊢
  simp only at h ⊢
  split at h
  · rename_i cs T fz hb
    obtain ⟨f1, f2⟩ := fz
    rw [k.cells b cs T _ hb]
    exact h
  · cases h
theorem RdA.keep {L : Nat} {w w' : World} {A : Option Addr} {vs : List Value} (h : RdA w A vs) (k : Keep L w w') : RdA w' A vs := fun i u hi => by
  obtain ⟨b, o, e, hc⟩ := h i u hi
  exact ⟨b, o, e, cell_keep k hc⟩
theorem RdA.below {w w' : World} {A : Option Addr} {vs : List Value} (h : RdA w A vs) (k : Below w.heap.size w w') : RdA w' A vs := h.keep (Keep.of k (Nat.zero_le _) : Keep 0 w w')
theorem held_at {w : World} {A : Option Addr} {r : List Held} (h : RdA w A (hits3 r)) {i : Nat} {x : Held} (hx : r[i]? = some x) :
    ∃ b o, A = some ⟨b, o, none⟩ ∧ w.cell? ⟨b, o + i * 3, none⟩ = some (.int .i64 x.1) ∧ w.cell? ⟨b, o + i * 3 + 1, none⟩ = some (.string ⟨x.2.1.toArray⟩) ∧ w.cell? ⟨b, o + i * 3 + 2, none⟩ = some (.bool x.2.2) := by
  obtain ⟨h1, h2, h3⟩ := hits3_at hx
  obtain ⟨b, o, e, c1⟩ := h _ _ h1
  obtain ⟨b2, o2, e2, c2⟩ := h _ _ h2
  obtain ⟨b3, o3, e3, c3⟩ := h _ _ h3
  rw [e] at e2 e3
  cases e2
  cases e3
  exact ⟨b, o, e, c1, by rw [Nat.add_assoc]; exact c2, by rw [Nat.add_assoc]; exact c3⟩
def pT (who : Int) (nm : List UInt8) (h : Held) : Bool := h.1 == who && h.2.1 == nm
def pO (who : Int) (nm : List UInt8) (h : Held) : Bool := h.1 == who && !(Op.bytesLess h.2.1 nm || h.2.1 == nm)
def pL (who : Int) (nm : List UInt8) (all : Bool) (h : Held) : Bool := !(h.1 == who) && (h.2.1 == nm && (h.2.2 || all))
def refMay (r : List Held) (who : Int) (nm : List UInt8) (all : Bool) : Int := if r.any (pT who nm) then 9 else if r.any (pO who nm) then 41 else if r.any (pL who nm all) then 40 else 0
theorem any_take {r : List Held} {k : Nat} {x : Held} (h : r[k]? = some x) (p : Held → Bool) : (r.take (k + 1)).any p = ((r.take k).any p || p x) := by
  obtain ⟨hlt, rfl⟩ := List.getElem?_eq_some_iff.1 h
  rw [List.take_succ_eq_append_getElem hlt, List.any_append]
  simp
set_option maxRecDepth 100000 in
set_option maxHeartbeats 6400000 in
theorem rmay_any (r : List Held) (A : Option Addr) (c : Nat) (who : Int) (nm : List UInt8) (all : Bool) (w : World) (h : RdA w A (hits3 r)) (hc : r.length ≤ c) (hr : r.length ≤ 10000) :
    Calls Tryd.prog 13 #[.slice A r.length c, .int .i64 who, .string ⟨nm.toArray⟩, .bool all] w fun e w' => e = .returned (.int .i64 (refMay r who nm all)) ∧ Below w.heap.size w w' := by
  obtain ⟨n, hn⟩ : ∃ n, n = r.length := ⟨_, rfl⟩
  rw [← hn] at hc hr ⊢
  have HN := Lib.hid hn
  have HR := Lib.hid h
  clear h hn
  go_enter Tryd.func13, Tryd.ntmps13
  go_wp2
  go_loopw [9, 10, 11, 12] (fun a b d i wr => ∃ (k : Nat) (tw od lk : Bool), k ≤ n ∧ i = .int .i64 k ∧ a = .bool tw ∧ b = .bool od ∧ d = .bool lk ∧ Hid (tw = (r.take k).any (pT who nm) ∧ od = (r.take k).any (pO who nm) ∧ lk = (r.take k).any (pL who nm all)) ∧ Hid (Below w.heap.size w wr)) (fun _ _ _ i _ => n - (intOf i).toNat)
  case atStart => exact ⟨0, false, false, false, by omega, rfl, rfl, rfl, rfl, ⟨rfl, rfl, rfl⟩, Below.refl _ _⟩
  case round =>
    obtain ⟨k, tw, od, lk, hk, rfl, rfl, rfl, rfl, HA, HB⟩ := hrel
    rcases Nat.lt_or_ge k n with hkn | hkn
    · obtain ⟨x, hx⟩ : ∃ x, r[k]? = some x := ⟨_, List.getElem?_eq_getElem (by rw [← HN.out]; omega)⟩
      obtain ⟨b, o, rfl, c1, c2, c3⟩ := held_at (HR.out.below HB.out) hx
      have hki : (k : Int) < (n : Int) := by omega
      have hw : IntKind.i64.wrap ((k : Int) + 1) = (k : Int) + 1 := IntWalk.i64_in _ (by omega)
      have HX := Lib.hid hx
      clear hx
      go_wp2
      all_goals
        refine ⟨⟨k + 1, _, _, _, by omega, by congr 1, rfl, rfl, rfl, ?_, HB.out.alloc HB.out.size _⟩, by simp [intOf]; omega⟩
        obtain ⟨h1, h2, h3⟩ := HA.out
        have e1 := any_take HX.out (pT who nm)
        have e2 := any_take HX.out (pO who nm)
        have e3 := any_take HX.out (pL who nm all)
        rw [← h1] at e1
        rw [← h2] at e2
        rw [← h3] at e3
        refine ⟨?_, ?_, ?_⟩
        · rw [e1]; clear e1 e2 e3 h1 h2 h3 HA HX HR HN; simp_all [pT]
        · rw [e2]; clear e1 e2 e3 h1 h2 h3 HA HX HR HN; simp_all [pO]
        · rw [e3]; clear e1 e2 e3 h1 h2 h3 HA HX HR HN; simp_all [pL]
    · obtain rfl : k = n := by omega
      have hki : ¬ (k : Int) < (k : Int) := by omega
      have HE := Lib.hid (show refMay r who nm all = if tw then 9 else if od then 41 else if lk then 40 else 0 by
        obtain ⟨h1, h2, h3⟩ := HA.out
        have ht : r.take k = r := List.take_of_length_le (by rw [← HN.out]; omega)
        rw [ht] at h1 h2 h3
        unfold refMay
        rw [h1, h2, h3])
      clear hk hkn HA
      cases tw with
      | true =>
        go_wp2
        go_ret
        exact ⟨by rw [HE.out]; rfl, HB.out⟩
      | false =>
        cases od with
        | true =>
          go_wp2
          go_ret
          exact ⟨by rw [HE.out]; rfl, HB.out⟩
        | false =>
          cases lk with
          | true =>
            go_wp2
            go_ret
            exact ⟨by rw [HE.out]; rfl, HB.out⟩
          | false =>
            go_wp2
            go_ret
            exact ⟨by rw [HE.out]; rfl, HB.out⟩
end Go.Proofs.YtnnadhfpkplncaaDoor
