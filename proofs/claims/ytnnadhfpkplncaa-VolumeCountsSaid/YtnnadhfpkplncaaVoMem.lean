/- Volumes as they lie; the set of all of them; where a name stands. Condition: the set reads. -/
import Derived.Test.YtnnadhfpkplncaaVoPlain
import Derived.Test.YtnnadhfpkplncaaVoShelf
import Derived.Test.YtnnadhfpkplncaaRxOpen
namespace Go.Proofs.Ytnnadhfpkplncaa
open Go.RowKit

theorem set_to (f g : Nat → Int) (S : Nat → Nat → Option Nat) (A : Option Addr) (z n : Int) (w : World) (h : RdR f S w A) (hg : setF f z n = g) :
    Calls Try.prog 10 #[.pointer A, .int .i64 z, .int .i64 n] w fun e w' => ∃ A', e = .returned (.pointer A') ∧ (∃ S', RdR g S' w' A') ∧ Below w.heap.size w w' := by
  subst hg
  exact (set_any f S A z n w h).mono fun e w' ⟨A', S', e1, hr, _, hb⟩ => ⟨A', e1, ⟨S', hr⟩, hb⟩
def vcells (x : Vol) : List Value := [.string ⟨x.name.toArray⟩, .int .i64 x.blocks, .int .i64 x.quota, .int .i64 x.used, .bool x.frozen, .pointer x.A]
def vols (l : List Vol) : List Value := l.flatMap vcells
theorem vols_cons (y : Vol) (l : List Vol) : vols (y :: l) = .string ⟨y.name.toArray⟩ :: .int .i64 y.blocks :: .int .i64 y.quota :: .int .i64 y.used :: .bool y.frozen :: .pointer y.A :: vols l := rfl
theorem vols_len : ∀ l : List Vol, (vols l).length = l.length * 6
  | [] => rfl
  | x :: l => by
    rw [vols_cons]
    simp only [List.length_cons, vols_len l]
    omega
theorem vols_one (l : List Vol) : ∀ u ∈ vols l, u.oneCell' = true := fun u hu => by
  obtain ⟨x, _, hu⟩ := List.mem_flatMap.1 hu
  simp only [vcells, List.mem_cons, List.not_mem_nil, or_false] at hu
  rcases hu with rfl | rfl | rfl | rfl | rfl | rfl <;> rfl
theorem vols_app (l r : List Vol) : vols (l ++ r) = vols l ++ vols r := List.flatMap_append
theorem vols_at {r : List Vol} {i : Nat} {x : Vol} (h : r[i]? = some x) : (vols r)[i * 6]? = some (.string ⟨x.name.toArray⟩) ∧ (vols r)[i * 6 + 1]? = some (.int .i64 x.blocks) ∧ (vols r)[i * 6 + 2]? = some (.int .i64 x.quota) ∧
    (vols r)[i * 6 + 3]? = some (.int .i64 x.used) ∧ (vols r)[i * 6 + 4]? = some (.bool x.frozen) ∧ (vols r)[i * 6 + 5]? = some (.pointer x.A) := by
  induction r generalizing i with
  | nil => simp at h
  | cons y r ih =>
    rw [vols_cons]
    cases i with
    | zero =>
      simp only [List.getElem?_cons_zero, Option.some.injEq] at h
      subst h
      exact ⟨rfl, rfl, rfl, rfl, rfl, rfl⟩
    | succ i =>
      have := ih (i := i) (by simpa using h)
      rw [show (i + 1) * 6 = i * 6 + 1 + 1 + 1 + 1 + 1 + 1 by omega]
      exact this
/-- The volumes lie in a slice's cells. -/
structure RdV (w : World) (A : Option Addr) (l : List Vol) (c : Nat) : Prop where
  rd : RdA w A (vols l)
  cap : l.length ≤ c
  nil : A = none → l.length = 0 ∧ c = 0
theorem RdV.below {w w' : World} {A : Option Addr} {l : List Vol} {c : Nat} (h : RdV w A l c) (k : Below w.heap.size w w') : RdV w' A l c := ⟨h.rd.below k, h.cap, h.nil⟩
theorem RdV.at {w : World} {A : Option Addr} {l : List Vol} {c : Nat} (h : RdV w A l c) {i : Nat} {x : Vol} (hx : l[i]? = some x) : ∃ b o, A = some ⟨b, o, none⟩ ∧ w.cell? ⟨b, o + i * 6, none⟩ = some (.string ⟨x.name.toArray⟩) ∧ w.cell? ⟨b, o + i * 6 + 1, none⟩ = some (.int .i64 x.blocks) ∧
    w.cell? ⟨b, o + i * 6 + 2, none⟩ = some (.int .i64 x.quota) ∧ w.cell? ⟨b, o + i * 6 + 3, none⟩ = some (.int .i64 x.used) ∧ w.cell? ⟨b, o + i * 6 + 4, none⟩ = some (.bool x.frozen) ∧ w.cell? ⟨b, o + i * 6 + 5, none⟩ = some (.pointer x.A) := by
  obtain ⟨h0, h1, h2, h3, h4, h5⟩ := vols_at hx
  obtain ⟨b, o, e, c0⟩ := h.rd _ _ h0
  obtain ⟨b1, o1, e1, c1⟩ := h.rd _ _ h1
  obtain ⟨b2, o2, e2, c2⟩ := h.rd _ _ h2
  obtain ⟨b3, o3, e3, c3⟩ := h.rd _ _ h3
  obtain ⟨b4, o4, e4, c4⟩ := h.rd _ _ h4
  obtain ⟨b5, o5, e5, c5⟩ := h.rd _ _ h5
  rw [e] at e1 e2 e3 e4 e5
  cases e1
  cases e2
  cases e3
  cases e4
  cases e5
  exact ⟨b, o, e, c0, by rw [Nat.add_assoc]; exact c1, by rw [Nat.add_assoc]; exact c2, by rw [Nat.add_assoc]; exact c3, by rw [Nat.add_assoc]; exact c4, by rw [Nat.add_assoc]; exact c5⟩
/-- The trees of all volumes read. -/
def Trees (w : World) (l : List Vol) : Prop := ∀ x ∈ l, ∃ S, RdR x.f S w x.A
theorem Trees.below {w w' : World} {l : List Vol} (h : Trees w l) (k : Below w.heap.size w w') : Trees w' l := fun x hx => by
  obtain ⟨S, h⟩ := h x hx
  exact ⟨S, h.below k⟩
/-- A set: a nil one, or a box with the slice of its volumes. -/
def RdS (w : World) (s : Option Addr) (l : List Vol) : Prop :=
  Trees w l ∧ ((s = none ∧ l = []) ∨ ∃ b A c, s = some ⟨b, 0, none⟩ ∧ w.heap[b]? = some (.cells #[.slice A l.length c] 104 (0, 0)) ∧ RdV w A l c)
theorem RdS.below {w w' : World} {s : Option Addr} {l : List Vol} (h : RdS w s l) (k : Below w.heap.size w w') : RdS w' s l := by
  refine ⟨h.1.below k, ?_⟩
  rcases h.2 with h | ⟨b, A, c, e, hb, hr⟩
  · exact Or.inl h
  · exact Or.inr ⟨b, A, c, e, (k.block b (block_lt hb)).trans hb, hr.below k⟩
theorem RdV.empty (w : World) : RdV w none [] 0 := ⟨fun i u hi => by simp [vols] at hi, Nat.le_refl _, fun _ => ⟨rfl, rfl⟩⟩
set_option maxHeartbeats 800000 in
theorem vall_any (s : Option Addr) (l : List Vol) (w : World) (h : RdS w s l) : Calls Try.prog 55 #[.pointer s] w fun e w' => ∃ A c, e = .returned (.slice A l.length c) ∧ RdV w A l c ∧ w' = w := by
  rcases h.2 with ⟨rfl, rfl⟩ | ⟨b, A, c, rfl, hb, hr⟩
  · go_enter Try.func55, Try.ntmps55
    go_wp2
    go_ret
    exact ⟨none, 0, rfl, RdV.empty w, rfl⟩
  · have hc : w.cell? ⟨b, 0, none⟩ = some (.slice A l.length c) := block_cell hb
    have HR := Lib.hid hr
    obtain ⟨n, hn⟩ : ∃ n, n = l.length := ⟨_, rfl⟩
    rw [← hn] at hc
    have HN := Lib.hid hn
    clear hr hb hn h
    go_enter Try.func55, Try.ntmps55
    go_wp2
    go_ret
    exact ⟨A, c, by rw [← HN.out]; rfl, HR.out, rfl⟩
theorem scmp_any (a b : List UInt8) (w : World) : Calls Try.prog 71 #[.string ⟨a.toArray⟩, .string ⟨b.toArray⟩] w fun e w' => e = .returned (.int .i64 (cmpB a b)) ∧ w' = w :=
  Any.strings_Compare (P := Try.prog) Try.lays106 ⟨a.toArray⟩ ⟨b.toArray⟩ w
set_option maxHeartbeats 800000 in
theorem vcmp_any (x : Vol) (t : List UInt8) (w : World) : Calls Try.prog 70 #[.agg #[.string ⟨x.name.toArray⟩, .int .i64 x.blocks, .int .i64 x.quota, .int .i64 x.used, .bool x.frozen, .pointer x.A], .string ⟨t.toArray⟩] w fun e w' => e = .returned (.int .i64 (cmpB x.name t)) ∧ Below w.heap.size w w' := by
  obtain ⟨nm, bl, qu, us, fr, A, f⟩ := x
  go_enter Try.func70, Try.ntmps70
  go_wp2_with fail
  refine (scmp_any nm t _).mono ?_
  rintro e w' ⟨rfl, rfl⟩
  go_wp2_with fail
  go_ret
  exact ⟨rfl, (Below.refl _ _).alloc (Nat.le_refl _) _⟩
end Go.Proofs.Ytnnadhfpkplncaa
