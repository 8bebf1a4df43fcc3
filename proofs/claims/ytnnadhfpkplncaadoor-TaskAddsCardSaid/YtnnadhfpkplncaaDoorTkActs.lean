/- What a list of acts reads as (law 23). No condition of its own. -/
import Derived.Test.YtnnadhfpkplncaaDoorTkSure
namespace Go.Proofs.YtnnadhfpkplncaaDoor
open Go.RowKit Go.Maps

structure ActT where
  kind : Int
  num : Int
  A : Option Addr
  c : Nat
  ws : List Want
def tcells (x : ActT) : List Value := [.int .i64 x.kind, .int .i64 x.num, .slice x.A x.ws.length x.c]
def tacts (l : List ActT) : List Value := l.flatMap tcells
theorem tacts_at {r : List ActT} {i : Nat} {x : ActT} (h : r[i]? = some x) : (tacts r)[i * 3]? = some (.int .i64 x.kind) ∧ (tacts r)[i * 3 + 1]? = some (.int .i64 x.num) ∧ (tacts r)[i * 3 + 2]? = some (.slice x.A x.ws.length x.c) := by
  induction r generalizing i with
  | nil => simp at h
  | cons y r ih =>
    have e : tacts (y :: r) = .int .i64 y.kind :: .int .i64 y.num :: .slice y.A y.ws.length y.c :: tacts r := rfl
    cases i with
    | zero =>
      simp only [List.getElem?_cons_zero, Option.some.injEq] at h
      subst h
      exact ⟨rfl, rfl, rfl⟩
    | succ i =>
      have := ih (i := i) (by simpa using h)
      rw [e, show (i + 1) * 3 = i * 3 + 1 + 1 + 1 by omega]
      exact this
structure OkT (W : World) (x : ActT) : Prop where
  rd : RdA W x.A (wants2 x.ws)
  len : x.ws.length ≤ x.c
  byt : x.ws.length * 24 ≤ 140737488355328
  none : x.A = Option.none → x.ws.length = 0 ∧ x.c = 0
def ActsT (W : World) (v : Value) : Prop := ∃ (A : Option Addr) (c : Nat) (l : List ActT), v = .slice A l.length c ∧ l.length ≤ c ∧ l.length ≤ 140737488355328 ∧ RdA W A (tacts l) ∧ ∀ x ∈ l, OkT W x
theorem tact_at {w : World} {A : Option Addr} {r : List ActT} (h : RdA w A (tacts r)) {i : Nat} {x : ActT} (hx : r[i]? = some x) :
    ∃ b o, A = some ⟨b, o, none⟩ ∧ w.cell? ⟨b, o + i * 3, none⟩ = some (.int .i64 x.kind) ∧ w.cell? ⟨b, o + i * 3 + 1, none⟩ = some (.int .i64 x.num) ∧ w.cell? ⟨b, o + i * 3 + 2, none⟩ = some (.slice x.A x.ws.length x.c) := by
  obtain ⟨h1, h2, h3⟩ := tacts_at hx
  obtain ⟨b, o, e, c1⟩ := h _ _ h1
  obtain ⟨b2, o2, e2, c2⟩ := h _ _ h2
  obtain ⟨b3, o3, e3, c3⟩ := h _ _ h3
  rw [e] at e2 e3
  cases e2
  cases e3
  exact ⟨b, o, e, c1, by rw [Nat.add_assoc]; exact c2, by rw [Nat.add_assoc]; exact c3⟩
end Go.Proofs.YtnnadhfpkplncaaDoor
