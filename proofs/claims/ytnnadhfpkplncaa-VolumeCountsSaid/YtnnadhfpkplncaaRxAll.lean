/- All places that have a number, and these. Condition: the tree reads. -/
import Derived.Test.YtnnadhfpkplncaaRxPair2
namespace Go.Proofs.Ytnnadhfpkplncaa
open Go.RowKit Go.Shelf
attribute [local go_sem] Oper.semAt_some

theorem row_kept {W W' : World} {row : Option Nat} {base m : Nat} {E : TypeId} {u : Value} {ys : List Value} (h : W.ownsRow base E 1 u m ys) (hg : W.grownBy W' row) (hr : ∀ r, row = some r → ∃ o : Obj, W.heap[r]? = some o ∧ o.isCells = false) : W'.ownsRow base E 1 u m ys := by
  refine h.kept hg ?_
  cases hub : u.ownBlock with
  | none => exact Or.inl rfl
  | some k =>
    refine Or.inr fun e => ?_
    obtain ⟨cs, hcs⟩ := own_plain h hub
    obtain ⟨o, ho, hc⟩ := hr k e.symm
    rw [hcs] at ho
    cases ho
    cases hc
theorem box_kept {W W' : World} {row : Option Nat} {B : Nat} {T : TypeId} {u : Value} (h : Boxed W B T u) (hg : W.grownBy W' row) (hr : ∀ r, row = some r → ∃ o : Obj, W.heap[r]? = some o ∧ o.isCells = false) : Boxed W' B T u :=
  h.kept hg fun e => by
    obtain ⟨o, ho, hc⟩ := hr B e.symm
    rw [show W.heap[B]? = _ from h] at ho
    cases ho
    cases hc
/-- Both lists between two rounds. -/
def Both (n₀ B1 B2 : Nat) (f : Nat → Int) (pre : List Nat) (W : World) : Prop :=
  ∃ u1 u2, Boxed W B1 32 u1 ∧ Boxed W B2 32 u2 ∧ W.ownsRow n₀ 3 1 u1 pre.length (pre.map fun x : Nat => .int .i64 (x : Int)) ∧ W.ownsRow n₀ 3 1 u2 pre.length (pre.map fun x => .int .i64 (f x)) ∧ ∀ k, u1.ownBlock = some k → u2.ownBlock ≠ some k
theorem both_own (n₀ B1 B2 : Nat) (f : Nat → Int) : Own (Both n₀ B1 B2 f) := fun s A B row hs hg hr => by
  obtain ⟨u1, u2, h1, h2, h3, h4, h5⟩ := hs
  exact ⟨u1, u2, box_kept h1 hg hr, box_kept h2 hg hr, row_kept h3 hg hr, row_kept h4 hg hr, h5⟩
/-- What All hands back. -/
def AllPost (f : Nat → Int) (w : World) (e : Ending) (w' : World) : Prop :=
  ∃ u1 u2, e = .returned (.tuple #[u1, u2]) ∧ w'.ownsRow w.heap.size 3 1 u1 (itemsL f 2 0).length ((itemsL f 2 0).map fun x : Nat => .int .i64 (x : Int)) ∧ w'.ownsRow w.heap.size 3 1 u2 (itemsL f 2 0).length ((itemsL f 2 0).map fun x => .int .i64 (f x)) ∧ Below w.heap.size w w'
set_option maxRecDepth 100000 in
set_option maxHeartbeats 1600000 in
theorem all_any (f : Nat → Int) (S : Nat → Nat → Option Nat) (A : Option Addr) (w : World) (h : RdR f S w A) :
    Calls Try.prog 14 #[.pointer A] w (AllPost f w) := by
  have HS := Lib.hid (each_all f S A w h)
  have hle := items_le f
  clear h
  refine (callsIn_wide (n := 3)).1 ?_
  refine callsIn_of_wp_marks Try.func14 rfl trivial ?_ rfl
  simp only [Try.ntmps14, List.size_toArray, List.length_cons, List.length_nil, Nat.reduceAdd, Nat.reduceSub, Array.replicate_succ, Array.replicate_zero, List.push_toArray, List.append_toArray, List.nil_append, List.cons_append]
  gi_wp2
  have hB0 : Below w.heap.size w ((w.alloc (.cells #[.slice none 0 0] 32)).alloc (.cells #[.slice none 0 0] 32)) := ((Below.refl _ w).alloc (Nat.le_refl _) _).alloc (by simp) _
  have hb1 : Boxed ((w.alloc (.cells #[.slice none 0 0] 32)).alloc (.cells #[.slice none 0 0] 32)) w.heap.size 32 (.slice none 0 0) := (Boxed.new w _ _).alloc _
  have hb2 : Boxed ((w.alloc (.cells #[.slice none 0 0] 32)).alloc (.cells #[.slice none 0 0] 32)) (w.heap.size + 1) 32 (.slice none 0 0) := by
    have := Boxed.new (w.alloc (.cells #[.slice none 0 0] 32)) 32 (.slice none 0 0)
    simpa using this
  refine range_all 40 #[.pointer A] rfl (enters_of Try.func40 (by kernel_rfl) rfl) HS.out hB0 (fun _ => rfl)
    (fun pre W => Both w.heap.size w.heap.size (w.heap.size + 1) f pre W ∧ Below w.heap.size w W)
    (OwnFrom.and (Own.from (both_own _ _ _ _) _) (ownFrom_below (Nat.le_refl _) (by simp; omega)))
    ⟨⟨.slice none 0 0, .slice none 0 0, hb1, hb2, World.ownsRow_nil _ _ _ _, World.ownsRow_nil _ _ _ _, fun k e => (by cases e)⟩, hB0⟩
    (fun x => { tmps := #[.pointer A, undef, .slice none 0 0, .slice none 0 0, .pointer (some ⟨w.heap.size, 0, none⟩), .pointer (some ⟨w.heap.size + 1, 0, none⟩), .int .i64 x, .int .i64 (f x), .pointer A, .func (.func 40) #[.pointer A] #[], .int .i64 x, .int .i64 (f x), undef, undef, undef, undef, undef, undef, undef, undef, undef, undef], defers := [] }) ?assign ?body ?done
  case assign =>
    intro l x W K hK
    unfold yArgs
    gi_wp2
    simpa using hK
  case body =>
    rintro l pre x W ⟨⟨u1, u2, h1, h2, h3, h4, h5⟩, hB⟩ hlen _
    have H1 := Lib.hid h1
    have H2 := Lib.hid h2
    have H3 := Lib.hid h3
    have H4 := Lib.hid h4
    have H5 := Lib.hid h5
    have HB := Lib.hid hB
    clear h1 h2 h3 h4 h5 hB
    gi_wp2
    refine pair_region (n₀ := w.heap.size) (B0 := ((w.alloc (.cells #[.slice none 0 0] 32)).alloc (.cells #[.slice none 0 0] 32)).heap.size) (base := w.heap.size) (y1 := (x : Int)) (y2 := f x)
      ⟨by decide +kernel, ⟨_, rfl, rfl, rfl, rfl⟩, ⟨_, rfl, rfl, rfl, rfl⟩, ⟨_, rfl, rfl, rfl, rfl⟩, ⟨_, rfl, rfl, rfl, rfl⟩, ⟨_, rfl, rfl, rfl, rfl⟩, ⟨_, rfl, rfl, rfl, rfl⟩, ⟨_, rfl, rfl, rfl, rfl⟩, ⟨_, rfl, rfl, rfl, rfl⟩, ⟨_, rfl, rfl, rfl, rfl⟩, ⟨_, rfl, rfl, rfl, rfl⟩⟩
      rfl (by simp) (Nat.le_refl _) H1.out H2.out H3.out H4.out H5.out (by omega) (Nat.le_refl _) (by omega) rfl rfl rfl rfl (by omega) (by omega) ?_
    intro a' w' v1 v2 k1 k2 k3 k4 k5 k6 k7
    refine ⟨k6, k7, ⟨v1, v2, k1, k2, ?_, ?_, k5⟩, HB.out.trans k7⟩
    · rw [List.length_append, List.map_append]; exact k3
    · rw [List.length_append, List.map_append]; exact k4
  case done =>
    rintro D W hD ⟨⟨u1, u2, h1, h2, h3, h4, h5⟩, hB⟩ hK
    have c1 := h1.cell
    have c2 := h2.cell
    have HK := Lib.hid hK
    have H3 := Lib.hid h3
    have H4 := Lib.hid h4
    have HB := Lib.hid hB
    clear hK h3 h4 hB h1 h2 h5
    gi_wp2
    gi_region
    gi_wp2
    have HK' : W.drew.heap[D]? = some (.deferred (some [])) := HK.out
    refine ⟨by simp, .inl ⟨_, _, rfl, run_takeDeferred HK', ?_⟩⟩
    refine ⟨.tuple #[u1, u2], by simp [results, Try.f14, go_sem], u1, u2, rfl, ownsRow_putObj (W := W.drew) H3.out _ HK' rfl, ownsRow_putObj (W := W.drew) H4.out _ HK' rfl, HB.out.drew.trans (belowK_b (w := w) (Nat.le_refl _) W.drew D _ _ (by simp at hD; omega) HK' rfl rfl)⟩
end Go.Proofs.Ytnnadhfpkplncaa
