/- Names that are wanted: given on, cloned. Condition: they read. -/
import Derived.Test.YtnnadhfpkplncaaDoorTkNew
namespace Go.Proofs.YtnnadhfpkplncaaDoor
open Go.RowKit Go.Maps

abbrev Want := List UInt8 × Bool
def wcells (x : Want) : List Value := [.string ⟨x.1.toArray⟩, .bool x.2]
def wants2 (l : List Want) : List Value := l.flatMap wcells
theorem wants2_at {r : List Want} {i : Nat} {x : Want} (h : r[i]? = some x) : (wants2 r)[i * 2]? = some (.string ⟨x.1.toArray⟩) ∧ (wants2 r)[i * 2 + 1]? = some (.bool x.2) := by
  induction r generalizing i with
  | nil => simp at h
  | cons y r ih =>
    have e : wants2 (y :: r) = .string ⟨y.1.toArray⟩ :: .bool y.2 :: wants2 r := rfl
    cases i with
    | zero =>
      simp only [List.getElem?_cons_zero, Option.some.injEq] at h
      subst h
      exact ⟨rfl, rfl⟩
    | succ i =>
      have := ih (i := i) (by simpa using h)
      rw [e, show (i + 1) * 2 = i * 2 + 1 + 1 by omega]
      exact this
theorem wants2_append (r s : List Want) : wants2 (r ++ s) = wants2 r ++ wants2 s := List.flatMap_append
theorem wants2_len : ∀ r : List Want, (wants2 r).length = r.length * 2
  | [] => rfl
  | x :: r => by
    have e : wants2 (x :: r) = .string ⟨x.1.toArray⟩ :: .bool x.2 :: wants2 r := rfl
    rw [e]
    simp only [List.length_cons, wants2_len r]
    omega
theorem wants2_one (r : List Want) : ∀ u ∈ wants2 r, u.oneCell' = true := fun u hu => by
  obtain ⟨x, _, hu⟩ := List.mem_flatMap.1 hu
  simp [wcells] at hu
  rcases hu with rfl | rfl <;> rfl
theorem want_at {w : World} {A : Option Addr} {r : List Want} (h : RdA w A (wants2 r)) {i : Nat} {x : Want} (hx : r[i]? = some x) :
    ∃ b o, A = some ⟨b, o, none⟩ ∧ w.cell? ⟨b, o + i * 2, none⟩ = some (.string ⟨x.1.toArray⟩) ∧ w.cell? ⟨b, o + i * 2 + 1, none⟩ = some (.bool x.2) := by
  obtain ⟨h1, h2⟩ := wants2_at hx
  obtain ⟨b, o, e, c1⟩ := h _ _ h1
  obtain ⟨b2, o2, e2, c2⟩ := h _ _ h2
  rw [e] at e2
  cases e2
  exact ⟨b, o, e, c1, by rw [Nat.add_assoc]; exact c2⟩
theorem infoTWANT : (Tryd.prog.info? 99).map (fun i => (i.zero, i.size, i.bytes)) = some (some (.agg #[.string ByteArray.empty, .bool false]), 2, 24) := by kernel_rfl
theorem want_new (w : World) (x : Want) : ∀ (j : Nat) (u : Value), (wcells x)[j]? = some u → (w.alloc (.cells #[.string ⟨x.1.toArray⟩, .bool x.2] 99)).cell? ((⟨w.heap.size, 0, none⟩ : Addr).add j) = some u := fun j u hj => by
  rw [WideShapes.add_plain, Nat.zero_add, block_cell (alloc_new _ _)]
  simpa [wcells] using hj
theorem own_rdW {w : World} {base n s : Nat} {E : TypeId} {v : Value} {xs : List Value} (h : w.ownsRow base E s v n xs) : ∃ A c, v = .slice A n c ∧ n ≤ c ∧ RdA w A xs ∧ (A = none → n = 0 ∧ c = 0) := by
  rcases h.2 with ⟨e1, e2⟩ | ⟨g, c, cur, rfl, hg, hh, hc, _, _, ht⟩
  · subst e2
    have : xs = [] := List.eq_nil_of_length_eq_zero (by simpa using h.1)
    subst this
    exact ⟨none, 0, e1, Nat.le_refl _, fun i u hi => by simp at hi, fun _ => ⟨rfl, rfl⟩⟩
  · refine ⟨_, c, rfl, hc, fun i u hi => ⟨g, 0, rfl, ?_⟩, fun e => by cases e⟩
    have hlt : i < n * s := by rw [← h.1]; exact (List.getElem?_eq_some_iff.1 hi).1
    rw [← ht, List.getElem?_take, if_pos hlt] at hi
    rw [Nat.zero_add, block_cell hh]
    simpa using hi
set_option maxRecDepth 100000 in
set_option maxHeartbeats 3200000 in
theorem give_any (l : List Want) (A : Option Addr) (c : Nat) (w : World) (h : RdA w A (wants2 l)) (hc : l.length ≤ c) (hl : l.length * 24 ≤ 140737488355328) :
    Calls Tryd.prog 28 #[.slice A l.length c] w fun e w' => ∃ v', e = .returned v' ∧ w'.ownsRow w.heap.size 99 2 v' l.length (wants2 l) ∧ Below w.heap.size w w' := by
  obtain ⟨n, hn⟩ : ∃ n, n = l.length := ⟨_, rfl⟩
  rw [← hn] at hc hl ⊢
  have HR := Lib.hid h
  have HN := Lib.hid hn
  obtain ⟨iI, hiI, hz0, hz1, hz2⟩ := info_parts infoTWANT
  clear h hn
  go_enter Tryd.func28, Tryd.ntmps28
  go_wp2
  go_loopg [3, 4] n (fun gg o i wr => ∃ (k : Nat) (v1 : Value), k ≤ n ∧ gg = n - k ∧ i = .int .i64 k ∧ o = v1 ∧ Hid (wr.ownsRow w.heap.size 99 2 v1 k (wants2 (l.take k))) ∧ Hid (Below w.heap.size w wr))
  case atStart => exact ⟨0, _, by omega, rfl, rfl, rfl, World.ownsRow_nil _ _ _ _, Below.refl _ _⟩
  case round =>
    obtain ⟨k, v1, hk, hgk, rfl, hv, HH, HB⟩ := hrel
    obtain rfl := hv.symm
    by_cases hgo : k < n
    · obtain ⟨x, hx⟩ : ∃ x, l[k]? = some x := ⟨_, List.getElem?_eq_getElem (by rw [← HN.out]; omega)⟩
      obtain ⟨b, o, rfl, c1, c2⟩ := want_at (HR.out.below HB.out) hx
      have hki : (k : Int) < (n : Int) := by omega
      have hw1 : IntKind.i64.wrap ((k : Int) + 1) = (k : Int) + 1 := IntWalk.i64_in _ (by omega)
      have HTK := Lib.hid (show wants2 (l.take (k + 1)) = wants2 (l.take k) ++ wcells x by
        obtain ⟨hlt, rfl⟩ := List.getElem?_eq_some_iff.1 hx
        rw [List.take_succ_eq_append_getElem hlt, wants2_append]; simp [wants2])
      obtain ⟨x1, x2⟩ := x
      clear hx
      go_wp2_with (at_builtin; refine Hid.out ?_)
      unfold Hid
      refine wpList_append_own _ rfl (.tmp 11) (.tmp 16) 65 rfl w.heap.size 99 iI _ 2 24 Tryd.underlying65 hiI hz0 hz1 hz2 rfl (by decide) _ k _ rfl (own_keepC HH.out (Keep.of ((Below.refl _ _).alloc (Nat.le_refl _) _) (Nat.le_refl _))) _ 1 1 (wcells (x1, x2)) rfl rfl (want_new _ _) (fun u hu => wants2_one [(x1, x2)] u (by simpa [wants2] using hu)) (by unfold maxLen; omega) (by omega) (by have := HB.out.size; rw [World.size_alloc]; omega) ?_
      intro v6 w6 hrow6 hg6 _
      have HB6 := Lib.hid ((HB.out.alloc HB.out.size _).grown hg6 (by have := HB.out.size; rw [World.size_alloc]; omega) (fun q e => own_ge HH.out e))
      have HE := Lib.hid (show w6.ownsRow w.heap.size 99 2 v6 (k + 1) (wants2 (l.take (k + 1))) by rw [HTK.out]; exact hrow6)
      clear hrow6 hg6
      go_wp2
      go_roundg (n - (k + 1))
      case measure => omega
      case rel => exact ⟨k + 1, v6, by omega, rfl, by congr 1, rfl, HE, HB6⟩
    · have hke : k = n := by omega
      subst hke
      have hki : ¬ (k : Int) < (k : Int) := by omega
      have HE := Lib.hid (show wr.ownsRow w.heap.size 99 2 v1 k (wants2 l) by
        have := HH.out
        rwa [List.take_of_length_le (by rw [← HN.out]; omega)] at this)
      clear hk hgo HH
      go_wp2
      go_ret
      exact ⟨_, rfl, HE.out, HB.out⟩
set_option maxRecDepth 100000 in
set_option maxHeartbeats 1600000 in
/-- slices.Clone. -/
theorem clone_any (l : List Want) (A : Option Addr) (c : Nat) (w : World) (h : RdA w A (wants2 l)) (hA : A = none → l.length = 0 ∧ c = 0) (hl : l.length ≤ 1000) :
    Calls Tryd.prog 40 #[.slice A l.length c] w fun e w' => ∃ v', e = .returned v' ∧ w'.ownsRow w.heap.size 99 2 v' l.length (wants2 l) ∧ Below w.heap.size w w' := by
  obtain ⟨n, hn⟩ : ∃ n, n = l.length := ⟨_, rfl⟩
  rw [← hn] at hA hl ⊢
  have HR := Lib.hid h
  have HN := Lib.hid hn
  obtain ⟨iI, hiI, hz0, hz1, hz2⟩ := info_parts infoTWANT
  clear h hn
  cases A with
  | none =>
    obtain ⟨rfl, rfl⟩ := hA rfl
    have HE := Lib.hid (show w.ownsRow w.heap.size 99 2 (.slice none 0 0) 0 (wants2 l) by
      have : l = [] := List.eq_nil_of_length_eq_zero HN.out.symm
      rw [this]; exact World.ownsRow_nil _ _ _ _)
    have hbo : (binOp .eql 65 (.slice none 0 0) (.slice none 0 0)).run Tryd.prog w = .ok (.bool true) w := by kernel_rfl
    go_enter Tryd.func40, Tryd.ntmps40
    go_wp2
    go_ret
    exact ⟨_, rfl, HE.out, Below.refl _ _⟩
  | some a =>
    clear hA
    have hbo : (binOp .eql 65 (.slice (some a) n c) (.slice none 0 0)).run Tryd.prog w = .ok (.bool false) w := by kernel_rfl
    go_enter Tryd.func40, Tryd.ntmps40
    go_wp2_with (at_builtin; refine Hid.out ?_)
    unfold Hid
    have ho : (w.alloc (.cells #[] 99)).ownsRow w.heap.size 99 2 (.slice (some ⟨w.heap.size, 0, none⟩) 0 0) 0 [] :=
      ⟨rfl, Or.inr ⟨w.heap.size, 0, #[], rfl, Nat.le_refl _, alloc_new _ _, Nat.le_refl _, Nat.zero_le _, rfl, rfl⟩⟩
    refine wpList_append_own _ rfl (.tmp 5) (.tmp 6) 65 rfl w.heap.size 99 iI _ 2 24 Tryd.underlying65 hiI hz0 hz1 hz2 rfl (by decide) _ 0 [] rfl ho a n c (wants2 l) rfl (by rw [wants2_len, HN.out]) (fun j u hj => by
      obtain ⟨b, o, e, hc⟩ := (HR.out.alloc (.cells #[] 99)) j u hj
      cases e
      rw [WideShapes.add_plain]; exact hc) (wants2_one l) (by unfold maxLen; omega) (by omega) (by rw [World.size_alloc]; omega) ?_
    intro v6 w6 hrow6 hg6 _
    have HB6 := Lib.hid (((Below.refl _ w).alloc (Nat.le_refl _) (.cells #[] 99)).grown hg6 (by rw [World.size_alloc]; omega) (fun q e => by have := own_ge ho e; omega))
    have HE := Lib.hid (show w6.ownsRow w.heap.size 99 2 v6 n (wants2 l) by rw [Nat.zero_add] at hrow6; exact hrow6)
    clear hrow6 hg6 ho
    go_wp2
    go_ret
    exact ⟨_, rfl, HE.out, HB6.out⟩
end Go.Proofs.YtnnadhfpkplncaaDoor
