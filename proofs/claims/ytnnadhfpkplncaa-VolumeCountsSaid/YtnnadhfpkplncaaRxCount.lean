/- Which nodes two trees share, one of them made of the other. No condition but that they read. -/
import Derived.Test.YtnnadhfpkplncaaRxInts
namespace Go.Proofs.Ytnnadhfpkplncaa
open Go.RowKit

theorem nodes_none {S : Nat → Nat → Option Nat} {D g : Nat} (h : S D g = none) : nodesL S D g = [] := by
  cases D with
  | zero => unfold nodesL; rw [h]; rfl
  | succ D => unfold nodesL; rw [h]
theorem div_step {h D e : Nat} (he : e ≤ D) : h / 16 ^ (D + 1 - e) = h / 16 ^ (D - e) / 16 := by
  rw [show D + 1 - e = (D - e) + 1 by omega, Nat.pow_succ, Nat.div_div_eq_div_mul]
theorem nodes_mem {S : Nat → Nat → Option Nat} : ∀ D g b, b ∈ nodesL S D g → ∃ e h, e ≤ D ∧ h / 16 ^ (D - e) = g ∧ S e h = some b
  | 0, g, b, hb => by
    unfold nodesL at hb
    exact ⟨0, g, Nat.le_refl _, by simp, by simpa using hb⟩
  | D + 1, g, b, hb => by
    unfold nodesL at hb
    cases hs : S (D + 1) g with
    | none => rw [hs] at hb; simp at hb
    | some c =>
      rw [hs] at hb
      simp only [List.mem_cons, List.mem_flatMap, List.mem_range] at hb
      rcases hb with rfl | ⟨i, hi, hb⟩
      · exact ⟨D + 1, g, Nat.le_refl _, by simp, hs⟩
      · obtain ⟨e, h, he, hd, hS⟩ := nodes_mem D _ b hb
        exact ⟨e, h, by omega, by rw [div_step he, hd]; omega, hS⟩
theorem nodes_of {f : Nat → Int} {S : Nat → Nat → Option Nat} {w : World} (hr : RdD 2 f S w) : ∀ D, D ≤ 2 → ∀ e h b, e ≤ D → S e h = some b → b ∈ nodesL S D (h / 16 ^ (D - e))
  | 0, _, e, h, b, he, hs => by
    obtain rfl : e = 0 := by omega
    unfold nodesL
    simp [hs]
  | D + 1, hD, e, h, b, he, hs => by
    by_cases hE : e = D + 1
    · subst hE
      unfold nodesL
      simp [hs]
    · have ih := nodes_of hr D (by omega) e h b (by omega) hs
      have hi : h / 16 ^ (D - e) % 16 < 16 := Nat.mod_lt _ (by decide)
      have hg : h / 16 ^ (D + 1 - e) * 16 + h / 16 ^ (D - e) % 16 = h / 16 ^ (D - e) := by
        rw [div_step (by omega)]
        omega
      cases hp : S (D + 1) (h / 16 ^ (D + 1 - e)) with
      | none =>
        have hb := (hr.can _ _ hD).1 hp
        have hc := bare_succ.1 hb _ hi
        rw [hg] at hc
        rw [nodes_none ((hr.can D _ (by omega)).2 hc)] at ih
        simp at ih
      | some c =>
        unfold nodesL
        rw [hp]
        exact List.mem_cons_of_mem _ (List.mem_flatMap.2 ⟨_, List.mem_range.2 hi, by rw [hg]; exact ih⟩)
/-- No block serves twice. -/
def InjS (S : Nat → Nat → Option Nat) : Prop := ∀ d h d' h' b, d ≤ 2 → d' ≤ 2 → S d h = some b → S d' h' = some b → d = d' ∧ h = h'
theorem nodes_nodup {S : Nat → Nat → Option Nat} (hS : InjS S) : ∀ D, D ≤ 2 → ∀ g, (nodesL S D g).Nodup
  | 0, _, g => by unfold nodesL; cases S 0 g <;> simp
  | D + 1, hD, g => by
    unfold nodesL
    cases hs : S (D + 1) g with
    | none => simp
    | some b =>
      refine List.nodup_cons.2 ⟨fun hm => ?_, ?_⟩
      · obtain ⟨i, _, hb⟩ := List.mem_flatMap.1 hm
        obtain ⟨e, h, he, _, hb⟩ := nodes_mem D _ b hb
        have := (hS _ _ _ _ _ hD (by omega) hs hb).1
        omega
      · unfold List.Nodup
        rw [List.pairwise_flatMap]
        refine ⟨fun i _ => nodes_nodup hS D (by omega) _, ?_⟩
        refine (List.pairwise_lt_range (n := 16)).imp fun {i j} hij x hx y hy e => ?_
        subst e
        obtain ⟨e1, h1, he1, hd1, hs1⟩ := nodes_mem D _ x hx
        obtain ⟨e2, h2, he2, hd2, hs2⟩ := nodes_mem D _ x hy
        obtain ⟨rfl, rfl⟩ := hS _ _ _ _ _ (by omega) (by omega) hs1 hs2
        omega
theorem RdD.lt {f : Nat → Int} {S : Nat → Nat → Option Nat} {w : World} (hr : RdD 2 f S w) {d h b : Nat} (hd : d ≤ 2) (hs : S d h = some b) : b < w.heap.size := by
  cases d with
  | zero => exact block_lt (hr.leaf _ _ hs)
  | succ d => exact block_lt (hr.node _ _ _ hd hs)
theorem injS_upd {f : Nat → Int} {S : Nat → Nat → Option Nat} {a B : Nat} {nb : Nat → Nat} (hS : InjS S) (hlt : ∀ d h b, d ≤ 2 → S d h = some b → b < B) (hn : New B nb 2) : InjS (updS f S a 2 nb) := by
  have key : ∀ d h b, d ≤ 2 → updS f S a 2 nb d h = some b → (h = a / 16 ^ (d + 1) ∧ b = nb d) ∨ (S d h = some b ∧ b < B) := by
    intro d h b hd hb
    by_cases hh : h = a / 16 ^ (d + 1)
    · subst hh
      rcases updS_on (f := f) (S := S) (a := a) (nb := nb) hd with ⟨k, _⟩ | ⟨k, _⟩
      · rw [hb] at k; cases k
      · rw [hb] at k; cases k; exact Or.inl ⟨rfl, rfl⟩
    · rw [updS_off (fun k => hh k.2)] at hb
      exact Or.inr ⟨hb, hlt d h b hd hb⟩
  intro d h d' h' b hd hd' h1 h2
  rcases key d h b hd h1 with ⟨e1, e2⟩ | ⟨e1, e2⟩ <;> rcases key d' h' b hd' h2 with ⟨k1, k2⟩ | ⟨k1, k2⟩
  · have := hn.2 d d' hd hd' (by rw [← e2, ← k2])
    subst this
    exact ⟨rfl, by rw [e1, k1]⟩
  · have := hn.1 d hd; omega
  · have := hn.1 d' hd'; omega
  · exact hS d h d' h' b hd hd' e1 k1
theorem inBoth_comm {l l' : List Nat} (h : l.Nodup) (h' : l'.Nodup) : inBoth l l' = inBoth l' l := by
  unfold inBoth
  refine List.Perm.length_eq ((List.perm_ext_iff_of_nodup (h'.filter _) (h.filter _)).2 fun x => ?_)
  simp only [List.mem_filter, decide_eq_true_eq]
  exact ⟨fun ⟨a, b⟩ => ⟨b, a⟩, fun ⟨a, b⟩ => ⟨b, a⟩⟩
theorem inBoth_self (l : List Nat) : inBoth l l = l.length := by
  unfold inBoth
  rw [List.filter_eq_self.2 (fun x hx => by simpa using hx)]
open Classical in
/-- How many nodes on the way to a place there are. -/
noncomputable def onp (f : Nat → Int) (a : Nat) : Nat → Nat
  | 0 => if Bare 0 (a / 16) f then 0 else 1
  | D + 1 => if Bare (D + 1) (a / 16 ^ (D + 2)) f then 0 else 1 + onp f a D
theorem onp_le (f : Nat → Int) (a : Nat) : ∀ D, onp f a D ≤ D + 1
  | 0 => by unfold onp; split <;> omega
  | D + 1 => by
    unfold onp
    have := onp_le f a D
    split <;> omega
theorem flat_one {α : Type} {L : Nat → List α} {i0 : Nat} : ∀ n, i0 < n → (∀ i, i < n → i ≠ i0 → L i = []) → (List.range n).flatMap L = L i0
  | 0, h, _ => by omega
  | n + 1, h, hL => by
    rw [range_flat]
    by_cases e : i0 = n
    · subst e
      rw [List.flatMap_eq_nil_iff.2 fun i hi => hL i (by have := List.mem_range.1 hi; omega) (by have := List.mem_range.1 hi; omega), List.nil_append]
    · rw [flat_one n (by omega) (fun i hi => hL i (by omega)), hL n (by omega) (fun k => e k.symm), List.append_nil]
section
variable {f : Nat → Int} {S : Nat → Nat → Option Nat} {a B : Nat} {nb : Nat → Nat} (hlt : ∀ d h b, d ≤ 2 → S d h = some b → b < B) (hn : New B nb 2)
include hlt
theorem new_off {D g : Nat} (hD : D ≤ 2) (hg : g ≠ a / 16 ^ (D + 1)) {b : Nat} (hb : b ∈ nodesL (updS f S a 2 nb) D g) : b < B := by
  obtain ⟨e, h, he, hd, hs⟩ := nodes_mem D g b hb
  rw [updS_off] at hs
  · exact hlt e h b (by omega) hs
  · rintro ⟨_, rfl⟩
    apply hg
    rw [← hd, Nat.div_div_eq_div_mul, ← Nat.pow_add, show e + 1 + (D - e) = D + 1 by omega]
include hn
theorem new_on : ∀ D, D ≤ 2 → ((nodesL (updS f S a 2 nb) D (a / 16 ^ (D + 1))).filter fun b => decide (B ≤ b)).length = onp f a D
  | 0, _ => by
    have hon := updS_on (f := f) (S := S) (a := a) (D := 2) (e := 0) (nb := nb) (by omega)
    have e1 : a / 16 ^ (0 + 1) = a / 16 := by simp
    rw [e1] at hon ⊢
    unfold nodesL onp
    rcases hon with ⟨k, k2⟩ | ⟨k, k2⟩
    · rw [k, if_pos k2]; rfl
    · have := hn.1 0 (by omega)
      rw [k, if_neg k2]; simp [this]
  | D + 1, hD => by
    have hon := updS_on (f := f) (S := S) (a := a) (D := 2) (e := D + 1) (nb := nb) hD
    unfold nodesL onp
    rcases hon with ⟨k, k2⟩ | ⟨k, k2⟩
    · rw [k, if_pos k2]; rfl
    · have hnb := hn.1 (D + 1) hD
      rw [k, if_neg k2]
      simp only [List.filter_cons, hnb, decide_true, if_true, List.length_cons, List.filter_flatMap]
      rw [flat_one (i0 := a / 16 ^ (D + 1) % 16) 16 (Nat.mod_lt _ (by decide)) (fun i hi hne => ?_)]
      · rw [arm_group a (D + 1), new_on D (by omega), Nat.add_comm]
      · refine List.filter_eq_nil_iff.2 fun b hb => ?_
        have hne2 : a / 16 ^ (D + 1 + 1) * 16 + i ≠ a / 16 ^ (D + 1) := by
          have := arm_group a (D + 1)
          omega
        have := new_off hlt (by omega) hne2 hb
        simp; omega
end
theorem count_not (p : Nat → Bool) : ∀ l : List Nat, (l.filter p).length + (l.filter fun b => !p b).length = l.length
  | [] => rfl
  | x :: l => by
    have := count_not p l
    cases hp : p x <;> simp [hp] <;> omega
/-- How many nodes a tree and the one made of it share: all but the new ones. -/
theorem shared_upd {f f' : Nat → Int} {S : Nat → Nat → Option Nat} {a : Nat} {nb : Nat → Nat} {w : World} (hr : RdD 2 f S w) (ha : a ≤ 4095) (hn : New w.heap.size nb 2) :
    inBoth (nodesL S 2 0) (nodesL (updS f' S a 2 nb) 2 0) + onp f' a 2 = (nodesL (updS f' S a 2 nb) 2 0).length := by
  have hlt : ∀ d h b, d ≤ 2 → S d h = some b → b < w.heap.size := fun d h b hd hs => hr.lt hd hs
  have h0 : a / 16 ^ (2 + 1) = 0 := by omega
  have hon := new_on (f := f') (a := a) hlt hn 2 (Nat.le_refl _)
  rw [h0] at hon
  rw [← hon]
  have key : inBoth (nodesL S 2 0) (nodesL (updS f' S a 2 nb) 2 0) = ((nodesL (updS f' S a 2 nb) 2 0).filter fun b => !decide (w.heap.size ≤ b)).length := by
    unfold inBoth
    congr 1
    refine List.filter_congr fun b hb => ?_
    by_cases hB : w.heap.size ≤ b
    · have : b ∉ nodesL S 2 0 := fun hm => by
        obtain ⟨e, h, he, _, hs⟩ := nodes_mem 2 0 b hm
        have := hlt e h b he hs
        omega
      simp [this, hB]
    · have : b ∈ nodesL S 2 0 := by
        obtain ⟨e, h, he, hd, hs⟩ := nodes_mem 2 0 b hb
        by_cases hh : e ≤ 2 ∧ h = a / 16 ^ (e + 1)
        · obtain ⟨_, rfl⟩ := hh
          rcases updS_on (f := f') (S := S) (a := a) (nb := nb) he with ⟨k, _⟩ | ⟨k, _⟩
          · rw [hs] at k; cases k
          · rw [hs] at k; cases k
            have := hn.1 e he
            omega
        · rw [updS_off hh] at hs
          have := nodes_of hr 2 (Nat.le_refl _) e h b he hs
          rwa [hd] at this
      simp [this, hB]
  rw [key, Nat.add_comm]
  exact count_not _ _
end Go.Proofs.Ytnnadhfpkplncaa
