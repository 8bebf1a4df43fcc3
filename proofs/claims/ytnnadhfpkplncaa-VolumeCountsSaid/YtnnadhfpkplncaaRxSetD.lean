/- A number at a place of a tree. Condition: the tree reads; the place is one. -/
import Derived.Test.YtnnadhfpkplncaaRxSetN
namespace Go.Proofs.Ytnnadhfpkplncaa
open Go.RowKit

theorem bare_zero {g : Nat} {f : Nat → Int} : Bare 0 g f ↔ numC f g = List.replicate 16 0 := by
  unfold Bare numC span
  constructor
  · intro h
    rw [List.eq_replicate_iff]
    refine ⟨by simp, fun x hx => ?_⟩
    obtain ⟨i, hi, rfl⟩ := List.mem_map.1 hx
    exact h i (List.mem_range.1 hi)
  · intro h i hi
    have := (List.eq_replicate_iff.1 h).2 (f (g * 16 + i)) (List.mem_map.2 ⟨i, List.mem_range.2 hi, rfl⟩)
    exact this
theorem bare_succ {d g : Nat} {f : Nat → Int} : Bare (d + 1) g f ↔ ∀ i, i < 16 → Bare d (g * 16 + i) f := by
  unfold Bare
  constructor
  · intro h i hi j hj
    have hm : i * span d + j < 16 * span d := by
      have h2 : (i + 1) * span d ≤ 16 * span d := Nat.mul_le_mul_right _ (by omega)
      rw [Nat.add_mul, Nat.one_mul] at h2
      omega
    have := h (i * span d + j) hm
    rwa [span, ← Nat.add_assoc, ← Nat.mul_assoc, ← Nat.add_mul] at this
  · intro h j hj
    have hp : 0 < span d := by rw [span_eq]; exact Nat.pow_pos (by decide)
    have h1 := h (j / span d) (by rw [Nat.div_lt_iff_lt_mul hp]; exact hj) (j % span d) (Nat.mod_lt _ hp)
    rw [Nat.add_mul, Nat.add_assoc, Nat.mul_comm (j / span d), Nat.div_add_mod, Nat.mul_assoc] at h1
    exact h1
theorem bare_other {d g a : Nat} {f : Nat → Int} {n : Int} (h : g ≠ a / 16 ^ (d + 1)) : Bare d g (updF f a n) ↔ Bare d g f := by
  have key : ∀ i, i < span d → g * span d + i ≠ a := by
    intro i hi e
    apply h
    rw [← e, ← span_eq, Nat.mul_comm, Nat.mul_add_div (by omega), Nat.div_eq_of_lt hi, Nat.add_zero]
  unfold Bare updF
  constructor
  · intro k i hi; have := k i hi; rwa [if_neg (key i hi)] at this
  · intro k i hi; rw [if_neg (key i hi)]; exact k i hi
theorem armC_none {S : Nat → Nat → Option Nat} {d g : Nat} : armC S d g = List.replicate 16 none ↔ ∀ i, i < 16 → S d (g * 16 + i) = none := by
  unfold armC
  constructor
  · intro h i hi
    have := (List.eq_replicate_iff.1 h).2 (ptr (S d (g * 16 + i))) (List.mem_map.2 ⟨i, List.mem_range.2 hi, rfl⟩)
    cases hs : S d (g * 16 + i) with
    | none => rfl
    | some b => rw [hs] at this; cases this
  · intro h
    rw [List.eq_replicate_iff]
    refine ⟨by simp, fun x hx => ?_⟩
    obtain ⟨i, hi, rfl⟩ := List.mem_map.1 hx
    rw [h i (List.mem_range.1 hi)]; rfl
theorem RdD.nodeAt0 {f : Nat → Int} {S : Nat → Nat → Option Nat} {w : World} (h : RdD 0 f S w) (g : Nat) : NodeAt w (ptr (S 0 g)) (List.replicate 16 none) (numC f g) := by
  cases hs : S 0 g with
  | none => exact Or.inl ⟨rfl, rfl, bare_zero.1 ((h.can 0 g (Nat.le_refl _)).1 hs)⟩
  | some b => exact Or.inr ⟨b, rfl, h.leaf g b hs⟩
theorem RdD.nodeAtS {D : Nat} {f : Nat → Int} {S : Nat → Nat → Option Nat} {w : World} (h : RdD (D + 1) f S w) (g : Nat) : NodeAt w (ptr (S (D + 1) g)) (armC S D g) (List.replicate 16 0) := by
  cases hs : S (D + 1) g with
  | none => exact Or.inl ⟨rfl, armC_none.2 fun i hi => (h.can D _ (by omega)).2 (bare_succ.1 ((h.can (D + 1) g (Nat.le_refl _)).1 hs) i hi), rfl⟩
  | some b => exact Or.inr ⟨b, rfl, h.node D g b (Nat.le_refl _) hs⟩
open Classical in
/-- Which block is whose behind a set: the nodes on the way to the place are new, or none. -/
noncomputable def updS (f : Nat → Int) (S : Nat → Nat → Option Nat) (a D : Nat) (nb : Nat → Nat) : Nat → Nat → Option Nat :=
  fun e h => if e ≤ D ∧ h = a / 16 ^ (e + 1) then (if Bare e h f then none else some (nb e)) else S e h
theorem updS_on {f : Nat → Int} {S : Nat → Nat → Option Nat} {a D e : Nat} {nb : Nat → Nat} (he : e ≤ D) : (updS f S a D nb e (a / 16 ^ (e + 1)) = none ∧ Bare e (a / 16 ^ (e + 1)) f) ∨ (updS f S a D nb e (a / 16 ^ (e + 1)) = some (nb e) ∧ ¬ Bare e (a / 16 ^ (e + 1)) f) := by
  unfold updS
  rw [if_pos ⟨he, rfl⟩]
  by_cases hb : Bare e (a / 16 ^ (e + 1)) f
  · exact Or.inl ⟨if_pos hb, hb⟩
  · exact Or.inr ⟨if_neg hb, hb⟩
theorem updS_off {f : Nat → Int} {S : Nat → Nat → Option Nat} {a D e h : Nat} {nb : Nat → Nat} (he : ¬ (e ≤ D ∧ h = a / 16 ^ (e + 1))) : updS f S a D nb e h = S e h := by
  unfold updS
  rw [if_neg he]
theorem numC_upd {f : Nat → Int} {a : Nat} {n : Int} : (numC f (a / 16)).set (a % 16) n = numC (updF f a n) (a / 16) := by
  apply List.ext_getElem?
  intro i
  rw [List.getElem?_set]
  by_cases hi : i < 16
  · rw [numC_at hi, numC_at hi]
    by_cases h : a % 16 = i
    · subst h
      rw [if_pos rfl, if_pos (by simp; omega)]
      have : a / 16 * 16 + a % 16 = a := by omega
      rw [updF, if_pos this]
    · rw [if_neg h, updF, if_neg (by omega)]
  · rw [if_neg (by omega), List.getElem?_eq_none (by simp; omega), List.getElem?_eq_none (by simp; omega)]
theorem numC_other {f : Nat → Int} {a g : Nat} {n : Int} (h : g ≠ a / 16) : numC (updF f a n) g = numC f g := by
  unfold numC
  refine List.map_congr_left fun i hi => ?_
  have := List.mem_range.1 hi
  rw [updF, if_neg (by omega)]
/-- Blocks that are new, each for one rank. -/
def New (B : Nat) (nb : Nat → Nat) (D : Nat) : Prop := (∀ e, e ≤ D → B ≤ nb e) ∧ ∀ e e', e ≤ D → e' ≤ D → nb e = nb e' → e = e'
theorem can_upd {D : Nat} {f : Nat → Int} {S : Nat → Nat → Option Nat} {a : Nat} {n : Int} {nb : Nat → Nat} (h : ∀ d g, d ≤ D → (S d g = none ↔ Bare d g f)) : ∀ d g, d ≤ D → (updS (updF f a n) S a D nb d g = none ↔ Bare d g (updF f a n)) := by
  intro d g hd
  by_cases hg : g = a / 16 ^ (d + 1)
  · subst hg
    rcases updS_on (f := updF f a n) (S := S) (a := a) (nb := nb) hd with ⟨h1, h2⟩ | ⟨h1, h2⟩
    · exact ⟨fun _ => h2, fun _ => h1⟩
    · exact ⟨fun e => (by rw [h1] at e; cases e), fun e => absurd e h2⟩
  · rw [updS_off (fun k => hg k.2), bare_other hg]
    exact h d g hd
theorem far_upd {f : Nat → Int} {a : Nat} {n : Int} (h : ∀ a, 4096 ≤ a → f a = 0) (ha : a ≤ 4095) : ∀ b, 4096 ≤ b → updF f a n b = 0 := by
  intro b hb
  rw [updF, if_neg (by omega)]
  exact h b hb
/-- What a set of depth D does. -/
def SetPost (D : Nat) (f : Nat → Int) (S : Nat → Nat → Option Nat) (a : Nat) (n : Int) (w : World) (e : Ending) (w' : World) : Prop :=
  ∃ nb, New w.heap.size nb D ∧ e = .returned (.pointer (ptr (updS (updF f a n) S a D nb D (a / 16 ^ (D + 1))))) ∧ RdD D (updF f a n) (updS (updF f a n) S a D nb) w' ∧ Below w.heap.size w w'
theorem nset_0 (f : Nat → Int) (S : Nat → Nat → Option Nat) (a : Nat) (n : Int) (ha : a ≤ 4095) (w : World) (h : RdD 0 f S w) :
    Calls Try.prog 37 #[.pointer (ptr (S 0 (a / 16))), .int .i64 2, .int .i64 a, .int .i64 n] w (SetPost 0 f S a n w) := by
  refine (nset_leaf _ _ _ (by simp) (by simp) a n ha w (h.nodeAt0 _)).mono ?_
  rintro e w' ⟨hout, hb⟩
  rw [numC_upd] at hout
  have e1 : a / 16 ^ (0 + 1) = a / 16 := by simp
  have hcan := can_upd (a := a) (n := n) (nb := fun _ => w.heap.size) h.can
  refine ⟨fun _ => w.heap.size, ⟨fun _ _ => Nat.le_refl _, fun e e' h1 h2 _ => by omega⟩, ?_, ⟨far_upd h.far ha, hcan, ?_, fun d g b hd => absurd hd (by omega)⟩, hb⟩
  · rw [e1]
    have hc := hcan 0 (a / 16) (Nat.le_refl _)
    have hon := updS_on (f := updF f a n) (S := S) (a := a) (D := 0) (e := 0) (nb := fun _ => w.heap.size) (Nat.le_refl _)
    rw [e1] at hon
    rcases hout with ⟨rfl, _, hz⟩ | ⟨rfl, hn, _⟩
    · rw [hc.2 (bare_zero.2 hz)]; rfl
    · rcases hon with ⟨k, k2⟩ | ⟨k, _⟩
      · exact absurd ⟨rfl, bare_zero.1 k2⟩ hn
      · rw [k]; rfl
  · intro g b hs
    by_cases hg : g = a / 16
    · subst hg
      have hon := updS_on (f := updF f a n) (S := S) (a := a) (D := 0) (e := 0) (nb := fun _ => w.heap.size) (Nat.le_refl _)
      rw [e1, hs] at hon
      rcases hon with ⟨k, _⟩ | ⟨k, k2⟩
      · cases k
      · cases k
        rcases hout with ⟨_, _, hz⟩ | ⟨_, _, hh⟩
        · exact absurd (bare_zero.2 hz) k2
        · exact hh
    · rw [updS_off (fun k => hg (by rw [k.2, e1]))] at hs
      rw [numC_other hg]
      exact (hb.block b (block_lt (h.leaf g b hs))).trans (h.leaf g b hs)
theorem updS_agree {f : Nat → Int} {S : Nat → Nat → Option Nat} {a D e h : Nat} {nb nb' : Nat → Nat} (he : e ≤ D) (hn : nb' e = nb e) : updS f S a (D + 1) nb' e h = updS f S a D nb e h := by
  unfold updS
  rw [hn]
  by_cases hh : h = a / 16 ^ (e + 1)
  · have h1 : e ≤ D + 1 ∧ h = a / 16 ^ (e + 1) := ⟨by omega, hh⟩
    have h2 : e ≤ D ∧ h = a / 16 ^ (e + 1) := ⟨he, hh⟩
    simp only [if_pos h1, if_pos h2]
  · rw [if_neg (fun k => hh k.2), if_neg (fun k => hh k.2)]
theorem armC_congr {S S' : Nat → Nat → Option Nat} {d g : Nat} (h : ∀ i, i < 16 → S d (g * 16 + i) = S' d (g * 16 + i)) : armC S d g = armC S' d g :=
  List.map_congr_left fun i hi => by rw [h i (List.mem_range.1 hi)]
theorem armC_set {S S' : Nat → Nat → Option Nat} {d g q : Nat} (hq : q < 16) (h : ∀ i, i < 16 → i ≠ q → S d (g * 16 + i) = S' d (g * 16 + i)) : (armC S d g).set q (ptr (S' d (g * 16 + q))) = armC S' d g := by
  apply List.ext_getElem?
  intro i
  rw [List.getElem?_set]
  by_cases hi : i < 16
  · rw [armC_at hi, armC_at hi]
    by_cases k : q = i
    · subst k
      rw [if_pos rfl, if_pos (by simp; omega)]
    · rw [if_neg k, h i hi (fun e => k e.symm)]
  · rw [if_neg (by omega), List.getElem?_eq_none (by simp; omega), List.getElem?_eq_none (by simp; omega)]
theorem nset_S (D : Nat) (hD : D ≤ 1) (f : Nat → Int) (S : Nat → Nat → Option Nat) (a : Nat) (n : Int) (ha : a ≤ 4095) (w : World) (h : RdD (D + 1) f S w)
    (ih : ∀ w, RdD D f S w → Calls Try.prog 37 #[.pointer (ptr (S D (a / 16 ^ (D + 1)))), .int .i64 ((2 - D : Nat) : Int), .int .i64 a, .int .i64 n] w (SetPost D f S a n w)) :
    Calls Try.prog 37 #[.pointer (ptr (S (D + 1) (a / 16 ^ (D + 2)))), .int .i64 ((2 - (D + 1) : Nat) : Int), .int .i64 a, .int .i64 n] w (SetPost (D + 1) f S a n w) := by
  have hq : a / 16 ^ (D + 1) % 16 < 16 := Nat.mod_lt _ (by decide)
  have hag := arm_group a (D + 1)
  have hp := armC_at (S := S) (d := D) (g := a / 16 ^ (D + 2)) hq
  rw [hag] at hp
  have er : 2 - (2 - (D + 1)) = D + 1 := by omega
  have hb0 : Below w.heap.size w (w.alloc (.cells (nodeC (armC S D (a / 16 ^ (D + 2))) (List.replicate 16 0)) 87)) := (Below.refl _ _).alloc (Nat.le_refl _) _
  have hih := ih _ ((h.le (Nat.le_succ D)).below hb0)
  have ecast : ((2 - D : Nat) : Int) = ((2 - (D + 1) : Nat) : Int) + 1 := by omega
  rw [ecast] at hih
  have key := nset_node (2 - (D + 1)) (by omega) _ _ _ (by simp) (by simp) a n ha w (h.nodeAtS (a / 16 ^ (D + 2))) (ptr (S D (a / 16 ^ (D + 1)))) (by rw [er]; exact hp)
    (fun Y w1 => ∃ nb, New (w.heap.size + 1) nb D ∧ Y = ptr (updS (updF f a n) S a D nb D (a / 16 ^ (D + 1))) ∧ RdD D (updF f a n) (updS (updF f a n) S a D nb) w1)
    (hih.mono fun e w1 ⟨nb, h1, h2, h3, h4⟩ => ⟨_, h2, ⟨nb, by simpa using h1, rfl, h3⟩, by simpa using h4⟩)
  rw [er] at key
  refine key.mono ?_
  rintro e w' ⟨Y, w1, ⟨nb, ⟨hn1, hn2⟩, rfl, hr1⟩, hb1, ⟨hk1, hk2, hk3, hk4⟩, hout⟩
  clear key hih
  obtain ⟨nb', hnb'⟩ : ∃ nb' : Nat → Nat, nb' = fun e => if e = D + 1 then w.heap.size else nb e := ⟨_, rfl⟩
  have hnlow : ∀ e, e ≤ D → nb' e = nb e := fun e he => by rw [hnb']; exact if_neg (by omega)
  have hntop : nb' (D + 1) = w.heap.size := by rw [hnb']; exact if_pos rfl
  have hcan := can_upd (a := a) (n := n) (nb := nb') h.can
  have harms : (armC S D (a / 16 ^ (D + 2))).set (a / 16 ^ (D + 1) % 16) (ptr (updS (updF f a n) S a D nb D (a / 16 ^ (D + 1)))) = armC (updS (updF f a n) S a (D + 1) nb') D (a / 16 ^ (D + 2)) := by
    have := armC_set (S := S) (S' := updS (updF f a n) S a (D + 1) nb') (d := D) (g := a / 16 ^ (D + 2)) hq (fun i hi hne => by
      rw [updS_off]
      intro k
      have := k.2
      omega)
    rw [hag, updS_agree (Nat.le_refl D) (hnlow D (Nat.le_refl _))] at this
    exact this
  rw [harms] at hk1 hout
  have hold : ∀ b o, w.heap[b]? = some o → w'.heap[b]? = some o := fun b o hb => (hk4.block b (block_lt hb)).trans hb
  have hnotown : ∀ d g b, d ≤ D → updS (updF f a n) S a D nb d g = some b → w.heap[b]? ≠ none ∨ w.heap.size + 1 ≤ b := by
    intro d g b hd hs
    by_cases hg : g = a / 16 ^ (d + 1)
    · subst hg
      rcases updS_on (f := updF f a n) (S := S) (a := a) (nb := nb) hd with ⟨k, _⟩ | ⟨k, _⟩
      · rw [hs] at k; cases k
      · rw [hs] at k; cases k; exact Or.inr (hn1 d hd)
    · rw [updS_off (fun k => hg k.2)] at hs
      left
      cases d with
      | zero => rw [h.leaf g b hs]; simp
      | succ d => rw [h.node d g b (by omega) hs]; simp
  have hother : ∀ d g b, d ≤ D → updS (updF f a n) S a D nb d g = some b → w'.heap[b]? = w1.heap[b]? := by
    intro d g b hd hs
    refine hk2 b ?_
    rcases hnotown d g b hd hs with k | k
    · intro e1; subst e1; exact k (by simp)
    · omega
  have hon := updS_on (f := updF f a n) (S := S) (a := a) (D := D + 1) (e := D + 1) (nb := nb') (Nat.le_refl _)
  rw [hntop] at hon
  refine ⟨nb', ⟨fun e he => ?_, fun e e' he he' hee => ?_⟩, ?_, ⟨far_upd h.far ha, hcan, ?_, ?_⟩, hk4⟩
  · by_cases k : e = D + 1
    · rw [k, hntop]; exact Nat.le_refl _
    · rw [hnlow e (by omega)]; have := hn1 e (by omega); omega
  · by_cases k : e = D + 1 <;> by_cases k' : e' = D + 1
    · omega
    · rw [k, hntop, hnlow e' (by omega)] at hee; have := hn1 e' (by omega); omega
    · rw [k', hntop, hnlow e (by omega)] at hee; have := hn1 e (by omega); omega
    · rw [hnlow e (by omega), hnlow e' (by omega)] at hee; exact hn2 e e' (by omega) (by omega) hee
  · rcases hout with ⟨rfl, hz, _⟩ | ⟨rfl, hz, _⟩
    · rw [(hcan (D + 1) (a / 16 ^ (D + 2)) (Nat.le_refl _)).2 (bare_succ.2 fun i hi => (hcan D _ (by omega)).1 (armC_none.1 hz i hi))]; rfl
    · rcases hon with ⟨k, k2⟩ | ⟨k, _⟩
      · exact absurd ⟨armC_none.2 fun i hi => (hcan D _ (by omega)).2 (bare_succ.1 k2 i hi), rfl⟩ hz
      · rw [k]; rfl
  · intro g b hs
    rw [updS_agree (Nat.zero_le D) (hnlow 0 (Nat.zero_le _))] at hs
    rw [hother 0 g b (Nat.zero_le _) hs]
    exact hr1.leaf g b hs
  · intro d g b hd hs
    by_cases hdD : d + 1 ≤ D
    · rw [updS_agree hdD (hnlow _ hdD)] at hs
      rw [hother (d + 1) g b hdD hs, hr1.node d g b hdD hs, armC_congr fun i _ => updS_agree (by omega) (hnlow d (by omega))]
    · obtain rfl : d = D := by omega
      by_cases hg : g = a / 16 ^ (d + 2)
      · subst hg
        rw [hs] at hon
        rcases hon with ⟨k, _⟩ | ⟨k, _⟩
        · cases k
        · cases k; exact hk1
      · rw [updS_off (fun k => hg k.2)] at hs
        rw [hold b _ (h.node d g b hd hs), armC_congr fun i hi => updS_off ?_]
        intro k
        apply hg
        have := k.2
        rw [Nat.pow_succ, ← Nat.div_div_eq_div_mul, ← this]
        omega
theorem nset_any (f : Nat → Int) (S : Nat → Nat → Option Nat) (a : Nat) (n : Int) (ha : a ≤ 4095) (w : World) (h : RdD 2 f S w) :
    Calls Try.prog 37 #[.pointer (ptr (S 2 0)), .int .i64 0, .int .i64 a, .int .i64 n] w (SetPost 2 f S a n w) := by
  have h0 : a / 16 ^ (1 + 2) = 0 := by omega
  have := nset_S 1 (Nat.le_refl _) f S a n ha w h fun w1 h1 => nset_S 0 (by omega) f S a n ha w1 h1 fun w0 hw0 => by
    have := nset_0 f S a n ha w0 hw0
    simpa using this
  rw [h0] at this
  exact this
end Go.Proofs.Ytnnadhfpkplncaa
