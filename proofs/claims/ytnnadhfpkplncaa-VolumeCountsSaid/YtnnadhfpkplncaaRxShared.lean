/- How many nodes a tree has; how many two trees have in common. Condition: the trees read. -/
import Derived.Test.YtnnadhfpkplncaaRxPMap
namespace Go.Proofs.Ytnnadhfpkplncaa
open Go.RowKit

theorem nodesL_mem {f : Nat → Int} {S : Nat → Nat → Option Nat} {w : World} (hr : RdD 2 f S w) : ∀ D, D ≤ 2 → ∀ g b, b ∈ nodesL S D g → Plain w b
  | 0, _, g, b, hb => by
    unfold nodesL at hb
    cases hs : S 0 g with
    | none => rw [hs] at hb; simp at hb
    | some c =>
      rw [hs] at hb
      have : b = c := by simpa using hb
      subst this
      exact ⟨_, _, hr.leaf g b hs⟩
  | D + 1, hD, g, b, hb => by
    unfold nodesL at hb
    cases hs : S (D + 1) g with
    | none => rw [hs] at hb; simp at hb
    | some c =>
      rw [hs] at hb
      simp only [List.mem_cons, List.mem_flatMap] at hb
      rcases hb with rfl | ⟨i, _, hb⟩
      · exact ⟨_, _, hr.node D g b hD hs⟩
      · exact nodesL_mem hr D (by omega) _ b hb
theorem Plain.below {w w' : World} {b : Nat} (h : Plain w b) (k : Below w.heap.size w w') : Plain w' b := by
  obtain ⟨cs, t, h⟩ := h
  exact ⟨cs, t, (k.block b (block_lt h)).trans h⟩
/-- A list of addresses as it lies. -/
def HeadP (B : Nat) (w : World) (A : Option Addr) (xs : List (Option Addr)) : Prop :=
  ∀ k p, xs[k]? = some p → ∃ g, B ≤ g ∧ A = some ⟨g, 0, none⟩ ∧ w.cell? ⟨g, k, none⟩ = some (.pointer p)
theorem headP {B : Nat} {w : World} {v : Value} {xs : List (Option Addr)} (h : w.ownsRow B 76 1 v xs.length (xs.map Value.pointer)) : ∃ A c, v = .slice A xs.length c ∧ xs.length ≤ c ∧ HeadP B w A xs := by
  obtain ⟨h0, h1⟩ := h
  rcases h1 with ⟨e1, e2⟩ | ⟨g, c, cur, rfl, hg, hh, hc, _, _, ht⟩
  · have : xs = [] := by simpa using e2
    subst this
    exact ⟨none, 0, e1, Nat.le_refl _, fun k p hk => by simp at hk⟩
  · refine ⟨_, c, rfl, hc, fun k p hk => ⟨g, hg, rfl, ?_⟩⟩
    have hlt : k < xs.length := (List.getElem?_eq_some_iff.1 hk).1
    have e : (xs.map Value.pointer)[k]? = some (.pointer p) := by rw [List.getElem?_map, hk]; rfl
    rw [← ht, List.getElem?_take] at e
    rw [if_pos (by omega)] at e
    rw [block_cell hh]
    simpa using e
theorem HeadP.grown {B : Nat} {w w' : World} {A : Option Addr} {xs : List (Option Addr)} {m : Nat} (h : HeadP B w A xs) (hg : w.grownBy w' (some m)) (hm : m < B) : HeadP B w' A xs := fun k p hk => by
  obtain ⟨g, h1, h2, h3⟩ := h k p hk
  refine ⟨g, h1, h2, ?_⟩
  rw [← h3]
  exact World.cell?_of_block (hg.block g (cell_lt h3) (fun e => by cases e; omega))
set_option maxRecDepth 100000 in
set_option maxHeartbeats 1600000 in
theorem tnodes_any (f : Nat → Int) (S : Nat → Nat → Option Nat) (A : Option Addr) (w : World) (h : RdR f S w A) :
    Calls Try.prog 11 #[.pointer A] w fun e w' => e = .returned (.int .i64 ((nodesL S 2 0).length : Nat)) ∧ Below w.heap.size w w' := by
  have HO := Lib.hid (of_any f S A w h)
  have HN := Lib.hid (nodes_any f S w h.1 2 (Nat.le_refl _) 0 w (.slice none 0 0) [] ⟨World.ownsRow_nil _ _ _ _, Below.refl _ _⟩ (by simp))
  have HL := Lib.hid (nodesL_le S 2 0)
  clear h
  go_enter Try.func11, Try.ntmps11
  go_wp2_with fail
  refine HO.out.mono ?_
  rintro e w' ⟨rfl, rfl⟩
  go_wp2_with fail
  refine HN.out.mono ?_
  rintro e w1 ⟨v, rfl, hown, hb⟩
  rw [List.nil_append] at hown
  obtain ⟨B, c, rfl, hc, _⟩ := headP hown
  have hl : (ptrs (nodesL S 2 0)).length = (nodesL S 2 0).length := by simp [ptrs]
  have hlen := HL.out
  have HB := Lib.hid hb
  rw [hl]
  clear hown hb hc hl HL HN HO
  obtain ⟨n, hn⟩ : ∃ n, n = (nodesL S 2 0).length := ⟨_, rfl⟩
  rw [← hn] at hlen ⊢
  have HE := Lib.hid hn
  clear hn
  unfold cnt cnt cnt at hlen
  go_wp2
  go_ret
  exact ⟨by rw [← HE.out]; rfl, HB.out⟩
/-- How many of the second list stand in the first one. -/
def inBoth (l l' : List Nat) : Nat := (l'.filter fun b => decide (b ∈ l)).length
theorem inBoth_snoc {l l' : List Nat} {k b : Nat} (h : l'[k]? = some b) : inBoth l (l'.take (k + 1)) = inBoth l (l'.take k) + if b ∈ l then 1 else 0 := by
  unfold inBoth
  rw [List.take_add_one, h, List.filter_append, List.length_append]
  by_cases hb : b ∈ l <;> simp [hb]
theorem inBoth_le (l l' : List Nat) : inBoth l l' ≤ l'.length := List.length_filter_le _ _
set_option maxRecDepth 100000 in
set_option maxHeartbeats 1600000 in
theorem shared_any (f g : Nat → Int) (S T : Nat → Nat → Option Nat) (A B : Option Addr) (w : World) (h : RdR f S w A) (h2 : RdR g T w B) :
    Calls Try.prog 12 #[.pointer A, .pointer B] w fun e w' => e = .returned (.int .i64 (inBoth (nodesL S 2 0) (nodesL T 2 0) : Nat)) ∧ Below w.heap.size w w' := by
  have hbm : Below w.heap.size w (w.alloc (.map #[] 0)) := (Below.refl _ _).alloc (Nat.le_refl _) _
  have HO := Lib.hid (of_any f S A _ (h.below hbm))
  have HN := Lib.hid (nodes_any f S _ (h.below hbm).1 2 (Nat.le_refl _) 0 _ (.slice none 0 0) [] ⟨World.ownsRow_nil _ _ _ _, Below.refl _ _⟩ (by simp))
  have HL := Lib.hid (nodesL_le S 2 0)
  have HL2 := Lib.hid (nodesL_le T 2 0)
  have HP := Lib.hid (fun b hb => nodesL_mem h.1 2 (Nat.le_refl _) 0 b hb)
  have H2 := Lib.hid h2
  have hmm := @run_makeMap Try.prog
  have HM := Lib.hid (PMap.made w)
  clear h h2 hbm
  go_enter Try.func12, Try.ntmps12
  go_wp2_with fail
  refine HO.out.mono ?_
  rintro e w' ⟨rfl, rfl⟩
  go_wp2_with fail
  refine HN.out.mono ?_
  rintro e w1 ⟨v, rfl, hown, hb⟩
  rw [List.nil_append] at hown
  obtain ⟨C, c, rfl, hc, hhd⟩ := headP hown
  obtain ⟨l, hl⟩ : ∃ l, l = nodesL S 2 0 := ⟨_, rfl⟩
  rw [← hl] at hown hhd HL HP hc ⊢
  have HE := Lib.hid hl
  have hlen : l.length ≤ 273 := HL.out
  have hll : (ptrs l).length = l.length := by simp [ptrs]
  rw [hll] at hc ⊢
  have hb1 : Below w.heap.size w w1 := ((Below.refl w.heap.size w).alloc (Nat.le_refl _) _).trans (hb.mono (by simp))
  have hsz : (w.alloc (.map #[] 0)).heap.size = w.heap.size + 1 := by simp
  rw [hsz] at hhd hb
  have HH := Lib.hid hhd
  have HB1 := Lib.hid hb1
  have HM1 := Lib.hid (HM.out.below (by rw [hsz]; exact hb))
  have hml : w.heap.size < w1.heap.size := by have := hb.size; rw [hsz] at this; omega
  clear hown hhd hb hb1 hl hll hsz HN HO HM HL
  go_wp2
  go_loopw [16] (fun i wr => ∃ k : Nat, k ≤ l.length ∧ i = .int .i64 k ∧ Below w.heap.size w wr ∧ Hid (PMap wr w.heap.size (l.take k)) ∧ Hid (HeadP (w.heap.size + 1) wr C (ptrs l)) ∧ w.heap.size < wr.heap.size) (fun i _ => l.length - (intOf i).toNat)
  case atStart => exact ⟨0, by omega, rfl, HB1.out, by simpa using HM1, HH, hml⟩
  case round =>
    obtain ⟨k, hk, rfl, hbr, hm, hh, hlt⟩ := hrel
    by_cases hk2 : k < l.length
    · obtain ⟨b, hb⟩ : ∃ b, l[k]? = some b := ⟨_, List.getElem?_eq_getElem hk2⟩
      have hpk : (ptrs l)[k]? = some (some ⟨b, 0, none⟩) := by unfold ptrs; rw [List.getElem?_map, hb]; rfl
      obtain ⟨g, hg1, rfl, hcell⟩ := hh.out k _ hpk
      have hpl : Plain wr b := (HP.out b (List.mem_of_getElem? hb)).below hbr
      obtain ⟨w2, hrun, hpm, hgr⟩ := hm.out.store hpl
      rw [show l.take k ++ [b] = l.take (k + 1) by rw [List.take_add_one, hb]; rfl] at hpm
      unfold nptr at hrun
      have hbr2 : Below w.heap.size w w2 := hbr.grown hgr hbr.size fun _ e => by cases e; exact Nat.le_refl _
      have HB2 := Lib.hid hbr2
      have HM2 := Lib.hid hpm
      have HH2 := Lib.hid (hh.out.grown hgr (by omega))
      have hlt2 : w.heap.size < w2.heap.size := Nat.lt_of_lt_of_le hlt hgr.size
      clear hb hpk hpl hbr hm hh hpm hgr hbr2
      go_wp2
      go_roundw
      case rel => exact ⟨k + 1, by omega, by go_num, HB2.out, HM2, HH2, hlt2⟩
      case measure => simp [intOf]; omega
    · obtain rfl : k = l.length := by omega
      have HM2 := Lib.hid (show PMap wr w.heap.size l by have := hm.out; rwa [List.take_length] at this)
      have HBr := Lib.hid hbr
      have HO := Lib.hid (of_any _ _ _ _ (H2.out.below hbr))
      clear hm hh hbr
      go_wp2_with fail
      refine HO.out.mono ?_
      rintro e w' ⟨rfl, rfl⟩
      have HN := Lib.hid (nodes_any _ _ _ (H2.out.below HBr.out).1 2 (Nat.le_refl _) 0 _ (.slice none 0 0) [] ⟨World.ownsRow_nil _ _ _ _, Below.refl _ _⟩ (by simp))
      go_wp2_with fail
      refine HN.out.mono ?_
      rintro e w2 ⟨v2, rfl, hown2, hb2⟩
      rw [List.nil_append] at hown2
      obtain ⟨C2, c2, rfl, hc2, hhd2⟩ := headP hown2
      obtain ⟨l2, hl2⟩ : ∃ l2, l2 = nodesL T 2 0 := ⟨_, rfl⟩
      have HP2 := Lib.hid (fun b hb => nodesL_mem H2.out.1 2 (Nat.le_refl _) 0 b hb)
      rw [← hl2] at hown2 hhd2 HL2 HP2 hc2 ⊢
      have HE2 := Lib.hid hl2
      have hlen2 : l2.length ≤ 273 := HL2.out
      have hll2 : (ptrs l2).length = l2.length := by simp [ptrs]
      rw [hll2] at hc2 ⊢
      have HH2 := Lib.hid hhd2
      have HB2 := Lib.hid (HBr.out.trans (hb2.mono HBr.out.size))
      have HM3 := Lib.hid (HM2.out.below hb2)
      clear hown2 hhd2 hb2 hl2 hll2 HN HO HL2 HM2 HH HBr HM1 HB1 hmm
      go_wp2
      go_loopw [8, 27] (fun s i wr => ∃ k : Nat, k ≤ l2.length ∧ i = .int .i64 k ∧ s = .int .i64 (inBoth l (l2.take k) : Nat) ∧ Below w2.heap.size w2 wr) (fun _ i _ => l2.length - (intOf i).toNat)
      case atStart => exact ⟨0, by omega, rfl, by simp [inBoth], Below.refl _ _⟩
      case round =>
        obtain ⟨k, hk, rfl, rfl, hbr⟩ := hrel
        have hle := inBoth_le l (l2.take k)
        rw [List.length_take] at hle
        by_cases hk2 : k < l2.length
        · obtain ⟨b, hb⟩ : ∃ b, l2[k]? = some b := ⟨_, List.getElem?_eq_getElem hk2⟩
          have hpk : (ptrs l2)[k]? = some (some ⟨b, 0, none⟩) := by unfold ptrs; rw [List.getElem?_map, hb]; rfl
          obtain ⟨g, hg1, rfl, hcell⟩ := HH2.out k _ hpk
          have hcell2 : wr.cell? ⟨g, k, none⟩ = some (.pointer (some ⟨b, 0, none⟩)) := by rw [← hcell]; exact World.cell?_of_block (hbr.block g (cell_lt hcell))
          have hpl : Plain wr b := ((HP2.out b (List.mem_of_getElem? hb)).below HB2.out).below hbr
          have hrun := (HM3.out.below hbr).look hpl
          unfold nptr at hrun
          have HS := Lib.hid (inBoth_snoc (l := l) hb)
          have HBr := Lib.hid hbr
          obtain ⟨q, hq⟩ : ∃ q : Nat, (if b ∈ l then 1 else 0) = q := ⟨_, rfl⟩
          have hq2 : q ≤ 1 := by rw [← hq]; split <;> omega
          have hqi : (if b ∈ l then (1 : Int) else 0) = (q : Int) := by rw [← hq]; split <;> rfl
          rw [hqi] at hrun
          rw [hq] at HS
          obtain ⟨t, ht⟩ : ∃ t, t = inBoth l (l2.take k) := ⟨_, rfl⟩
          rw [← ht] at hle HS ⊢
          clear hb hpk hcell hpl hbr hq hqi ht
          go_wp2
          go_roundw
          case rel => exact ⟨k + 1, by omega, by go_num, by rw [HS.out]; go_num, HBr.out⟩
          case measure => simp [intOf]; omega
        · obtain rfl : k = l2.length := by omega
          have HBr := Lib.hid (HB2.out.trans (hbr.mono HB2.out.size))
          rw [List.take_length] at *
          obtain ⟨t, ht⟩ : ∃ t, t = inBoth l l2 := ⟨_, rfl⟩
          rw [← ht] at hle ⊢
          have HT := Lib.hid ht
          clear ht hbr
          go_wp2
          go_ret
          exact ⟨by rw [← HE.out, ← HE2.out, ← HT.out]; rfl, HBr.out⟩
end Go.Proofs.Ytnnadhfpkplncaa
