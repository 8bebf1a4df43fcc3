/- The reference's Take; the table and the list say the same. Condition: both read. -/
import Derived.Test.YtnnadhfpkplncaaDoorLkRef
import Derived.ArgAppend
namespace Go.Proofs.YtnnadhfpkplncaaDoor
open Go.RowKit Go.Maps

theorem info_parts {t : TypeId} {z : Option Value} {s b : Nat} (h : (Tryd.prog.info? t).map (fun i => (i.zero, i.size, i.bytes)) = some (z, s, b)) : ∃ i, Tryd.prog.info? t = some i ∧ i.zero = z ∧ i.size = s ∧ i.bytes = b := by
  cases hi : Tryd.prog.info? t with
  | none => rw [hi] at h; cases h
  | some i =>
    rw [hi] at h
    simp only [Option.map_some, Option.some.injEq, Prod.mk.injEq] at h
    exact ⟨i, rfl, h.1, h.2.1, h.2.2⟩
theorem infoTHELD : (Tryd.prog.info? 50).map (fun i => (i.zero, i.size, i.bytes)) = some (some (.agg #[.int .i64 0, .string ByteArray.empty, .bool false]), 3, 32) := by kernel_rfl
theorem hits3_append (r s : List Held) : hits3 (r ++ s) = hits3 r ++ hits3 s := List.flatMap_append
theorem hits3_len : ∀ r : List Held, (hits3 r).length = r.length * 3
  | [] => rfl
  | x :: r => by
    have e : hits3 (x :: r) = .int .i64 x.1 :: .string ⟨x.2.1.toArray⟩ :: .bool x.2.2 :: hits3 r := rfl
    rw [e]
    simp only [List.length_cons, hits3_len r]
    omega
/-- One's own list of what is held. -/
def OwnH (w : World) (v : Value) (r : List Held) : Prop := w.ownsRow 0 50 3 v r.length (hits3 r)
theorem OwnH.nil (w : World) : OwnH w (.slice none 0 0) [] := World.ownsRow_nil _ _ _ _
theorem OwnH.keep {L : Nat} {w w' : World} {v : Value} {r : List Held} (h : OwnH w v r) (k : Keep L w w') : OwnH w' v r := by
  refine ⟨h.1, ?_⟩
  rcases h.2 with h2 | ⟨g, c, cur, e, hb, hg, x⟩
  · exact Or.inl h2
  · exact Or.inr ⟨g, c, cur, e, hb, k.cells g _ _ _ hg, x⟩
theorem OwnH.below {w w' : World} {v : Value} {r : List Held} (h : OwnH w v r) (k : Below w.heap.size w w') : OwnH w' v r := h.keep (Keep.of k (Nat.zero_le _) : Keep 0 w w')
theorem OwnH.read {w : World} {v : Value} {r : List Held} (h : OwnH w v r) : ∃ A c, v = .slice A r.length c ∧ r.length ≤ c ∧ RdA w A (hits3 r) ∧ ((A = none ∧ r = [] ∧ c = 0) ∨ ∃ g, A = some ⟨g, 0, none⟩) := by
  rcases h.2 with ⟨e1, e2⟩ | ⟨g, c, cur, e1, hg, hh, hc, _, _, ht⟩
  · have : r = [] := List.eq_nil_of_length_eq_zero e2
    subst this
    exact ⟨none, 0, e1, Nat.le_refl _, fun i u hi => by simp [hits3] at hi, Or.inl ⟨rfl, rfl, rfl⟩⟩
  · refine ⟨_, c, e1, hc, fun i u hi => ⟨g, 0, rfl, ?_⟩, Or.inr ⟨g, rfl⟩⟩
    have hlt : i < r.length * 3 := by rw [← hits3_len]; exact (List.getElem?_eq_some_iff.1 hi).1
    rw [← ht, List.getElem?_take, if_pos hlt] at hi
    rw [Nat.zero_add, block_cell hh]
    simpa using hi
theorem held_new (w : World) (x : Held) : ∀ (j : Nat) (u : Value), (hcells x)[j]? = some u → (w.alloc (.cells #[.int .i64 x.1, .string ⟨x.2.1.toArray⟩, .bool x.2.2] 50)).cell? ((⟨w.heap.size, 0, none⟩ : Addr).add j) = some u := fun j u hj => by
  rw [WideShapes.add_plain, Nat.zero_add, block_cell (alloc_new _ _)]
  simpa [hcells] using hj
theorem held_old {g : Nat} {r : List Held} {w w1 : World} (h : RdA w (some ⟨g, 0, none⟩) (hits3 r)) (hb : Below w.heap.size w w1) (o : Obj) {j : Nat} {u : Value} (hj : (hits3 r)[j]? = some u) : (w1.alloc o).cell? ((⟨g, 0, none⟩ : Addr).add j) = some u := by
  obtain ⟨b, o', e, hc⟩ := ((h.below hb).below ((Below.refl _ _).alloc (Nat.le_refl _) o)) j u hj
  cases e
  rw [WideShapes.add_plain]; exact hc
theorem held_one (x : Held) : ∀ u ∈ hcells x, u.oneCell' = true := fun u hu => by
  simp [hcells] at hu
  rcases hu with rfl | rfl | rfl <;> rfl
def rtakeL (r : List Held) (who : Int) (nm : List UInt8) (all : Bool) : List Held := if refMay r who nm all = 0 then r ++ [(who, nm, all)] else r
set_option maxRecDepth 100000 in
set_option maxHeartbeats 400000 in
theorem rtake_any (r : List Held) (v : Value) (who : Int) (nm : List UInt8) (all : Bool) (w : World) (h : OwnH w v r) (hr : r.length ≤ 1000) :
    Calls Tryd.prog 10 #[v, .int .i64 who, .string ⟨nm.toArray⟩, .bool all] w fun e w' => ∃ v', e = .returned (.tuple #[v', .int .i64 (refMay r who nm all)]) ∧ OwnH w' v' (rtakeL r who nm all) ∧ Below w.heap.size w w' := by
  have HO := Lib.hid h
  obtain ⟨A, c, rfl, hc, hrd, hnil⟩ := h.read
  have HM := Lib.hid (rmay_any r A c who nm all w hrd hc (by omega))
  have HNIL := Lib.hid hnil
  obtain ⟨n, hn⟩ : ∃ n, n = r.length := ⟨_, rfl⟩
  rw [← hn] at hc hr HM ⊢
  have HR := Lib.hid hrd
  have HN := Lib.hid hn
  obtain ⟨q, hq⟩ : ∃ q, q = refMay r who nm all := ⟨_, rfl⟩
  rw [← hq] at HM ⊢
  have HQ := Lib.hid hq
  clear hrd hnil h hq hn
  go_enter Tryd.func10, Tryd.ntmps10
  go_wp2_with fail
  refine HM.out.mono ?_
  rintro e w1 ⟨rfl, hb1⟩
  have HB1 := Lib.hid hb1
  clear hb1
  by_cases hq0 : q = 0
  · subst hq0
    obtain ⟨i, hi, hz0, hz1, hz2⟩ := info_parts infoTHELD
    have HL := Lib.hid (show rtakeL r who nm all = r ++ [(who, nm, all)] by unfold rtakeL; rw [if_pos HQ.out.symm])
    have hfin : ∀ (v' : Value) (w2 : World), w2.ownsRow (w1.alloc (.cells #[.int .i64 who, .string ⟨nm.toArray⟩, .bool all] 50)).heap.size 50 3 v' (n + 1) (hits3 r ++ hcells (who, nm, all)) → (w1.alloc (.cells #[.int .i64 who, .string ⟨nm.toArray⟩, .bool all] 50)).grownBy w2 none → OwnH w2 v' (rtakeL r who nm all) ∧ Below w.heap.size w w2 := fun v' w2 ho hg => by
      have hb : Below w.heap.size w w2 := HB1.out.trans (((Below.refl _ _).alloc HB1.out.size _).grown hg (by rw [World.size_alloc]; have := HB1.out.size; omega) (by simp))
      refine ⟨?_, hb⟩
      rw [HL.out]
      have ho2 := ho
      refine ⟨by rw [hits3_len], ?_⟩
      have e1 : (r ++ [(who, nm, all)]).length = n + 1 := by rw [List.length_append, HN.out]; rfl
      have e2 : hits3 (r ++ [(who, nm, all)]) = hits3 r ++ hcells (who, nm, all) := by rw [hits3_append]; rfl
      rw [e1, e2]
      rcases ho2.2 with h2 | ⟨g, c, cur, e, hb, hg, x⟩
      · exact Or.inl h2
      · exact Or.inr ⟨g, c, cur, e, Nat.zero_le _, hg, x⟩
    have HF := Lib.hid hfin
    clear hfin
    have hlen3 : (hits3 r).length = n * 3 := by rw [hits3_len, HN.out]
    have H3 := Lib.hid hlen3
    clear hlen3
    rcases HNIL.out with ⟨rfl, hr0, hc0⟩ | ⟨g, rfl⟩
    · have HR0 := Lib.hid hr0
      obtain rfl : n = 0 := by rw [HN.out, hr0]; rfl
      subst hc0
      clear hr0
      go_wp2_with (at_builtin; refine Hid.out ?_)
      unfold Hid
      refine wpList_append_grows _ rfl (.tmp 25) (.tmp 30) 27 rfl 50 i _ 3 32 Tryd.underlying27 hi hz0 hz1 hz2 rfl (by decide) none 0 0 (hits3 r) rfl (fun _ => ⟨rfl, rfl⟩) H3.out (fun b e => by cases e) _ 1 1 (hcells (who, nm, all)) rfl rfl (held_new w1 _) (held_one _) (by omega) (by unfold maxLen; omega) (by omega) ?_
      intro v' w2 ho hg
      have hf := HF.out v' w2 ho hg
      clear ho hg
      go_wp2
      go_ret2
      exact ⟨_, rfl, hf.1, hf.2⟩
    · go_wp2_with (at_builtin; refine Hid.out ?_)
      all_goals
        unfold Hid
        refine wpList_append_grows _ rfl (.tmp 25) (.tmp 30) 27 rfl 50 i _ 3 32 Tryd.underlying27 hi hz0 hz1 hz2 rfl (by decide) (some ⟨g, 0, none⟩) n n (hits3 r) rfl (fun e => by cases e) H3.out (fun b e j u hj => by cases e; exact held_old HR.out HB1.out _ hj) _ 1 1 (hcells (who, nm, all)) rfl rfl (held_new w1 _) (held_one _) (by omega) (by unfold maxLen; omega) (by omega) ?_
        intro v' w2 ho hg
        have hf := HF.out v' w2 ho hg
        clear ho hg
        go_wp2
        go_ret2
        exact ⟨_, rfl, hf.1, hf.2⟩
  · have hqb : (q != 0) = true := by simp [hq0]
    have HL := Lib.hid (show rtakeL r who nm all = r by unfold rtakeL; rw [if_neg (by rw [← HQ.out]; exact hq0)])
    clear hq0
    go_wp2_with fail
    go_ret2
    refine ⟨_, rfl, ?_, HB1.out⟩
    rw [HL.out]
    have hh := HO.out.below HB1.out
    rw [← HN.out] at hh
    exact hh
/-- The table and the list say the same. -/
structure Agr (F : Int → List UInt8 → Int) (r : List Held) : Prop where
  val : ∀ i l, F i l = if (i, l, true) ∈ r then 2 else if (i, l, false) ∈ r then 1 else 0
  ok : ∀ h ∈ r, wfI h.1 ∧ okS h.2.1
  one : r.Pairwise fun a b => ¬ (a.1 = b.1 ∧ a.2.1 = b.2.1)
theorem Agr.nil : Agr (fun _ _ => 0) [] := ⟨fun i l => (by simp), fun h hh => (by cases hh), List.Pairwise.nil⟩
theorem Agr.zero {F : Int → List UInt8 → Int} {r : List Held} (h : Agr F r) {i : Int} {l : List UInt8} : F i l = 0 ↔ ∀ x ∈ r, ¬ (x.1 = i ∧ x.2.1 = l) := by
  rw [h.val]
  constructor
  · intro h0 x hx hc
    obtain ⟨i', l', b⟩ := x
    obtain ⟨rfl, rfl⟩ := hc
    cases b with
    | true => rw [if_pos hx] at h0; cases h0
    | false =>
      split at h0
      · omega
      · first | omega | (rw [if_pos hx] at h0; omega)
  · intro hn
    rw [if_neg (fun c => hn _ c ⟨rfl, rfl⟩), if_neg (fun c => hn _ c ⟨rfl, rfl⟩)]
theorem Agr.hit {F : Int → List UInt8 → Int} {r : List Held} (h : Agr F r) {j : Int} {nm : List UInt8} {all : Bool} : hits F j nm all ↔ ∃ x ∈ r, x.1 = j ∧ x.2.1 = nm ∧ (x.2.2 || all) = true := by
  unfold hits
  rw [h.val]
  constructor
  · rintro (h2 | ⟨rfl, h1⟩)
    · split at h2
      · rename_i hm
        exact ⟨_, hm, rfl, rfl, rfl⟩
      · split at h2 <;> cases h2
    · split at h1
      · cases h1
      · split at h1
        · rename_i hm
          exact ⟨_, hm, rfl, rfl, by simp⟩
        · cases h1
  · rintro ⟨⟨i, l, b⟩, hx, rfl, rfl, hb⟩
    cases b with
    | true => exact Or.inl (if_pos hx)
    | false =>
      have ha : all = true := by simpa using hb
      by_cases ht : (i, l, true) ∈ r
      · exact Or.inl (if_pos ht)
      · exact Or.inr ⟨ha, by rw [if_neg ht, if_pos hx]⟩
theorem pT_any {r : List Held} {who : Int} {nm : List UInt8} : r.any (pT who nm) = true ↔ ∃ x ∈ r, x.1 = who ∧ x.2.1 = nm := by
  simp [List.any_eq_true, pT]
theorem bef_lt {x y : List UInt8} : bytesBefore x y = true ↔ x < y := by
  rw [← decide_eq_true_iff (p := x < y), ← bytes_lt]
  have : ∀ x y : List UInt8, bytesBefore x y = Op.bytesLess x y := fun x => by
    induction x with
    | nil => intro y; cases y <;> rfl
    | cons a x ih => intro y; cases y with
      | nil => rfl
      | cons b y => rw [bytesBefore, Op.bytesLess, ih]
  rw [this]
theorem list_lt {x y : List UInt8} : ¬ x < y ↔ x = y ∨ y < x := by
  constructor
  · intro h
    rcases Classical.em (x = y) with e | e
    · exact Or.inl e
    · refine Or.inr ?_
      rcases WideAt.bytes_total x y e with h1 | h1
      · exact absurd (bef_lt.1 h1) h
      · exact bef_lt.1 h1
  · rintro (rfl | h) c
    · have := bef_lt.2 c
      rw [WideAt.bytes_irrefl] at this
      cases this
    · have := WideShapes.bytes_trans x y x (bef_lt.2 c) (bef_lt.2 h)
      rw [WideAt.bytes_irrefl] at this
      cases this
theorem may_ref {F : Int → List UInt8 → Int} {r : List Held} {who n : Int} {nm : List UInt8} {all : Bool} (h : Agr F r) (hm : MayIs F who nm all n) : n = refMay r who nm all := by
  have hz : F who nm = 0 → ¬ r.any (pT who nm) = true := fun h0 c => by
    obtain ⟨x, hx, e⟩ := pT_any.1 c
    exact h.zero.1 h0 x hx e
  have ho : (∃ l, okS l ∧ F who l ≠ 0 ∧ ¬ l < nm) → F who nm = 0 → r.any (pO who nm) = true := fun ⟨l, _, hl, hln⟩ h0 => by
    rcases Classical.em (∀ x ∈ r, ¬ (x.1 = who ∧ x.2.1 = l)) with hc | hc
    · exact absurd (h.zero.2 hc) hl
    · obtain ⟨x, hx, e1, e2⟩ : ∃ x ∈ r, x.1 = who ∧ x.2.1 = l := Classical.byContradiction fun hn => hc fun x hx hp => hn ⟨x, hx, hp⟩
      refine List.any_eq_true.2 ⟨x, hx, ?_⟩
      have hne : x.2.1 ≠ nm := fun c => h.zero.1 h0 x hx ⟨e1, c⟩
      have hl2 : Op.bytesLess x.2.1 nm = false := by rw [bytes_lt, e2]; simpa using hln
      simp [pO, e1, hl2, hne]
  have ho2 : (∀ l, okS l → F who l ≠ 0 → l < nm) → ¬ r.any (pO who nm) = true := fun hall c => by
    obtain ⟨x, hx, e⟩ := List.any_eq_true.1 c
    simp only [pO, Bool.and_eq_true, beq_iff_eq, Bool.not_eq_true', Bool.or_eq_false_iff] at e
    have hlt := hall x.2.1 (h.ok x hx).2 (fun c0 => h.zero.1 c0 x hx ⟨e.1, rfl⟩)
    have hl2 := e.2.1
    rw [bytes_lt] at hl2
    simp [hlt] at hl2
  have hl : (∃ j, wfI j ∧ j ≠ who ∧ hits F j nm all) ↔ r.any (pL who nm all) = true := by
    rw [List.any_eq_true]
    constructor
    · rintro ⟨j, _, hne, hh⟩
      obtain ⟨x, hx, e1, e2, e3⟩ := h.hit.1 hh
      refine ⟨x, hx, ?_⟩
      have : x.1 ≠ who := by rw [e1]; exact hne
      simp [pL, this, e2]
      simpa using e3
    · rintro ⟨x, hx, e⟩
      simp only [pL, Bool.and_eq_true, Bool.not_eq_true', beq_eq_false_iff_ne, beq_iff_eq] at e
      exact ⟨x.1, (h.ok x hx).1, e.1, h.hit.2 ⟨x, hx, rfl, e.2.1, e.2.2⟩⟩
  unfold refMay
  rcases hm with ⟨h1, rfl⟩ | ⟨h1, h2, rfl⟩ | ⟨h1, h2, h3, rfl⟩ | ⟨h1, h2, h3, rfl⟩
  · have : r.any (pT who nm) = true := by
      rcases Classical.em (∀ x ∈ r, ¬ (x.1 = who ∧ x.2.1 = nm)) with hc | hc
      · exact absurd (h.zero.2 hc) h1
      · exact pT_any.2 (Classical.byContradiction fun hn => hc fun x hx hp => hn ⟨x, hx, hp⟩)
    rw [if_pos this]
  · rw [if_neg (hz h1), if_pos (ho h2 h1)]
  · rw [if_neg (hz h1), if_neg (ho2 h2), if_pos (hl.1 h3)]
  · rw [if_neg (hz h1), if_neg (ho2 h2), if_neg (fun c => by obtain ⟨j, a1, a2, a3⟩ := hl.2 c; exact h3 j a1 a2 a3)]
theorem may_zero {F : Int → List UInt8 → Int} {who : Int} {nm : List UInt8} {all : Bool} (hm : MayIs F who nm all 0) : F who nm = 0 := by
  rcases hm with ⟨_, h⟩ | ⟨_, _, h⟩ | ⟨_, _, _, h⟩ | ⟨h, _⟩
  · cases h
  · cases h
  · cases h
  · exact h
theorem take_agr {F : Int → List UInt8 → Int} {r : List Held} {who n : Int} {nm : List UInt8} {all : Bool} (h : Agr F r) (hm : MayIs F who nm all n) (hw : wfI who) (hn : okS nm) : Agr (takeF F who nm all n) (rtakeL r who nm all) := by
  have he := may_ref h hm
  unfold takeF rtakeL
  rw [← he]
  by_cases h0 : n = 0
  · subst h0
    have hz := may_zero hm
    have hno := h.zero.1 hz
    rw [if_pos rfl, if_pos rfl]
    refine ⟨fun i l => ?_, fun x hx => ?_, ?_⟩
    · unfold upF
      by_cases e : i = who ∧ l = nm
      · obtain ⟨rfl, rfl⟩ := e
        rw [if_pos ⟨rfl, rfl⟩]
        have n1 : (i, l, true) ∉ r := fun c => hno _ c ⟨rfl, rfl⟩
        have n2 : (i, l, false) ∉ r := fun c => hno _ c ⟨rfl, rfl⟩
        cases all <;> simp [n1, n2]
      · rw [if_neg e, h.val]
        have hne : ∀ b : Bool, (i, l, b) ∈ r ++ [(who, nm, all)] ↔ (i, l, b) ∈ r := fun b => by
          rw [List.mem_append, List.mem_singleton]
          constructor
          · rintro (c | c)
            · exact c
            · cases c; exact absurd ⟨rfl, rfl⟩ e
          · exact Or.inl
        simp only [hne]
    · rcases List.mem_append.1 hx with hx | hx
      · exact h.ok x hx
      · rw [List.mem_singleton.1 hx]; exact ⟨hw, hn⟩
    · refine List.pairwise_append.2 ⟨h.one, List.pairwise_singleton _ _, fun a ha b hb => ?_⟩
      rw [List.mem_singleton.1 hb]
      exact hno a ha
  · rw [if_neg h0, if_neg h0]; exact h
end Go.Proofs.YtnnadhfpkplncaaDoor
