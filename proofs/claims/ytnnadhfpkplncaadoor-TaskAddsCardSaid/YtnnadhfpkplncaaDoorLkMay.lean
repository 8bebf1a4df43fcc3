/- May. Condition: the table reads, who and name are such as can be read. -/
import Derived.Test.YtnnadhfpkplncaaDoorLkTab
import Derived.Laws.Cover1
namespace Go.Proofs.YtnnadhfpkplncaaDoor
open Go.RowKit Go.Maps

def hits (F : Int → List UInt8 → Int) (j : Int) (nm : List UInt8) (all : Bool) : Prop := F j nm = 2 ∨ (all = true ∧ F j nm = 1)
/-- What May answers. -/
def MayIs (F : Int → List UInt8 → Int) (who : Int) (nm : List UInt8) (all : Bool) (n : Int) : Prop :=
  (F who nm ≠ 0 ∧ n = 9) ∨ (F who nm = 0 ∧ (∃ l, okS l ∧ F who l ≠ 0 ∧ ¬ l < nm) ∧ n = 41) ∨
  (F who nm = 0 ∧ (∀ l, okS l → F who l ≠ 0 → l < nm) ∧ (∃ j, wfI j ∧ j ≠ who ∧ hits F j nm all) ∧ n = 40) ∨
  (F who nm = 0 ∧ (∀ l, okS l → F who l ≠ 0 → l < nm) ∧ (∀ j, wfI j → j ≠ who → ¬ hits F j nm all) ∧ n = 0)
def MayPost (F : Int → List UInt8 → Int) (who : Int) (nm : List UInt8) (all : Bool) (w : World) (e : Ending) (w' : World) : Prop := ∃ n, e = .returned (errV n) ∧ MayIs F who nm all n ∧ Below w.heap.size w w'
theorem bytes_lt : ∀ x y : List UInt8, Op.bytesLess x y = decide (x < y)
  | x, [] => by cases x <;> simp [Op.bytesLess]
  | [], b :: y => by simp [Op.bytesLess]
  | a :: x, b :: y => by
    rw [Op.bytesLess, bytes_lt x y]
    simp only [List.cons_lt_cons_iff]
    by_cases h1 : a < b
    · simp [h1]
    · by_cases h2 : a = b
      · simp [h2]
      · simp [h1, h2]
theorem less_s {x y : List UInt8} {b : Bool} (h : decide (x < y) = b) : Op.bytesLess (ByteArray.toList ⟨x.toArray⟩) (ByteArray.toList ⟨y.toArray⟩) = b := by
  rw [ByteArray.toList_mk, ByteArray.toList_mk, bytes_lt, h]
theorem less_p {x y : List UInt8} {b : Bool} (h : decide (x < y) = b) : Op.bytesLess x y = b := by rw [bytes_lt, h]
set_option maxRecDepth 100000 in
theorem str_entry {x : List UInt8} {kl : Lit} (hk : keyOf Tryd.prog 9 (.string ⟨x.toArray⟩) = some kl) : kl = .string x ∧ okS x := by
  obtain ⟨x', ex, h1, h2⟩ := Maps.keyOf_str Tryd.underlying9 hk
  have e : x = x' := by injection ex with ex; injection ex with ex; simpa using ex
  subst e
  exact ⟨h1, h2⟩
/-- What is struck from what is left. -/
theorem left_or {left : Lit → Bool} {a b : Lit} (h : (left a && !a.sameKey b) = false) : left a = false ∨ a = b := by
  cases hl : left a with
  | false => exact Or.inl rfl
  | true =>
    rw [hl] at h
    exact Or.inr (WideAt.sameKey_eq (by simpa using h))
theorem spot_inj {a b : Option Nat} (h : spotD a = spotD b) : a = b := by
  cases a <;> cases b <;> simp [spotD] at h
  · rfl
  · congr 1; omega
theorem elem_spot {c : Option Nat} {y : DataW Unit × List MemPlace} (h : elemM (.map c) = some y) : y.1 = spotD c := by
  cases c <;> simp [elemM] at h <;> subst h <;> rfl
/-- An entry of the table that has come. -/
theorem tab_entry {L N t m n : Nat} {w : World} {B : Int → Option Nat} {F : Int → List UInt8 → Int} {D : DataW Unit} (_h : TabB L N w t m B F) (h3 : ∀ i, wfI i → D.atKey (.int .i64 i) .nil = spotD (B i) ∧ Maps.has D (.int .i64 i) = (B i).isSome)
    {x : Int} {c : Option Nat} {kl : Lit} {y : DataW Unit × List MemPlace} (hk : keyOf Tryd.prog 3 (.int .i64 x) = some kl) (hR : elemM (.map c) = some y) (hat : ∀ zd, D.atKey kl zd = y.1) (_hn : n ≤ N) : wfI x ∧ kl = .int .i64 x ∧ c = B x := by
  obtain ⟨x', ex, rfl, hw⟩ := Maps.keyOf_int_inv Tryd.underlying3 hk
  cases ex
  refine ⟨hw, rfl, spot_inj ?_⟩
  rw [← (h3 x hw).1, hat, elem_spot hR]
theorem may_nil (who : Int) (nm : List UInt8) (all : Bool) (w : World) : Calls Tryd.prog 11 #[.pointer none, .int .i64 who, .string ⟨nm.toArray⟩, .bool all] w fun e w' => e = .returned (errV 1) ∧ w' = w := by
  go_enter Tryd.func11, Tryd.ntmps11
  go_wp2
  go_ret
  exact ⟨rfl, rfl⟩
set_option maxRecDepth 100000 in
set_option maxHeartbeats 3200000 in
theorem may_any {L N t m : Nat} {B : Int → Option Nat} {F : Int → List UInt8 → Int} (who : Int) (nm : List UInt8) (all : Bool) (w : World) (h : TabB L N w t m B F) (hw : wfI who) (hn : okS nm) :
    Calls Tryd.prog 11 #[.pointer (some ⟨t, 0, none⟩), .int .i64 who, .string ⟨nm.toArray⟩, .bool all] w (MayPost F who nm all w) := by
  have hc : w.cell? ⟨t, 0, none⟩ = some (.map (some m)) := block_cell h.cell
  have hl1 := look_out h hw
  have hl2 := look_both h (i := who) hn
  have HT := Lib.hid h
  obtain ⟨bw, hbw⟩ : ∃ b, b = B who := ⟨_, rfl⟩
  rw [← hbw] at hl1 hl2
  have HB := Lib.hid hbw
  obtain ⟨q, hq⟩ : ∃ q, q = F who nm := ⟨_, rfl⟩
  rw [← hq] at hl2
  have HQ := Lib.hid hq
  clear h hbw hq
  by_cases h0 : q = 0
  · subst h0
    cases bw with
    | none =>
      have hrg := run_range_nilMap (P := Tryd.prog) w 77 9 3 Tryd.underlying77
      have hnx : ∀ ty, (Instr.next (.pointer (some ⟨w.heap.size, 0, none⟩)) false ty).run Tryd.prog (w.alloc (.mapIter none 0 #[] 0)) = _ := fun ty => run_next_nilMap w ty 0 0 #[]
      have HB1 := Lib.hid (show Below w.heap.size w (w.alloc (.mapIter none 0 #[] 0)) from (Below.refl _ _).alloc (Nat.le_refl _) _)
      have HLT := Lib.hid (show ∀ l, okS l → F who l ≠ 0 → l < nm from fun l _ hne => absurd (HT.out.free who HB.out.symm l) hne)
      obtain ⟨w1, hw1⟩ : ∃ w1, w1 = w.alloc (.mapIter none 0 #[] 0) := ⟨_, rfl⟩
      go_enter Tryd.func11, Tryd.ntmps11
      go_wp2
      rw [← hw1] at hnx HB1 ⊢
      clear hw1
      refine wp_loop_rounds 1 ?_
      rw [rounds_succ]
      have HT2 := Lib.hid (HT.out.below HB1.out)
      have hc2 : w1.cell? ⟨t, 0, none⟩ = some (.map (some m)) := block_cell HT2.out.cell
      obtain ⟨n2, D2, hown2, hn2, hat2⟩ := HT2.out.map
      have HAT2 := Lib.hid hat2
      have HS2 := Lib.hid (show ∀ i, wfI i → Maps.has D2 (.int .i64 i) = false → ¬ hits F i nm all from fun i hi hh => by
        rw [(hat2 i hi).2] at hh
        have h0 := HT2.out.free i (by cases hb : B i with | none => rfl | some b => rw [hb] at hh; cases hh) nm
        unfold hits
        omega)
      have hlt2 := hown2.lt
      go_wp2_with (at_range; refine wpList_range_own _ rfl _ 74 rfl 3 77 keyI Tryd.underlying74 _ m n2 D2 rfl hown2 ?_; intro w3 hrg3 hg3 hs3)
      go_frame
      go_loopw [10, 11] (fun _ _ wr => ∃ left cnt, wr.ranges Tryd.prog 3 elemM m w1.heap.size n2 D2 left cnt ∧ Hid (Below w1.heap.size w1 wr) ∧ Hid (∀ i, wfI i → left (.int .i64 i) = false → i ≠ who → ¬ hits F i nm all)) (fun _ _ wr => wr.rangeLeft m w1.heap.size)
      case atStart => exact ⟨_, _, hrg3, (Below.refl _ _).grown hg3 (Nat.le_refl _) (by simp), fun i hi hh _ => HS2.out i hi hh⟩
      case round =>
        obtain ⟨left, cnt, hrg, HBR, HSE⟩ := hrel
        go_wp2_with (at_next; refine wpList_next_ranges _ rfl _ rfl 3 keyI elemM (Value.int .i64) Value.map (fun key kl hk => by obtain ⟨x, hx, _⟩ := Maps.keyOf_int_inv Tryd.underlying3 hk; exact ⟨x, hx⟩) (fun v y hv => elemM_inv hv) m _ n2 _ _ _ rfl hrg ?_ ?_)
        · intro hc0 hl0
          go_wp2
          go_ret
          have HBE := HB1.out.trans (HBR.out.mono HB1.out.size)
          exact ⟨0, rfl, Or.inr (Or.inr (Or.inr ⟨HQ.out.symm, HLT.out, fun j hj hne => HSE.out j hj (hl0 _) hne, rfl⟩)), HBE⟩
        · intro x c kl y1 y2 w4 cnt4 hk hlk hRv hat hrg4 hlt hgr hsz hen
          obtain ⟨hwx, rfl, rfl⟩ := tab_entry HT2.out HAT2.out hk hRv hat hn2
          have HB4 := Lib.hid (HBR.out.grown hgr HBR.out.size (fun k e => by cases e; exact Nat.le_refl _))
          have HT4 := Lib.hid (HT2.out.below HB4.out)
          have HBE := Lib.hid (HB1.out.trans (HB4.out.mono HB1.out.size))
          have HLE := Lib.hid (show w4.rangeLeft m w1.heap.size < wr.rangeLeft m w1.heap.size by rw [hrg4.left_eq, hrg.left_eq]; omega)
          obtain ⟨fx, hfx⟩ : ∃ fx, fx = F x nm := ⟨_, rfl⟩
          have hlx := look_both HT4.out (i := x) hn
          rw [← hfx] at hlx
          have HFX := Lib.hid hfx
          obtain ⟨cx, hcx⟩ : ∃ cx, cx = B x := ⟨_, rfl⟩
          rw [← hcx] at hlx hen ⊢
          clear hfx hcx hk hRv hat hgr hsz hlt hlk hrg
          have hnext : (¬ (x ≠ who) ∨ ¬ hits F x nm all) → ∃ left' cnt', w4.ranges Tryd.prog 3 elemM m w1.heap.size n2 D2 left' cnt' ∧ Hid (Below w1.heap.size w1 w4) ∧ Hid (∀ i, wfI i → left' (.int .i64 i) = false → i ≠ who → ¬ hits F i nm all) := fun hno =>
            ⟨_, _, hrg4, HB4, Lib.hid fun i hi hl hne => by
              rcases left_or hl with h | h
              · exact HSE.out i hi h hne
              · cases h
                rcases hno with h1 | h1
                · exact absurd hne h1
                · exact h1⟩
          have HNX := Lib.hid hnext
          clear hnext hrg4
          by_cases hxw : x = who
          · have hxb : (x != who) = false := by simpa using hxw
            have HNX' := Lib.hid (HNX.out (Or.inl fun k => k hxw))
            clear hxw
            go_wp2
            exact ⟨HNX'.out, HLE.out⟩
          · have hxb : (x != who) = true := by simpa using hxw
            have HXW := Lib.hid hxw
            clear hxw
            by_cases hf2 : fx = 2
            · subst hf2
              have HH := Lib.hid (show hits F x nm all from Or.inl HFX.out.symm)
              go_wp2
              go_ret
              exact ⟨40, rfl, Or.inr (Or.inr (Or.inl ⟨HQ.out.symm, HLT.out, ⟨x, hwx, HXW.out, HH.out⟩, rfl⟩)), HBE.out⟩
            · have hf2b : (fx == 2) = false := by simpa using hf2
              have HF2 := Lib.hid hf2
              clear hf2
              cases all with
              | false =>
                have HNX' := Lib.hid (HNX.out (Or.inr fun k => by
                  rcases k with k | ⟨k, _⟩
                  · exact HF2.out (HFX.out.trans k)
                  · cases k))
                go_wp2
                exact ⟨HNX'.out, HLE.out⟩
              | true =>
                by_cases hf1 : fx = 1
                · subst hf1
                  have HH := Lib.hid (show hits F x nm true from Or.inr ⟨rfl, HFX.out.symm⟩)
                  go_wp2
                  go_ret
                  exact ⟨40, rfl, Or.inr (Or.inr (Or.inl ⟨HQ.out.symm, HLT.out, ⟨x, hwx, HXW.out, HH.out⟩, rfl⟩)), HBE.out⟩
                · have hf1b : (fx == 1) = false := by simpa using hf1
                  have HF1 := Lib.hid hf1
                  clear hf1
                  have HNX' := Lib.hid (HNX.out (Or.inr fun k => by
                    rcases k with k | ⟨_, k⟩
                    · exact HF2.out (HFX.out.trans k)
                    · exact HF1.out (HFX.out.trans k)))
                  go_wp2
                  exact ⟨HNX'.out, HLE.out⟩
    | some b =>
      have hin := (HT.out.held who b HB.out.symm).1
      obtain ⟨n1, D1, hown1, hn1, hat1⟩ := hin
      have HAT1 := Lib.hid hat1
      clear hat1
      go_enter Tryd.func11, Tryd.ntmps11
      go_wp2_with (at_range; refine wpList_range_own _ rfl _ 77 rfl 9 3 keyS Tryd.underlying77 _ b n1 D1 rfl hown1 ?_; intro w0 hrg0 hg0 hs0)
      go_frame
      go_loopw [9] (fun _ wr => ∃ left cnt, wr.ranges Tryd.prog 9 plI b w.heap.size n1 D1 left cnt ∧ Hid (Below w.heap.size w wr) ∧ Hid (∀ l, okS l → F who l ≠ 0 → left (.string l) = false → l < nm)) (fun _ wr => wr.rangeLeft b w.heap.size)
      case atStart => exact ⟨_, _, hrg0, (Below.refl _ _).grown hg0 (Nat.le_refl _) (by simp), fun l hl hne hh => by
        rw [(HAT1.out l hl).2] at hh
        simp [hne] at hh⟩
      case round =>
        obtain ⟨left, cnt, hrg, HBR, HSE⟩ := hrel
        go_wp2_with (at_next; refine wpList_next_ranges _ rfl _ rfl 9 keyS plI (fun l : List UInt8 => Value.string ⟨l.toArray⟩) (Value.int .i64) (fun key kl hk => by obtain ⟨x, hx, _⟩ := Maps.keyOf_str Tryd.underlying9 hk; exact ⟨x, hx⟩) (fun v y hv => by obtain ⟨c, rfl, _⟩ := plainElem_int_inv Tryd.underlying3 hv; exact ⟨c, rfl⟩) b _ n1 _ _ _ rfl hrg ?_ ?_)
        · intro hc0 hl0
          have HB1 := HBR
          have HLT := Lib.hid (show ∀ l, okS l → F who l ≠ 0 → l < nm from fun l hl hne => HSE.out l hl hne (hl0 _))
          obtain ⟨w1, hw1⟩ : ∃ w1, w1 = wr := ⟨_, rfl⟩
          subst hw1
          clear hrg0 hg0 hs0 hown1
          have HT2 := Lib.hid (HT.out.below HB1.out)
          have hc2 : w1.cell? ⟨t, 0, none⟩ = some (.map (some m)) := block_cell HT2.out.cell
          obtain ⟨n2, D2, hown2, hn2, hat2⟩ := HT2.out.map
          have HAT2 := Lib.hid hat2
          have HS2 := Lib.hid (show ∀ i, wfI i → Maps.has D2 (.int .i64 i) = false → ¬ hits F i nm all from fun i hi hh => by
            rw [(hat2 i hi).2] at hh
            have h0 := HT2.out.free i (by cases hb : B i with | none => rfl | some b => rw [hb] at hh; cases hh) nm
            unfold hits
            omega)
          have hlt2 := hown2.lt
          go_wp2_with (at_range; refine wpList_range_own _ rfl _ 74 rfl 3 77 keyI Tryd.underlying74 _ m n2 D2 rfl hown2 ?_; intro w3 hrg3 hg3 hs3)
          go_frame
          go_loopw [10, 11] (fun _ _ wr => ∃ left cnt, wr.ranges Tryd.prog 3 elemM m w1.heap.size n2 D2 left cnt ∧ Hid (Below w1.heap.size w1 wr) ∧ Hid (∀ i, wfI i → left (.int .i64 i) = false → i ≠ who → ¬ hits F i nm all)) (fun _ _ wr => wr.rangeLeft m w1.heap.size)
          case atStart => exact ⟨_, _, hrg3, (Below.refl _ _).grown hg3 (Nat.le_refl _) (by simp), fun i hi hh _ => HS2.out i hi hh⟩
          case round =>
            obtain ⟨left, cnt, hrg, HBR, HSE⟩ := hrel
            go_wp2_with (at_next; refine wpList_next_ranges _ rfl _ rfl 3 keyI elemM (Value.int .i64) Value.map (fun key kl hk => by obtain ⟨x, hx, _⟩ := Maps.keyOf_int_inv Tryd.underlying3 hk; exact ⟨x, hx⟩) (fun v y hv => elemM_inv hv) m _ n2 _ _ _ rfl hrg ?_ ?_)
            · intro hc0 hl0
              go_wp2
              go_ret
              have HBE := HB1.out.trans (HBR.out.mono HB1.out.size)
              exact ⟨0, rfl, Or.inr (Or.inr (Or.inr ⟨HQ.out.symm, HLT.out, fun j hj hne => HSE.out j hj (hl0 _) hne, rfl⟩)), HBE⟩
            · intro x c kl y1 y2 w4 cnt4 hk hlk hRv hat hrg4 hlt hgr hsz hen
              obtain ⟨hwx, rfl, rfl⟩ := tab_entry HT2.out HAT2.out hk hRv hat hn2
              have HB4 := Lib.hid (HBR.out.grown hgr HBR.out.size (fun k e => by cases e; exact Nat.le_refl _))
              have HT4 := Lib.hid (HT2.out.below HB4.out)
              have HBE := Lib.hid (HB1.out.trans (HB4.out.mono HB1.out.size))
              have HLE := Lib.hid (show w4.rangeLeft m w1.heap.size < wr.rangeLeft m w1.heap.size by rw [hrg4.left_eq, hrg.left_eq]; omega)
              obtain ⟨fx, hfx⟩ : ∃ fx, fx = F x nm := ⟨_, rfl⟩
              have hlx := look_both HT4.out (i := x) hn
              rw [← hfx] at hlx
              have HFX := Lib.hid hfx
              obtain ⟨cx, hcx⟩ : ∃ cx, cx = B x := ⟨_, rfl⟩
              rw [← hcx] at hlx hen ⊢
              clear hfx hcx hk hRv hat hgr hsz hlt hlk hrg
              have hnext : (¬ (x ≠ who) ∨ ¬ hits F x nm all) → ∃ left' cnt', w4.ranges Tryd.prog 3 elemM m w1.heap.size n2 D2 left' cnt' ∧ Hid (Below w1.heap.size w1 w4) ∧ Hid (∀ i, wfI i → left' (.int .i64 i) = false → i ≠ who → ¬ hits F i nm all) := fun hno =>
                ⟨_, _, hrg4, HB4, Lib.hid fun i hi hl hne => by
                  rcases left_or hl with h | h
                  · exact HSE.out i hi h hne
                  · cases h
                    rcases hno with h1 | h1
                    · exact absurd hne h1
                    · exact h1⟩
              have HNX := Lib.hid hnext
              clear hnext hrg4
              by_cases hxw : x = who
              · have hxb : (x != who) = false := by simpa using hxw
                have HNX' := Lib.hid (HNX.out (Or.inl fun k => k hxw))
                clear hxw
                go_wp2
                exact ⟨HNX'.out, HLE.out⟩
              · have hxb : (x != who) = true := by simpa using hxw
                have HXW := Lib.hid hxw
                clear hxw
                by_cases hf2 : fx = 2
                · subst hf2
                  have HH := Lib.hid (show hits F x nm all from Or.inl HFX.out.symm)
                  go_wp2
                  go_ret
                  exact ⟨40, rfl, Or.inr (Or.inr (Or.inl ⟨HQ.out.symm, HLT.out, ⟨x, hwx, HXW.out, HH.out⟩, rfl⟩)), HBE.out⟩
                · have hf2b : (fx == 2) = false := by simpa using hf2
                  have HF2 := Lib.hid hf2
                  clear hf2
                  cases all with
                  | false =>
                    have HNX' := Lib.hid (HNX.out (Or.inr fun k => by
                      rcases k with k | ⟨k, _⟩
                      · exact HF2.out (HFX.out.trans k)
                      · cases k))
                    go_wp2
                    exact ⟨HNX'.out, HLE.out⟩
                  | true =>
                    by_cases hf1 : fx = 1
                    · subst hf1
                      have HH := Lib.hid (show hits F x nm true from Or.inr ⟨rfl, HFX.out.symm⟩)
                      go_wp2
                      go_ret
                      exact ⟨40, rfl, Or.inr (Or.inr (Or.inl ⟨HQ.out.symm, HLT.out, ⟨x, hwx, HXW.out, HH.out⟩, rfl⟩)), HBE.out⟩
                    · have hf1b : (fx == 1) = false := by simpa using hf1
                      have HF1 := Lib.hid hf1
                      clear hf1
                      have HNX' := Lib.hid (HNX.out (Or.inr fun k => by
                        rcases k with k | ⟨_, k⟩
                        · exact HF2.out (HFX.out.trans k)
                        · exact HF1.out (HFX.out.trans k)))
                      go_wp2
                      exact ⟨HNX'.out, HLE.out⟩
        · intro x c kl y1 y2 w4 cnt4 hk hlk hRv hat hrg4 hlt hgr hsz hen
          obtain ⟨rfl, hox⟩ := str_entry hk
          have hfx : F who x ≠ 0 := by
            have h1 := (HAT1.out x hox).1
            rw [hat] at h1
            have hh := Maps.has_true_of_atKey hat
            rw [(HAT1.out x hox).2] at hh
            simpa using hh
          have HFX := Lib.hid hfx
          have HB4 := Lib.hid (HBR.out.grown hgr HBR.out.size (fun k e => by cases e; exact Nat.le_refl _))
          have HLE := Lib.hid (show w4.rangeLeft b w.heap.size < wr.rangeLeft b w.heap.size by rw [hrg4.left_eq, hrg.left_eq]; omega)
          clear hk hRv hat hgr hsz hlt hlk hrg hfx
          by_cases hxn : x < nm
          · have hcmp := less_s (decide_eq_true hxn)
            have hcmp2 := less_p (decide_eq_true hxn)
            have HNX := Lib.hid (show ∃ left' cnt', w4.ranges Tryd.prog 9 plI b w.heap.size n1 D1 left' cnt' ∧ Hid (Below w.heap.size w w4) ∧ Hid (∀ l, okS l → F who l ≠ 0 → left' (.string l) = false → l < nm) from ⟨_, _, hrg4, HB4, Lib.hid fun l hl hne hh => by
              rcases left_or hh with h | h
              · exact HSE.out l hl hne h
              · cases h; exact hxn⟩)
            clear hxn hrg4
            go_wp2
            exact ⟨HNX.out, HLE.out⟩
          · have hcmp := less_s (decide_eq_false hxn)
            have hcmp2 := less_p (decide_eq_false hxn)
            have HXN := Lib.hid hxn
            clear hxn hrg4
            go_wp2
            go_ret
            exact ⟨41, rfl, Or.inr (Or.inl ⟨HQ.out.symm, ⟨x, hox, HFX.out, HXN.out⟩, rfl⟩), HB4.out⟩
  · have hqb : (q != 0) = true := by simp [h0]
    go_enter Tryd.func11, Tryd.ntmps11
    go_wp2
    go_ret
    exact ⟨9, rfl, Or.inl ⟨by rw [← HQ.out]; exact h0, rfl⟩, Below.refl _ _⟩
end Go.Proofs.YtnnadhfpkplncaaDoor
