/- Names, Free, Holds, Len. Condition: the table reads. -/
import Derived.Test.YtnnadhfpkplncaaDoorLkShelf
import Derived.Test.YtnnadhfpkplncaaDoorLkLMay
import Derived.Sort.KeysCollected
import Derived.Great.Walk
namespace Go.Proofs
open Go.RowKit Go.Maps Go.Sort Go.Shelf
theorem Tryd.sortsS (m : Nat) : AnyZ.SortsIn Tryd.prog Tryd.sorted32_ren Fence.wide m :=
  ⟨fun blk off cap ss W hH hblk hsz => callsIn_wide.2 (AnyM.slices_Sort_string Tryd.sort47 blk off cap ss W hH hblk hsz),
   fun p cap W => callsIn_wide.2 (AnyM.slices_Sort_string_none Tryd.sort47 p cap W)⟩
theorem Tryd.keysS (mb : Option Nat) (W : World) : CallsIn Fence.wide 5 Tryd.prog 33 #[.map mb] W fun e w' => e = .returned (.func (.func 48) #[] #[.pointer (some ⟨W.heap.size, 0, none⟩)]) ∧ w' = W.alloc (.cells #[.map mb] 77) :=
  AnyZ.keys_in Tryd.keys33 Fence.wide 5 trivial rfl mb W
set_option maxHeartbeats 1000000 in
theorem Tryd.sortedS {H : Type} (b nn : Nat) (D0 : DataW H) (R : Value → Option (DataW H × List MemPlace)) (w : World) (hown : w.ownsMap Tryd.prog 9 R b nn D0) (hmax : Maps.size D0 ≤ maxLen) (hbytes : Maps.size D0 * 16 ≤ 140737488355328) :
    CallsIn Fence.wide 5 Tryd.prog 32 #[.func (.func 48) #[] #[.pointer (some ⟨w.heap.size, 0, none⟩)]] (w.alloc (.cells #[.map (some b)] 77)) fun e w' => ∃ (v : Value) (ss : List (List UInt8)), e = .returned v ∧ ss.Perm (strKeys D0) ∧
      w'.ownsRow (w.alloc (.cells #[.map (some b)] 77)).heap.size 9 1 v ss.length ((ss.mergeSort (fun x y => decide (x ≤ y))).map encStr) ∧ (v = .slice none 0 0 ↔ ss = []) ∧ Below (w.alloc (.cells #[.map (some b)] 77)).heap.size (w.alloc (.cells #[.map (some b)] 77)) w' := by
  have hbl := hown.lt
  have hseq : SeqGives Fence.wide 2 Tryd.prog 48 #[.pointer (some ⟨w.heap.size, 0, none⟩)] encStr (fun ss => ss.Perm (strKeys D0)) (Maps.size D0) (w.alloc (.cells #[.map (some b)] 77)) :=
    AnyZ.keys_gives (ρ := Tryd.keys33_ren) { Tryd.keys33 with } Fence.wide _ trivial rfl (by omega) w.heap.size b nn D0 _ (by simp) (by simp) (by
      obtain ⟨es, clock, hb, Ft, hs, hD⟩ := hown
      exact ⟨es, clock, (Below.heap_alloc _ _ b hbl).trans hb, Ft, hs, hD⟩)
  exact AnyZ.sorted_in Tryd.sorted32 Fence.wide 5 trivial trivial trivial trivial rfl (by omega) (Tryd.sortsS _) (enters_of Tryd.func47 (by kernel_rfl) rfl) 48 #[.pointer (some ⟨w.heap.size, 0, none⟩)] trivial (enters_of Tryd.func48 (by kernel_rfl) rfl) _ _ hmax hbytes _ hseq
set_option maxHeartbeats 1000000 in
theorem Tryd.sortedSnil (w : World) :
    CallsIn Fence.wide 5 Tryd.prog 32 #[.func (.func 48) #[] #[.pointer (some ⟨w.heap.size, 0, none⟩)]] (w.alloc (.cells #[.map none] 77)) fun e w' => ∃ (v : Value) (ss : List (List UInt8)), e = .returned v ∧ ss = [] ∧
      w'.ownsRow (w.alloc (.cells #[.map none] 77)).heap.size 9 1 v ss.length ((ss.mergeSort (fun x y => decide (x ≤ y))).map encStr) ∧ (v = .slice none 0 0 ↔ ss = []) ∧ Below (w.alloc (.cells #[.map none] 77)).heap.size (w.alloc (.cells #[.map none] 77)) w' := by
  have hseq : SeqGives Fence.wide 2 Tryd.prog 48 #[.pointer (some ⟨w.heap.size, 0, none⟩)] encStr (fun ss : List (List UInt8) => ss = []) 0 (w.alloc (.cells #[.map none] 77)) :=
    AnyZ.keys_gives_nil (ρ := Tryd.keys33_ren) { Tryd.keys33 with } Fence.wide _ trivial rfl w.heap.size _ (by simp) (by simp)
  exact AnyZ.sorted_in Tryd.sorted32 Fence.wide 5 trivial trivial trivial trivial rfl (by omega) (Tryd.sortsS _) (enters_of Tryd.func47 (by kernel_rfl) rfl) 48 #[.pointer (some ⟨w.heap.size, 0, none⟩)] trivial (enters_of Tryd.func48 (by kernel_rfl) rfl) _ 0 (Nat.zero_le _) (by omega) _ hseq
end Go.Proofs
namespace Go.Proofs.YtnnadhfpkplncaaDoor
open Go.RowKit Go.Maps

theorem own_lower {b b' n s : Nat} {w : World} {v : Value} {T : TypeId} {xs : List Value} (h : w.ownsRow b T s v n xs) (hb : b' ≤ b) : w.ownsRow b' T s v n xs := by
  refine ⟨h.1, ?_⟩
  rcases h.2 with h2 | ⟨g, cap, cur, e, hbg, r⟩
  · exact Or.inl h2
  · exact Or.inr ⟨g, cap, cur, e, Nat.le_trans hb hbg, r⟩
def strs (L : List (List UInt8)) : List Value := L.map fun l => .string ⟨l.toArray⟩
/-- The names that one holds, in order. -/
structure NamesIs (F : Int → List UInt8 → Int) (who : Int) (L : List (List UInt8)) : Prop where
  one : L.Nodup
  mem : ∀ l, l ∈ L ↔ okS l ∧ F who l ≠ 0
  up : L.Pairwise fun x y => x ≤ y
theorem strKeys_spec {R : Value → Option (DataW Unit × List MemPlace)} {w : World} {b n : Nat} {D : DataW Unit} (h : w.ownsMap Tryd.prog 9 R b n D) : (strKeys D).Nodup ∧ ∀ l, l ∈ strKeys D ↔ okS l ∧ Maps.has D (.string l) = true := by
  have hle := strKeys_le h Tryd.underlying9
  obtain ⟨es, hD, hpw, _⟩ := h.entries keyS
  obtain ⟨es', hD', hko⟩ := h.keysOf
  obtain rfl : es = es' := by rw [hD] at hD'; simpa using hD'
  subst hD
  have hk : ∀ p ∈ es, ∃ x, p.1 = .string x := fun p hp => by obtain ⟨v, hv⟩ := hko p hp; obtain ⟨x, _, hx, _⟩ := Maps.keyOf_str Tryd.underlying9 hv; exact ⟨x, hx⟩
  refine ⟨?_, fun l => ⟨fun hl => ⟨hle l hl, ?_⟩, fun ⟨_, hl⟩ => ?_⟩⟩
  · show (es.map fun p => strOf p.1).Nodup
    refine List.pairwise_map.2 (hpw.imp_of_mem fun {p q} hp' hq' hne e => hne ?_)
    obtain ⟨a, ha⟩ := hk p hp'
    obtain ⟨b, hb⟩ := hk q hq'
    rw [ha, hb] at e ⊢
    exact congrArg _ e
  · obtain ⟨p, hp, rfl⟩ := List.mem_map.1 hl
    obtain ⟨a, ha⟩ := hk p hp
    rw [has_eq, List.any_eq_true]
    exact ⟨p, hp, by rw [ha]; simp [Lit.sameKey, strOf]⟩
  · rw [has_eq, List.any_eq_true] at hl
    obtain ⟨p, hp, hs⟩ := hl
    obtain ⟨a, ha⟩ := hk p hp
    rw [ha] at hs
    exact List.mem_map.2 ⟨p, hp, by rw [ha]; simpa [Lit.sameKey, strOf] using hs⟩
theorem sorted_spec (ss : List (List UInt8)) : (ss.mergeSort fun x y => decide (x ≤ y)).Perm ss ∧ (ss.mergeSort fun x y => decide (x ≤ y)).Pairwise fun x y => x ≤ y := by
  refine ⟨List.mergeSort_perm _ _, ?_⟩
  have := List.pairwise_mergeSort (le := fun x y : List UInt8 => decide (x ≤ y)) (fun a b c h1 h2 => by simp only [decide_eq_true_eq] at *; exact List.le_trans h1 h2) (fun a b => by simp only [Bool.or_eq_true, decide_eq_true_eq]; exact List.le_total a b) ss
  exact this.imp fun h => by simpa using h
def NamesPost (F : Int → List UInt8 → Int) (who : Int) (w : World) (e : Ending) (w' : World) : Prop :=
  ∃ v L, e = .returned v ∧ w'.ownsRow w.heap.size 9 1 v L.length (strs L) ∧ NamesIs F who L ∧ Below w.heap.size w w'
set_option maxRecDepth 100000 in
set_option maxHeartbeats 1600000 in
theorem names_any {L N t : Nat} {F : Int → List UInt8 → Int} (who : Int) (w : World) (h : Tab L N w t F) (hw : wfI who) (hN : N ≤ 100000) : Calls Tryd.prog 15 #[.pointer (some ⟨t, 0, none⟩), .int .i64 who] w (NamesPost F who w) := by
  obtain ⟨m, B, h, _⟩ := h
  have hc : w.cell? ⟨t, 0, none⟩ = some (.map (some m)) := block_cell h.cell
  have hl1 := look_out h hw
  have HT := Lib.hid h
  obtain ⟨bw, hbw⟩ : ∃ b, b = B who := ⟨_, rfl⟩
  rw [← hbw] at hl1
  have HB := Lib.hid hbw
  clear h hbw
  refine (callsIn_wide (n := 6)).1 ?_
  have hfK : Fence.wide.fn 33 := trivial
  have hfS : Fence.wide.fn 32 := trivial
  cases bw with
  | none =>
    have cS := Tryd.sortedSnil w
    have hz : NamesIs F who [] := ⟨List.nodup_nil, fun l => ⟨fun c => (by cases c), fun c => absurd (HT.out.free who HB.out.symm l) c.2⟩, List.Pairwise.nil⟩
    have HZ := Lib.hid hz
    have HCS := Lib.hid cS
    clear hz cS
    refine callsIn_of_wp Tryd.func15 rfl trivial ?_ rfl
    simp only [Tryd.ntmps15, List.size_toArray, List.length_cons, List.length_nil, Nat.reduceAdd, Nat.reduceSub, Array.replicate_succ, Array.replicate_zero, List.push_toArray, List.append_toArray, List.nil_append, List.cons_append]
    gi_wp2_with (first
      | (gi_at_call 33; refine (Tryd.keysS _ _).mono ?_; rintro e w' ⟨rfl, rfl⟩)
      | (gi_at_call 32; refine HCS.out.mono ?_; rintro e w' ⟨v, ss, rfl, hS, hrow, hnil, hb⟩))
    go_ret
    subst hS
    simp only [List.mergeSort_nil] at hrow
    exact ⟨v, [], rfl, own_lower hrow (by rw [World.size_alloc]; omega), HZ.out, ((Below.refl _ w).alloc (Nat.le_refl _) _).trans (hb.mono (by rw [World.size_alloc]; omega))⟩
  | some b =>
    obtain ⟨n, D, hown, hn, hat⟩ := (HT.out.held who b HB.out.symm).1
    have hsz := hown.size_le
    have cS := Tryd.sortedS b n D plI w hown (by unfold maxLen; omega) (by omega)
    have hsp := strKeys_spec hown
    have HSP := Lib.hid hsp
    have HAT := Lib.hid hat
    have HCS := Lib.hid cS
    clear hsp cS hat
    refine callsIn_of_wp Tryd.func15 rfl trivial ?_ rfl
    simp only [Tryd.ntmps15, List.size_toArray, List.length_cons, List.length_nil, Nat.reduceAdd, Nat.reduceSub, Array.replicate_succ, Array.replicate_zero, List.push_toArray, List.append_toArray, List.nil_append, List.cons_append]
    gi_wp2_with (first
      | (gi_at_call 33; refine (Tryd.keysS _ _).mono ?_; rintro e w' ⟨rfl, rfl⟩)
      | (gi_at_call 32; refine HCS.out.mono ?_; rintro e w' ⟨v, ss, rfl, hS, hrow, hnil, hb⟩))
    go_ret
    obtain ⟨s1, s2⟩ := sorted_spec ss
    have s3 := s1.trans hS
    refine ⟨v, _, rfl, ?_, ⟨s3.nodup_iff.2 HSP.out.1, fun l => ?_, s2⟩, ((Below.refl _ w).alloc (Nat.le_refl _) _).trans (hb.mono (by rw [World.size_alloc]; omega))⟩
    · rw [List.length_mergeSort]
      exact own_lower hrow (by rw [World.size_alloc]; omega)
    · rw [s3.mem_iff, HSP.out.2 l]
      constructor
      · rintro ⟨h1, h2⟩
        rw [(HAT.out l h1).2] at h2
        exact ⟨h1, by simpa using h2⟩
      · rintro ⟨h1, h2⟩
        rw [(HAT.out l h1).2]
        exact ⟨h1, by simpa using h2⟩
theorem names_one {F : Int → List UInt8 → Int} {who : Int} {L M : List (List UInt8)} (h : NamesIs F who L) (k : NamesIs F who M) : L = M :=
  List.Perm.eq_of_pairwise (le := fun x y => x ≤ y) (fun a b _ _ h1 h2 => List.le_antisymm h1 h2) h.up k.up ((List.perm_ext_iff_of_nodup h.one k.one).2 fun l => by rw [h.mem, k.mem])
set_option maxRecDepth 100000 in
/-- Free. -/
theorem free_any {L N t : Nat} {F : Int → List UInt8 → Int} (who : Int) (w : World) (h : Tab L N w t F) (hw : wfI who) :
    Calls Tryd.prog 16 #[.pointer (some ⟨t, 0, none⟩), .int .i64 who] w fun e w' => e = .returned (.tuple #[]) ∧ Tab L N w' t (fun i l => if i = who then 0 else F i l) ∧ Keep L w w' := by
  obtain ⟨m, B, h, hne⟩ := h
  have hc : w.cell? ⟨t, 0, none⟩ = some (.map (some m)) := block_cell h.cell
  have HT := Lib.hid h
  have HNE := Lib.hid hne
  obtain ⟨n, D, hown, hn, hat⟩ := h.map
  have HAT := Lib.hid hat
  have HO := Lib.hid hown
  clear h hne hat
  go_enter Tryd.func16, Tryd.ntmps16
  go_wp2_with (at_delete; refine wpList_delete_own _ rfl _ _ 74 3 rfl 77 keyI Tryd.underlying74 elemM m n D rfl hown _ _ rfl (kI hw) ?_; intro w1 hown1 hturn)
  have hg := hturn.grown
  have hbm : ∀ i b, (if i = who then none else B i) = some b → i ≠ who ∧ B i = some b := fun i b hi => by
    by_cases e : i = who
    · rw [if_pos e] at hi; cases hi
    · rw [if_neg e] at hi; exact ⟨e, hi⟩
  refine Go.Great.bodyPost_end0 rfl rfl ⟨rfl, ⟨m, fun i => if i = who then none else B i, ⟨?_, ⟨n, _, hown1, hn, fun i hi => ?_⟩, fun i hi l => ?_, fun i b hi => ?_, ⟨HT.out.lo.1, fun i b hi => HT.out.lo.2 i b (hbm i b hi).2⟩, fun i j b hi hj => HT.out.inj i j b (hbm i b hi).2 (hbm j b hj).2⟩, fun i b hi => ?_⟩, Keep.grown HO.out hg HT.out.lo.1⟩
  · refine (hg.block t (block_lt HT.out.cell) fun e => ?_).trans HT.out.cell
    injection e with e
    obtain ⟨es, clock, hes⟩ := own_map HO.out
    have := HT.out.cell
    rw [e, hes] at this
    cases this
  · by_cases e : i = who
    · subst e
      rw [atKey_del_same, has_del_same]
      simp [spotD]
    · have hne : Lit.int .i64 i ≠ Lit.int .i64 who := fun c => by injection c with _ c; exact e c
      rw [atKey_del_other hne, has_del_other hne]
      simp only [e, if_false]
      exact HAT.out i hi
  · by_cases e : i = who
    · simp [e]
    · simp only [e, if_false] at hi ⊢
      exact HT.out.free i hi l
  · obtain ⟨e, hB⟩ := hbm i b hi
    obtain ⟨⟨n1, D1, a1, a2, a3⟩, a4⟩ := HT.out.held i b hB
    simp only [e, if_false]
    exact ⟨⟨n1, D1, a1.kept hg (fun c => by injection c with c; exact a4 c), a2, a3⟩, a4⟩
  · obtain ⟨e, hB⟩ := hbm i b hi
    obtain ⟨l, h1, h2⟩ := HNE.out i b hB
    exact ⟨l, h1, by simp only [e, if_false]; exact h2⟩
end Go.Proofs.YtnnadhfpkplncaaDoor
