/- Holds, Holders, Len. Condition: the table reads. -/
import Derived.Test.YtnnadhfpkplncaaDoorLkLFree
import Derived.Lib.SlKeysI
namespace Go.Proofs
open Go.RowKit Go.Maps Go.Sort Go.Shelf
theorem Tryd.sortsI (m : Nat) : AnyZI.SortsIn Tryd.prog Tryd.sorted34_ren Fence.wide m :=
  ⟨fun blk off cap ss W hH hblk hsz => callsIn_wide.2 (AnyM.slices_Sort_int Tryd.sort50 blk off cap ss W hH hblk hsz),
   fun p cap W => callsIn_wide.2 (AnyM.slices_Sort_int_none Tryd.sort50 p cap W)⟩
theorem Tryd.keysI (mb : Option Nat) (W : World) : CallsIn Fence.wide 5 Tryd.prog 35 #[.map mb] W fun e w' => e = .returned (.func (.func 51) #[] #[.pointer (some ⟨W.heap.size, 0, none⟩)]) ∧ w' = W.alloc (.cells #[.map mb] 74) :=
  AnyZI.keys_in Tryd.keys35 Fence.wide 5 trivial rfl mb W
set_option maxHeartbeats 1000000 in
theorem Tryd.sortedI {H : Type} (b nn : Nat) (D0 : DataW H) (R : Value → Option (DataW H × List MemPlace)) (w : World) (hown : w.ownsMap Tryd.prog 3 R b nn D0) (hmax : Maps.size D0 ≤ maxLen) (hbytes : Maps.size D0 * 8 ≤ 140737488355328) :
    CallsIn Fence.wide 5 Tryd.prog 34 #[.func (.func 51) #[] #[.pointer (some ⟨w.heap.size, 0, none⟩)]] (w.alloc (.cells #[.map (some b)] 74)) fun e w' => ∃ (v : Value) (ss : List Int), e = .returned v ∧ ss.Perm (intKeys D0) ∧
      w'.ownsRow (w.alloc (.cells #[.map (some b)] 74)).heap.size 3 1 v ss.length ((ss.mergeSort (fun x y => decide (x ≤ y))).map encZ) ∧ (v = .slice none 0 0 ↔ ss = []) ∧ Below (w.alloc (.cells #[.map (some b)] 74)).heap.size (w.alloc (.cells #[.map (some b)] 74)) w' := by
  have hbl := hown.lt
  have hseq : SeqGives Fence.wide 2 Tryd.prog 51 #[.pointer (some ⟨w.heap.size, 0, none⟩)] encZ (fun ss => ss.Perm (intKeys D0)) (Maps.size D0) (w.alloc (.cells #[.map (some b)] 74)) :=
    AnyZI.keys_gives (ρ := Tryd.keys35_ren) { Tryd.keys35 with } Fence.wide _ trivial rfl (by omega) w.heap.size b nn D0 _ (by simp) (by simp) (by
      obtain ⟨es, clock, hb, Ft, hs, hD⟩ := hown
      exact ⟨es, clock, (Below.heap_alloc _ _ b hbl).trans hb, Ft, hs, hD⟩)
  exact AnyZI.sorted_in Tryd.sorted34 Fence.wide 5 trivial trivial trivial trivial rfl (by omega) (Tryd.sortsI _) (enters_of Tryd.func50 (by kernel_rfl) rfl) 51 #[.pointer (some ⟨w.heap.size, 0, none⟩)] trivial (enters_of Tryd.func51 (by kernel_rfl) rfl) _ _ hmax hbytes _ hseq
end Go.Proofs
namespace Go.Proofs.YtnnadhfpkplncaaDoor
open Go.RowKit Go.Maps

theorem intKeys_spec {R : Value → Option (DataW Unit × List MemPlace)} {w : World} {b n : Nat} {D : DataW Unit} (h : w.ownsMap Tryd.prog 3 R b n D) : (intKeys D).Nodup ∧ ∀ i, i ∈ intKeys D ↔ wfI i ∧ Maps.has D (.int .i64 i) = true := by
  have hle := intKeys_wf h Tryd.underlying3
  obtain ⟨es, hD, hpw, _⟩ := h.entries keyI
  obtain ⟨es', hD', hko⟩ := h.keysOf
  obtain rfl : es = es' := by rw [hD] at hD'; simpa using hD'
  subst hD
  have hk : ∀ p ∈ es, ∃ x, p.1 = .int .i64 x := fun p hp => by obtain ⟨v, hv⟩ := hko p hp; obtain ⟨x, _, hx, _⟩ := Maps.keyOf_int_inv Tryd.underlying3 hv; exact ⟨x, hx⟩
  have hm : ∀ i, i ∈ intKeys (.map es) ↔ ∃ p ∈ es, p.1 = .int .i64 i := fun i => by
    unfold intKeys
    rw [List.mem_map]
    constructor
    · rintro ⟨p, hp, rfl⟩
      obtain ⟨a, ha⟩ := hk p hp
      exact ⟨p, hp, by rw [ha]; rfl⟩
    · rintro ⟨p, hp, he⟩
      exact ⟨p, hp, by rw [he]; rfl⟩
  refine ⟨?_, fun i => ?_⟩
  · unfold intKeys
    refine List.pairwise_map.2 (hpw.imp_of_mem fun {p q} hp' hq' hne e => hne ?_)
    obtain ⟨a, ha⟩ := hk p hp'
    obtain ⟨b, hb⟩ := hk q hq'
    rw [ha, hb] at e ⊢
    exact congrArg _ e
  · rw [has_eq, List.any_eq_true]
    constructor
    · intro hi
      obtain ⟨p, hp, he⟩ := (hm i).1 hi
      exact ⟨hle i hi, p, hp, by rw [he]; simp [Lit.sameKey]⟩
    · rintro ⟨_, p, hp, hs⟩
      exact (hm i).2 ⟨p, hp, WideAt.sameKey_eq hs⟩
theorem sortedI_spec (ss : List Int) : (ss.mergeSort fun x y => decide (x ≤ y)).Perm ss ∧ (ss.mergeSort fun x y => decide (x ≤ y)).Pairwise fun x y => x ≤ y := by
  refine ⟨List.mergeSort_perm _ _, ?_⟩
  have := List.pairwise_mergeSort (le := fun x y : Int => decide (x ≤ y)) (fun a b c h1 h2 => by simp only [decide_eq_true_eq] at *; omega) (fun a b => by simp only [Bool.or_eq_true, decide_eq_true_eq]; omega) ss
  exact this.imp fun h => by simpa using h
set_option maxRecDepth 100000 in
/-- Holds. -/
theorem holds_any {L N t : Nat} {F : Int → List UInt8 → Int} (who : Int) (nm : List UInt8) (w : World) (h : Tab L N w t F) (hw : wfI who) (hn : okS nm) :
    Calls Tryd.prog 18 #[.pointer (some ⟨t, 0, none⟩), .int .i64 who, .string ⟨nm.toArray⟩] w fun e w' => e = .returned (.tuple #[.bool (F who nm != 0), .bool (F who nm == 2)]) ∧ Below w.heap.size w w' := by
  obtain ⟨m, B, h, _⟩ := h
  have hc : w.cell? ⟨t, 0, none⟩ = some (.map (some m)) := block_cell h.cell
  have hl1 := look_out h hw
  have hl2 := look_both h (i := who) hn
  obtain ⟨bw, hbw⟩ : ∃ b, b = B who := ⟨_, rfl⟩
  rw [← hbw] at hl1 hl2
  clear hbw h
  go_enter Tryd.func18, Tryd.ntmps18
  go_wp2
  go_ret2
  exact ⟨rfl, Below.refl _ _⟩
set_option maxRecDepth 100000 in
/-- Len. -/
theorem len_any {L N t : Nat} {F : Int → List UInt8 → Int} (w : World) (h : Tab L N w t F) : ∃ n D, (∃ m, w.ownsMap Tryd.prog 3 elemM m n D) ∧ (∀ i, wfI i → (Maps.has D (.int .i64 i) = true ↔ ∃ l, okS l ∧ F i l ≠ 0)) ∧
    Calls Tryd.prog 19 #[.pointer (some ⟨t, 0, none⟩)] w fun e w' => e = .returned (.int .i64 (Maps.size D : Nat)) ∧ Below w.heap.size w w' := by
  obtain ⟨m, B, h, hne⟩ := h
  have hc : w.cell? ⟨t, 0, none⟩ = some (.map (some m)) := block_cell h.cell
  obtain ⟨n, D, hown, hn, hat⟩ := h.map
  refine ⟨n, D, ⟨m, hown⟩, fun i hi => ?_, ?_⟩
  · rw [(hat i hi).2]
    cases hB : B i with
    | none =>
      refine ⟨fun c => (by cases c), fun ⟨l, _, hl⟩ => absurd (h.free i hB l) hl⟩
    | some b => exact ⟨fun _ => hne i b hB, fun _ => rfl⟩
  · clear hat hne
    go_enter Tryd.func19, Tryd.ntmps19
    go_wp2_with (at_len; refine wpList_len_own _ rfl _ 74 rfl 3 77 Tryd.underlying74 elemM m n D rfl hown ?_)
    go_ret
    exact ⟨rfl, Below.refl _ _⟩
/-- Who holds a name, in order. -/
structure HoldersIs (F : Int → List UInt8 → Int) (nm : List UInt8) (H : List Int) : Prop where
  one : H.Nodup
  mem : ∀ i, i ∈ H ↔ wfI i ∧ F i nm ≠ 0
  up : H.Pairwise fun x y => x ≤ y
def HoldersPost (F : Int → List UInt8 → Int) (nm : List UInt8) (w : World) (e : Ending) (w' : World) : Prop := ∃ v H, e = .returned v ∧ w'.ownsRow w.heap.size 3 1 v H.length (zs H) ∧ HoldersIs F nm H ∧ Below w.heap.size w w'
end Go.Proofs.YtnnadhfpkplncaaDoor
