/- How often a number stands somewhere, as it lies: a map. Condition: the map reads. -/
import Derived.Test.YtnnadhfpkplncaaVoInfo
import Derived.Maps.OwnOps
import Derived.Maps.OwnSet
import Derived.Sort.KeysCollected
import Derived.Lib.SlKeysI
import Derived.Lib.Hide
import Derived.Maps.AppendAt
namespace Go.Proofs
open Go.RowKit Go.Maps Go.Sort Go.Shelf
theorem Try.sortsV (m : Nat) : AnyZI.SortsIn Try.prog Try.sorted56_ren Fence.wide m :=
  ⟨fun blk off cap ss W hH hblk hsz => callsIn_wide.2 (AnyM.slices_Sort_int Try.sort41 blk off cap ss W hH hblk hsz),
   fun p cap W => callsIn_wide.2 (AnyM.slices_Sort_int_none Try.sort41 p cap W)⟩
theorem Try.keysV (mb : Option Nat) (W : World) : CallsIn Fence.wide 5 Try.prog 57 #[.map mb] W fun e w' => e = .returned (.func (.func 76) #[] #[.pointer (some ⟨W.heap.size, 0, none⟩)]) ∧ w' = W.alloc (.cells #[.map mb] 109) :=
  AnyZI.keys_in Try.keys57 Fence.wide 5 trivial rfl mb W
set_option maxHeartbeats 1000000 in
theorem Try.sortedV {H : Type} (b nn : Nat) (D0 : DataW H) (R : Value → Option (DataW H × List MemPlace)) (w : World) (hown : w.ownsMap Try.prog 3 R b nn D0) (hmax : Maps.size D0 ≤ maxLen) (hbytes : Maps.size D0 * 8 ≤ 140737488355328) :
    CallsIn Fence.wide 5 Try.prog 56 #[.func (.func 76) #[] #[.pointer (some ⟨w.heap.size, 0, none⟩)]] (w.alloc (.cells #[.map (some b)] 109)) fun e w' => ∃ (v : Value) (ss : List Int), e = .returned v ∧ ss.Perm (intKeys D0) ∧
      w'.ownsRow (w.alloc (.cells #[.map (some b)] 109)).heap.size 3 1 v ss.length ((ss.mergeSort (fun x y => decide (x ≤ y))).map encZ) ∧ (v = .slice none 0 0 ↔ ss = []) ∧ Below (w.alloc (.cells #[.map (some b)] 109)).heap.size (w.alloc (.cells #[.map (some b)] 109)) w' := by
  have hbl := hown.lt
  have hseq : SeqGives Fence.wide 2 Try.prog 76 #[.pointer (some ⟨w.heap.size, 0, none⟩)] encZ (fun ss => ss.Perm (intKeys D0)) (Maps.size D0) (w.alloc (.cells #[.map (some b)] 109)) :=
    AnyZI.keys_gives (ρ := Try.keys57_ren) { Try.keys57 with } Fence.wide _ trivial rfl (by omega) w.heap.size b nn D0 _ (by simp) (by simp) (by
      obtain ⟨es, clock, hb, Ft, hs, hD⟩ := hown
      exact ⟨es, clock, (Below.heap_alloc _ _ b hbl).trans hb, Ft, hs, hD⟩)
  exact AnyZI.sorted_in Try.sorted56 Fence.wide 5 trivial trivial trivial trivial rfl (by omega) (Try.sortsV _) (enters_of Try.func41 (by kernel_rfl) rfl) 76 #[.pointer (some ⟨w.heap.size, 0, none⟩)] trivial (enters_of Try.func76 (by kernel_rfl) rfl) _ _ hmax hbytes _ hseq
end Go.Proofs
namespace Go.Proofs.Ytnnadhfpkplncaa
open Go.RowKit Go.Maps

theorem keyIv : Keyed Try.prog 3 := int_keyed Try.underlying3
theorem zeroIv (w : World) : (zeroValue 3).run Try.prog w = .ok (.int .i64 0) w := by kernel_rfl
def wfI (x : Int) : Prop := (Lit.int .i64 x).wf = true
theorem wf_small {x : Int} (h : 0 ≤ x ∧ x ≤ 1099511627776) : wfI x := by
  unfold wfI
  simp [Lit.wf, IntKind.min, IntKind.max, IntKind.signed, IntKind.bits]
  omega
theorem kIv {x : Int} (h : wfI x) : keyOf Try.prog 3 (.int .i64 x) = some (.int .i64 x) := keyOf_int_mk Try.underlying3 h
noncomputable abbrev plIv : Value → Option (DataW Unit × List MemPlace) := plainElem Try.prog 3
/-- The map counts the numbers of a list. -/
def CtM (w : World) (b : Nat) (L : List Int) : Prop :=
  ∃ n D, w.ownsMap Try.prog 3 plIv b n D ∧ n ≤ L.length ∧ ∀ i, wfI i → D.atKey (.int .i64 i) (.lit (.int .i64 0)) = .lit (.int .i64 ((L.count i : Nat) : Int)) ∧ Maps.has D (.int .i64 i) = decide (i ∈ L)
theorem own_keptv {k : TypeId} {R : Value → Option (DataW Unit × List MemPlace)} {w w' : World} {b n : Nat} {D : DataW Unit} (h : w.ownsMap Try.prog k R b n D) (g : w'.heap[b]? = w.heap[b]?) : w'.ownsMap Try.prog k R b n D := by
  obtain ⟨es, clock, hb, Ft, hs, hD⟩ := h
  exact ⟨es, clock, g.trans hb, Ft, hs, hD⟩
theorem CtM.block {w w' : World} {b : Nat} {L : List Int} (h : CtM w b L) (g : w'.heap[b]? = w.heap[b]?) : CtM w' b L := by
  obtain ⟨n, D, h1, h2, h3⟩ := h
  exact ⟨n, D, own_keptv h1 g, h2, h3⟩
theorem CtM.is {w : World} {b : Nat} {L : List Int} (h : CtM w b L) : ∃ es clock, w.heap[b]? = some (.map es clock) := by
  obtain ⟨n, D, ⟨es, clock, hb, _⟩, _⟩ := h
  exact ⟨es, clock, hb⟩
theorem CtM.lt {w : World} {b : Nat} {L : List Int} (h : CtM w b L) : b < w.heap.size := by
  obtain ⟨es, clock, hb⟩ := h.is
  exact block_lt hb
theorem CtM.below {w w' : World} {b : Nat} {L : List Int} (h : CtM w b L) (k : Below w.heap.size w w') : CtM w' b L := h.block (k.block b h.lt)
theorem ct_made (w : World) : CtM (w.alloc (.map #[] 0)) w.heap.size [] :=
  ⟨0, .map [], World.ownsMap_made w Try.prog 3 plIv, Nat.le_refl _, fun _ _ => ⟨rfl, rfl⟩⟩
set_option maxRecDepth 100000 in
theorem look_ct {w : World} {b : Nat} {L : List Int} (h : CtM w b L) {i : Int} (hi : wfI i) : (Instr.lookup 109 (.map (some b)) (.int .i64 i) false).run Try.prog w = .ok (.int .i64 ((L.count i : Nat) : Int)) w := by
  obtain ⟨n, D, h1, _, h3⟩ := h
  obtain ⟨c, hrun, hat, _⟩ := h1.lookup_int keyIv Try.underlying109 Try.underlying3 (zeroIv w) (kIv hi)
  rw [(h3 i hi).1] at hat
  injection hat with hat
  injection hat with _ hat
  rw [hrun, hat]
theorem CtM.store {n b : Nat} {w' : World} {D : DataW Unit} {L : List Int} {i : Int} (hown : w'.ownsMap Try.prog 3 plIv b (n + 1) (D.put (.int .i64 i) (.lit (.int .i64 (((L.count i : Nat) : Int) + 1))))) (hm : IsMap D) (hn : n ≤ L.length) (ho : wfI i)
    (h3 : ∀ i, wfI i → D.atKey (.int .i64 i) (.lit (.int .i64 0)) = .lit (.int .i64 ((L.count i : Nat) : Int)) ∧ Maps.has D (.int .i64 i) = decide (i ∈ L)) : CtM w' b (L ++ [i]) := by
  refine ⟨n + 1, _, hown, by simp; omega, fun j hj => ?_⟩
  by_cases e : j = i
  · subst e
    rw [atKey_put_same hm (keyIv.key (kIv ho)), has_put_same hm (keyIv.key (kIv ho))]
    exact ⟨by simp, by simp⟩
  · have hne : Lit.int .i64 j ≠ Lit.int .i64 i := fun c => by injection c with _ c; exact e c
    rw [atKey_put_other hne, has_put_other hne]
    have e2 : (L ++ [i]).count j = L.count j := by simp [Ne.symm e]
    have e3 : (j ∈ L ++ [i]) ↔ j ∈ L := by simp [e]
    rw [e2]
    simp only [e3]
    exact h3 j hj
theorem intKeys_spec {R : Value → Option (DataW Unit × List MemPlace)} {w : World} {b n : Nat} {D : DataW Unit} (h : w.ownsMap Try.prog 3 R b n D) : (intKeys D).Nodup ∧ ∀ i, i ∈ intKeys D ↔ wfI i ∧ Maps.has D (.int .i64 i) = true := by
  have hle := intKeys_wf h Try.underlying3
  obtain ⟨es, hD, hpw, _⟩ := h.entries keyIv
  obtain ⟨es', hD', hko⟩ := h.keysOf
  obtain rfl : es = es' := by rw [hD] at hD'; simpa using hD'
  subst hD
  have hk : ∀ p ∈ es, ∃ x, p.1 = .int .i64 x := fun p hp => by obtain ⟨v, hv⟩ := hko p hp; obtain ⟨x, _, hx, _⟩ := Maps.keyOf_int_inv Try.underlying3 hv; exact ⟨x, hx⟩
  have hm : ∀ i, i ∈ intKeys (.map es) ↔ ∃ p ∈ es, p.1 = .int .i64 i := fun i => by
    unfold intKeys
    rw [List.mem_map]
    constructor
    · rintro ⟨p, hp, rfl⟩
      obtain ⟨a, ha⟩ := hk p hp
      exact ⟨p, hp, by rw [ha]; rfl⟩
    · rintro ⟨p, hp, he⟩
      exact ⟨p, hp, by rw [he]; rfl⟩
  refine ⟨?_, fun i => ?_⟩
  · unfold intKeys
    refine List.pairwise_map.2 (hpw.imp_of_mem fun {p q} hp' hq' hne e => hne ?_)
    obtain ⟨a, ha⟩ := hk p hp'
    obtain ⟨b, hb⟩ := hk q hq'
    rw [ha, hb] at e ⊢
    exact congrArg _ e
  · rw [has_eq, List.any_eq_true]
    constructor
    · intro hi
      obtain ⟨p, hp, he⟩ := (hm i).1 hi
      exact ⟨hle i hi, p, hp, by rw [he]; simp [Lit.sameKey]⟩
    · rintro ⟨_, p, hp, hs⟩
      exact (hm i).2 ⟨p, hp, WideAt.sameKey_eq hs⟩
theorem sortedI_spec (ss : List Int) : (ss.mergeSort fun x y => decide (x ≤ y)).Perm ss ∧ (ss.mergeSort fun x y => decide (x ≤ y)).Pairwise fun x y => x ≤ y := by
  refine ⟨List.mergeSort_perm _ _, ?_⟩
  have := List.pairwise_mergeSort (le := fun x y : Int => decide (x ≤ y)) (fun a b c h1 h2 => by simp only [decide_eq_true_eq] at *; omega) (fun a b => by simp only [Bool.or_eq_true, decide_eq_true_eq]; omega) ss
  exact this.imp fun h => by simpa using h
/-- The keys, in order. -/
def KeysOf (L K : List Int) : Prop := K.Nodup ∧ (∀ i, i ∈ K ↔ wfI i ∧ i ∈ L) ∧ K.Pairwise fun x y => x ≤ y
def KeysPost (L : List Int) (b : Nat) (w : World) (e : Ending) (w' : World) : Prop := ∃ v K, e = .returned v ∧ KeysOf L K ∧ K.length ≤ L.length ∧ w'.ownsRow w.heap.size 3 1 v K.length (zs K) ∧ Below w.heap.size w w' ∧ b < w.heap.size
set_option maxHeartbeats 1000000 in
/-- slices.Sorted(maps.Keys(m)): the two calls. -/
theorem keysv (L : List Int) (b : Nat) (w : World) (h : CtM w b L) (hl : L.length ≤ 1000000) :
    Calls Try.prog 57 #[.map (some b)] w (fun e w' => e = .returned (.func (.func 76) #[] #[.pointer (some ⟨w.heap.size, 0, none⟩)]) ∧ w' = w.alloc (.cells #[.map (some b)] 109)) ∧
    Calls Try.prog 56 #[.func (.func 76) #[] #[.pointer (some ⟨w.heap.size, 0, none⟩)]] (w.alloc (.cells #[.map (some b)] 109)) (KeysPost L b (w.alloc (.cells #[.map (some b)] 109))) := by
  obtain ⟨n, D, h1, h2, h3⟩ := h
  have hsz : Maps.size D ≤ n := by
    obtain ⟨es, clock, hb, F, hs, rfl⟩ := h1
    simpa [Maps.size, length_sorted] using hs
  refine ⟨(callsIn_wide (n := 5)).1 (Try.keysV (some b) w), ((callsIn_wide (n := 5)).1 (Try.sortedV b n D plIv w h1 (by unfold maxLen; omega) (by omega))).mono ?_⟩
  rintro e w' ⟨v, ss, rfl, hS, hrow, _, hb⟩
  obtain ⟨s1, s2⟩ := sortedI_spec ss
  obtain ⟨k1, k2⟩ := intKeys_spec h1
  have s3 := s1.trans hS
  have hlen : (ss.mergeSort fun x y => decide (x ≤ y)).length = ss.length := List.length_mergeSort _
  refine ⟨v, ss.mergeSort fun x y => decide (x ≤ y), rfl, ⟨s3.nodup_iff.2 k1, fun i => ?_, s2⟩, ?_, by rw [hlen]; exact hrow, hb, by rw [World.size_alloc]; exact Nat.lt_succ_of_lt h1.lt⟩
  · rw [s3.mem_iff, k2 i]
    constructor
    · rintro ⟨a, c⟩
      rw [(h3 i a).2] at c
      exact ⟨a, of_decide_eq_true c⟩
    · rintro ⟨a, c⟩
      exact ⟨a, by rw [(h3 i a).2]; exact decide_eq_true c⟩
  · rw [s3.length_eq]
    have : (intKeys D).length ≤ Maps.size D := by cases D <;> simp [intKeys, Maps.size]
    omega
end Go.Proofs.Ytnnadhfpkplncaa
