/- Tasks. Condition: the machine reads. -/
import Derived.Test.YtnnadhfpkplncaaDoorTkAdd
namespace Go.Proofs
open Go.RowKit Go.Maps Go.Sort Go.Shelf
theorem Tryd.keysT (mb : Option Nat) (W : World) : CallsIn Fence.wide 5 Tryd.prog 41 #[.map mb] W fun e w' => e = .returned (.func (.func 58) #[] #[.pointer (some ⟨W.heap.size, 0, none⟩)]) ∧ w' = W.alloc (.cells #[.map mb] 89) :=
  AnyZI.keys_in Tryd.keys41 Fence.wide 5 trivial rfl mb W
set_option maxHeartbeats 1000000 in
theorem Tryd.sortedT {H : Type} (b nn : Nat) (D0 : DataW H) (R : Value → Option (DataW H × List MemPlace)) (w : World) (hown : w.ownsMap Tryd.prog 3 R b nn D0) (hmax : Maps.size D0 ≤ maxLen) (hbytes : Maps.size D0 * 8 ≤ 140737488355328) :
    CallsIn Fence.wide 5 Tryd.prog 34 #[.func (.func 58) #[] #[.pointer (some ⟨w.heap.size, 0, none⟩)]] (w.alloc (.cells #[.map (some b)] 89)) fun e w' => ∃ (v : Value) (ss : List Int), e = .returned v ∧ ss.Perm (intKeys D0) ∧
      w'.ownsRow (w.alloc (.cells #[.map (some b)] 89)).heap.size 3 1 v ss.length ((ss.mergeSort (fun x y => decide (x ≤ y))).map encZ) ∧ (v = .slice none 0 0 ↔ ss = []) ∧ Below (w.alloc (.cells #[.map (some b)] 89)).heap.size (w.alloc (.cells #[.map (some b)] 89)) w' := by
  have hbl := hown.lt
  have hseq : SeqGives Fence.wide 2 Tryd.prog 58 #[.pointer (some ⟨w.heap.size, 0, none⟩)] encZ (fun ss => ss.Perm (intKeys D0)) (Maps.size D0) (w.alloc (.cells #[.map (some b)] 89)) :=
    AnyZI.keys_gives (ρ := Tryd.keys41_ren) { Tryd.keys41 with } Fence.wide _ trivial rfl (by omega) w.heap.size b nn D0 _ (by simp) (by simp) (by
      obtain ⟨es, clock, hb, Ft, hs, hD⟩ := hown
      exact ⟨es, clock, (Below.heap_alloc _ _ b hbl).trans hb, Ft, hs, hD⟩)
  exact AnyZI.sorted_in Tryd.sorted34 Fence.wide 5 trivial trivial trivial trivial rfl (by omega) (Tryd.sortsI _) (enters_of Tryd.func50 (by kernel_rfl) rfl) 58 #[.pointer (some ⟨w.heap.size, 0, none⟩)] trivial (enters_of Tryd.func58 (by kernel_rfl) rfl) _ _ hmax hbytes _ hseq
end Go.Proofs
namespace Go.Proofs.YtnnadhfpkplncaaDoor
open Go.RowKit Go.Maps

/-- The tasks' numbers, in order. -/
structure TasksIs (T : Int → Option Nat) (n : Nat) (K : List Int) : Prop where
  one : K.Nodup
  mem : ∀ i, i ∈ K ↔ wfI i ∧ T i ≠ none
  up : K.Pairwise fun x y => x ≤ y
  len : K.length = n
def TasksPost (T : Int → Option Nat) (n : Nat) (w : World) (e : Ending) (w' : World) : Prop := ∃ v K, e = .returned v ∧ w'.ownsRow w.heap.size 3 1 v K.length (zs K) ∧ TasksIs T n K ∧ Below w.heap.size w w'
set_option maxRecDepth 100000 in
set_option maxHeartbeats 1600000 in
theorem tasks_any {L M m t n : Nat} {lim last : Int} {hist : Value} {T : Int → Option Nat} (w : World) (h : Mach L w M m t lim last hist n T) (hn : n ≤ 1000) : Calls Tryd.prog 30 #[.pointer (some ⟨M, 0, none⟩)] w (TasksPost T n w) := by
  obtain ⟨D, hown, hsz, hat⟩ := h.map
  have d2 : w.cell? ⟨M, 2, none⟩ = some (.map (some m)) := block_cell h.cell
  have HS := Lib.hid ((callsIn_wide (n := 5)).1 (Tryd.sortedT m n D elemP w hown (by unfold maxLen; omega) (by omega)))
  have HK := Lib.hid ((callsIn_wide (n := 5)).1 (Tryd.keysT (some m) w))
  have HSP := Lib.hid (intKeys_spec hown)
  have HAT := Lib.hid hat
  have HL := Lib.hid (show (intKeys D).length = n by rw [← hsz]; cases D <;> simp [intKeys, Maps.size])
  clear h hat hown hsz
  go_enter Tryd.func30, Tryd.ntmps30
  go_wp2_with fail
  refine HK.out.mono ?_
  rintro e w1 ⟨rfl, rfl⟩
  go_wp2_with fail
  refine HS.out.mono ?_
  rintro e w2 ⟨v, ss, rfl, hS, hrow0, _, hb⟩
  obtain ⟨s1, s2⟩ := sortedI_spec ss
  have s3 := s1.trans hS
  have hrow : w2.ownsRow _ 3 1 v ss.length (zs (ss.mergeSort fun x y => decide (x ≤ y))) := hrow0
  have HB2 := Lib.hid (((Below.refl _ w).alloc (Nat.le_refl _) _).trans (hb.mono (by rw [World.size_alloc]; omega)))
  have HE := Lib.hid (show TasksPost T n w (.returned v) w2 from ⟨v, ss.mergeSort fun x y => decide (x ≤ y), rfl, by rw [List.length_mergeSort]; exact own_lower hrow (by rw [World.size_alloc]; omega), ⟨s3.nodup_iff.2 HSP.out.1, fun i => by
    rw [s3.mem_iff, HSP.out.2 i]
    constructor
    · rintro ⟨a, b⟩
      rw [(HAT.out i a).2] at b
      exact ⟨a, fun c => by rw [c] at b; cases b⟩
    · rintro ⟨a, b⟩
      rw [(HAT.out i a).2]
      exact ⟨a, by cases hT : T i with | none => exact absurd hT b | some _ => rfl⟩, s2, by rw [s3.length_eq, HL.out]⟩, HB2.out⟩)
  clear hrow hrow0 hS hb s1 s2 s3 HB2
  go_wp2_with fail
  go_ret
  exact HE.out
end Go.Proofs.YtnnadhfpkplncaaDoor
