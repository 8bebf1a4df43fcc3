/- Ready, where one task is left that can go on. Condition: the machine and its task read. -/
import Derived.Test.YtnnadhfpkplncaaDoorTkNum
namespace Go.Proofs.YtnnadhfpkplncaaDoor
open Go.RowKit Go.Maps

set_option maxRecDepth 100000 in
set_option maxHeartbeats 1600000 in
theorem ready1_any {L N : Nat} {w : World} {M m t b q : Nat} {lim last : Int} {hist : Value} {n : Nat} {T : Int → Option Nat} {F : Int → List UInt8 → Int} {r : List Held} (h : Mach L w M m t lim last hist n T) {i : Int} (hi : wfI i) (hT : T i = some b) (ht : Tab (m + 1) N w t F) (ha : Agr F r)
    {g o c nl : Nat} {taken done steps : Int} {x : Want} {l : List Want} (hb : w.heap[b]? = some (.cells #[.slice (some ⟨g, o, none⟩) nl c, .int .i64 taken, .int .i64 done, .int .i64 steps] 108 (0, 0))) (hnl : nl = l.length + 1) (hr : RdA w (some ⟨g, o, none⟩) (wants2 (x :: l))) (hx : okS x.1) (hl : l.length ≤ 1000)
    (hq : w.cell? ⟨q, 0, none⟩ = some (.pointer (some ⟨M, 0, none⟩))) (hmay : refMay r i x.1 x.2 = 0) :
    Calls Tryd.prog 55 #[.int .i64 i, .pointer (some ⟨q, 0, none⟩)] w fun e w' => e = .returned (.bool false) ∧ Below w.heap.size w w' := by
  have HM : ∀ w', Cl w w' → Calls Tryd.prog 56 #[.pointer (some ⟨M, 0, none⟩), .int .i64 i, .pointer (some ⟨b, 0, none⟩)] w' fun e w'' => e = .returned .nilIface ∧ Cl w w'' := fun w' hc => by
    have := tmay_any (h.below hc) hi (ht.below hc) ha ((Below.block hc b (block_lt hb)).trans hb) hnl (hr.below hc) hx hl
    rw [hmay] at this
    exact this.mono fun e w'' ⟨he, hb⟩ => ⟨he, hc.next hb⟩
  have HL : ∀ w', Cl w w' → (Instr.lookup 89 (.map (some m)) (.int .i64 i) false).run Tryd.prog w' = .ok (.pointer (some ⟨b, 0, none⟩)) w' := fun w' hc => by
    have := (look_task (h.below hc) hi).2
    rw [hT] at this
    exact this
  have d2 : w.cell? ⟨M, 2, none⟩ = some (.map (some m)) := block_cell h.cell
  clear h ht ha hb hr hnl hT
  go_enter Tryd.func55, Tryd.ntmps55
  go_wp2
  refine region_class (C := fun w' => Cl w w') (by kernel_rfl) (by kernel_rfl) (Cl.refl w).drew ?_
  repeat (go_big_quiet_step (first | exact HM _ | (intro hw5; have z1 := hw5.cell hq; have z2 := hw5.cell d2; have z3 := HL _ hw5; go_simp; try rfl)))
  refine wpQuiet_nil ?_
  intro w2 hc2
  have HC2 := Lib.hid hc2
  clear hc2 HM HL
  go_wp2
  go_ret
  exact ⟨rfl, HC2.out⟩
set_option maxRecDepth 100000 in
set_option maxHeartbeats 1600000 in
theorem idx_one (g c q : Nat) (i : Int) (w : World) (hc : w.cell? ⟨g, 0, none⟩ = some (.int .i64 i)) (h : ∀ w', Cl w w' → Calls Tryd.prog 55 #[.int .i64 i, .pointer (some ⟨q, 0, none⟩)] w' fun e w'' => e = .returned (.bool false) ∧ Cl w w'') :
    Calls Tryd.prog 67 #[.slice (some ⟨g, 0, none⟩) 1 c, .func (.func 55) #[] #[.pointer (some ⟨q, 0, none⟩)]] w fun e w' => e = .returned (.int .i64 (-1)) ∧ Cl w w' := by
  have H := Lib.hid h
  clear h
  go_enter Tryd.func67, Tryd.ntmps67
  go_wp2_with fail
  go_loopg [8] 1 (fun gg a wr => ∃ k : Nat, k ≤ 1 ∧ gg = 1 - k ∧ a = .int .i64 k ∧ Hid (Cl w wr))
  case atStart => exact ⟨0, by omega, rfl, rfl, Cl.refl w⟩
  case round =>
    obtain ⟨k, hk, hgk, rfl, HC⟩ := hrel
    by_cases h0 : k = 0
    · subst h0
      have d0 : wr.cell? ⟨g, 0, none⟩ = some (.int .i64 i) := HC.out.cell hc
      go_wp2_with fail
      refine (H.out wr HC.out).mono ?_
      rintro e w2 ⟨rfl, hc2⟩
      have HC2 := Lib.hid hc2
      clear hc2 d0
      go_wp2_with fail
      go_roundg 0
      case measure => omega
      case rel => exact ⟨1, Nat.le_refl _, rfl, rfl, HC2⟩
    · obtain rfl : k = 1 := by omega
      go_wp2_with fail
      go_ret
      exact ⟨rfl, HC.out⟩
set_option maxRecDepth 100000 in
set_option maxHeartbeats 1600000 in
theorem del_one (g c q : Nat) (i : Int) (w : World) (hc : w.cell? ⟨g, 0, none⟩ = some (.int .i64 i)) (h : ∀ w', Cl w w' → Calls Tryd.prog 55 #[.int .i64 i, .pointer (some ⟨q, 0, none⟩)] w' fun e w'' => e = .returned (.bool false) ∧ Cl w w'') :
    Calls Tryd.prog 54 #[.slice (some ⟨g, 0, none⟩) 1 c, .func (.func 55) #[] #[.pointer (some ⟨q, 0, none⟩)]] w fun e w' => e = .returned (.slice (some ⟨g, 0, none⟩) 1 c) ∧ Cl w w' := by
  have H := Lib.hid (idx_one g c q i w hc h)
  clear h
  go_enter Tryd.func54, Tryd.ntmps54
  go_wp2_with fail
  refine H.out.mono ?_
  rintro e w2 ⟨rfl, hc2⟩
  have HC2 := Lib.hid hc2
  clear hc2
  go_wp2_with fail
  go_ret
  exact ⟨rfl, HC2.out⟩
set_option maxRecDepth 100000 in
set_option maxHeartbeats 1600000 in
theorem ready_one {L N : Nat} {w : World} {M m t b : Nat} {lim last : Int} {hist : Value} {T : Int → Option Nat} {F : Int → List UInt8 → Int} {r : List Held} (h : Mach L w M m t lim last hist 1 T) {i : Int} (hi : wfI i) (hT : T i = some b) (ht : Tab (m + 1) N w t F) (ha : Agr F r)
    {g o c nl : Nat} {taken done steps : Int} {x : Want} {l : List Want} (hb : w.heap[b]? = some (.cells #[.slice (some ⟨g, o, none⟩) nl c, .int .i64 taken, .int .i64 done, .int .i64 steps] 108 (0, 0))) (hnl : nl = l.length + 1) (hr : RdA w (some ⟨g, o, none⟩) (wants2 (x :: l))) (hx : okS x.1) (hl : l.length ≤ 1000)
    (hmay : refMay r i x.1 x.2 = 0) :
    Calls Tryd.prog 38 #[.pointer (some ⟨M, 0, none⟩)] w fun e w' => ∃ A c', e = .returned (.slice A 1 c') ∧ RdA w' A (zs [i]) ∧ Below w.heap.size w w' := by
  obtain ⟨w1, hw1⟩ : ∃ w1, w1 = w.alloc (.cells #[.pointer (some ⟨M, 0, none⟩)] 54) := ⟨_, rfl⟩
  have hb1 : Below w.heap.size w w1 := by rw [hw1]; exact (Below.refl _ _).alloc (Nat.le_refl _) _
  have HB1 := Lib.hid hb1
  have hq1 : w1.cell? ⟨w.heap.size, 0, none⟩ = some (.pointer (some ⟨M, 0, none⟩)) := by rw [hw1]; exact block_cell (alloc_new _ _)
  have HTS := Lib.hid (tasks_any w1 (h.below hb1) (by omega))
  have HR1 := Lib.hid (fun w' (hc : Cl w1 w') => ready1_any ((h.below hb1).below hc) hi hT ((ht.below hb1).below hc) ha ((Below.block hc b (Nat.lt_of_lt_of_le (block_lt hb) hb1.size)).trans ((hb1.block b (block_lt hb)).trans hb)) hnl ((hr.below hb1).below hc) hx hl (hc.cell hq1) hmay)
  have HHT := Lib.hid hT
  have HWI := Lib.hid hi
  clear h ht ha hb hnl hr hT hb1
  go_enter Tryd.func38, Tryd.ntmps38
  go_wp2_with fail
  rw [← hw1]
  refine HTS.out.mono ?_
  rintro e w2 ⟨v, K, rfl, ho, hK, hb2⟩
  have hKi : K = [i] := by
    have h1 := hK.len
    have h2 := (hK.mem i).2 ⟨HWI.out, by rw [HHT.out]; exact fun e => by cases e⟩
    match K, h1, h2 with
    | [y], _, h2 => rw [List.mem_singleton.1 h2]
  subst hKi
  obtain ⟨A, c', rfl, hc', hrd⟩ := own_rdA ho
  obtain ⟨g2, o2, eA, d0⟩ := hrd 0 (.int .i64 i) rfl
  have hgo : o2 = 0 := by
    rcases ho.2 with ⟨e, e2⟩ | ⟨g3, c3, cur, e, _⟩
    · cases e2
    · cases e
      cases eA
      rfl
  subst hgo
  subst eA
  have HC2 := Lib.hid (show Cl w1 w2 from hb2)
  have HD := Lib.hid (del_one g2 c' w.heap.size i w2 d0 fun w' hc => (HR1.out w' (HC2.out.trans (hc.mono (Below.size HC2.out)))).mono fun e w'' ⟨he, hb⟩ => ⟨he, hc.next hb⟩)
  have HRD := Lib.hid hrd
  clear ho hK hb2 hrd hw1
  go_wp2_with fail
  refine HD.out.mono ?_
  rintro e w3 ⟨rfl, hc3⟩
  have HE := Lib.hid (show RdA w3 (some ⟨g2, 0, none⟩) (zs [i]) ∧ Below w.heap.size w w3 from ⟨HRD.out.below hc3, HB1.out.trans (((Below.trans HC2.out (hc3.mono (Below.size HC2.out))) : Below w1.heap.size w1 w3).mono HB1.out.size)⟩)
  clear hc3 d0
  go_wp2_with fail
  go_ret
  exact ⟨_, _, rfl, HE.out.1, HE.out.2⟩
end Go.Proofs.YtnnadhfpkplncaaDoor
