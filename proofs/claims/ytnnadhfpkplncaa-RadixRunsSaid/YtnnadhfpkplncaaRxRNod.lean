/- The reference's count of nodes. Condition: the items read. -/
import Derived.Test.YtnnadhfpkplncaaRxRSet
namespace Go.Proofs.Ytnnadhfpkplncaa
open Go.RowKit

/-- What the reference counts beneath k. -/
def rn (L : List Nat) : Nat → Nat
  | 0 => 0
  | 1 => 3
  | k + 2 => rn L (k + 1) + (if (L.getD k 0) / 16 ≠ (L.getD (k + 1) 0) / 16 then 1 else 0) + (if (L.getD k 0) / 256 ≠ (L.getD (k + 1) 0) / 256 then 1 else 0)
def chK (q : Nat) (L : List Nat) : Nat → Nat
  | 0 => 0
  | k + 1 => chK q L k + (if (L.getD k 0) / q ≠ (L.getD (k + 1) 0) / q then 1 else 0)
theorem chK_cons (q a : Nat) (L : List Nat) : ∀ k, chK q (a :: L) (k + 1) = (if a / q ≠ (L.getD 0 0) / q then 1 else 0) + chK q L k
  | 0 => by simp [chK]
  | k + 1 => by
    rw [chK, chK_cons q a L k, chK]
    simp only [List.getD_cons_succ]
    omega
theorem chL_K (q : Nat) : ∀ L : List Nat, chL q L = chK q L (L.length - 1)
  | [] => rfl
  | [a] => rfl
  | a :: b :: L => by
    have e : (a :: b :: L).length - 1 = (b :: L).length - 1 + 1 := by simp
    rw [chL, chL_K q (b :: L), e, chK_cons]
    rfl
theorem rn_K (L : List Nat) : ∀ k, rn L (k + 1) = 3 + chK 16 L k + chK 256 L k
  | 0 => rfl
  | k + 1 => by
    rw [rn, rn_K L k, chK, chK]; omega
theorem rn_all (f : Nat → Int) : rn (itemsL f 2 0) (itemsL f 2 0).length = nn f 2 0 := by
  rw [nn_eq]
  by_cases h : itemsL f 2 0 = []
  · rw [if_pos h, h]; rfl
  · rw [if_neg h, chL_K, chL_K]
    have : (itemsL f 2 0).length = (itemsL f 2 0).length - 1 + 1 := by have := List.length_pos_iff.2 h; omega
    rw [this, rn_K, ← this]
theorem rn_le (L : List Nat) : ∀ k, rn L k ≤ 3 * k
  | 0 => Nat.le_refl _
  | 1 => Nat.le_refl _
  | k + 2 => by
    have := rn_le L (k + 1)
    rw [rn]
    split <;> split <;> omega
theorem tdiv_nat (a b : Nat) : Int.tdiv (a : Int) (b : Int) = ((a / b : Nat) : Int) := (Int.ofNat_tdiv a b).symm
theorem lst_at {f : Nat → Int} {k a : Nat} (h : (itemsL f 2 0)[k]? = some a) : (lstF f)[k]? = some ((a : Int), f a) := by
  rw [lst_eq, List.getElem?_map, h]; rfl
theorem items_lt {f : Nat → Int} {k a : Nat} (h : (itemsL f 2 0)[k]? = some a) : a < 4096 := by
  have := List.mem_of_getElem? h
  rw [items_eq] at this
  exact List.mem_range.1 (List.mem_filter.1 this).1
set_option maxRecDepth 100000 in
set_option maxHeartbeats 1600000 in
theorem rnodes_any (f : Nat → Int) (v : Value) (w : World) (h : OwnI 0 w v (lstF f)) :
    Calls Try.prog 20 #[v] w fun e w' => e = .returned (.int .i64 (nn f 2 0 : Nat)) ∧ Below w.heap.size w w' := by
  obtain ⟨A, c, rfl, hc, hr⟩ := h.read
  have hL := lst_le f
  have HR := Lib.hid hr
  have HN := Lib.hid (rn_all f)
  obtain ⟨m, hm⟩ : ∃ m, m = (lstF f).length := ⟨_, rfl⟩
  rw [← hm] at hL hc ⊢
  rw [lst_len] at hm
  have HM := Lib.hid hm
  clear hr h hm
  go_enter Try.func20, Try.ntmps20
  go_wp2
  go_loopw [3, 4] (fun n i wr => ∃ k : Nat, k ≤ m ∧ i = .int .i64 k ∧ n = .int .i64 (rn (itemsL f 2 0) k : Nat) ∧ Below w.heap.size w wr) (fun _ i _ => m - (intOf i).toNat)
  case atStart => exact ⟨0, by omega, rfl, rfl, Below.refl _ _⟩
  case round =>
    obtain ⟨k, hk, rfl, rfl, hb⟩ := hrel
    have HB := Lib.hid hb
    have hle := rn_le (itemsL f 2 0) k
    clear hb
    rcases Nat.lt_or_ge k m with hkm | hkm
    · have hki : (k : Int) < (m : Int) := by omega
      have hw : IntKind.i64.wrap ((k : Int) + 1) = (k : Int) + 1 := IntWalk.i64_in _ (by omega)
      rcases k with _ | k
      · go_wp2
        go_roundw
        case rel => exact ⟨1, by omega, rfl, rfl, HB.out⟩
        case measure => simp [intOf]; omega
      · obtain ⟨a, ha⟩ : ∃ a, (itemsL f 2 0)[k]? = some a := ⟨_, List.getElem?_eq_getElem (by rw [← HM.out]; omega)⟩
        obtain ⟨a2, ha2⟩ : ∃ a, (itemsL f 2 0)[k + 1]? = some a := ⟨_, List.getElem?_eq_getElem (by rw [← HM.out]; omega)⟩
        have hrn : rn (itemsL f 2 0) (k + 1 + 1) = rn (itemsL f 2 0) (k + 1) + (if a / 16 ≠ a2 / 16 then 1 else 0) + (if a / 256 ≠ a2 / 256 then 1 else 0) := by
          rw [rn, List.getD_eq_getElem?_getD, List.getD_eq_getElem?_getD, ha, ha2]; rfl
        have hl1 := items_lt ha
        have hl2 := items_lt ha2
        obtain ⟨b, o, rfl, c1, _⟩ := (HR.out.below HB.out).at (lst_at ha)
        obtain ⟨b', o', eb, d1, _⟩ := (HR.out.below HB.out).at (lst_at ha2)
        cases eb
        obtain ⟨q, hq⟩ : ∃ q, q = rn (itemsL f 2 0) (k + 1) := ⟨_, rfl⟩
        rw [← hq] at hrn hle ⊢
        have t1 : Int.tdiv (a : Int) 16 = _ := tdiv_nat a 16
        have t2 : Int.tdiv (a2 : Int) 16 = _ := tdiv_nat a2 16
        have t3 : Int.tdiv (a : Int) 256 = _ := tdiv_nat a 256
        have t4 : Int.tdiv (a2 : Int) 256 = _ := tdiv_nat a2 256
        have w1 : IntKind.i64.wrap ((k : Int) + 1 - 1) = (k : Int) := by rw [IntWalk.i64_in _ (by omega)]; omega
        have w2 : IntKind.i64.wrap ((q : Int) + 1) = (q : Int) + 1 := IntWalk.i64_in _ (by omega)
        have w3 : IntKind.i64.wrap ((q : Int) + 1 + 1) = (q : Int) + 1 + 1 := IntWalk.i64_in _ (by omega)
        have hk0 : (((k : Int) + 1) == 0) = false := by simp; omega
        have HRN := Lib.hid hrn
        clear ha ha2 hq hrn
        obtain ⟨p1, hp1⟩ : ∃ p, p = a / 16 := ⟨_, rfl⟩
        obtain ⟨p2, hp2⟩ : ∃ p, p = a2 / 16 := ⟨_, rfl⟩
        obtain ⟨p3, hp3⟩ : ∃ p, p = a / 256 := ⟨_, rfl⟩
        obtain ⟨p4, hp4⟩ : ∃ p, p = a2 / 256 := ⟨_, rfl⟩
        have v1 : IntKind.i64.wrap (p1 : Int) = p1 := IntWalk.i64_in _ (by omega)
        have v2 : IntKind.i64.wrap (p2 : Int) = p2 := IntWalk.i64_in _ (by omega)
        have v3 : IntKind.i64.wrap (p3 : Int) = p3 := IntWalk.i64_in _ (by omega)
        have v4 : IntKind.i64.wrap (p4 : Int) = p4 := IntWalk.i64_in _ (by omega)
        rw [← hp1] at t1 HRN
        rw [← hp2] at t2 HRN
        rw [← hp3] at t3 HRN
        rw [← hp4] at t4 HRN
        clear hp1 hp2 hp3 hp4 hl1 hl2
        go_wp2
        go_quiet (fail)
        go_wp2
        all_goals
          refine ⟨⟨k + 2, by omega, by congr 1, ?_, below_drewN HB.out _⟩, by simp only [intOf]; omega⟩
          have e := HRN.out
          clear HRN HN HM HR HB c1 d1
          rw [e]
          congr 1
          clear e
          (repeat' split) <;> first | omega | (exfalso; simp_all; done) | (exfalso; simp_all; omega)
    · obtain rfl : k = m := by omega
      have hki : ¬ (k : Int) < (k : Int) := by omega
      go_wp2
      go_ret
      exact ⟨by rw [← HN.out, ← HM.out]; rfl, HB.out⟩
end Go.Proofs.Ytnnadhfpkplncaa
