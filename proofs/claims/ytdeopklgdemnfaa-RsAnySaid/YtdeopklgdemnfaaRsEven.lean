/- The length that parts have. Condition: a flag for each part. -/
import Derived.Test.YtdeopklgdemnfaaRsCode
namespace Go.Proofs.Ytdeopklgdemnfaa
open Go.RowKit Gf Rs

/-- The length of those that are there, from n on; none: they differ. -/
def evF : Int → List (Nat × Bool) → Option Int
  | n, [] => some n
  | n, (l, t) :: r => if t then (if n < 0 then evF l r else if n = l then evF n r else none) else evF n r
def evRes : Option Int → Value
  | some n => .tuple #[.int .i64 n, .nilIface]
  | none => .tuple #[.int .i64 0, errN 2]
def evZ (ls : List (List F)) (ts : List Bool) : List (Nat × Bool) := (ls.map List.length).zip ts
theorem evZ_drop {ls : List (List F)} {ts : List Bool} {j : Nat} (h1 : j < ls.length) (h2 : j < ts.length) : (evZ ls ts).drop j = (ls[j].length, ts[j]) :: (evZ ls ts).drop (j + 1) := by
  have hl : j < (evZ ls ts).length := by simp [evZ]; omega
  rw [List.drop_eq_getElem_cons hl]
  simp [evZ]
theorem RdV.bool {fb : Nat} {w : World} {A : Option Addr} {ts : List Bool} (h : RdV fb w A (ts.map Value.bool)) {i : Nat} (hi : i < ts.length) : ∃ b o, A = some ⟨b, o, none⟩ ∧ b ≠ fb ∧ w.cell? ⟨b, o + i, none⟩ = some (.bool ts[i]) := by
  have := RdV.at h (i := i) (by simpa using hi)
  simpa using this
set_option maxRecDepth 100000 in
set_option maxHeartbeats 1600000 in
theorem even_any (fb : Nat) (A1 A2 : Option Addr) (c1 c2 : Nat) (ls : List (List F)) (ts : List Bool) (hq : ls.length ≤ 1048576) (hl : ∀ (i : Nat) (l : List F), ls[i]? = some l → l.length ≤ 1048576) (ht : ls.length = ts.length) (w : World)
    (h1 : RdM fb w A1 ls) (h2 : RdV fb w A2 (ts.map Value.bool)) :
    Calls Try.prog 22 #[.slice A1 ls.length c1, .slice A2 ts.length c2] w fun e w' => e = .returned (evRes (evF (-1) (evZ ls ts))) ∧ w = w' := by
  have hall := Lib.hid hl
  have HT := Lib.hid ht
  clear hl ht
  go_enter Try.func22, Try.ntmps22
  go_wp2
  go_loop [6, 7, 8, 11] (fun n _ _ i => ∃ (j : Nat) (m : Int), j ≤ ls.length ∧ i = .int .i64 j ∧ n = .int .i64 m ∧ -1 ≤ m ∧ m ≤ 1048576 ∧ Hid (evF (-1) (evZ ls ts) = evF m ((evZ ls ts).drop j))) (fun _ _ _ i => ls.length - (intOf i).toNat)
  case atStart => exact ⟨0, -1, by omega, rfl, rfl, by omega, by omega, rfl⟩
  case round =>
    obtain ⟨j, m, hj, rfl, rfl, hm1, hm2, HF⟩ := hrel
    by_cases hlt : j < ls.length
    · have hlt2 : j < ts.length := by rw [← HT.out]; exact hlt
      obtain ⟨b1, o1, A3, c3, rfl, hb1, hc1, hl3, h3⟩ := h1.at hlt
      obtain ⟨b2, o2, rfl, hb2, hc2⟩ := h2.bool hlt2
      have hlj := hall.out j ls[j] (List.getElem?_eq_getElem hlt)
      have hd := evZ_drop hlt hlt2
      have HD := Lib.hid hd
      clear hd
      generalize hkl : ls[j].length = L at *
      clear hkl
      cases htj : ts[j] with
      | false =>
        rw [htj] at hc2
        have HT2 := Lib.hid htj
        clear htj
        go_wp2
        refine ⟨⟨j + 1, m, by omega, by go_num, rfl, by omega, by omega, ?_⟩, by simp [intOf]; omega⟩
        refine HF.out.trans ?_
        rw [HD.out, HT2.out]; rfl
      | true =>
        rw [htj] at hc2
        have HT2 := Lib.hid htj
        clear htj
        by_cases hneg : m < 0
        · go_wp2
          refine ⟨⟨j + 1, (L : Int), by omega, by go_num, rfl, by omega, by omega, ?_⟩, by simp [intOf]; omega⟩
          refine HF.out.trans ?_
          rw [HD.out, HT2.out]; simp [evF, hneg]
        · by_cases heq : m = (L : Int)
          · have hb : (m != (L : Int)) = false := by simp [heq]
            have HE := Lib.hid heq
            clear heq
            go_wp2
            refine ⟨⟨j + 1, m, by omega, by go_num, rfl, by omega, by omega, ?_⟩, by simp [intOf]; omega⟩
            refine HF.out.trans ?_
            rw [HD.out, HT2.out]; simp only [evF, if_true]; rw [if_neg (by omega), if_pos HE.out]
          · have hb : (m != (L : Int)) = true := by simp [heq]
            have HE := Lib.hid heq
            clear heq
            go_wp2
            go_ret2
            refine ⟨?_, rfl⟩
            rw [HF.out, HD.out, HT2.out]; simp only [evF, if_true]; rw [if_neg (by omega), if_neg HE.out]; rfl
    · go_wp2
      obtain rfl : j = ls.length := by omega
      go_ret2
      refine ⟨?_, rfl⟩
      rw [HF.out, List.drop_of_length_le (by simp [evZ]; omega)]; rfl
end Go.Proofs.Ytdeopklgdemnfaa
