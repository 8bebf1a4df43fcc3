/- What must come whatever the input is, of a code: a part that is lost is made again. No condition. -/
import Derived.Test.YtdeopklgdemnfaaRsThm
import Derived.Test.YtdeopklgdemnfaaRsLists
namespace Go.Proofs.Ytdeopklgdemnfaa
open Go.RowKit Gf Rs

def f1 : F := ⟨1, by decide⟩
def f2 : F := ⟨2, by decide⟩
def f3 : F := ⟨3, by decide⟩
def f4 : F := ⟨4, by decide⟩
def D0 : List (List F) := [[f1, f2], [f3, f4]]
theorem encS_D0 : encS 2 1 D0 = (outF 2 3 D0 2, 0) := by
  unfold encS D0
  simp [evZ, evF]
theorem row_D0 : arrB (rowF 2 2) = #[.int .u8 142, .int .u8 244] := by
  have : rowF 2 2 = [⟨142, by decide⟩, ⟨244, by decide⟩] := by decide +kernel
  rw [this]; rfl
set_option maxRecDepth 100000 in
set_option maxHeartbeats 1600000 in
theorem sure8_any (w : World) : Calls Try.prog 15 #[] w fun e w' => e = .returned (.bool true) ∧ Below w.heap.size w w' := by
  go_enter Try.func15, Try.ntmps15
  go_wp2_with fail
  refine (new_good 2 1 (by omega) (by omega) w).mono ?_
  rintro e w1 ⟨rfl, hc1, hb1, hz1'⟩
  have hz1 : w.heap.size + 2 ≤ w1.heap.size := by omega
  clear hz1'
  go_wp2_with fail
  refine (row_good (w.heap.size + 1) 2 1 w.heap.size (by omega) 2 (by omega) w1 hc1).mono ?_
  rintro e w2 ⟨rfl, hr2, hk2⟩
  rw [row_D0] at hr2
  have hc2 := hc1.keep hk2
  have hs2 := hk2.size
  have hrl := block_lt hr2
  have hq0 : w2.cell? ⟨w1.heap.size, 0, none⟩ = some (.int .u8 142) := block_cell hr2
  have hq1 : w2.cell? ⟨w1.heap.size, 1, none⟩ = some (.int .u8 244) := block_cell hr2
  have hm : RdM w.heap.size (((w2.alloc (.cells #[.int .u8 1, .int .u8 2] 5)).alloc (.cells #[.int .u8 3, .int .u8 4] 5)).alloc (.cells #[.slice (some ⟨w2.heap.size, 0, none⟩) 2 2, .slice (some ⟨w2.heap.size + 1, 0, none⟩) 2 2] 37)) (some ⟨w2.heap.size + 2, 0, none⟩) D0 := by
    refine ⟨[.slice (some ⟨w2.heap.size, 0, none⟩) 2 2, .slice (some ⟨w2.heap.size + 1, 0, none⟩) 2 2], rfl, RdV.whole (T := 37) (heap_new _ _ _ (by simp)) (by omega), fun i h l hi hl => ?_⟩
    match i, hi, hl with
    | 0, hi, hl =>
      cases hi; cases hl
      exact ⟨_, _, rfl, Nat.le_refl _, RdB.whole (l := [f1, f2]) (T := 5) ((Below.heap_alloc _ _ _ (by simp; omega)).trans ((Below.heap_alloc _ _ _ (by simp)).trans (heap_new _ _ _ rfl))) (by omega)⟩
    | 1, hi, hl =>
      cases hi; cases hl
      exact ⟨_, _, rfl, Nat.le_refl _, RdB.whole (l := [f3, f4]) (T := 5) ((Below.heap_alloc _ _ _ (by simp)).trans (heap_new _ _ _ (by simp))) (by omega)⟩
    | i + 2, hi, hl => simp at hi
  have hke := ((((Keep.refl w.heap.size w2).alloc (.cells #[.int .u8 1, .int .u8 2] 5)).alloc (.cells #[.int .u8 3, .int .u8 4] 5)).alloc (.cells #[.slice (some ⟨w2.heap.size, 0, none⟩) 2 2, .slice (some ⟨w2.heap.size + 1, 0, none⟩) 2 2] 37))
  have henc := encode_S (w.heap.size + 1) 2 1 w.heap.size (by omega) (by omega) (some ⟨w2.heap.size + 2, 0, none⟩) 2 D0 (fun i l hi => by
    match i, hi with
    | 0, hi => cases hi; decide
    | 1, hi => cases hi; decide
    | i + 2, hi => simp [D0] at hi) _ (hc2.keep hke) hm
  rw [encS_D0] at henc
  have HE := Lib.hid henc
  clear henc hm
  go_wp2_with fail
  refine HE.out.mono ?_
  rintro e w3 ⟨v3, rfl, ⟨A3, c3, rfl, hl3, hd3⟩, hk3⟩
  rw [outF_length] at hl3 ⊢
  have hk23 := hke.trans hk3
  have hc3 := hc2.keep hk23
  have hq03 := hk23.cell (by omega) hq0
  have hq13 := hk23.cell (by omega) hq1
  have hbw3 : Below w.heap.size w w3 := hb1.trans ((hk2.trans hk23).below (Nat.le_refl _) (by omega))
  clear HE hq0 hq1 hke hk3 hc2 hr2 hk23
  unfold errV
  go_wp2
  obtain ⟨b1, o1, B1, k1, rfl, hb1', hc1', hl1, hr1⟩ := hd3.at (i := 1) (by rw [outF_length]; omega)
  obtain ⟨b2, o2, B2, k2, e2, hb2', hc2', hl2, hr2⟩ := hd3.at (i := 2) (by rw [outF_length]; omega)
  cases e2
  have e1 : (outF 2 3 D0 2)[1]'(by rw [outF_length]; omega) = mixL (rowF 2 1) D0 2 := by simp [outF]
  have e2 : (outF 2 3 D0 2)[2]'(by rw [outF_length]; omega) = mixL (rowF 2 2) D0 2 := by simp [outF]
  rw [e1] at hc1' hr1 hl1
  rw [e2] at hc2' hr2 hl2
  rw [mixL_length] at hc1' hc2' hl1 hl2
  have hdl : ∀ j, j < 2 → (D0.getD j []).length = 2 := fun j hj => by
    match j, hj with
    | 0, _ => rfl
    | 1, _ => rfl
  have hS := decS_all (K := 2) (M := 1) (n := 2) (D := D0) (ls := [[], mixL (rowF 2 1) D0 2, mixL (rowF 2 2) D0 2]) (ts := [false, true, true]) (by omega) (by omega) rfl hdl rfl rfl (fun i hi hf => by
    match i, hi, hf with
    | 0, _, hf => simp [fl] at hf
    | 1, _, _ => rfl
    | 2, _, _ => rfl) (by decide)
  have HDEC : Hid (∀ (w4 : World) (x y : Nat), w4.heap[x]? = some (.cells #[.slice none 0 0, .slice B1 2 k1, .slice B2 2 k2] 37 (0, 0)) → w4.heap[y]? = some (.cells #[.bool false, .bool true, .bool true] 4 (0, 0)) → Below w3.heap.size w3 w4 → w3.heap.size ≤ x → w3.heap.size ≤ y →
      Calls Try.prog 18 #[.pointer (some ⟨w.heap.size + 1, 0, none⟩), .slice (some ⟨x, 0, none⟩) 3 3, .slice (some ⟨y, 0, none⟩) 3 3] w4 (Res w.heap.size w4 (outF 2 3 D0 2, 0))) := by
    intro w4 x y hx hy hbb hxl hyl
    have hkk : Keep w.heap.size w3 w4 := Keep.of_below hbb
    have h3s := block_lt hc3.1
    have := decode_S (w.heap.size + 1) 2 1 w.heap.size (by omega) (by omega) (some ⟨x, 0, none⟩) (some ⟨y, 0, none⟩) 3 3 [[], mixL (rowF 2 1) D0 2, mixL (rowF 2 2) D0 2] [false, true, true] (fun i l hi => by
      match i, hi with
      | 0, hi => cases hi; decide
      | 1, hi => cases hi; rw [mixL_length]; decide
      | 2, hi => cases hi; rw [mixL_length]; decide
      | i + 3, hi => simp at hi) w4 (hc3.keep hkk) ⟨[.slice none 0 0, .slice B1 2 k1, .slice B2 2 k2], rfl, RdV.whole hx (by omega), fun i h l hi hl => by
      match i, hi, hl with
      | 0, hi, hl => cases hi; cases hl; exact ⟨none, 0, rfl, Nat.le_refl _, fun i v hi => by simp at hi⟩
      | 1, hi, hl => cases hi; cases hl; exact ⟨B1, k1, by rw [mixL_length], by rw [mixL_length]; exact hl1, hr1.keep hkk⟩
      | 2, hi, hl => cases hi; cases hl; exact ⟨B2, k2, by rw [mixL_length], by rw [mixL_length]; exact hl2, hr2.keep hkk⟩
      | i + 3, hi, hl => simp at hi⟩ (RdV.whole (vs := [.bool false, .bool true, .bool true]) hy (by omega))
    rw [hS] at this
    exact this
  clear hS hdl e1 e2 hr1 hr2 hl1 hl2
  have HD3 := Lib.hid hd3
  have HC3 := Lib.hid hc3
  have HBW := Lib.hid hbw3
  have hlt1 := cell_lt hc1'
  clear hd3 hc3 hbw3 hq03 hq13 hk2 hb1 hc1
  go_region_law (first
    | (go_simp; go_at_call 18; refine (HDEC.out _ _ _ (by first | exact heap_new _ _ _ (by simp) | exact (Below.heap_alloc _ _ _ (by simp)).trans (heap_new _ _ _ (by simp))) (by first | exact heap_new _ _ _ (by simp) | exact (Below.heap_alloc _ _ _ (by simp)).trans (heap_new _ _ _ (by simp))) (by repeat (first | exact Below.refl _ _ | refine Below.drew ?_ | refine Below.alloc ?_ (by simp) _)) (by simp) (by simp)).mono ?_; rintro e w5 ⟨v5, rfl, ⟨A5, c5, rfl, hl5, hd5⟩, hk5⟩; have hk35 : Keep w.heap.size w3 w5 := (Keep.of_below (by repeat (first | exact Below.refl _ _ | refine Below.drew ?_ | refine Below.alloc ?_ (by simp) _))).trans hk5; clear hk5))
  all_goals
    have hlists := lists_any w.heap.size w.heap.size A5 (some ⟨b1, o1, none⟩) c5 c3 (outF 2 3 D0 2) (outF 2 3 D0 2) (by rw [outF_length]; omega) w5 hd5 (HD3.out.keep hk35)
    rw [outF_length] at hlists
    have HLI := Lib.hid hlists
    have hb5 : Below w.heap.size w w5 := HBW.out.trans (hk35.below (Nat.le_refl _) (by have := HBW.out.size; omega))
    have hs5 := hb5.size
    clear hlists hd5 hl5 hk35 hc1' hc2'
    rw [outF_length]
    unfold errV
    go_wp2_with fail
    refine HLI.out.mono ?_
    rintro e w6 ⟨rfl, hb6⟩
    rw [decide_eq_true rfl]
    have hbf := hb5.trans (hb6.mono hs5)
    clear hb6 hb5
    go_wp2
    go_ret
    exact ⟨rfl, hbf⟩
end Go.Proofs.Ytdeopklgdemnfaa
