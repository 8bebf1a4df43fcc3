/- Texts of the proof of VolumeAlone, part 7 of 9. Conditions stand ahead of each. -/
import Derived.Test.YtnnadhfpkplncaaZVolumeAlone6
import Derived.Test.YtnnadhfpkplncaaPkLen
import Derived.Laws.IdiomStrings

/- What a list of acts reads as (law 20). No condition of its own. -/
namespace Go.Proofs.Ytnnadhfpkplncaa
open Go.RowKit

def f2 : Nat → Int := fK (fun _ => 0) 0 [1, 2] 2
def f4 : Nat → Int := fK f2 0 [3] 1
theorem f2_far : ∀ a : Nat, (2 : Int) ≤ (a : Int) → f2 a = 0 := fK_far (fun _ => 0) 0 2 [1, 2] (by omega) (fun _ _ => rfl) 2 (by omega)
theorem f4_far : ∀ a : Nat, (2 : Int) ≤ (a : Int) → f4 a = 0 := fK_far f2 0 2 [3] (by omega) f2_far 1 (by omega)
theorem nums_two {f : Nat → Int} {p q : Int} (h : ∀ a : Nat, (2 : Int) ≤ (a : Int) → f a = 0) (h0 : f 0 = p) (h1 : f 1 = q) (hp : p ≠ 0) (hq : q ≠ 0) : numsL f = [p, q] := by
  unfold numsL
  rw [items_eq]
  have e : List.range 4096 = [0, 1] ++ (List.range 4094).map (2 + ·) := by
    rw [show ([0, 1] : List Nat) = List.range 2 from rfl, ← List.range_add]
  have h2 : ((List.range 4094).map (2 + ·)).filter (fun a => decide (f a ≠ 0)) = [] := by
    refine List.filter_eq_nil_iff.2 fun a ha => ?_
    obtain ⟨b, _, rfl⟩ := List.mem_map.1 ha
    rw [h _ (by omega)]
    simp
  rw [e, List.filter_append, h2, List.append_nil]
  simp [h0, h1, hp, hq]
theorem nums_f2 : numsL f2 = [1, 2] := nums_two f2_far (by decide) (by decide) (by decide) (by decide)
theorem nums_f4 : numsL f4 = [3, 2] := nums_two f4_far (by decide) (by decide) (by decide) (by decide)
def x1 : Vol := mkV [97] 8 4
theorem cut_nil {t : List UInt8} {i : Nat} (h : Cut [] t i) : i = 0 := by have := h.le; simpa using this
theorem put_nil {v : Vol} : putV [] 0 v = [v] := rfl
theorem put_own {x v : Vol} {l : List Vol} (h : x.name = v.name) : putV (x :: l) 0 v = v :: l := by
  unfold putV hasAt
  simp [h]
theorem put_two {x v : Vol} (h : hasAt [x] 1 v.name = false) : putV [x] 1 v = [x, v] := by
  unfold putV
  rw [if_neg (by rw [h]; simp)]
  rfl
theorem cut_b {x : Vol} (hx : x.name = [97]) {i : Nat} (h : Cut [x] [98] i) : i = 1 := by
  have h1 := h.le
  simp only [List.length_cons, List.length_nil] at h1
  rcases (show i = 0 ∨ i = 1 by omega) with rfl | h2
  · have := h.hi 0 x (Nat.le_refl _) rfl
    rw [hx] at this
    exact absurd (by decide) this
  · exact h2
theorem keys_are {L K M : List Int} (h : KeysOf L K) (hm : M.Nodup) (hs : M.Pairwise fun x y => x ≤ y) (hmem : ∀ i, i ∈ M ↔ i ∈ L) (hw : ∀ y ∈ L, wfI y) : K = M := by
  have hp : K.Perm M := (List.perm_ext_iff_of_nodup h.1 hm).2 fun i => by
    rw [h.2.1 i, hmem i]
    exact ⟨fun a => a.2, fun a => ⟨hw i a, a⟩⟩
  exact hp.eq_of_pairwise (fun a b _ _ h1 h2 => Int.le_antisymm h1 h2) h.2.2 hs
theorem rd_new (w : World) (xs : List Int) : RdA (w.alloc (.cells (zs xs).toArray 3)) (some ⟨w.heap.size, 0, none⟩) (zs xs) := fun i u hi => ⟨_, _, rfl, by
  rw [Nat.zero_add, block_cell (alloc_new _ _)]
  simpa using hi⟩
theorem bad_no2 : ∀ y ∈ ([1, 2] : List Int), badN y = false := by decide
theorem bad_no3 : ∀ y ∈ ([3] : List Int), badN y = false := by decide
set_option maxRecDepth 100000 in
set_option maxHeartbeats 12800000 in
theorem vsure_any (w : World) : Calls Try.prog 32 #[] w (BoolPost true w) := by
  have HM := Lib.hid (vmake_any none [] [97] 8 4 w ⟨fun x hx => (by cases hx), Or.inl ⟨rfl, rfl⟩⟩ List.Pairwise.nil (by simp))
  go_enter Try.func32, Try.ntmps32
  go_wp2_with fail
  refine HM.out.mono ?_
  rintro e w1 ⟨hb1, ⟨_, hno⟩ | ⟨_, i, b1, hc, _, _, rfl, hs1⟩⟩
  · exact absurd ⟨Or.inl rfl, ⟨by decide, by decide, by decide, by decide⟩, fun x hx => (by cases hx), by simp⟩ hno
  obtain rfl := cut_nil hc
  rw [put_nil] at hs1
  have HS1 := Lib.hid (show RdS w1 (some ⟨b1, 0, none⟩) [x1] from hs1)
  have HB1 := Lib.hid hb1
  have HG1 := Lib.hid (show Good [x1] from good_put (v := x1) good_nil (i := 0) hc (ok_mk ⟨⟨by decide, by decide, by decide, by decide⟩, by decide⟩) (Or.inr (by simp)))
  clear hs1 hb1 hc HM
  have hbk1 : Below w1.heap.size w1 (w1.alloc (.cells #[.int .i64 1, .int .i64 2] 3)) := (Below.refl _ _).alloc (Nat.le_refl _) _
  have HP := Lib.hid (vput_any (some ⟨b1, 0, none⟩) [x1] [97] 0 [1, 2] (some ⟨w1.heap.size, 0, none⟩) 2 (w1.alloc (.cells #[.int .i64 1, .int .i64 2] 3)) (HS1.out.below hbk1) HG1.out.up (by simp) HG1.out.bnd (rd_new w1 [1, 2]) (by simp))
  have HBK := Lib.hid hbk1
  clear hbk1
  go_wp2_with fail
  refine HP.out.mono ?_
  rintro e w2 ⟨hb2, ⟨_, hno⟩ | ⟨_, i, x, b2, A2, B2, c2, hx, hxt, hc, hin, rfl, _, hs2⟩⟩
  · exact absurd ⟨bad_no2, x1, List.mem_cons_self, rfl, ⟨by decide, by decide, by decide, by decide⟩, rfl, Or.inl (by decide)⟩ hno
  have hi0 : i = 0 := by
    have := (List.getElem?_eq_some_iff.1 hx).1
    simpa using this
  subst hi0
  obtain rfl : x1 = x := Option.some.inj hx
  rw [put_own (x := x1) (v := putX x1 0 [1, 2] A2) (l := []) rfl] at hs2
  obtain ⟨x2, hx2⟩ : ∃ x2, x2 = putX x1 0 [1, 2] A2 := ⟨_, rfl⟩
  have hG2 : Good [x2] := by
    have := good_put (v := putX x1 0 [1, 2] A2) HG1.out (i := 0) hc (ok_put (HG1.out.ok x1 List.mem_cons_self) hin.1 bad_no2 A2) (Or.inl (Cut.has HG1.out.up hx hc).2)
    rw [put_own (x := x1) (v := putX x1 0 [1, 2] A2) (l := []) rfl] at this
    rw [hx2]
    exact this
  have hx2n : x2.name = [97] ∧ x2.f = f2 ∧ x2.blocks = 8 ∧ x2.quota = 4 ∧ x2.used = 2 ∧ x2.frozen = false := by rw [hx2]; exact ⟨rfl, rfl, rfl, rfl, (show uK x1.used x1.f 0 [1, 2] 2 = 2 by decide), rfl⟩
  rw [← hx2] at hs2
  have HS2 := Lib.hid hs2
  have HB2 := Lib.hid ((HB1.out.trans (HBK.out.mono HB1.out.size)).trans (hb2.mono (HB1.out.trans (HBK.out.mono HB1.out.size)).size))
  have HG2 := Lib.hid hG2
  have HX2 := Lib.hid hx2n
  clear hs2 hb2 hx hxt hc hin hG2 hx2 hx2n HP HBK HS1
  have HC := Lib.hid (vcopy_any (some ⟨b2, 0, none⟩) [x2] [97] [98] true w2 HS2.out HG2.out.up (by simp))
  go_wp2_with fail
  refine HC.out.mono ?_
  rintro e w3 ⟨hb3, ⟨_, hno⟩ | ⟨x, i, b3, u3, hx, hxt, hc, hh, _, rfl, hs3⟩⟩
  · refine absurd ⟨Or.inr rfl, ⟨x2, List.mem_cons_self, HX2.out.1⟩, fun x hx => ?_, by simp⟩ hno
    obtain rfl := List.mem_singleton.1 hx
    rw [HX2.out.1]
    decide
  obtain rfl := List.mem_singleton.1 hx.1
  obtain rfl := cut_b HX2.out.1 hc
  obtain ⟨x3, hx3⟩ : ∃ x3, x3 = cpV x [98] true := ⟨_, rfl⟩
  have hG3 : Good [x, x3] := by
    have := good_put (v := cpV x [98] true) HG2.out (i := 1) hc (ok_cp (HG2.out.ok x List.mem_cons_self) (by decide) _) (Or.inr (by simp))
    rw [put_two hh] at this
    rw [hx3]
    exact this
  rw [put_two hh, ← hx3] at hs3
  have HS3 := Lib.hid hs3
  have HB3 := Lib.hid (HB2.out.trans (hb3.mono HB2.out.size))
  have HG3 := Lib.hid hG3
  have HX3 := Lib.hid (show x3.name = [98] ∧ x3.f = f2 ∧ x3.blocks = 8 by rw [hx3]; exact ⟨rfl, HX2.out.2.1, HX2.out.2.2.1⟩)
  clear hs3 hb3 hx hxt hc hh hG3 hx3 HC HS2 HB2
  have hbk3 : Below w3.heap.size w3 (w3.alloc (.cells #[.int .i64 3] 3)) := (Below.refl _ _).alloc (Nat.le_refl _) _
  have HP := Lib.hid (vput_any (some ⟨b3, 0, none⟩) [x, x3] [97] 0 [3] (some ⟨w3.heap.size, 0, none⟩) 1 (w3.alloc (.cells #[.int .i64 3] 3)) (HS3.out.below hbk3) HG3.out.up (by simp) HG3.out.bnd (rd_new w3 [3]) (by simp))
  have HBK := Lib.hid hbk3
  clear hbk3
  have HUK := Lib.hid (show uK x.used x.f 0 [3] 1 = 2 by rw [HX2.out.2.1, HX2.out.2.2.2.2.1]; decide)
  have HIR := Lib.hid (show inR x 0 ([3] : List Int).length from ⟨by decide, by decide, by rw [HX2.out.2.2.1]; decide, by rw [HX2.out.2.2.1]; decide⟩)
  go_wp2_with fail
  refine HP.out.mono ?_
  rintro e w4 ⟨hb4, ⟨_, hno⟩ | ⟨_, i, xx, b4, A4, B4, c4, hx, hxt, hc, hin, rfl, _, hs4⟩⟩
  · exact absurd ⟨bad_no3, x, List.mem_cons_self, HX2.out.1, HIR.out, HX2.out.2.2.2.2.2, Or.inl (by show uK x.used x.f 0 [3] 1 ≤ x.quota; rw [HUK.out, HX2.out.2.2.2.1]; decide)⟩ hno
  have hij := (Cut.has HG3.out.up (show ([x, x3] : List Vol)[0]? = some x from rfl) (by rw [HX2.out.1]; exact hc)).1
  subst hij
  obtain rfl : x = xx := Option.some.inj hx
  rw [put_own (x := x) (v := putX x 0 [3] A4) (l := [x3]) rfl] at hs4
  obtain ⟨x4, hx4⟩ : ∃ x4, x4 = putX x 0 [3] A4 := ⟨_, rfl⟩
  have hG4 : Good [x4, x3] := by
    have := good_put (v := putX x 0 [3] A4) HG3.out (i := 0) (show Cut _ x.name 0 by rw [HX2.out.1]; exact hc) (ok_put (HG3.out.ok x List.mem_cons_self) hin.1 bad_no3 A4) (Or.inl (by show hasAt [x, x3] 0 x.name = true; unfold hasAt; simp))
    rw [put_own (x := x) (v := putX x 0 [3] A4) (l := [x3]) rfl] at this
    rw [hx4]
    exact this
  rw [← hx4] at hs4
  have HS4 := Lib.hid hs4
  have HB4 := Lib.hid ((HB3.out.trans (HBK.out.mono HB3.out.size)).trans (hb4.mono (HB3.out.trans (HBK.out.mono HB3.out.size)).size))
  have HG4 := Lib.hid hG4
  have HX4 := Lib.hid (show x4.f = f4 by rw [hx4]; show fK x.f 0 [3] 1 = f4; rw [HX2.out.2.1]; rfl)
  clear hs4 hb4 hx hxt hc hin hG4 hx4 HP HBK HS3 HUK HIR
  have HGE := Lib.hid (gets_any (some ⟨b4, 0, none⟩) [x4, x3] [98] 0 1 w4 HS4.out HG4.out.up (by simp) (fun y hy => ⟨(HG4.out.bnd y hy).1, (HG4.out.bnd y hy).2.1⟩))
  go_wp2_with fail
  refine HGE.out.mono ?_
  rintro e w5 ⟨hb5, ⟨i, y, A5, c5, N5, hy, hyt, hc, _, hN, rfl, hr5⟩ | ⟨k, rfl, hno⟩⟩
  rotate_left
  · exact absurd ⟨by decide, by decide, by rw [HX3.out.2.2]; decide, by rw [HX3.out.2.2]; decide⟩ (hno x3 (by simp) HX3.out.1)
  obtain rfl : N5 = 1 := by omega
  have hy3 := up_one HG4.out.up (List.mem_of_getElem? hy) (show x3 ∈ [x4, x3] by simp) (by rw [hyt, HX3.out.1])
  subst hy3
  have HR5 := Lib.hid (show RdA w5 A5 (zs [1]) by
    have e : getN y.f 0 1 = [1] := by rw [HX3.out.2.1]; decide
    rwa [e] at hr5)
  have HB5 := Lib.hid (HB4.out.trans (hb5.mono HB4.out.size))
  have HS5 := Lib.hid (HS4.out.below hb5)
  clear hb5 hy hyt hc hN hr5 HGE HS4
  have HCO := Lib.hid (counts_any (some ⟨b4, 0, none⟩) [x4, y] w5 HS5.out (by simp) (fun z hz => (HG4.out.ok z hz).num))
  go_wp2_with fail
  refine HCO.out.mono ?_
  rintro e w6 ⟨A6, B6, c6, d6, K, rfl, hK, hrA, hrB, hb6⟩
  have hall : allN [x4, y] = [3, 2, 1, 2] := by
    show numsL x4.f ++ (numsL y.f ++ []) = _
    rw [HX4.out, HX3.out.2.1, nums_f4, nums_f2]
    rfl
  rw [hall] at hK hrB
  have hKe : K = [1, 2, 3] := keys_are hK (by decide) (by decide) (fun i => by simp; omega) (fun z hz => by
    rw [← hall] at hz
    exact all_wf HG4.out.ok z hz)
  subst hKe
  have HRA := Lib.hid (show RdA w6 A6 (zs [1, 2, 3]) from hrA)
  have HRB := Lib.hid (show RdA w6 B6 (zs [1, 2, 1]) from hrB)
  have HR6 := Lib.hid (HR5.out.below hb6)
  have HB6 := Lib.hid (HB5.out.trans (hb6.mono HB5.out.size))
  clear hK hrA hrB hb6 hall HCO HS5
  have hk7 : Below w6.heap.size w6 (w6.alloc (.cells #[.int .i64 1] 3)) := (Below.refl _ _).alloc (Nat.le_refl _) _
  have HI7 := Lib.hid (vints_any A5 (some ⟨w6.heap.size, 0, none⟩) c5 1 [1] [1] (w6.alloc (.cells #[.int .i64 1] 3)) (HR6.out.below hk7) (rd_new w6 [1]) (by simp))
  have HK7 := Lib.hid hk7
  clear hk7
  go_wp2_with fail
  refine HI7.out.mono ?_
  rintro e w7 ⟨rfl, hb7⟩
  have hB7 := HB6.out.trans ((HK7.out.trans (hb7.mono HK7.out.size)).mono HB6.out.size)
  have hk67 := HK7.out.trans (hb7.mono HK7.out.size)
  have HRA7 := Lib.hid (HRA.out.below hk67)
  have HRB7 := Lib.hid (HRB.out.below hk67)
  have HB7 := Lib.hid hB7
  clear hB7 hk67 hb7 HI7 HK7 HR6
  have hk8 : Below w7.heap.size w7 (w7.alloc (.cells #[.int .i64 1, .int .i64 2, .int .i64 3] 3)) := (Below.refl _ _).alloc (Nat.le_refl _) _
  have HI8 := Lib.hid (vints_any A6 (some ⟨w7.heap.size, 0, none⟩) c6 3 [1, 2, 3] [1, 2, 3] (w7.alloc (.cells #[.int .i64 1, .int .i64 2, .int .i64 3] 3)) (HRA7.out.below hk8) (rd_new w7 [1, 2, 3]) (by simp))
  have HK8 := Lib.hid hk8
  clear hk8
  go_wp2_with fail
  refine HI8.out.mono ?_
  rintro e w8 ⟨rfl, hb8⟩
  have hk78 := HK8.out.trans (hb8.mono HK8.out.size)
  have HRB8 := Lib.hid (HRB7.out.below hk78)
  have HB8 := Lib.hid (HB7.out.trans (hk78.mono HB7.out.size))
  clear hk78 hb8 HI8 HK8
  have hk9 : Below w8.heap.size w8 (w8.alloc (.cells #[.int .i64 1, .int .i64 2, .int .i64 1] 3)) := (Below.refl _ _).alloc (Nat.le_refl _) _
  have HI9 := Lib.hid (vints_any B6 (some ⟨w8.heap.size, 0, none⟩) d6 3 [1, 2, 1] [1, 2, 1] (w8.alloc (.cells #[.int .i64 1, .int .i64 2, .int .i64 1] 3)) (HRB8.out.below hk9) (rd_new w8 [1, 2, 1]) (by simp))
  have HK9 := Lib.hid hk9
  clear hk9
  go_wp2_with fail
  refine HI9.out.mono ?_
  rintro e w9 ⟨rfl, hb9⟩
  have HB9 := Lib.hid (HB8.out.trans ((HK9.out.trans (hb9.mono HK9.out.size)).mono HB8.out.size))
  clear hb9 HI9 HK9
  go_wp2_with fail
  go_ret
  exact ⟨rfl, HB9.out⟩

structure ActV where
  kind : Int
  a : Int
  b : Int
  name : List UInt8
  from_ : List UInt8
  A : Option Addr
  c : Nat
  ys : List Int
def avcells (x : ActV) : List Value := [.int .i64 x.kind, .int .i64 x.a, .int .i64 x.b, .string ⟨x.name.toArray⟩, .string ⟨x.from_.toArray⟩, .slice x.A x.ys.length x.c]
def avs (l : List ActV) : List Value := l.flatMap avcells
theorem avs_cons (y : ActV) (l : List ActV) : avs (y :: l) = .int .i64 y.kind :: .int .i64 y.a :: .int .i64 y.b :: .string ⟨y.name.toArray⟩ :: .string ⟨y.from_.toArray⟩ :: .slice y.A y.ys.length y.c :: avs l := rfl
theorem avs_at {r : List ActV} {i : Nat} {x : ActV} (h : r[i]? = some x) : (avs r)[i * 6]? = some (.int .i64 x.kind) ∧ (avs r)[i * 6 + 1]? = some (.int .i64 x.a) ∧ (avs r)[i * 6 + 2]? = some (.int .i64 x.b) ∧
    (avs r)[i * 6 + 3]? = some (.string ⟨x.name.toArray⟩) ∧ (avs r)[i * 6 + 4]? = some (.string ⟨x.from_.toArray⟩) ∧ (avs r)[i * 6 + 5]? = some (.slice x.A x.ys.length x.c) := by
  induction r generalizing i with
  | nil => simp at h
  | cons y r ih =>
    rw [avs_cons]
    cases i with
    | zero =>
      simp only [List.getElem?_cons_zero, Option.some.injEq] at h
      subst h
      exact ⟨rfl, rfl, rfl, rfl, rfl, rfl⟩
    | succ i =>
      have := ih (i := i) (by simpa using h)
      rw [show (i + 1) * 6 = i * 6 + 1 + 1 + 1 + 1 + 1 + 1 by omega]
      exact this
theorem avs_get {l : List ActV} {i : Nat} {u : Value} (h : (avs l)[i]? = some u) : ∃ x, l[i / 6]? = some x ∧ (avcells x)[i % 6]? = some u := by
  induction l generalizing i with
  | nil => simp [avs] at h
  | cons y l ih =>
    rw [avs_cons] at h
    match i, h with
    | 0, h => exact ⟨y, rfl, h⟩
    | 1, h => exact ⟨y, rfl, h⟩
    | 2, h => exact ⟨y, rfl, h⟩
    | 3, h => exact ⟨y, rfl, h⟩
    | 4, h => exact ⟨y, rfl, h⟩
    | 5, h => exact ⟨y, rfl, h⟩
    | i + 6, h =>
      obtain ⟨x, h1, h2⟩ := ih (i := i) (by simpa using h)
      exact ⟨x, by rw [show (i + 6) / 6 = i / 6 + 1 by omega]; simpa using h1, by rw [show (i + 6) % 6 = i % 6 by omega]; exact h2⟩
structure OkActV (W : World) (x : ActV) : Prop where
  rd : RdA W x.A (zs x.ys)
  len : x.ys.length ≤ 140737488355328
def ActsV (W : World) (v : Value) : Prop := ∃ (A : Option Addr) (c : Nat) (l : List ActV), v = .slice A l.length c ∧ l.length ≤ c ∧ l.length ≤ 140737488355328 ∧ RdA W A (avs l) ∧ ∀ x ∈ l, OkActV W x
theorem av_at {w : World} {A : Option Addr} {r : List ActV} (h : RdA w A (avs r)) {i : Nat} {x : ActV} (hx : r[i]? = some x) : ∃ b o, A = some ⟨b, o, none⟩ ∧ w.cell? ⟨b, o + i * 6, none⟩ = some (.int .i64 x.kind) ∧ w.cell? ⟨b, o + i * 6 + 1, none⟩ = some (.int .i64 x.a) ∧
    w.cell? ⟨b, o + i * 6 + 2, none⟩ = some (.int .i64 x.b) ∧ w.cell? ⟨b, o + i * 6 + 3, none⟩ = some (.string ⟨x.name.toArray⟩) ∧ w.cell? ⟨b, o + i * 6 + 4, none⟩ = some (.string ⟨x.from_.toArray⟩) ∧ w.cell? ⟨b, o + i * 6 + 5, none⟩ = some (.slice x.A x.ys.length x.c) := by
  obtain ⟨h0, h1, h2, h3, h4, h5⟩ := avs_at hx
  obtain ⟨b, o, e, c0⟩ := h _ _ h0
  obtain ⟨b1, o1, e1, c1⟩ := h _ _ h1
  obtain ⟨b2, o2, e2, c2⟩ := h _ _ h2
  obtain ⟨b3, o3, e3, c3⟩ := h _ _ h3
  obtain ⟨b4, o4, e4, c4⟩ := h _ _ h4
  obtain ⟨b5, o5, e5, c5⟩ := h _ _ h5
  rw [e] at e1 e2 e3 e4 e5
  cases e1
  cases e2
  cases e3
  cases e4
  cases e5
  exact ⟨b, o, e, c0, by rw [Nat.add_assoc]; exact c1, by rw [Nat.add_assoc]; exact c2, by rw [Nat.add_assoc]; exact c3, by rw [Nat.add_assoc]; exact c4, by rw [Nat.add_assoc]; exact c5⟩
end Go.Proofs.Ytnnadhfpkplncaa


/- A writer of bytes: what lies in it; bytes laid behind one another. Condition: the writer reads. -/
namespace Go.Proofs.Ytnnadhfpkplncaa
open Go.RowKit

/-- What a writer's calls keep: all below L; above it what is neither bytes nor a writer. -/
structure KeepW (L : Nat) (w w' : World) : Prop where
  low : Below L w w'
  oth : ∀ (b : Nat) (cs : Array Value) (t : TypeId), t ≠ 5 → t ≠ 134 → w.heap[b]? = some (.cells cs t (0, 0)) → w'.heap[b]? = some (.cells cs t (0, 0))
theorem KeepW.trans {L : Nat} {a b c : World} (h : KeepW L a b) (k : KeepW L b c) : KeepW L a c := ⟨h.low.trans k.low, fun q cs t h1 h2 hq => k.oth q cs t h1 h2 (h.oth q cs t h1 h2 hq)⟩
theorem KeepW.refl (L : Nat) (w : World) : KeepW L w w := ⟨Below.refl _ _, fun _ _ _ _ _ h => h⟩
theorem KeepW.of {L : Nat} {w w' : World} (h : Below w.heap.size w w') (hL : L ≤ w.heap.size) : KeepW L w w' := ⟨h.mono hL, fun q _ _ _ _ hq => (h.block q (block_lt hq)).trans hq⟩
/-- The writer's bytes. -/
structure WrAt (L : Nat) (w : World) (p : Nat) (bs : List Value) : Prop where
  lo : L ≤ p
  at_ : ∃ v, w.heap[p]? = some (.cells #[v] 134 (0, 0)) ∧ w.ownsRow L 5 1 v bs.length bs
theorem WrAt.below {L : Nat} {w w' : World} {p : Nat} {bs : List Value} (h : WrAt L w p bs) (k : Below w.heap.size w w') : WrAt L w' p bs := by
  obtain ⟨v, h1, h2⟩ := h.at_
  exact ⟨h.lo, v, (k.block p (block_lt h1)).trans h1, own_belowV h2 k⟩
theorem infoTBv : (Try.prog.info? 5).map (fun i => (i.zero, i.size, i.bytes)) = some (some (.int .u8 0), 1, 1) := by kernel_rfl
def RawPost (L p : Nat) (bs : List Value) (w : World) (e : Ending) (w' : World) : Prop := e = .returned (.pointer (some ⟨p, 0, none⟩)) ∧ WrAt L w' p bs ∧ KeepW L w w'
set_option maxRecDepth 100000 in
set_option maxHeartbeats 1600000 in
theorem raw_any {L p : Nat} {bs news : List Value} (a : Addr) (c : Nat) (w : World) (h : WrAt L w p bs) (hn : ∀ (j : Nat) (u : Value), news[j]? = some u → w.cell? (a.add j) = some u) (h1 : ∀ u ∈ news, u.oneCell' = true) (hl : bs.length + news.length ≤ 1000000000) :
    Calls Try.prog 79 #[.pointer (some ⟨p, 0, none⟩), .slice (some a) news.length c] w (RawPost L p (bs ++ news) w) := by
  obtain ⟨v, hp, ho⟩ := h.at_
  have HP := Lib.hid hp
  have HO := Lib.hid ho
  have HLO := Lib.hid h.lo
  have HN := Lib.hid hn
  have HLS := Lib.hid (show L ≤ w.heap.size from Nat.le_trans h.lo (Nat.le_of_lt (block_lt hp)))
  have H1 := Lib.hid h1
  have c0 : w.cell? ⟨p, 0, none⟩ = some v := block_cell hp
  obtain ⟨m, hm⟩ : ∃ m, m = news.length := ⟨_, rfl⟩
  obtain ⟨n, hnn⟩ : ∃ n, n = bs.length := ⟨_, rfl⟩
  rw [← hm, ← hnn] at hl
  rw [← hm]
  have HM := Lib.hid hm
  have HNN := Lib.hid hnn
  rw [← hnn] at HO
  obtain ⟨iI, hiI, hi0, hi1, hi2⟩ := info_parts infoTBv
  clear h hn h1 hp ho hm hnn
  go_enter Try.func79, Try.ntmps79
  go_wp2_with (at_builtin; refine Hid.out ?_)
  unfold Hid
  refine wpList_append_own _ rfl (.tmp 11) (.tmp 12) 73 rfl L 5 iI _ 1 1 Try.underlying73 hiI hi0 hi1 hi2 rfl (by decide) v n bs rfl HO.out a m c news rfl (by rw [← HM.out, Nat.mul_one]) HN.out H1.out (by unfold maxLen; omega) (by omega) HLS.out ?_
  intro v6 w6 ho6 hg6 _
  have hk : KeepT 5 w w6 := KeepT.app HO.out hg6
  have hp6 := hk.2 p _ 134 (by decide) HP.out
  have c6 : w6.cell? ⟨p, 0, none⟩ = some v := block_cell hp6
  have f6 : w6.frozen? ⟨p, 0, none⟩ = false := block_free hp6
  obtain ⟨A6, d6, rfl, _, _, _⟩ := own_rdA ho6
  have hk7 : KeepT 134 w6 (w6.setCell ⟨p, 0, none⟩ (.slice A6 (n + m) d6)) := KeepT.setCell _ hp6
  have HW := Lib.hid (show WrAt L (w6.setCell ⟨p, 0, none⟩ (.slice A6 (n + m) d6)) p (bs ++ news) from ⟨HLO.out, .slice A6 (n + m) d6, heap_setCell_same w6 p 0 _ 134 _ hp6, by
    have h9 := own_keepT ho6 hk7 (by decide)
    rw [List.length_append, ← HNN.out, ← HM.out]
    exact h9⟩)
  have HK := Lib.hid (show KeepW L w (w6.setCell ⟨p, 0, none⟩ (.slice A6 (n + m) d6)) from ⟨(below_grown (Below.refl L w) hg6 HLS.out (fun q e => own_geV HO.out e)).setCell (p := ⟨p, 0, none⟩) HLO.out _, fun b cs t h1 h2 hb => hk7.2 b cs t h2 (hk.2 b cs t h1 hb)⟩)
  clear ho6 hg6 hk hp6 hk7 hiI hi0 hi1 hi2
  go_wp2_with fail
  go_ret
  exact ⟨rfl, HW.out, HK.out⟩
/-- One byte more. -/
theorem raw_one {L p : Nat} {bs : List Value} (x : Int) (w : World) (h : WrAt L w p bs) (hl : bs.length ≤ 900000000) :
    Calls Try.prog 79 #[.pointer (some ⟨p, 0, none⟩), .slice (some ⟨w.heap.size, 0, none⟩) 1 1] (w.alloc (.cells #[.int .u8 x] 5)) (RawPost L p (bs ++ [.int .u8 x]) (w.alloc (.cells #[.int .u8 x] 5))) :=
  raw_any (news := [.int .u8 x]) ⟨w.heap.size, 0, none⟩ 1 (w.alloc (.cells #[.int .u8 x] 5)) (h.below ((Below.refl _ _).alloc (Nat.le_refl _) _)) (fun j u hj => by
    rw [WideShapes.add_plain, Nat.zero_add, block_cell (alloc_new _ _)]
    simpa using hj) (by simp [Value.oneCell']) (by simp; omega)
set_option maxHeartbeats 800000 in
theorem pnew_any (w : World) : Calls Try.prog 59 #[] w fun e w' => e = .returned (.pointer (some ⟨w.heap.size, 0, none⟩)) ∧ WrAt w.heap.size w' w.heap.size [] ∧ Below w.heap.size w w' := by
  go_enter Try.func59, Try.ntmps59
  go_wp2
  go_ret
  exact ⟨rfl, ⟨Nat.le_refl _, .slice none 0 0, alloc_new _ _, World.ownsRow_nil _ _ _ _⟩, (Below.refl _ _).alloc (Nat.le_refl _) _⟩
theorem pbool_any {L p : Nat} {bs : List Value} (b : Bool) (w : World) (h : WrAt L w p bs) (hl : bs.length ≤ 900000000) :
    Calls Try.prog 62 #[.pointer (some ⟨p, 0, none⟩), .bool b] w (RawPost L p (bs ++ [.int .u8 (if b then 1 else 0)]) w) := by
  have hls : L ≤ w.heap.size := by
    obtain ⟨v, hp, _⟩ := h.at_
    exact Nat.le_trans h.lo (Nat.le_of_lt (block_lt hp))
  have HK := Lib.hid (fun (x : Int) => KeepW.of (L := L) ((Below.refl w.heap.size w).alloc (Nat.le_refl _) (.cells #[.int .u8 x] 5)) hls)
  cases b with
  | true =>
    have HR := Lib.hid (raw_one 1 w h hl)
    clear h
    go_enter Try.func62, Try.ntmps62
    go_wp2_with fail
    refine HR.out.mono ?_
    rintro e w2 ⟨rfl, hw, hk⟩
    have HW := Lib.hid hw
    have HK2 := Lib.hid ((HK.out 1).trans hk)
    clear hw hk
    go_wp2_with fail
    go_ret
    exact ⟨rfl, HW.out, HK2.out⟩
  | false =>
    have HR := Lib.hid (raw_one 0 w h hl)
    clear h
    go_enter Try.func62, Try.ntmps62
    go_wp2_with fail
    refine HR.out.mono ?_
    rintro e w2 ⟨rfl, hw, hk⟩
    have HW := Lib.hid hw
    have HK2 := Lib.hid ((HK.out 0).trans hk)
    clear hw hk
    go_wp2_with fail
    go_ret
    exact ⟨rfl, HW.out, HK2.out⟩
end Go.Proofs.Ytnnadhfpkplncaa


/- How many bytes a number has behind its first one, and what the first one tells. Condition: a number below 2^41. -/
namespace Go.Proofs.Ytnnadhfpkplncaa
open Go.RowKit

theorem bitAux_le : ∀ f x : Nat, Lib.bitLenAux f x ≤ f
  | 0, _ => Nat.le_refl _
  | f + 1, x => by
    unfold Lib.bitLenAux
    split
    · omega
    · have := bitAux_le f (x / 2)
      omega
theorem bitLen_41 {x : Nat} (h : x ≤ 1099511627776) : Lib.bitLen x ≤ 41 := by
  unfold Lib.bitLen
  rw [Lib.bitLenAux_fuel 41 x (by omega) 64 (by omega)]
  exact bitAux_le 41 x
def behK (n : Int) : Nat := (max 1 (Lib.bitLen n.toNat) - 1) / 7
theorem behK_le {n : Int} (h : 0 ≤ n ∧ n ≤ 1099511627776) : behK n ≤ 5 := by
  have := bitLen_41 (x := n.toNat) (by omega)
  unfold behK
  omega
def headB (k : Nat) : Int := bits BinOp.xor IntKind.u8 IntKind.u8.max (255 / 2 ^ k)
theorem head_any (k : Nat) (hk : k ≤ 8) (w : World) : Calls Try.prog 78 #[.int .i64 k] w fun e w' => e = .returned (.int .u8 (headB k)) ∧ w' = w := by
  go_enter Try.func78, Try.ntmps78
  go_wp2
  go_ret
  exact ⟨rfl, rfl⟩
theorem beh_any (n : Int) (hn : 0 ≤ n ∧ n ≤ 1099511627776) (w : World) : Calls Try.prog 77 #[.int .u64 n] w fun e w' => e = .returned (.int .i64 (behK n : Nat)) ∧ w' = w := by
  have HL := Lib.hid (Try.bits_Len64 n w hn.1 (by omega))
  have h41 := bitLen_41 (x := n.toNat) (by omega)
  have HK := Lib.hid (show behK n = (max 1 (Lib.bitLen n.toNat) - 1) / 7 from rfl)
  obtain ⟨K, hK⟩ : ∃ K, K = behK n := ⟨_, rfl⟩
  rw [← hK] at HK ⊢
  clear hK
  go_enter Try.func77, Try.ntmps77
  go_wp2_with fail
  refine HL.out.mono ?_
  rintro e w' ⟨rfl, rfl⟩
  obtain ⟨L, hL⟩ : ∃ L, L = Lib.bitLen n.toNat := ⟨_, rfl⟩
  rw [← hL] at HK h41 ⊢
  clear hL
  have HE := Lib.hid (show min (8 : Int) ((max 1 (L : Int) - 1) / 7) = (K : Int) from by
    rw [HK.out]
    omega)
  go_wp2_with fail
  go_ret
  exact ⟨by rw [← HE.out]; rfl, rfl⟩
/-- A number's bytes, up to so many behind the first one. -/
def uintT (n : Int) (i : Nat) : List Value := .int .u8 (bits BinOp.or IntKind.u8 (headB (behK n)) (n / 2 ^ (8 * behK n) % 256)) :: (List.range i).map fun j => .int .u8 (n / 2 ^ (8 * (behK n - 1 - j)) % 256)
def uintB (n : Int) : List Value := uintT n (behK n)
theorem uintT_succ (n : Int) (i : Nat) : uintT n (i + 1) = uintT n i ++ [.int .u8 (n / 2 ^ (8 * (behK n - 1 - i)) % 256)] := by
  unfold uintT
  rw [List.range_succ, List.map_append]
  rfl
theorem uintT_len (n : Int) (i : Nat) : (uintT n i).length = i + 1 := by simp [uintT]
set_option maxRecDepth 100000 in
set_option maxHeartbeats 1600000 in
theorem uint_any (n : Int) (hn : 0 ≤ n ∧ n ≤ 1099511627776) (L p : Nat) (bs : List Value) (w : World) (h : WrAt L w p bs) (hl : bs.length ≤ 800000000) : Calls Try.prog 60 #[.pointer (some ⟨p, 0, none⟩), .int .u64 n] w (RawPost L p (bs ++ uintB n) w) := by
  have HB := Lib.hid (beh_any n hn w)
  have HH := Lib.hid (head_any (behK n) (by have := behK_le hn; omega) w)
  have hk5 := behK_le hn
  have HU := Lib.hid (fun i => uintT_succ n i)
  have HU0 := Lib.hid (show uintT n 0 = [.int .u8 (bits BinOp.or IntKind.u8 (headB (behK n)) (n / 2 ^ (8 * behK n) % 256))] from rfl)
  have HUB := Lib.hid (show uintB n = uintT n (behK n) from rfl)
  have hls : L ≤ w.heap.size := by
    obtain ⟨v, hp, _⟩ := h.at_
    exact Nat.le_trans h.lo (Nat.le_of_lt (block_lt hp))
  obtain ⟨k, hk⟩ : ∃ k, k = behK n := ⟨_, rfl⟩
  rw [← hk] at HB HH hk5 HU HU0 HUB
  clear hk
  have HW := Lib.hid h
  have HLS := Lib.hid hls
  clear h hls
  go_enter Try.func60, Try.ntmps60
  go_wp2_with fail
  refine HB.out.mono ?_
  rintro e w' ⟨rfl, rfl⟩
  go_wp2_with fail
  refine HH.out.mono ?_
  rintro e w' ⟨rfl, rfl⟩
  have hk8 : (k : Int) < 8 := by omega
  obtain ⟨X, hX⟩ : ∃ X, X = bits BinOp.or IntKind.u8 (headB k) (n / 2 ^ (8 * k) % 256) := ⟨_, rfl⟩
  rw [← hX] at HU0
  have HR := Lib.hid (raw_one X w' HW.out (by omega))
  have HXX := Lib.hid hX
  clear hX
  go_wp2_with fail
  rw [← HXX.out]
  refine HR.out.mono ?_
  rintro e w2 ⟨rfl, hw2, hk2⟩
  have HW2 := Lib.hid hw2
  have HK2 := Lib.hid ((KeepW.of (L := L) ((Below.refl w'.heap.size w').alloc (Nat.le_refl _) (.cells #[.int .u8 X] 5)) HLS.out).trans hk2)
  clear hw2 hk2 HR HB HH
  go_upto_region 7 with fail
  go_loopg [26] k (fun gg iv wr => ∃ i : Nat, i ≤ k ∧ gg = k - i ∧ iv = .int .i64 i ∧ Hid (WrAt L wr p (bs ++ uintT n i)) ∧ Hid (KeepW L w' wr))
  case atStart => exact ⟨0, by omega, by omega, rfl, by rw [HU0.out]; exact HW2.out, HK2.out⟩
  case round =>
    obtain ⟨i, hi, hgi, rfl, HWI, HKI⟩ := hrel
    clear HW2 HK2
    by_cases hik : i < k
    · have hii : (i : Int) < (k : Int) := by omega
      have hwi : IntKind.i64.wrap ((i : Int) + 1) = (i : Int) + 1 := IntWalk.i64_in _ (by omega)
      have hw1 : IntKind.i64.wrap ((k : Int) - 1) = ((k - 1 : Nat) : Int) := by rw [IntWalk.i64_in _ (by omega)]; omega
      have hw2 : IntKind.i64.wrap (((k - 1 : Nat) : Int) - (i : Int)) = ((k - 1 - i : Nat) : Int) := by rw [IntWalk.i64_in _ (by omega)]; omega
      obtain ⟨m, hm⟩ : ∃ m, m = k - 1 := ⟨_, rfl⟩
      rw [← hm] at hw1 hw2
      obtain ⟨q, hq⟩ : ∃ q, q = m - i := ⟨_, rfl⟩
      rw [← hq] at hw2
      have hq5 : q ≤ 4 := by omega
      have hls : L ≤ wr.heap.size := Nat.le_trans HLS.out HKI.out.low.size
      have hln : (bs ++ uintT n i).length ≤ 900000000 := by rw [List.length_append, uintT_len]; omega
      have HR := Lib.hid (raw_one (n / 2 ^ (8 * q) % 256) wr HWI.out hln)
      have HNX := Lib.hid (show uintT n (i + 1) = uintT n i ++ [.int .u8 (n / 2 ^ (8 * q) % 256)] by rw [HU.out i, ← hm, ← hq])
      have HLS2 := Lib.hid hls
      clear hm hq hln hls
      go_wp2_with fail
      refine HR.out.mono ?_
      rintro e w5 ⟨rfl, hw5, hk5'⟩
      have HW5 := Lib.hid (show WrAt L w5 p (bs ++ uintT n (i + 1)) by rw [HNX.out, ← List.append_assoc]; exact hw5)
      have HK5 := Lib.hid ((HKI.out.trans (KeepW.of (L := L) ((Below.refl wr.heap.size wr).alloc (Nat.le_refl _) (.cells #[.int .u8 (n / 2 ^ (8 * q) % 256)] 5)) HLS2.out)).trans hk5')
      clear hw5 hk5' HR
      go_wp2_with fail
      go_roundg (k - (i + 1))
      case measure => omega
      case rel => exact ⟨i + 1, by omega, rfl, by congr 1, HW5.out, HK5.out⟩
    · have hie : i = k := by omega
      subst hie
      have hii : ¬ (i : Int) < (i : Int) := by omega
      clear hik
      go_wp2_with fail
      go_ret
      exact ⟨rfl, by rw [HUB.out]; exact HWI.out, HKI.out⟩
end Go.Proofs.Ytnnadhfpkplncaa


/- A text laid; the sum of bytes; a clone of bytes. Condition: what comes reads. -/
namespace Go.Proofs.Ytnnadhfpkplncaa
open Go.RowKit

theorem block_cellF {g o : Nat} {w : World} {cs : Array Value} {T : TypeId} {fr : Nat × Nat} (hg : w.heap[g]? = some (.cells cs T fr)) : w.cell? ⟨g, o, none⟩ = cs[o]? := by simp [World.cell?, hg]
def chars (t : List UInt8) : List Value := t.map fun b => .int .u8 (b.toNat : Nat)
def textB (t : List UInt8) : List Value := uintB (t.length : Int) ++ chars t
theorem chars_one (t : List UInt8) : ∀ u ∈ chars t, u.oneCell' = true := fun u hu => by
  obtain ⟨b, _, rfl⟩ := List.mem_map.1 hu
  rfl
theorem uintB_len (n : Int) : (uintB n).length = behK n + 1 := uintT_len n (behK n)
set_option maxRecDepth 100000 in
set_option maxHeartbeats 1600000 in
theorem text_any (t : List UInt8) (ht : t.length ≤ 1000000) (L p : Nat) (bs : List Value) (w : World) (h : WrAt L w p bs) (hl : bs.length ≤ 700000000) : Calls Try.prog 61 #[.pointer (some ⟨p, 0, none⟩), .string ⟨t.toArray⟩] w (RawPost L p (bs ++ textB t) w) := by
  have HU := Lib.hid (uint_any (t.length : Int) (by omega) L p bs w h (by omega))
  have hk5 := behK_le (n := (t.length : Int)) (by omega)
  have HLU := Lib.hid (show (bs ++ uintB (t.length : Int)).length ≤ 750000000 by rw [List.length_append, uintB_len]; omega)
  have HTB := Lib.hid (show bs ++ textB t = bs ++ uintB (t.length : Int) ++ chars t by unfold textB; rw [List.append_assoc])
  have hlsw : L ≤ w.heap.size := by
    obtain ⟨v, hp, _⟩ := h.at_
    exact Nat.le_trans h.lo (Nat.le_of_lt (block_lt hp))
  have HLS := Lib.hid hlsw
  clear h hlsw hk5
  go_enter Try.func61, Try.ntmps61
  go_wp2_with fail
  refine HU.out.mono ?_
  rintro e w2 ⟨rfl, hw2, hk2⟩
  have hls2 : L ≤ w2.heap.size := Nat.le_trans HLS.out hk2.low.size
  obtain ⟨G, hG⟩ : ∃ G, G = grownCap w2 t.length 0 5 := ⟨_, rfl⟩
  obtain ⟨W2, hW2⟩ : ∃ W2, W2 = w2.drew.alloc (.cells (bytesRow ⟨t.toArray⟩ G) 5 ((bytesRow ⟨t.toArray⟩ G).size, (bytesRow ⟨t.toArray⟩ G).size + 1)) := ⟨_, rfl⟩
  have hcv : (convert 9 73 (.string ⟨t.toArray⟩)).run Try.prog w2 = .ok (.slice (some ⟨w2.heap.size, 0, none⟩) t.length G) W2 := by
    have := run_bytes_of_string (P := Try.prog) w2 9 73 5 ⟨t.toArray⟩ Try.underlying9 Try.underlying73 Try.underlying5
    rw [show (⟨t.toArray⟩ : ByteArray).size = t.length from by show t.toArray.size = _; simp] at this
    rw [hW2, hG]
    exact this
  have hb2 : Below w2.heap.size w2 W2 := by rw [hW2]; exact (Below.refl w2.heap.size w2).drew.alloc (Nat.le_refl _) _
  have HR := Lib.hid (show Calls Try.prog 79 #[.pointer (some ⟨p, 0, none⟩), .slice (some ⟨w2.heap.size, 0, none⟩) t.length G] W2 (RawPost L p (bs ++ uintB (t.length : Int) ++ chars t) W2) from by
    have := raw_any (news := chars t) ⟨w2.heap.size, 0, none⟩ G W2 (hw2.below hb2) (fun j u hj => by
      rw [WideShapes.add_plain, Nat.zero_add, hW2]
      have hc : (w2.drew.alloc (.cells (bytesRow ⟨t.toArray⟩ G) 5 ((bytesRow ⟨t.toArray⟩ G).size, (bytesRow ⟨t.toArray⟩ G).size + 1))).cell? ⟨w2.heap.size, j, none⟩ = (bytesRow ⟨t.toArray⟩ G)[j]? := by
        exact block_cellF (alloc_new w2.drew (.cells (bytesRow ⟨t.toArray⟩ G) 5 ((bytesRow ⟨t.toArray⟩ G).size, (bytesRow ⟨t.toArray⟩ G).size + 1)))
      rw [hc]
      unfold bytesRow
      unfold chars at hj
      have hjl : j < t.length := by
        have := (List.getElem?_eq_some_iff.1 hj).1
        simpa using this
      rw [Array.getElem?_append_left (by simpa using hjl)]
      simpa using hj) (chars_one t) (by
        have := HLU.out
        have e : (chars t).length = t.length := by simp [chars]
        omega)
    rwa [show (chars t).length = t.length by simp [chars]] at this)
  have HK := Lib.hid (hk2.trans (KeepW.of (L := L) hb2 hls2))
  clear hw2 hk2 hb2 hW2 hG hls2 HU
  go_wp2_with fail
  refine HR.out.mono ?_
  rintro e w3 ⟨rfl, hw3, hk3⟩
  have HW3 := Lib.hid hw3
  have HK3 := Lib.hid (HK.out.trans hk3)
  clear hw3 hk3 hcv
  go_wp2_with fail
  go_ret
  exact ⟨rfl, by rw [HTB.out]; exact HW3.out, HK3.out⟩
/-- Horner's sum. -/
def moreS (S : Int) : List Int → Int
  | [] => S
  | x :: xs => moreS ((IntKind.u64.wrap (IntKind.u64.wrap (S * 257) + IntKind.u64.wrap x)).tmod 2147483647) xs
theorem moreS_take (xs : List Int) : ∀ (k : Nat) (S y : Int), xs[k]? = some y → moreS S (xs.take (k + 1)) = (IntKind.u64.wrap (IntKind.u64.wrap (moreS S (xs.take k) * 257) + IntKind.u64.wrap y)).tmod 2147483647 := by
  induction xs with
  | nil => intro k S y h; simp at h
  | cons x xs ih =>
    intro k S y h
    cases k with
    | zero =>
      simp only [List.getElem?_cons_zero, Option.some.injEq] at h
      subst h
      simp [moreS]
    | succ k =>
      rw [List.take_succ_cons, List.take_succ_cons]
      show moreS _ (xs.take (k + 1)) = _
      exact ih k _ y (by simpa using h)
def bytesV (xs : List Int) : List Value := xs.map (Value.int .u8)
set_option maxRecDepth 100000 in
set_option maxHeartbeats 800000 in
theorem more_any (A : Option Addr) (c : Nat) (xs : List Int) (w : World) (h : RdA w A (bytesV xs)) (hl : xs.length ≤ 1000000000) : Calls Try.prog 99 #[.int .u32 1, .slice A xs.length c] w (fun e w' => e = .returned (.int .u32 (moreS 1 xs % 4294967296)) ∧ w' = w) := by
  obtain ⟨n, hn⟩ : ∃ n, n = xs.length := ⟨_, rfl⟩
  have HR := Lib.hid h
  rw [← hn] at hl ⊢
  have HN := Lib.hid hn
  clear hn h
  go_enter Try.func99, Try.ntmps99
  go_upto_region 3 with fail
  go_loopg [13, 5] n (fun gg i s wr => ∃ (k : Nat), k ≤ n ∧ gg = n - k ∧ i = .int .i64 k ∧ s = .int .u64 (moreS 1 (xs.take k)) ∧ Hid (wr = w))
  case atStart => exact ⟨0, by omega, by omega, rfl, rfl, rfl⟩
  case round =>
    obtain ⟨k, hk, hgk, rfl, rfl, HW⟩ := hrel
    obtain rfl := HW.out
    by_cases hlt : k < n
    · have hki : (k : Int) < (n : Int) := by omega
      have hwk : IntKind.i64.wrap ((k : Int) + 1) = (k : Int) + 1 := IntWalk.i64_in _ (by omega)
      obtain ⟨x, hx⟩ : ∃ x, xs[k]? = some x := ⟨_, List.getElem?_eq_getElem (by rw [← HN.out]; omega)⟩
      obtain ⟨b, o, rfl, c0⟩ := HR.out k (.int .u8 x) (by unfold bytesV; rw [List.getElem?_map, hx]; rfl)
      have HNX := Lib.hid (moreS_take xs k 1 x hx)
      obtain ⟨S, hS⟩ : ∃ S, S = moreS 1 (xs.take k) := ⟨_, rfl⟩
      rw [← hS] at HNX ⊢
      clear hS hx
      go_wp2_with fail
      go_roundg (n - (k + 1))
      case measure => omega
      case rel => exact ⟨k + 1, by omega, rfl, by congr 1, by rw [HNX.out], rfl⟩
    · have hke : k = n := by omega
      subst hke
      have hki : ¬ (k : Int) < (k : Int) := by omega
      have hT : xs.take k = xs := List.take_of_length_le (by rw [HN.out]; exact Nat.le_refl _)
      rw [hT]
      clear hT hlt HW
      go_wp2_with fail
      go_ret
      exact ⟨rfl, rfl⟩
theorem sum_any (A : Option Addr) (c : Nat) (xs : List Int) (w : World) (h : RdA w A (bytesV xs)) (hl : xs.length ≤ 1000000000) : Calls Try.prog 81 #[.slice A xs.length c] w (fun e w' => e = .returned (.int .u32 (moreS 1 xs % 4294967296)) ∧ w' = w) := by
  have HM := Lib.hid (more_any A c xs w h hl)
  clear h
  go_enter Try.func81, Try.ntmps81
  go_wp2_with fail
  refine HM.out.mono ?_
  rintro e w' ⟨rfl, rfl⟩
  go_wp2_with fail
  go_ret
  exact ⟨rfl, rfl⟩
end Go.Proofs.Ytnnadhfpkplncaa


/- A sum's bytes. No condition of its own. -/
namespace Go.Proofs.Ytnnadhfpkplncaa
open Go.RowKit

def lastC (S : Int) (k : Nat) : Array Value := ((List.range 4).map fun j => Value.int .u8 (if j < k then S / 2 ^ (8 * j) % 256 else 0)).toArray
theorem lastC_at (S : Int) (k j : Nat) (h : j < 4) : (lastC S k)[j]? = some (.int .u8 (if j < k then S / 2 ^ (8 * j) % 256 else 0)) := by
  unfold lastC
  simp [h]
theorem lastC_set (S : Int) (k : Nat) (h : k < 4) : (lastC S k).setIfInBounds k (.int .u8 (S / 2 ^ (8 * k) % 256)) = lastC S (k + 1) := by
  apply Array.ext_getElem?
  intro j
  rw [Array.getElem?_setIfInBounds]
  have hs : ∀ k, (lastC S k).size = 4 := fun k => by simp [lastC]
  by_cases hj : j < 4
  · split
    · rename_i e
      subst e
      rw [if_pos (by rw [hs]; exact h), lastC_at S _ _ hj, if_pos (Nat.lt_succ_self _)]
    · rename_i e
      rw [lastC_at S _ _ hj, lastC_at S _ _ hj]
      by_cases h2 : j < k
      · rw [if_pos h2, if_pos (by omega)]
      · rw [if_neg h2, if_neg (by omega)]
  · rw [if_neg (by omega), Array.getElem?_eq_none (by rw [hs]; omega), Array.getElem?_eq_none (by rw [hs]; omega)]
def lastV (S : Int) : List Value := (lastC S 4).toList
structure LastAt (w : World) (p q : Nat) (S : Int) (k : Nat) (wr : World) : Prop where
  low : Below w.heap.size w wr
  res : wr.heap[p]? = some (.cells #[.int .u8 0, .int .u8 0, .int .u8 0, .int .u8 0] 138 (0, 0))
  arr : wr.heap[q]? = some (.cells (lastC S k) 138 (0, 0))
  hp : w.heap.size ≤ p
  hq : w.heap.size ≤ q
  ne : p ≠ q
theorem LastAt.next {w wr : World} {p q k : Nat} {S : Int} (h : LastAt w p q S k wr) (hs : (lastC S k).setIfInBounds k (.int .u8 (S / 2 ^ (8 * k) % 256)) = lastC S (k + 1)) : LastAt w p q S (k + 1) (wr.setCell ⟨q, k, none⟩ (.int .u8 (S / 2 ^ (8 * k) % 256))) :=
  ⟨h.low.setCell (p := ⟨q, k, none⟩) h.hq _, (Below.heap_setCell _ _ _ _ h.ne).trans h.res, by rw [heap_setCell_same wr q k _ 138 _ h.arr, hs], h.hp, h.hq, h.ne⟩
set_option maxRecDepth 100000 in
set_option maxHeartbeats 800000 in
theorem last_any (S : Int) (_hS : 0 ≤ S ∧ S < 4294967296) (w : World) : Calls Try.prog 80 #[.int .u32 S] w (fun e w' => e = .returned (.agg (lastC S 4)) ∧ Below w.heap.size w w') := by
  have H0 := Lib.hid (show lastC S 0 = #[.int .u8 0, .int .u8 0, .int .u8 0, .int .u8 0] from by
    unfold lastC
    simp [List.range, List.range.loop])
  have H4 := Lib.hid (fun (k j : Nat) (h : j < 4) => lastC_at S k j h)
  have HST := Lib.hid (fun (k : Nat) (h : k < 4) => lastC_set S k h)
  go_enter Try.func80, Try.ntmps80
  go_upto_region 3 with fail
  obtain ⟨p, hp⟩ : ∃ p, p = w.heap.size := ⟨_, rfl⟩
  obtain ⟨q, hq⟩ : ∃ q, q = w.heap.size + 1 := ⟨_, rfl⟩
  obtain ⟨W2, hW2⟩ : ∃ W2, W2 = (w.alloc (.cells #[.int .u8 0, .int .u8 0, .int .u8 0, .int .u8 0] 138)).alloc (.cells #[.int .u8 0, .int .u8 0, .int .u8 0, .int .u8 0] 138) := ⟨_, rfl⟩
  have hst : LastAt w p q S 0 W2 := by
    refine ⟨?_, ?_, ?_, by omega, by omega, by omega⟩
    · rw [hW2]; exact ((Below.refl _ w).alloc (Nat.le_refl _) _).alloc (by rw [World.size_alloc]; omega) _
    · rw [hW2, hp]
      exact (((Below.refl _ _).alloc (Nat.le_refl _) _).block _ (by rw [World.size_alloc]; omega)).trans (alloc_new w _)
    · rw [hW2, hq, H0.out, show w.heap.size + 1 = (w.alloc (.cells #[.int .u8 0, .int .u8 0, .int .u8 0, .int .u8 0] 138)).heap.size by rw [World.size_alloc]]
      exact alloc_new _ _
  rw [← hp] at hq
  rw [← hW2, ← hp, ← hq]
  have HS := Lib.hid hst
  clear hst hp hq hW2 H0
  go_loopg [5] 4 (fun gg iv wr => ∃ k : Nat, k ≤ 4 ∧ gg = 4 - k ∧ iv = .int .i64 k ∧ Hid (LastAt w p q S k wr))
  case atStart => exact ⟨0, by omega, by omega, rfl, HS.out⟩
  case round =>
    obtain ⟨k, hk, hgk, rfl, HSK⟩ := hrel
    clear HS
    by_cases hlt : k < 4
    · have hki : (k : Int) < 4 := by omega
      have hwk : IntKind.i64.wrap ((k : Int) + 1) = (k : Int) + 1 := IntWalk.i64_in _ (by omega)
      have c0 : wr.cell? ⟨q, k, none⟩ = some (.int .u8 (if k < k then S / 2 ^ (8 * k) % 256 else 0)) := (block_cell HSK.out.arr).trans (H4.out k k hlt)
      have f0 : wr.frozen? ⟨q, k, none⟩ = false := block_free HSK.out.arr
      have HNX := Lib.hid (show LastAt w p q S (k + 1) (wr.setCell ⟨q, k, none⟩ (.int .u8 (S / 2 ^ (8 * k) % 256))) from HSK.out.next (HST.out k hlt))
      go_wp2_with fail
      go_roundg (4 - (k + 1))
      case measure => omega
      case rel => exact ⟨k + 1, by omega, rfl, by congr 1, HNX.out⟩
    · have hke : k = 4 := by omega
      subst hke
      obtain ⟨C, hC⟩ : ∃ C, C = lastC S 4 := ⟨_, rfl⟩
      obtain ⟨x0, x1, x2, x3, hx⟩ : ∃ x0 x1 x2 x3 : Int, C = #[.int .u8 x0, .int .u8 x1, .int .u8 x2, .int .u8 x3] := ⟨_, _, _, _, by rw [hC]; unfold lastC; simp [List.range, List.range.loop]; exact ⟨rfl, rfl, rfl, rfl⟩⟩
      have ha := HSK.out.arr
      rw [← hC, hx] at ha
      have hr := HSK.out.res
      have c0 : wr.cell? ⟨q, 0, none⟩ = some (.int .u8 x0) := block_cell ha
      have c1 : wr.cell? ⟨q, 1, none⟩ = some (.int .u8 x1) := block_cell ha
      have c2 : wr.cell? ⟨q, 2, none⟩ = some (.int .u8 x2) := block_cell ha
      have c3 : wr.cell? ⟨q, 3, none⟩ = some (.int .u8 x3) := block_cell ha
      have HX := Lib.hid (show lastC S 4 = #[.int .u8 x0, .int .u8 x1, .int .u8 x2, .int .u8 x3] from hC.symm.trans hx)
      have d0 : wr.cell? ⟨p, 0, none⟩ = some (.int .u8 0) := block_cell hr
      have g0 : wr.frozen? ⟨p, 0, none⟩ = false := block_free hr
      have d1 : wr.cell? ⟨p, 1, none⟩ = some (.int .u8 0) := block_cell hr
      have g1 : wr.frozen? ⟨p, 1, none⟩ = false := block_free hr
      have d2 : wr.cell? ⟨p, 2, none⟩ = some (.int .u8 0) := block_cell hr
      have g2 : wr.frozen? ⟨p, 2, none⟩ = false := block_free hr
      have d3 : wr.cell? ⟨p, 3, none⟩ = some (.int .u8 0) := block_cell hr
      have g3 : wr.frozen? ⟨p, 3, none⟩ = false := block_free hr
      have HP := Lib.hid hr
      have HPL := Lib.hid HSK.out.hp
      have HB := Lib.hid HSK.out.low
      clear HSK hC hx ha hr hlt hgk
      rw [show ((4 : Nat) : Int) = 4 from rfl]
      go_upto_region 7 with fail
      go_wp2_with fail
      have hb4 : Below w.heap.size w ((((wr.setCell ⟨p, 0, none⟩ (.int .u8 x0)).setCell ⟨p, 1, none⟩ (.int .u8 x1)).setCell ⟨p, 2, none⟩ (.int .u8 x2)).setCell ⟨p, 3, none⟩ (.int .u8 x3)) :=
        (((HB.out.setCell (p := ⟨p, 0, none⟩) HPL.out _).setCell (p := ⟨p, 1, none⟩) HPL.out _).setCell (p := ⟨p, 2, none⟩) HPL.out _).setCell (p := ⟨p, 3, none⟩) HPL.out _
      have hp4 : ((((wr.setCell ⟨p, 0, none⟩ (.int .u8 x0)).setCell ⟨p, 1, none⟩ (.int .u8 x1)).setCell ⟨p, 2, none⟩ (.int .u8 x2)).setCell ⟨p, 3, none⟩ (.int .u8 x3)).heap[p]? = some (.cells #[.int .u8 x0, .int .u8 x1, .int .u8 x2, .int .u8 x3] 138 (0, 0)) := by
        have h0 := heap_setCell_same wr p 0 _ 138 (.int .u8 x0) HP.out
        have h1 := heap_setCell_same _ p 1 _ 138 (.int .u8 x1) h0
        have h2 := heap_setCell_same _ p 2 _ 138 (.int .u8 x2) h1
        exact heap_setCell_same _ p 3 _ 138 (.int .u8 x3) h2
      refine bodyPost_ret (results_cell_row rfl _ _ p _ _ _ _ rfl hp4 Try.underlying138 rfl (by kernel_rfl)) rfl ?_
      exact ⟨by rw [HX.out], hb4⟩
end Go.Proofs.Ytnnadhfpkplncaa


/- A clone of bytes; a writer's bytes; bytes and their sum. Condition: they read, one byte at least. -/
namespace Go.Proofs.Ytnnadhfpkplncaa
open Go.RowKit

def ClonePost (bs : List Value) (w : World) (e : Ending) (w' : World) : Prop := ∃ v', e = .returned v' ∧ w'.ownsRow w.heap.size 5 1 v' bs.length bs ∧ Below w.heap.size w w'
set_option maxRecDepth 100000 in
set_option maxHeartbeats 1600000 in
theorem bclone_any (bs : List Value) (A : Option Addr) (c : Nat) (w : World) (h : RdA w A bs) (h1 : ∀ u ∈ bs, u.oneCell' = true) (hne : bs ≠ []) (hl : bs.length ≤ 1000000000) :
    Calls Try.prog 82 #[.slice A bs.length c] w (ClonePost bs w) := by
  obtain ⟨n, hn⟩ : ∃ n, n = bs.length := ⟨_, rfl⟩
  obtain ⟨a, rfl⟩ : ∃ a, A = some a := by
    cases bs with
    | nil => exact absurd rfl hne
    | cons x bs =>
      obtain ⟨b, o, e, _⟩ := h 0 x rfl
      exact ⟨_, e⟩
  have HR := Lib.hid h
  have H1 := Lib.hid h1
  unfold ClonePost
  rw [← hn] at hl ⊢
  have HN := Lib.hid hn
  obtain ⟨iI, hiI, hz0, hz1, hz2⟩ := info_parts infoTBv
  clear h h1 hn hne
  have hbo : (binOp .eql 73 (.slice (some a) n c) (.slice none 0 0)).run Try.prog w = .ok (.bool false) w := by kernel_rfl
  go_enter Try.func82, Try.ntmps82
  go_wp2_with (at_builtin; refine Hid.out ?_)
  unfold Hid
  have ho : (w.alloc (.cells #[] 5)).ownsRow w.heap.size 5 1 (.slice (some ⟨w.heap.size, 0, none⟩) 0 0) 0 [] :=
    ⟨rfl, Or.inr ⟨w.heap.size, 0, #[], rfl, Nat.le_refl _, alloc_new _ _, Nat.le_refl _, Nat.zero_le _, rfl, rfl⟩⟩
  have hrA : RdA (w.alloc (.cells #[] 5)) (some a) bs := HR.out.below ((Below.refl _ w).alloc (Nat.le_refl _) _)
  refine wpList_append_own _ rfl (.tmp 5) (.tmp 6) 73 rfl w.heap.size 5 iI _ 1 1 Try.underlying73 hiI hz0 hz1 hz2 rfl (by decide) _ 0 [] rfl ho a n c bs rfl (by rw [← HN.out, Nat.mul_one]) (fun j u hj => by
    obtain ⟨b, o, e, hc⟩ := hrA j u hj
    cases e
    rw [WideShapes.add_plain]; exact hc) H1.out (by unfold maxLen; omega) (by omega) (by rw [World.size_alloc]; omega) ?_
  intro v6 w6 hrow6 hg6 _
  have HB6 := Lib.hid (below_grown ((Below.refl _ w).alloc (Nat.le_refl _) (.cells #[] 5)) hg6 (by rw [World.size_alloc]; omega) (fun q e => own_geV ho e))
  have HE := Lib.hid (show w6.ownsRow w.heap.size 5 1 v6 n bs by rw [Nat.zero_add] at hrow6; exact hrow6)
  clear hrow6 hg6 ho hrA
  go_wp2
  go_ret
  exact ⟨_, rfl, HE.out, HB6.out⟩
theorem own_rdByte {w : World} {B n : Nat} {v : Value} {bs : List Value} (h : w.ownsRow B 5 1 v n bs) : ∃ A c, v = .slice A n c ∧ RdA w A bs := by
  obtain ⟨A, c, e, _, h, _⟩ := own_rdA h
  exact ⟨A, c, e, h⟩
set_option maxRecDepth 100000 in
set_option maxHeartbeats 800000 in
theorem done_any (L p : Nat) (bs : List Value) (w : World) (h : WrAt L w p bs) (h1 : ∀ u ∈ bs, u.oneCell' = true) (hne : bs ≠ []) (hl : bs.length ≤ 1000000000) : Calls Try.prog 64 #[.pointer (some ⟨p, 0, none⟩)] w (ClonePost bs w) := by
  obtain ⟨v, hp, ho⟩ := h.at_
  obtain ⟨A, c, rfl, hr⟩ := own_rdByte ho
  have HC := Lib.hid (bclone_any bs A c w hr h1 hne hl)
  obtain ⟨n, hn⟩ : ∃ n, n = bs.length := ⟨_, rfl⟩
  rw [← hn] at HC hp
  have c0 : w.cell? ⟨p, 0, none⟩ = some (.slice A n c) := block_cell hp
  clear hp ho hr h h1 hl hn
  go_enter Try.func64, Try.ntmps64
  go_wp2_with fail
  refine HC.out.mono ?_
  rintro e w2 ⟨v', rfl, h2, h3⟩
  have H2 := Lib.hid (And.intro h2 h3)
  clear h2 h3 HC c0
  go_wp2_with fail
  go_ret
  exact ⟨v', rfl, H2.out⟩
theorem bytesV_len (xs : List Int) : (bytesV xs).length = xs.length := by simp [bytesV]
theorem bytesV_one (xs : List Int) : ∀ u ∈ bytesV xs, u.oneCell' = true := fun u hu => by
  obtain ⟨b, _, rfl⟩ := List.mem_map.1 hu
  rfl
theorem lastC_four (S : Int) : ∃ x0 x1 x2 x3 : Int, lastC S 4 = #[.int .u8 x0, .int .u8 x1, .int .u8 x2, .int .u8 x3] := ⟨_, _, _, _, by unfold lastC; simp [List.range, List.range.loop]; exact ⟨rfl, rfl, rfl, rfl⟩⟩
/-- Bytes, sealed. -/
def sealV (xs : List Int) : List Value := bytesV xs ++ lastV (moreS 1 xs % 4294967296)
def SealPost (xs : List Int) (w : World) (e : Ending) (w' : World) : Prop := ∃ v', e = .returned v' ∧ w'.ownsRow w.heap.size 5 1 v' (xs.length + 4) (sealV xs) ∧ Below w.heap.size w w'
set_option maxRecDepth 100000 in
set_option maxHeartbeats 1600000 in
theorem seal_any (A : Option Addr) (c : Nat) (xs : List Int) (w : World) (h : RdA w A (bytesV xs)) (hne : xs ≠ []) (hl : xs.length ≤ 900000000) : Calls Try.prog 63 #[.slice A xs.length c] w (SealPost xs w) := by
  have HSUM := Lib.hid (sum_any A c xs w h (by omega))
  have HSV := Lib.hid (show sealV xs = bytesV xs ++ lastV (moreS 1 xs % 4294967296) from rfl)
  have HNE := Lib.hid (show bytesV xs ≠ [] from fun e => hne (List.map_eq_nil_iff.1 e))
  have HBL := Lib.hid (bytesV_len xs)
  have H1 := Lib.hid (bytesV_one xs)
  have HR := Lib.hid h
  obtain ⟨S, hS⟩ : ∃ S, S = moreS 1 xs % 4294967296 := ⟨_, rfl⟩
  obtain ⟨n, hn⟩ : ∃ n, n = xs.length := ⟨_, rfl⟩
  have HLST := Lib.hid (last_any S (by omega) w)
  obtain ⟨x0, x1, x2, x3, hx⟩ := lastC_four S
  have HX := Lib.hid (show lastV S = [.int .u8 x0, .int .u8 x1, .int .u8 x2, .int .u8 x3] by unfold lastV; rw [hx])
  rw [hx] at HLST
  unfold SealPost
  rw [← hn] at HSUM hl HBL ⊢
  rw [← hS] at HSUM HSV
  clear hS hn hx h hne
  obtain ⟨iI, hiI, hz0, hz1, hz2⟩ := info_parts infoTBv
  go_enter Try.func63, Try.ntmps63
  go_wp2_with fail
  refine HSUM.out.mono ?_
  rintro e w' ⟨rfl, rfl⟩
  go_wp2_with fail
  refine HLST.out.mono ?_
  rintro e w2 ⟨rfl, hb2⟩
  have HB2 := Lib.hid hb2
  clear hb2
  go_upto_region 2 with fail
  obtain ⟨W3, hW3⟩ : ∃ W3, W3 = w2.alloc (.cells #[.int .u8 x0, .int .u8 x1, .int .u8 x2, .int .u8 x3] 138) := ⟨_, rfl⟩
  obtain ⟨q, hq⟩ : ∃ q, q = w2.heap.size := ⟨_, rfl⟩
  have hb3 : Below w2.heap.size w2 W3 := by rw [hW3]; exact (Below.refl _ _).alloc (Nat.le_refl _) _
  have hq3 : W3.heap[q]? = some (.cells #[.int .u8 x0, .int .u8 x1, .int .u8 x2, .int .u8 x3] 138 (0, 0)) := by rw [hW3, hq]; exact alloc_new _ _
  rw [← hW3, ← hq]
  have HQ := Lib.hid hq3
  have HB3 := Lib.hid (HB2.out.trans (hb3.mono HB2.out.size))
  clear hW3 hq hb3 hq3
  have HCL := Lib.hid (bclone_any (bytesV xs) A c W3.drew (HR.out.below (HB3.out.trans ((Below.refl _ W3).drew.mono HB3.out.size))) H1.out HNE.out (by rw [HBL.out]; omega))
  rw [HBL.out] at HCL
  refine wp_region_held_drew (S := fun _ => True) (by kernel_rfl) trivial fun hS => ?_
  refine takeR 0 (v := ?_) rfl (by kernel_rfl) (by kernel_rfl) (by kernel_rfl) (fun _ _ _ h => h) (Or.inl ⟨by rfl, ?_⟩) hS ?_
  rotate_left; · (intro w hSw; go_simp; (try with_reducible rfl))
  try simp only [Act.put, List.setIfInBounds_toArray, List.set_cons_zero, List.set_cons_succ]
  refine takeR 2 (v := ?_) rfl (by kernel_rfl) (by kernel_rfl) (by kernel_rfl) (fun _ _ _ h => h) (Or.inl ⟨by rfl, ?_⟩) hS ?_
  rotate_left; · (intro w hSw; go_simp; (try with_reducible rfl))
  try simp only [Act.put, List.setIfInBounds_toArray, List.set_cons_zero, List.set_cons_succ]
  refine oneR 1 (by kernel_rfl) rfl (fun K hK => ?_)
  go_simp
  refine HCL.out.mono ?_
  rintro e w4 ⟨v4, rfl, ho4, hb4⟩
  rw [HBL.out] at ho4
  have HO4 := Lib.hid ho4
  have HB4 := Lib.hid hb4
  have HQ4 := Lib.hid ((Below.block hb4 q (block_lt HQ.out)).trans HQ.out)
  clear ho4 hb4
  refine hK.out _ _ trivial (fun hS => ?_)
  clear hK K
  try simp only [Act.put, List.setIfInBounds_toArray, List.set_cons_zero, List.set_cons_succ]
  refine oneR 3 (by kernel_rfl) rfl (fun K hK => ?_)
  refine step_append_own_k rfl _ _ 73 rfl W3.drew.heap.size 5 iI _ 1 1 Try.underlying73 hiI hz0 hz1 hz2 rfl (by decide) v4 n _ (by go_simp) HO4.out ⟨q, 0, none⟩ 4 4 [.int .u8 x0, .int .u8 x1, .int .u8 x2, .int .u8 x3] (by go_simp) rfl (fun j u hj => by
    rw [WideShapes.add_plain, Nat.zero_add, block_cell HQ4.out]
    simpa using hj) (by simp [Value.oneCell']) (by unfold maxLen; omega) (by omega) HB4.out.size ?_
  intro v5 w5 ho5 hg5 ha5
  have HO5 := Lib.hid (own_lower ho5 (show w'.heap.size ≤ W3.drew.heap.size from HB3.out.size))
  have HB5 := Lib.hid (HB3.out.trans ((below_grown (((Below.refl _ W3).drew).trans HB4.out) hg5 HB4.out.size (fun k e => own_geV HO4.out e)).mono HB3.out.size))
  clear ho5 hg5 ha5
  refine hK.out _ _ trivial (fun hS => ?_)
  clear hK K
  try simp only [Act.put, List.setIfInBounds_toArray, List.set_cons_zero, List.set_cons_succ]
  refine takeR 4 (v := ?_) rfl (by kernel_rfl) (by kernel_rfl) (by kernel_rfl) (fun _ _ _ h => h) (Or.inl ⟨by rfl, ?_⟩) hS ?_
  rotate_left; · (intro w hSw; go_simp; (try with_reducible rfl))
  try simp only [Act.put, List.setIfInBounds_toArray, List.set_cons_zero, List.set_cons_succ]
  refine doneR (by kernel_rfl) ?_
  go_wp2_with fail
  go_ret
  exact ⟨_, rfl, by rw [HSV.out, HX.out]; exact HO5.out, HB5.out⟩
end Go.Proofs.Ytnnadhfpkplncaa

