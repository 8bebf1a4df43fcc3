/- What a list of acts reads as (law 20). No condition of its own. -/
import Derived.Test.YtnnadhfpkplncaaVoLawP
namespace Go.Proofs.Ytnnadhfpkplncaa
open Go.RowKit

def f2 : Nat → Int := fK (fun _ => 0) 0 [1, 2] 2
def f4 : Nat → Int := fK f2 0 [3] 1
theorem f2_far : ∀ a : Nat, (2 : Int) ≤ (a : Int) → f2 a = 0 := fK_far (fun _ => 0) 0 2 [1, 2] (by omega) (fun _ _ => rfl) 2 (by omega)
theorem f4_far : ∀ a : Nat, (2 : Int) ≤ (a : Int) → f4 a = 0 := fK_far f2 0 2 [3] (by omega) f2_far 1 (by omega)
theorem nums_two {f : Nat → Int} {p q : Int} (h : ∀ a : Nat, (2 : Int) ≤ (a : Int) → f a = 0) (h0 : f 0 = p) (h1 : f 1 = q) (hp : p ≠ 0) (hq : q ≠ 0) : numsL f = [p, q] := by
  unfold numsL
  rw [items_eq]
  have e : List.range 4096 = [0, 1] ++ (List.range 4094).map (2 + ·) := by
    rw [show ([0, 1] : List Nat) = List.range 2 from rfl, ← List.range_add]
  have h2 : ((List.range 4094).map (2 + ·)).filter (fun a => decide (f a ≠ 0)) = [] := by
    refine List.filter_eq_nil_iff.2 fun a ha => ?_
    obtain ⟨b, _, rfl⟩ := List.mem_map.1 ha
    rw [h _ (by omega)]
    simp
  rw [e, List.filter_append, h2, List.append_nil]
  simp [h0, h1, hp, hq]
theorem nums_f2 : numsL f2 = [1, 2] := nums_two f2_far (by decide) (by decide) (by decide) (by decide)
theorem nums_f4 : numsL f4 = [3, 2] := nums_two f4_far (by decide) (by decide) (by decide) (by decide)
def x1 : Vol := mkV [97] 8 4
theorem cut_nil {t : List UInt8} {i : Nat} (h : Cut [] t i) : i = 0 := by have := h.le; simpa using this
theorem put_nil {v : Vol} : putV [] 0 v = [v] := rfl
theorem put_own {x v : Vol} {l : List Vol} (h : x.name = v.name) : putV (x :: l) 0 v = v :: l := by
  unfold putV hasAt
  simp [h]
theorem put_two {x v : Vol} (h : hasAt [x] 1 v.name = false) : putV [x] 1 v = [x, v] := by
  unfold putV
  rw [if_neg (by rw [h]; simp)]
  rfl
theorem cut_b {x : Vol} (hx : x.name = [97]) {i : Nat} (h : Cut [x] [98] i) : i = 1 := by
  have h1 := h.le
  simp only [List.length_cons, List.length_nil] at h1
  rcases (show i = 0 ∨ i = 1 by omega) with rfl | h2
  · have := h.hi 0 x (Nat.le_refl _) rfl
    rw [hx] at this
    exact absurd (by decide) this
  · exact h2
theorem keys_are {L K M : List Int} (h : KeysOf L K) (hm : M.Nodup) (hs : M.Pairwise fun x y => x ≤ y) (hmem : ∀ i, i ∈ M ↔ i ∈ L) (hw : ∀ y ∈ L, wfI y) : K = M := by
  have hp : K.Perm M := (List.perm_ext_iff_of_nodup h.1 hm).2 fun i => by
    rw [h.2.1 i, hmem i]
    exact ⟨fun a => a.2, fun a => ⟨hw i a, a⟩⟩
  exact hp.eq_of_pairwise (fun a b _ _ h1 h2 => Int.le_antisymm h1 h2) h.2.2 hs
theorem rd_new (w : World) (xs : List Int) : RdA (w.alloc (.cells (zs xs).toArray 3)) (some ⟨w.heap.size, 0, none⟩) (zs xs) := fun i u hi => ⟨_, _, rfl, by
  rw [Nat.zero_add, block_cell (alloc_new _ _)]
  simpa using hi⟩
theorem bad_no2 : ∀ y ∈ ([1, 2] : List Int), badN y = false := by decide
theorem bad_no3 : ∀ y ∈ ([3] : List Int), badN y = false := by decide
set_option maxRecDepth 100000 in
set_option maxHeartbeats 12800000 in
theorem vsure_any (w : World) : Calls Try.prog 32 #[] w (BoolPost true w) := by
  have HM := Lib.hid (vmake_any none [] [97] 8 4 w ⟨fun x hx => (by cases hx), Or.inl ⟨rfl, rfl⟩⟩ List.Pairwise.nil (by simp))
  go_enter Try.func32, Try.ntmps32
  go_wp2_with fail
  refine HM.out.mono ?_
  rintro e w1 ⟨hb1, ⟨_, hno⟩ | ⟨_, i, b1, hc, _, _, rfl, hs1⟩⟩
  · exact absurd ⟨Or.inl rfl, ⟨by decide, by decide, by decide, by decide⟩, fun x hx => (by cases hx), by simp⟩ hno
  obtain rfl := cut_nil hc
  rw [put_nil] at hs1
  have HS1 := Lib.hid (show RdS w1 (some ⟨b1, 0, none⟩) [x1] from hs1)
  have HB1 := Lib.hid hb1
  have HG1 := Lib.hid (show Good [x1] from good_put (v := x1) good_nil (i := 0) hc (ok_mk ⟨by decide, by decide, by decide, by decide⟩) (Or.inr (by simp)))
  clear hs1 hb1 hc HM
  have hbk1 : Below w1.heap.size w1 (w1.alloc (.cells #[.int .i64 1, .int .i64 2] 3)) := (Below.refl _ _).alloc (Nat.le_refl _) _
  have HP := Lib.hid (vput_any (some ⟨b1, 0, none⟩) [x1] [97] 0 [1, 2] (some ⟨w1.heap.size, 0, none⟩) 2 (w1.alloc (.cells #[.int .i64 1, .int .i64 2] 3)) (HS1.out.below hbk1) HG1.out.up (by simp) HG1.out.bnd (rd_new w1 [1, 2]) (by simp))
  have HBK := Lib.hid hbk1
  clear hbk1
  go_wp2_with fail
  refine HP.out.mono ?_
  rintro e w2 ⟨hb2, ⟨_, hno⟩ | ⟨_, i, x, b2, A2, B2, c2, hx, hxt, hc, hin, rfl, _, hs2⟩⟩
  · exact absurd ⟨bad_no2, x1, List.mem_cons_self, rfl, ⟨by decide, by decide, by decide, by decide⟩, rfl, Or.inl (by decide)⟩ hno
  have hi0 : i = 0 := by
    have := (List.getElem?_eq_some_iff.1 hx).1
    simpa using this
  subst hi0
  obtain rfl : x1 = x := Option.some.inj hx
  rw [put_own (x := x1) (v := putX x1 0 [1, 2] A2) (l := []) rfl] at hs2
  obtain ⟨x2, hx2⟩ : ∃ x2, x2 = putX x1 0 [1, 2] A2 := ⟨_, rfl⟩
  have hG2 : Good [x2] := by
    have := good_put (v := putX x1 0 [1, 2] A2) HG1.out (i := 0) hc (ok_put (HG1.out.ok x1 List.mem_cons_self) hin bad_no2 A2) (Or.inl (Cut.has HG1.out.up hx hc).2)
    rw [put_own (x := x1) (v := putX x1 0 [1, 2] A2) (l := []) rfl] at this
    rw [hx2]
    exact this
  have hx2n : x2.name = [97] ∧ x2.f = f2 ∧ x2.blocks = 8 ∧ x2.quota = 4 ∧ x2.used = 2 ∧ x2.frozen = false := by rw [hx2]; exact ⟨rfl, rfl, rfl, rfl, (show uK x1.used x1.f 0 [1, 2] 2 = 2 by decide), rfl⟩
  rw [← hx2] at hs2
  have HS2 := Lib.hid hs2
  have HB2 := Lib.hid ((HB1.out.trans (HBK.out.mono HB1.out.size)).trans (hb2.mono (HB1.out.trans (HBK.out.mono HB1.out.size)).size))
  have HG2 := Lib.hid hG2
  have HX2 := Lib.hid hx2n
  clear hs2 hb2 hx hxt hc hin hG2 hx2 hx2n HP HBK HS1
  have HC := Lib.hid (vcopy_any (some ⟨b2, 0, none⟩) [x2] [97] [98] true w2 HS2.out HG2.out.up (by simp))
  go_wp2_with fail
  refine HC.out.mono ?_
  rintro e w3 ⟨hb3, ⟨_, hno⟩ | ⟨x, i, b3, u3, hx, hxt, hc, hh, _, rfl, hs3⟩⟩
  · refine absurd ⟨Or.inr rfl, ⟨x2, List.mem_cons_self, HX2.out.1⟩, fun x hx => ?_, by simp⟩ hno
    obtain rfl := List.mem_singleton.1 hx
    rw [HX2.out.1]
    decide
  obtain rfl := List.mem_singleton.1 hx
  obtain rfl := cut_b HX2.out.1 hc
  obtain ⟨x3, hx3⟩ : ∃ x3, x3 = cpV x [98] true := ⟨_, rfl⟩
  have hG3 : Good [x, x3] := by
    have := good_put (v := cpV x [98] true) HG2.out (i := 1) hc (ok_cp (HG2.out.ok x List.mem_cons_self) _ _) (Or.inr (by simp))
    rw [put_two hh] at this
    rw [hx3]
    exact this
  rw [put_two hh, ← hx3] at hs3
  have HS3 := Lib.hid hs3
  have HB3 := Lib.hid (HB2.out.trans (hb3.mono HB2.out.size))
  have HG3 := Lib.hid hG3
  have HX3 := Lib.hid (show x3.name = [98] ∧ x3.f = f2 ∧ x3.blocks = 8 by rw [hx3]; exact ⟨rfl, HX2.out.2.1, HX2.out.2.2.1⟩)
  clear hs3 hb3 hx hxt hc hh hG3 hx3 HC HS2 HB2
  have hbk3 : Below w3.heap.size w3 (w3.alloc (.cells #[.int .i64 3] 3)) := (Below.refl _ _).alloc (Nat.le_refl _) _
  have HP := Lib.hid (vput_any (some ⟨b3, 0, none⟩) [x, x3] [97] 0 [3] (some ⟨w3.heap.size, 0, none⟩) 1 (w3.alloc (.cells #[.int .i64 3] 3)) (HS3.out.below hbk3) HG3.out.up (by simp) HG3.out.bnd (rd_new w3 [3]) (by simp))
  have HBK := Lib.hid hbk3
  clear hbk3
  have HUK := Lib.hid (show uK x.used x.f 0 [3] 1 = 2 by rw [HX2.out.2.1, HX2.out.2.2.2.2.1]; decide)
  have HIR := Lib.hid (show inR x 0 ([3] : List Int).length from ⟨by decide, by decide, by rw [HX2.out.2.2.1]; decide, by rw [HX2.out.2.2.1]; decide⟩)
  go_wp2_with fail
  refine HP.out.mono ?_
  rintro e w4 ⟨hb4, ⟨_, hno⟩ | ⟨_, i, xx, b4, A4, B4, c4, hx, hxt, hc, hin, rfl, _, hs4⟩⟩
  · exact absurd ⟨bad_no3, x, List.mem_cons_self, HX2.out.1, HIR.out, HX2.out.2.2.2.2.2, Or.inl (by show uK x.used x.f 0 [3] 1 ≤ x.quota; rw [HUK.out, HX2.out.2.2.2.1]; decide)⟩ hno
  have hij := (Cut.has HG3.out.up (show ([x, x3] : List Vol)[0]? = some x from rfl) (by rw [HX2.out.1]; exact hc)).1
  subst hij
  obtain rfl : x = xx := Option.some.inj hx
  rw [put_own (x := x) (v := putX x 0 [3] A4) (l := [x3]) rfl] at hs4
  obtain ⟨x4, hx4⟩ : ∃ x4, x4 = putX x 0 [3] A4 := ⟨_, rfl⟩
  have hG4 : Good [x4, x3] := by
    have := good_put (v := putX x 0 [3] A4) HG3.out (i := 0) (show Cut _ x.name 0 by rw [HX2.out.1]; exact hc) (ok_put (HG3.out.ok x List.mem_cons_self) hin bad_no3 A4) (Or.inl (by show hasAt [x, x3] 0 x.name = true; unfold hasAt; simp))
    rw [put_own (x := x) (v := putX x 0 [3] A4) (l := [x3]) rfl] at this
    rw [hx4]
    exact this
  rw [← hx4] at hs4
  have HS4 := Lib.hid hs4
  have HB4 := Lib.hid ((HB3.out.trans (HBK.out.mono HB3.out.size)).trans (hb4.mono (HB3.out.trans (HBK.out.mono HB3.out.size)).size))
  have HG4 := Lib.hid hG4
  have HX4 := Lib.hid (show x4.f = f4 by rw [hx4]; show fK x.f 0 [3] 1 = f4; rw [HX2.out.2.1]; rfl)
  clear hs4 hb4 hx hxt hc hin hG4 hx4 HP HBK HS3 HUK HIR
  have HGE := Lib.hid (gets_any (some ⟨b4, 0, none⟩) [x4, x3] [98] 0 1 w4 HS4.out HG4.out.up (by simp) (fun y hy => ⟨(HG4.out.bnd y hy).1, (HG4.out.bnd y hy).2.1⟩))
  go_wp2_with fail
  refine HGE.out.mono ?_
  rintro e w5 ⟨hb5, ⟨i, y, A5, c5, N5, hy, hyt, hc, _, hN, rfl, hr5⟩ | ⟨k, rfl, hno⟩⟩
  rotate_left
  · exact absurd ⟨by decide, by decide, by rw [HX3.out.2.2]; decide, by rw [HX3.out.2.2]; decide⟩ (hno x3 (by simp) HX3.out.1)
  obtain rfl : N5 = 1 := by omega
  have hy3 := up_one HG4.out.up (List.mem_of_getElem? hy) (show x3 ∈ [x4, x3] by simp) (by rw [hyt, HX3.out.1])
  subst hy3
  have HR5 := Lib.hid (show RdA w5 A5 (zs [1]) by
    have e : getN y.f 0 1 = [1] := by rw [HX3.out.2.1]; decide
    rwa [e] at hr5)
  have HB5 := Lib.hid (HB4.out.trans (hb5.mono HB4.out.size))
  have HS5 := Lib.hid (HS4.out.below hb5)
  clear hb5 hy hyt hc hN hr5 HGE HS4
  have HCO := Lib.hid (counts_any (some ⟨b4, 0, none⟩) [x4, y] w5 HS5.out (by simp) (fun z hz => (HG4.out.ok z hz).num))
  go_wp2_with fail
  refine HCO.out.mono ?_
  rintro e w6 ⟨A6, B6, c6, d6, K, rfl, hK, hrA, hrB, hb6⟩
  have hall : allN [x4, y] = [3, 2, 1, 2] := by
    show numsL x4.f ++ (numsL y.f ++ []) = _
    rw [HX4.out, HX3.out.2.1, nums_f4, nums_f2]
    rfl
  rw [hall] at hK hrB
  have hKe : K = [1, 2, 3] := keys_are hK (by decide) (by decide) (fun i => by simp; omega) (fun z hz => by
    rw [← hall] at hz
    exact all_wf HG4.out.ok z hz)
  subst hKe
  have HRA := Lib.hid (show RdA w6 A6 (zs [1, 2, 3]) from hrA)
  have HRB := Lib.hid (show RdA w6 B6 (zs [1, 2, 1]) from hrB)
  have HR6 := Lib.hid (HR5.out.below hb6)
  have HB6 := Lib.hid (HB5.out.trans (hb6.mono HB5.out.size))
  clear hK hrA hrB hb6 hall HCO HS5
  have hk7 : Below w6.heap.size w6 (w6.alloc (.cells #[.int .i64 1] 3)) := (Below.refl _ _).alloc (Nat.le_refl _) _
  have HI7 := Lib.hid (vints_any A5 (some ⟨w6.heap.size, 0, none⟩) c5 1 [1] [1] (w6.alloc (.cells #[.int .i64 1] 3)) (HR6.out.below hk7) (rd_new w6 [1]) (by simp))
  have HK7 := Lib.hid hk7
  clear hk7
  go_wp2_with fail
  refine HI7.out.mono ?_
  rintro e w7 ⟨rfl, hb7⟩
  have hB7 := HB6.out.trans ((HK7.out.trans (hb7.mono HK7.out.size)).mono HB6.out.size)
  have hk67 := HK7.out.trans (hb7.mono HK7.out.size)
  have HRA7 := Lib.hid (HRA.out.below hk67)
  have HRB7 := Lib.hid (HRB.out.below hk67)
  have HB7 := Lib.hid hB7
  clear hB7 hk67 hb7 HI7 HK7 HR6
  have hk8 : Below w7.heap.size w7 (w7.alloc (.cells #[.int .i64 1, .int .i64 2, .int .i64 3] 3)) := (Below.refl _ _).alloc (Nat.le_refl _) _
  have HI8 := Lib.hid (vints_any A6 (some ⟨w7.heap.size, 0, none⟩) c6 3 [1, 2, 3] [1, 2, 3] (w7.alloc (.cells #[.int .i64 1, .int .i64 2, .int .i64 3] 3)) (HRA7.out.below hk8) (rd_new w7 [1, 2, 3]) (by simp))
  have HK8 := Lib.hid hk8
  clear hk8
  go_wp2_with fail
  refine HI8.out.mono ?_
  rintro e w8 ⟨rfl, hb8⟩
  have hk78 := HK8.out.trans (hb8.mono HK8.out.size)
  have HRB8 := Lib.hid (HRB7.out.below hk78)
  have HB8 := Lib.hid (HB7.out.trans (hk78.mono HB7.out.size))
  clear hk78 hb8 HI8 HK8
  have hk9 : Below w8.heap.size w8 (w8.alloc (.cells #[.int .i64 1, .int .i64 2, .int .i64 1] 3)) := (Below.refl _ _).alloc (Nat.le_refl _) _
  have HI9 := Lib.hid (vints_any B6 (some ⟨w8.heap.size, 0, none⟩) d6 3 [1, 2, 1] [1, 2, 1] (w8.alloc (.cells #[.int .i64 1, .int .i64 2, .int .i64 1] 3)) (HRB8.out.below hk9) (rd_new w8 [1, 2, 1]) (by simp))
  have HK9 := Lib.hid hk9
  clear hk9
  go_wp2_with fail
  refine HI9.out.mono ?_
  rintro e w9 ⟨rfl, hb9⟩
  have HB9 := Lib.hid (HB8.out.trans ((HK9.out.trans (hb9.mono HK9.out.size)).mono HB8.out.size))
  clear hb9 HI9 HK9
  go_wp2_with fail
  go_ret
  exact ⟨rfl, HB9.out⟩

structure ActV where
  kind : Int
  a : Int
  b : Int
  name : List UInt8
  from_ : List UInt8
  A : Option Addr
  c : Nat
  ys : List Int
def avcells (x : ActV) : List Value := [.int .i64 x.kind, .int .i64 x.a, .int .i64 x.b, .string ⟨x.name.toArray⟩, .string ⟨x.from_.toArray⟩, .slice x.A x.ys.length x.c]
def avs (l : List ActV) : List Value := l.flatMap avcells
theorem avs_cons (y : ActV) (l : List ActV) : avs (y :: l) = .int .i64 y.kind :: .int .i64 y.a :: .int .i64 y.b :: .string ⟨y.name.toArray⟩ :: .string ⟨y.from_.toArray⟩ :: .slice y.A y.ys.length y.c :: avs l := rfl
theorem avs_at {r : List ActV} {i : Nat} {x : ActV} (h : r[i]? = some x) : (avs r)[i * 6]? = some (.int .i64 x.kind) ∧ (avs r)[i * 6 + 1]? = some (.int .i64 x.a) ∧ (avs r)[i * 6 + 2]? = some (.int .i64 x.b) ∧
    (avs r)[i * 6 + 3]? = some (.string ⟨x.name.toArray⟩) ∧ (avs r)[i * 6 + 4]? = some (.string ⟨x.from_.toArray⟩) ∧ (avs r)[i * 6 + 5]? = some (.slice x.A x.ys.length x.c) := by
  induction r generalizing i with
  | nil => simp at h
  | cons y r ih =>
    rw [avs_cons]
    cases i with
    | zero =>
      simp only [List.getElem?_cons_zero, Option.some.injEq] at h
      subst h
      exact ⟨rfl, rfl, rfl, rfl, rfl, rfl⟩
    | succ i =>
      have := ih (i := i) (by simpa using h)
      rw [show (i + 1) * 6 = i * 6 + 1 + 1 + 1 + 1 + 1 + 1 by omega]
      exact this
theorem avs_get {l : List ActV} {i : Nat} {u : Value} (h : (avs l)[i]? = some u) : ∃ x, l[i / 6]? = some x ∧ (avcells x)[i % 6]? = some u := by
  induction l generalizing i with
  | nil => simp [avs] at h
  | cons y l ih =>
    rw [avs_cons] at h
    match i, h with
    | 0, h => exact ⟨y, rfl, h⟩
    | 1, h => exact ⟨y, rfl, h⟩
    | 2, h => exact ⟨y, rfl, h⟩
    | 3, h => exact ⟨y, rfl, h⟩
    | 4, h => exact ⟨y, rfl, h⟩
    | 5, h => exact ⟨y, rfl, h⟩
    | i + 6, h =>
      obtain ⟨x, h1, h2⟩ := ih (i := i) (by simpa using h)
      exact ⟨x, by rw [show (i + 6) / 6 = i / 6 + 1 by omega]; simpa using h1, by rw [show (i + 6) % 6 = i % 6 by omega]; exact h2⟩
structure OkActV (W : World) (x : ActV) : Prop where
  rd : RdA W x.A (zs x.ys)
  len : x.ys.length ≤ 140737488355328
def ActsV (W : World) (v : Value) : Prop := ∃ (A : Option Addr) (c : Nat) (l : List ActV), v = .slice A l.length c ∧ l.length ≤ c ∧ l.length ≤ 140737488355328 ∧ RdA W A (avs l) ∧ ∀ x ∈ l, OkActV W x
theorem av_at {w : World} {A : Option Addr} {r : List ActV} (h : RdA w A (avs r)) {i : Nat} {x : ActV} (hx : r[i]? = some x) : ∃ b o, A = some ⟨b, o, none⟩ ∧ w.cell? ⟨b, o + i * 6, none⟩ = some (.int .i64 x.kind) ∧ w.cell? ⟨b, o + i * 6 + 1, none⟩ = some (.int .i64 x.a) ∧
    w.cell? ⟨b, o + i * 6 + 2, none⟩ = some (.int .i64 x.b) ∧ w.cell? ⟨b, o + i * 6 + 3, none⟩ = some (.string ⟨x.name.toArray⟩) ∧ w.cell? ⟨b, o + i * 6 + 4, none⟩ = some (.string ⟨x.from_.toArray⟩) ∧ w.cell? ⟨b, o + i * 6 + 5, none⟩ = some (.slice x.A x.ys.length x.c) := by
  obtain ⟨h0, h1, h2, h3, h4, h5⟩ := avs_at hx
  obtain ⟨b, o, e, c0⟩ := h _ _ h0
  obtain ⟨b1, o1, e1, c1⟩ := h _ _ h1
  obtain ⟨b2, o2, e2, c2⟩ := h _ _ h2
  obtain ⟨b3, o3, e3, c3⟩ := h _ _ h3
  obtain ⟨b4, o4, e4, c4⟩ := h _ _ h4
  obtain ⟨b5, o5, e5, c5⟩ := h _ _ h5
  rw [e] at e1 e2 e3 e4 e5
  cases e1
  cases e2
  cases e3
  cases e4
  cases e5
  exact ⟨b, o, e, c0, by rw [Nat.add_assoc]; exact c1, by rw [Nat.add_assoc]; exact c2, by rw [Nat.add_assoc]; exact c3, by rw [Nat.add_assoc]; exact c4, by rw [Nat.add_assoc]; exact c5⟩
end Go.Proofs.Ytnnadhfpkplncaa
