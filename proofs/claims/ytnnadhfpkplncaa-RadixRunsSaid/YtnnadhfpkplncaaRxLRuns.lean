/- 'RadixRuns': whatever is set, the tree says what the reference says, and where it differs from each one ahead of it. Condition: the items read. -/
import Derived.Test.YtnnadhfpkplncaaRxLDiffs
namespace Go.Proofs.Ytnnadhfpkplncaa
open Go.RowKit

theorem infoTITEMS : (Try.prog.info? 22).map (fun i => (i.zero, i.size, i.bytes)) = some (some (.slice none 0 0), 1, 24) := by kernel_rfl
theorem lst_bare {f : Nat → Int} {S : Nat → Nat → Option Nat} {A : Option Addr} {w : World} (h : RdR f S w A) : A = none ↔ (lstF f).length = 0 := by
  rw [lst_len, List.length_eq_zero_iff, ← items_bareB, bareB_iff, ← h.1.can 2 0 (by omega)]
  rcases h.2 with ⟨e1, e2⟩ | ⟨b, r, e1, e2, _⟩
  · simp [e1, e2]
  · simp [e1, e2]
theorem Same2.keepT {T : TypeId} {w w' : World} {A : Option Addr} {v : Value} {f : Nat → Int} (h : Same2 w A v f) (k : KeepT T w w') (h1 : 87 ≠ T) (h2 : 80 ≠ T) (h3 : 28 ≠ T) : Same2 w' A v f :=
  ⟨h.1.imp fun _ h => h.keepT k h1 h2, own_keepT h.2 k h3⟩
/-- The trees and the lists so far. -/
def Olds (w : World) (As : List (Option Addr)) (Vs : List Value) (fs : List (Nat → Int)) : Prop := ∀ (j : Nat) (f : Nat → Int), fs[j]? = some f → ∃ A v, As[j]? = some A ∧ Vs[j]? = some v ∧ Same2 w A v f
theorem Olds.keepT {T : TypeId} {w w' : World} {As : List (Option Addr)} {Vs : List Value} {fs : List (Nat → Int)} (h : Olds w As Vs fs) (k : KeepT T w w') (h1 : 87 ≠ T) (h2 : 80 ≠ T) (h3 : 28 ≠ T) : Olds w' As Vs fs := fun j f hj => by
  obtain ⟨A, v, a1, a2, a3⟩ := h j f hj
  exact ⟨A, v, a1, a2, a3.keepT k h1 h2 h3⟩
structure RunAt (W : World) (k : Nat) (A : Option Addr) (v1 o1 o2 : Value) (f : Nat → Int) (As : List (Option Addr)) (Vs : List Value) (fs : List (Nat → Int)) (w : World) : Prop where
  cur : Same2 w A v1 f
  o1 : w.ownsRow W.heap.size 23 1 o1 (k + 1) (As.map Value.pointer)
  o2 : w.ownsRow W.heap.size 22 1 o2 (k + 1) Vs
  old : Olds w As Vs fs
  len : fs.length = k + 1
  bl : Below W.heap.size W w
theorem own_below {E : TypeId} {base s n : Nat} {w w' : World} {v : Value} {xs : List Value} (h : w.ownsRow base E s v n xs) (k : Below w.heap.size w w') : w'.ownsRow base E s v n xs := own_keepT h (KeepT.of_below (T := E + 1) k) (Nat.ne_of_lt (Nat.lt_succ_self _))
theorem run_next {W w w1 w2 w3 : World} {k : Nat} {A A' : Option Addr} {v1 v1' o1 o2 o1' o2' : Value} {f f' : Nat → Int} {As : List (Option Addr)} {Vs : List Value} {fs : List (Nat → Int)} (h : RunAt W k A v1 o1 o2 f As Vs fs w) (hb : Below w.heap.size w w1) (hc : Same2 w1 A' v1' f')
    (k1 : KeepT 23 w1 w2) (k2 : KeepT 22 w2 w3) (q1 : w2.ownsRow W.heap.size 23 1 o1' (k + 1 + 1) ((As ++ [A']).map Value.pointer)) (q2 : w3.ownsRow W.heap.size 22 1 o2' (k + 1 + 1) (Vs ++ [v1'])) (bl : Below W.heap.size W w3) :
    RunAt W (k + 1) A' v1' o1' o2' f' (As ++ [A']) (Vs ++ [v1']) (fs ++ [f']) w3 := by
  have l1 : As.length = k + 1 := by simpa using h.o1.1
  have l2 : Vs.length = k + 1 := by simpa using h.o2.1
  have kk : ∀ {A : Option Addr} {v : Value} {f : Nat → Int}, Same2 w1 A v f → Same2 w3 A v f := fun q => (q.keepT k1 (by decide) (by decide) (by decide)).keepT k2 (by decide) (by decide) (by decide)
  refine ⟨kk hc, own_keepT q1 k2 (by decide), q2, fun j g hj => ?_, by simp [h.len], bl⟩
  rcases Nat.lt_or_ge j (k + 1) with hlt | hge
  · rw [List.getElem?_append_left (by rw [h.len]; exact hlt)] at hj
    obtain ⟨A0, v0, a1, a2, a3⟩ := h.old j g hj
    exact ⟨A0, v0, by rw [List.getElem?_append_left (by omega)]; exact a1, by rw [List.getElem?_append_left (by omega)]; exact a2, kk (a3.below hb)⟩
  · have hjk : j = k + 1 := by
      have := (List.getElem?_eq_some_iff.1 hj).1
      simp [h.len] at this
      omega
    subst hjk
    have hg : g = f' := by
      rw [List.getElem?_append_right (by rw [h.len]; exact Nat.le_refl _)] at hj
      rw [h.len] at hj
      simpa using hj.symm
    subst hg
    exact ⟨A', v1', by rw [List.getElem?_append_right (by omega), l1]; simp, by rw [List.getElem?_append_right (by omega), l2]; simp, kk hc⟩
theorem own_one {base : Nat} {E : TypeId} {w : World} {g : Nat} {u : Value} (hb : base ≤ g) (h : w.heap[g]? = some (.cells #[u] E (0, 0))) : w.ownsRow base E 1 (.slice (some ⟨g, 0, none⟩) 1 1) 1 [u] :=
  ⟨rfl, Or.inr ⟨g, 1, #[u], rfl, hb, h, Nat.le_refl _, by unfold maxLen; omega, rfl, rfl⟩⟩
theorem run_start (W : World) : RunAt W 0 none (.slice none 0 0) (.slice (some ⟨W.heap.size, 0, none⟩) 1 1) (.slice (some ⟨W.heap.size + 1, 0, none⟩) 1 1) (fun _ => 0) [none] [.slice none 0 0] [fun _ => 0] ((W.alloc (.cells #[.pointer none] 23)).alloc (.cells #[.slice none 0 0] 22)) := by
  have hb : Below W.heap.size W ((W.alloc (.cells #[.pointer none] 23)).alloc (.cells #[.slice none 0 0] 22)) := ((Below.refl _ _).alloc (Nat.le_refl _) _).alloc (by rw [World.size_alloc]; omega) _
  have hs := (Same2.nil W).below hb
  refine ⟨hs, ?_, ?_, fun j f hj => ?_, rfl, hb⟩
  · refine own_one (Nat.le_refl _) ?_
    have h1 := alloc_new W (.cells #[.pointer none] 23)
    have h2 : Below (W.alloc (.cells #[.pointer none] 23)).heap.size (W.alloc (.cells #[.pointer none] 23)) ((W.alloc (.cells #[.pointer none] 23)).alloc (.cells #[.slice none 0 0] 22)) := (Below.refl _ _).alloc (Nat.le_refl _) _
    exact (h2.block _ (by rw [World.size_alloc]; omega)).trans h1
  · have h1 := alloc_new (W.alloc (.cells #[.pointer none] 23)) (.cells #[.slice none 0 0] 22)
    rw [World.size_alloc] at h1
    exact own_one (by omega) h1
  · match j, hj with
    | 0, hj => cases hj; exact ⟨none, _, rfl, rfl, hs⟩
set_option maxRecDepth 100000 in
set_option maxHeartbeats 6400000 in
theorem runs_walk (v : Value) (z : Int) (W : World) (hin : ItemsIn W v) : Calls Try.prog 7 #[v, .int .i64 z] W (BoolPost true W) := by
  obtain ⟨B, c, l, rfl, hlc, hll, hrd⟩ := hin
  have HRD := Lib.hid hrd
  have H0 := Lib.hid (run_start W)
  obtain ⟨m, hm⟩ : ∃ m, m = l.length := ⟨_, rfl⟩
  rw [← hm] at hlc hll ⊢
  have HN := Lib.hid hm
  clear hrd hm
  go_enter Try.func7, Try.ntmps7
  go_wp2
  go_loopw [5, 6, 7, 8, 9] (fun t r o p i wr => ∃ (k : Nat) (A : Option Addr) (v1 o1 o2 : Value), k ≤ m ∧ k ≤ 40 ∧ i = .int .i64 k ∧ t = .pointer A ∧ r = v1 ∧ o = o1 ∧ p = o2 ∧ Hid (∃ f As Vs fs, RunAt W k A v1 o1 o2 f As Vs fs wr)) (fun _ _ _ _ i _ => 40 - (intOf i).toNat)
  case atStart => exact ⟨0, none, _, _, _, by omega, by omega, rfl, rfl, rfl, rfl, rfl, ⟨_, _, _, _, H0.out⟩⟩
  case round =>
    obtain ⟨k, A, v1, o1, o2, hk, hk30, rfl, rfl, rfl, rfl, rfl, hst⟩ := hrel
    obtain ⟨f, As, Vs, fs, hst⟩ := hst.out
    have HST := Lib.hid hst
    clear hst
    by_cases hgo : k < m ∧ k < 40
    · obtain ⟨hkm, hk3⟩ := hgo
      obtain ⟨x, hx⟩ : ∃ x, l[k]? = some x := ⟨_, List.getElem?_eq_getElem (by rw [← HN.out]; omega)⟩
      have hki : (k : Int) < (m : Int) := by omega
      have hki2 : (k : Int) < 40 := by omega
      have HBL := Lib.hid HST.out.bl
      obtain ⟨b, o, rfl, c1, c2⟩ := (RdItems.below HRD.out HBL.out).at hx
      obtain ⟨S, hr⟩ := HST.out.cur.1
      have HX := Lib.hid hx
      obtain ⟨at0, n0⟩ := x
      have HSET := Lib.hid (set_to f (setF f at0 n0) S A at0 n0 wr.drew (hr.below (Below.refl _ _).drew) rfl)
      clear hr hx
      go_wp2
      go_region_held3 (fun w' => w'.cell? ⟨b, o + k * 2, none⟩ = some (.int .i64 at0) ∧ w'.cell? ⟨b, o + k * 2 + 1, none⟩ = some (.int .i64 n0)) (first | exact ⟨c1, c2⟩ | exact ⟨c15, c25⟩)
        (first
        | (go_at_call 10; refine HSET.out.mono ?_; rintro e w5 ⟨A', rfl, hr5, hb5⟩; have hs5 := (below_drewN (Below.refl wr.heap.size wr) 1).trans hb5; have hbl5 := HBL.out.trans (hs5.mono HBL.out.size); have hrd5 := RdItems.at (RdItems.below HRD.out hbl5) HX.out; obtain ⟨b', o', eb, c15, c25⟩ := hrd5; cases eb; have HR5 := Lib.hid hr5; have HS5 := Lib.hid hs5; have HBL5 := Lib.hid hbl5; clear hr5 hb5 hs5 hbl5))
      have HRS := Lib.hid (rset_any f at0 n0 _ w5.drew (HST.out.cur.2.below (HS5.out.trans ((Below.refl _ _).drew.mono HS5.out.size))))
      clear c1 c2 HSET
      go_wp2
      go_region_held3 (fun w' => w'.cell? ⟨b, o + k * 2, none⟩ = some (.int .i64 at0) ∧ w'.cell? ⟨b, o + k * 2 + 1, none⟩ = some (.int .i64 n0)) (first | exact ⟨c15, c25⟩ | exact ⟨c16, c26⟩)
        (first
        | (go_at_call 17; refine HRS.out.mono ?_; rintro e w6 ⟨v6, rfl, hr6, hb6⟩; have hs6 := (below_drewN (Below.refl w5.heap.size w5) 1).trans hb6; have hbl6 := HBL5.out.trans (hs6.mono HBL5.out.size); have hrd6 := RdItems.at (RdItems.below HRD.out hbl6) HX.out; obtain ⟨b', o', eb, c16, c26⟩ := hrd6; cases eb; have HR6 := Lib.hid hr6; have HS6 := Lib.hid hs6; have HBL6 := Lib.hid hbl6; clear hr6 hb6 hs6 hbl6))
      have hw : IntKind.i64.wrap ((k : Int) + 1) = (k : Int) + 1 := IntWalk.i64_in _ (by omega)
      have HS56 := Lib.hid (HS5.out.trans (HS6.out.mono HS5.out.size))
      have HF := Lib.hid (show Same2 w6 A' v6 (setF f at0 n0) from ⟨HR5.out.imp fun _ h => h.below HS6.out, HR6.out⟩)
      obtain ⟨S6, hS6⟩ := HF.out.1
      have hnil := lst_bare hS6
      have HC := Lib.hid (fun w0 (h0 : Below w6.heap.size w6 w0) => And.intro (same_any _ _ A' v6 w0 (hS6.below h0) (HF.out.2.below h0)) (And.intro (get_any _ _ A' z w0 (hS6.below h0)) (And.intro (rget_any _ z v6 w0 (HF.out.2.below h0)) (And.intro (tnodes_any _ _ A' w0 (hS6.below h0)) (rnodes_any _ v6 w0 (HF.out.2.below h0))))))
      rw [nodes_len hS6.1 2 (by omega)] at HC
      obtain ⟨X6, c6, rfl, hc6, _⟩ := HF.out.2.read
      obtain ⟨L6, hL6⟩ : ∃ n, n = (lstF (setF f at0 n0)).length := ⟨_, rfl⟩
      obtain ⟨q, hq⟩ : ∃ q, q = getF (setF f at0 n0) z := ⟨_, rfl⟩
      obtain ⟨N, hN⟩ : ∃ N, N = nn (setF f at0 n0) 2 0 := ⟨_, rfl⟩
      rw [← hL6] at HC hc6 hnil HF
      rw [← hq, ← hN] at HC
      have hqq : (q != q) = false := by simp
      have hNN : ((N : Int) != (N : Int)) = false := by simp
      have HNIL := Lib.hid hnil
      rw [← hL6]
      clear hS6 hq hN hL6 hnil c15 c25 c16 c26 HRS HR5 HR6 HS5 HS6
      go_wp2_with fail
      refine (HC.out _ (Below.refl _ _)).1.mono ?_
      rintro e w7 ⟨rfl, hb7⟩
      have HB7 := Lib.hid hb7
      clear hb7
      go_wp2_with fail
      refine (HC.out _ HB7.out).2.1.mono ?_
      rintro e w8 ⟨rfl, hb8⟩
      have HB8 := Lib.hid (HB7.out.trans (hb8.mono HB7.out.size))
      clear hb8
      go_wp2_with fail
      refine (HC.out _ HB8.out).2.2.1.mono ?_
      rintro e w9 ⟨rfl, hb9⟩
      have HB9 := Lib.hid (HB8.out.trans (hb9.mono HB8.out.size))
      clear hb9
      go_wp2_with fail
      refine (HC.out _ HB9.out).2.2.2.1.mono ?_
      rintro e w10 ⟨rfl, hb10⟩
      have HB10 := Lib.hid (HB9.out.trans (hb10.mono HB9.out.size))
      clear hb10
      go_wp2_with fail
      refine (HC.out _ HB10.out).2.2.2.2.mono ?_
      rintro e w11 ⟨rfl, hb11⟩
      have HB11 := Lib.hid (HB10.out.trans (hb11.mono HB10.out.size))
      clear hb11 HB7 HB8 HB9 HB10 HC
      have HWR := Lib.hid (HS56.out.trans (HB11.out.mono HS56.out.size))
      have HBLW := Lib.hid (HBL6.out.trans (HB11.out.mono HBL6.out.size))
      have HF11 := Lib.hid (HF.out.below HB11.out)
      have R1 := Lib.hid (own_below HST.out.o1 HWR.out)
      have R2 := Lib.hid (own_below HST.out.o2 HWR.out)
      obtain ⟨i1, t1, t2, t3, t4⟩ := info_parts infoTTP
      obtain ⟨i2, s1, s2, s3, s4⟩ := info_parts infoTITEMS
      clear HB11 HF HS56
      rcases A' with _ | A'
      · have hl0 : L6 = 0 := HNIL.out.1 rfl
        have hlb : ((L6 : Int) == 0) = true := by simp [hl0]
        have HL0 := Lib.hid hl0
        clear hl0
        go_wp2_with (at_builtin; refine Hid.out ?_)
        unfold Hid
        refine app_one rfl (.tmp 75) (.tmp 77) 24 23 rfl i1 _ 8 Try.underlying24 t1 t2 t3 t4 rfl (by omega) W.heap.size _ (k + 1) _ rfl (R1.out.alloc _) w11.heap.size (.pointer none) rfl (block_cell (heap_alloc_new _ _)) rfl (by omega) (by have := HBLW.out.size; rw [World.size_alloc]; omega) ?_
        intro v1' w21 q1 g1 _
        have K1 := Lib.hid ((KeepT.alloc 23 w11 _).trans (KeepT.app (R1.out.alloc _) g1))
        have B21 := Lib.hid ((HBLW.out.alloc HBLW.out.size _).grown g1 (by have := HBLW.out.size; rw [World.size_alloc]; omega) fun k e => (R1.out.lt k e).1)
        have Q1 := Lib.hid q1
        have R22 := Lib.hid (own_keepT R2.out K1.out (by decide))
        clear q1 g1 t1 t2 t3 t4
        go_wp2_with (at_builtin; refine Hid.out ?_)
        unfold Hid
        refine app_one rfl (.tmp 79) (.tmp 81) 46 22 rfl i2 _ 24 Try.underlying46 s1 s2 s3 s4 rfl (by omega) W.heap.size _ (k + 1) _ rfl (R22.out.alloc _) w21.heap.size (.slice X6 L6 c6) rfl (block_cell (heap_alloc_new _ _)) rfl (by omega) (by have := B21.out.size; rw [World.size_alloc]; omega) ?_
        intro v2' w22 q2 g2 _
        have K2 := Lib.hid ((KeepT.alloc 22 w21 _).trans (KeepT.app (R22.out.alloc _) g2))
        have B22 := Lib.hid ((B21.out.alloc B21.out.size _).grown g2 (by have := B21.out.size; rw [World.size_alloc]; omega) fun k e => (R22.out.lt k e).1)
        have HN2 := Lib.hid (run_next HST.out HWR.out HF11.out K1.out K2.out (by rw [List.map_append]; exact Q1.out) q2 B22.out)
        clear q2 g2 s1 s2 s3 s4
        go_wp2
        exact ⟨⟨k + 1, _, _, v1', v2', by omega, by omega, by congr 1, rfl, rfl, rfl, rfl, ⟨_, _, _, _, HN2.out⟩⟩, by simp [intOf]; omega⟩
      · have hl0 : ¬ L6 = 0 := fun e => by have := HNIL.out.2 e; cases this
        have hlb : ((L6 : Int) == 0) = false := by simp; omega
        have HL0 := Lib.hid hl0
        clear hl0
        go_wp2_with (at_builtin; refine Hid.out ?_)
        unfold Hid
        refine app_one rfl (.tmp 75) (.tmp 77) 24 23 rfl i1 _ 8 Try.underlying24 t1 t2 t3 t4 rfl (by omega) W.heap.size _ (k + 1) _ rfl (R1.out.alloc _) w11.heap.size (.pointer (some A')) rfl (block_cell (heap_alloc_new _ _)) rfl (by omega) (by have := HBLW.out.size; rw [World.size_alloc]; omega) ?_
        intro v1' w21 q1 g1 _
        have K1 := Lib.hid ((KeepT.alloc 23 w11 _).trans (KeepT.app (R1.out.alloc _) g1))
        have B21 := Lib.hid ((HBLW.out.alloc HBLW.out.size _).grown g1 (by have := HBLW.out.size; rw [World.size_alloc]; omega) fun k e => (R1.out.lt k e).1)
        have Q1 := Lib.hid q1
        have R22 := Lib.hid (own_keepT R2.out K1.out (by decide))
        clear q1 g1 t1 t2 t3 t4
        go_wp2_with (at_builtin; refine Hid.out ?_)
        unfold Hid
        refine app_one rfl (.tmp 79) (.tmp 81) 46 22 rfl i2 _ 24 Try.underlying46 s1 s2 s3 s4 rfl (by omega) W.heap.size _ (k + 1) _ rfl (R22.out.alloc _) w21.heap.size (.slice X6 L6 c6) rfl (block_cell (heap_alloc_new _ _)) rfl (by omega) (by have := B21.out.size; rw [World.size_alloc]; omega) ?_
        intro v2' w22 q2 g2 _
        have K2 := Lib.hid ((KeepT.alloc 22 w21 _).trans (KeepT.app (R22.out.alloc _) g2))
        have B22 := Lib.hid ((B21.out.alloc B21.out.size _).grown g2 (by have := B21.out.size; rw [World.size_alloc]; omega) fun k e => (R22.out.lt k e).1)
        have HN2 := Lib.hid (run_next HST.out HWR.out HF11.out K1.out K2.out (by rw [List.map_append]; exact Q1.out) q2 B22.out)
        clear q2 g2 s1 s2 s3 s4
        go_wp2
        exact ⟨⟨k + 1, _, _, v1', v2', by omega, by omega, by congr 1, rfl, rfl, rfl, rfl, ⟨_, _, _, _, HN2.out⟩⟩, by simp [intOf]; omega⟩
    · have hor : (m : Int) ≤ (k : Int) ∨ ((k : Int) < (m : Int) ∧ (40 : Int) ≤ (k : Int)) := by omega
      clear hgo
      rcases hor with h1 | ⟨h1, h2⟩
      all_goals
        first
        | (have h1' : ¬ (k : Int) < (m : Int) := by omega
           clear h1)
        | (have h2' : ¬ (k : Int) < 40 := by omega
           clear h2)
        go_wp2
        have hst := HST.out
        have HR1 := Lib.hid hst.o1
        have HR2 := Lib.hid hst.o2
        obtain ⟨X1, k1, rfl, _, rx1, _⟩ := own_rdA hst.o1
        obtain ⟨X2, k2, rfl, _, rx2, _⟩ := own_rdA hst.o2
        have RX1 := Lib.hid rx1
        have RX2 := Lib.hid rx2
        have HB := Lib.hid hst.bl
        clear hst rx1 rx2 HR1 HR2
        go_wp2
        obtain ⟨wA, hwA⟩ : ∃ w0, w0 = wr := ⟨_, rfl⟩
        subst hwA
        go_loopw [10] (fun i w2 => ∃ j : Nat, j ≤ k + 1 ∧ i = .int .i64 j ∧ Below wA.heap.size wA w2) (fun i _ => k + 1 - (intOf i).toNat)
        case atStart => exact ⟨0, by omega, rfl, Below.refl _ _⟩
        case round =>
          obtain ⟨j, hj, rfl, hbj⟩ := hrel
          by_cases hjk : j < k + 1
          · obtain ⟨g, hg⟩ : ∃ g, fs[j]? = some g := ⟨_, List.getElem?_eq_getElem (by rw [HST.out.len]; exact hjk)⟩
            obtain ⟨A0, v0, a1, a2, a3⟩ := HST.out.old j g hg
            obtain ⟨b1, q1, eq1, c1⟩ := (RdA.below RX1.out hbj) j _ (show (As.map Value.pointer)[j]? = some (.pointer A0) by rw [List.getElem?_map, a1]; rfl)
            obtain ⟨b2, q2, eq2, c2⟩ := (RdA.below RX2.out hbj) j _ a2
            subst eq1 eq2
            obtain ⟨S0, hS0⟩ := a3.1
            obtain ⟨S1, hS1⟩ := HST.out.cur.1
            have hV0 := a3.2
            have hV1 := HST.out.cur.2
            obtain ⟨xs, hxs⟩ : ∃ xs, ints (diffL g f) = xs := ⟨_, rfl⟩
            obtain ⟨nx, hnx⟩ : ∃ nx, xs.length = nx := ⟨_, rfl⟩
            have hlx : nx ≤ 9223372036854775807 := by have := diffL_le g f; rw [hxs, hnx] at this; omega
            have HD1 := Lib.hid (fun w0 (h0 : Below wr.heap.size wr w0) => diff_zs (hS0.below (hbj.trans (h0.mono hbj.size))) (hS1.below (hbj.trans (h0.mono hbj.size))) hxs hnx)
            have HD2 := Lib.hid (fun w0 (h0 : Below wr.heap.size wr w0) => rdiff_zs (hV0.below (hbj.trans (h0.mono hbj.size))) (hV1.below (hbj.trans (h0.mono hbj.size))) hxs hnx)
            have HD3 := Lib.hid (fun w0 (h0 : Below wr.heap.size wr w0) => diff_zs (hS1.below (hbj.trans (h0.mono hbj.size))) (hS0.below (hbj.trans (h0.mono hbj.size))) (by rw [diffL_comm]; exact hxs) hnx)
            have HD4 := Lib.hid (fun w0 (h0 : Below wr.heap.size wr w0) => rdiff_zs (hV1.below (hbj.trans (h0.mono hbj.size))) (hV0.below (hbj.trans (h0.mono hbj.size))) (by rw [diffL_comm]; exact hxs) hnx)
            have HX := Lib.hid hnx
            have HJ := Lib.hid hbj
            have HBD : Hid (Below wr.heap.size wr wr.drew) := Lib.hid (Below.refl _ _).drew
            have hji : (j : Int) < (k : Int) + 1 := by omega
            have hwj : IntKind.i64.wrap ((j : Int) + 1) = (j : Int) + 1 := IntWalk.i64_in _ (by omega)
            clear hg a1 a2 a3 hbj hS0 hS1 hV0 hV1 hxs hnx
            go_wp2
            refine wp_region_held_drew (S := (fun w' => w'.cell? ⟨b1, q1 + j, none⟩ = some (.pointer A0) ∧ w'.cell? ⟨b2, q2 + j, none⟩ = some v0)) (by kernel_rfl) ⟨c1, c2⟩ fun hS => ?_
            refine takeH 0 (v := ?_) rfl (by kernel_rfl) (by kernel_rfl) (by kernel_rfl) (fun _ _ _ h => h) (Or.inl ⟨by rfl, ?_⟩) hS ?_
            rotate_left; · ((intro w hSw); (try dsimp only at hSw); go_simp; (try with_reducible rfl))
            try simp only [Act.put, List.setIfInBounds_toArray, List.set_cons_zero, List.set_cons_succ]
            refine takeH 1 (v := ?_) rfl (by kernel_rfl) (by kernel_rfl) (by kernel_rfl) (fun _ _ _ h => h) (Or.inl ⟨by rfl, ?_⟩) hS ?_
            rotate_left; · ((intro w hSw); (try dsimp only at hSw); go_simp; (try with_reducible rfl))
            try simp only [Act.put, List.setIfInBounds_toArray, List.set_cons_zero, List.set_cons_succ]
            refine takeH 2 (v := ?_) rfl (by kernel_rfl) (by kernel_rfl) (by kernel_rfl) (fun _ _ _ h => h) (Or.inl ⟨by rfl, ?_⟩) hS ?_
            rotate_left; · ((intro w hSw); (try dsimp only at hSw); go_simp; (try with_reducible rfl))
            try simp only [Act.put, List.setIfInBounds_toArray, List.set_cons_zero, List.set_cons_succ]
            refine takeH 3 (v := ?_) rfl (by kernel_rfl) (by kernel_rfl) (by kernel_rfl) (fun _ _ _ h => h) (Or.inl ⟨by rfl, ?_⟩) hS ?_
            rotate_left; · ((intro w hSw); (try dsimp only at hSw); go_simp; (try with_reducible rfl))
            try simp only [Act.put, List.setIfInBounds_toArray, List.set_cons_zero, List.set_cons_succ]
            refine takeH 4 (v := ?_) rfl (by kernel_rfl) (by kernel_rfl) (by kernel_rfl) (fun _ _ _ h => h) (Or.inl ⟨by rfl, ?_⟩) hS ?_
            rotate_left; · ((intro w hSw); (try dsimp only at hSw); go_simp; (try with_reducible rfl))
            try simp only [Act.put, List.setIfInBounds_toArray, List.set_cons_zero, List.set_cons_succ]
            refine takeH 6 (v := ?_) rfl (by kernel_rfl) (by kernel_rfl) (by kernel_rfl) (fun _ _ _ h => h) (Or.inl ⟨by rfl, ?_⟩) hS ?_
            rotate_left; · ((intro w hSw); (try dsimp only at hSw); go_simp; (try with_reducible rfl))
            try simp only [Act.put, List.setIfInBounds_toArray, List.set_cons_zero, List.set_cons_succ]
            refine takeH 7 (v := ?_) rfl (by kernel_rfl) (by kernel_rfl) (by kernel_rfl) (fun _ _ _ h => h) (Or.inl ⟨by rfl, ?_⟩) hS ?_
            rotate_left; · ((intro w hSw); (try dsimp only at hSw); go_simp; (try with_reducible rfl))
            try simp only [Act.put, List.setIfInBounds_toArray, List.set_cons_zero, List.set_cons_succ]
            refine takeH 8 (v := ?_) rfl (by kernel_rfl) (by kernel_rfl) (by kernel_rfl) (fun _ _ _ h => h) (Or.inl ⟨by rfl, ?_⟩) hS ?_
            rotate_left; · ((intro w hSw); (try dsimp only at hSw); go_simp; (try with_reducible rfl))
            try simp only [Act.put, List.setIfInBounds_toArray, List.set_cons_zero, List.set_cons_succ]
            refine takeH 9 (v := ?_) rfl (by kernel_rfl) (by kernel_rfl) (by kernel_rfl) (fun _ _ _ h => h) (Or.inl ⟨by rfl, ?_⟩) hS ?_
            rotate_left; · ((intro w hSw); (try dsimp only at hSw); go_simp; (try with_reducible rfl))
            try simp only [Act.put, List.setIfInBounds_toArray, List.set_cons_zero, List.set_cons_succ]
            refine takeH 10 (v := ?_) rfl (by kernel_rfl) (by kernel_rfl) (by kernel_rfl) (fun _ _ _ h => h) (Or.inl ⟨by rfl, ?_⟩) hS ?_
            rotate_left; · ((intro w hSw); (try dsimp only at hSw); go_simp; (try with_reducible rfl))
            try simp only [Act.put, List.setIfInBounds_toArray, List.set_cons_zero, List.set_cons_succ]
            refine oneH 5 (by kernel_rfl) rfl (fun K hK => ?_)
            go_simp
            refine (HD1.out _ HBD.out).mono ?_
            rintro e w31 ⟨X1, e1, rfl, hx, hb⟩
            have HB31 := Lib.hid (HBD.out.trans (hb.mono HBD.out.size))
            have HX1 := Lib.hid hx
            clear hb hx hS
            have hcc : w31.cell? ⟨b1, q1 + j, none⟩ = some (.pointer A0) ∧ w31.cell? ⟨b2, q2 + j, none⟩ = some v0 := ⟨(World.cell?_of_block (HB31.out.block b1 (cell_lt c1))).trans c1, (World.cell?_of_block (HB31.out.block b2 (cell_lt c2))).trans c2⟩
            refine hK.out _ _ hcc (fun hS => ?_)
            clear hK K
            try simp only [Act.put, List.setIfInBounds_toArray, List.set_cons_zero, List.set_cons_succ]
            refine oneH 11 (by kernel_rfl) rfl (fun K hK => ?_)
            go_simp
            refine (HD2.out _ HB31.out).mono ?_
            rintro e w32 ⟨X2, e2, rfl, hx, hb⟩
            have HB32 := Lib.hid (HB31.out.trans (hb.mono HB31.out.size))
            have HX2 := Lib.hid hx
            have HX1k := Lib.hid (RdA.below HX1.out hb)
            clear hb hx hS
            have hcc : w32.cell? ⟨b1, q1 + j, none⟩ = some (.pointer A0) ∧ w32.cell? ⟨b2, q2 + j, none⟩ = some v0 := ⟨(World.cell?_of_block (HB32.out.block b1 (cell_lt c1))).trans c1, (World.cell?_of_block (HB32.out.block b2 (cell_lt c2))).trans c2⟩
            refine hK.out _ _ hcc (fun hS => ?_)
            clear hK K
            try simp only [Act.put, List.setIfInBounds_toArray, List.set_cons_zero, List.set_cons_succ]
            refine oneH 12 (by kernel_rfl) rfl (fun K hK => ?_)
            go_simp
            refine (ints_same X1 X2 e1 e2 xs w32 HX.out HX.out HX1k.out HX2.out hlx).mono ?_
            rintro e w33 ⟨rfl, hb⟩
            have HB33 := Lib.hid (HB32.out.trans (hb.mono HB32.out.size))
            clear hb hS
            have hcc : w33.cell? ⟨b1, q1 + j, none⟩ = some (.pointer A0) ∧ w33.cell? ⟨b2, q2 + j, none⟩ = some v0 := ⟨(World.cell?_of_block (HB33.out.block b1 (cell_lt c1))).trans c1, (World.cell?_of_block (HB33.out.block b2 (cell_lt c2))).trans c2⟩
            refine hK.out _ _ hcc (fun hS => ?_)
            clear hK K
            try simp only [Act.put, List.setIfInBounds_toArray, List.set_cons_zero, List.set_cons_succ]
            refine takeH 13 (v := ?_) rfl (by kernel_rfl) (by kernel_rfl) (by kernel_rfl) (fun _ _ _ h => h) (Or.inl ⟨by rfl, ?_⟩) hS ?_
            rotate_left; · ((intro w hSw); (try dsimp only at hSw); go_simp; (try with_reducible rfl))
            try simp only [Act.put, List.setIfInBounds_toArray, List.set_cons_zero, List.set_cons_succ]
            refine takeH 14 (v := ?_) rfl (by kernel_rfl) (by kernel_rfl) (by kernel_rfl) (fun _ _ _ h => h) (Or.inl ⟨by rfl, ?_⟩) hS ?_
            rotate_left; · ((intro w hSw); (try dsimp only at hSw); go_simp; (try with_reducible rfl))
            try simp only [Act.put, List.setIfInBounds_toArray, List.set_cons_zero, List.set_cons_succ]
            refine takeH 15 (v := ?_) rfl (by kernel_rfl) (by kernel_rfl) (by kernel_rfl) (fun _ _ _ h => h) (Or.inl ⟨by rfl, ?_⟩) hS ?_
            rotate_left; · ((intro w hSw); (try dsimp only at hSw); go_simp; (try with_reducible rfl))
            try simp only [Act.put, List.setIfInBounds_toArray, List.set_cons_zero, List.set_cons_succ]
            refine takeH 16 (v := ?_) rfl (by kernel_rfl) (by kernel_rfl) (by kernel_rfl) (fun _ _ _ h => h) (Or.inl ⟨by rfl, ?_⟩) hS ?_
            rotate_left; · ((intro w hSw); (try dsimp only at hSw); go_simp; (try with_reducible rfl))
            try simp only [Act.put, List.setIfInBounds_toArray, List.set_cons_zero, List.set_cons_succ]
            refine takeH 17 (v := ?_) rfl (by kernel_rfl) (by kernel_rfl) (by kernel_rfl) (fun _ _ _ h => h) (Or.inl ⟨by rfl, ?_⟩) hS ?_
            rotate_left; · ((intro w hSw); (try dsimp only at hSw); go_simp; (try with_reducible rfl))
            try simp only [Act.put, List.setIfInBounds_toArray, List.set_cons_zero, List.set_cons_succ]
            refine takeH 18 (v := ?_) rfl (by kernel_rfl) (by kernel_rfl) (by kernel_rfl) (fun _ _ _ h => h) (Or.inl ⟨by rfl, ?_⟩) hS ?_
            rotate_left; · ((intro w hSw); (try dsimp only at hSw); go_simp; (try with_reducible rfl))
            try simp only [Act.put, List.setIfInBounds_toArray, List.set_cons_zero, List.set_cons_succ]
            refine takeH 19 (v := ?_) rfl (by kernel_rfl) (by kernel_rfl) (by kernel_rfl) (fun _ _ _ h => h) (Or.inl ⟨by rfl, ?_⟩) hS ?_
            rotate_left; · ((intro w hSw); (try dsimp only at hSw); go_simp; (try with_reducible rfl))
            try simp only [Act.put, List.setIfInBounds_toArray, List.set_cons_zero, List.set_cons_succ]
            refine takeH 21 (v := ?_) rfl (by kernel_rfl) (by kernel_rfl) (by kernel_rfl) (fun _ _ _ h => h) (Or.inl ⟨by rfl, ?_⟩) hS ?_
            rotate_left; · ((intro w hSw); (try dsimp only at hSw); go_simp; (try with_reducible rfl))
            try simp only [Act.put, List.setIfInBounds_toArray, List.set_cons_zero, List.set_cons_succ]
            refine takeH 22 (v := ?_) rfl (by kernel_rfl) (by kernel_rfl) (by kernel_rfl) (fun _ _ _ h => h) (Or.inl ⟨by rfl, ?_⟩) hS ?_
            rotate_left; · ((intro w hSw); (try dsimp only at hSw); go_simp; (try with_reducible rfl))
            try simp only [Act.put, List.setIfInBounds_toArray, List.set_cons_zero, List.set_cons_succ]
            refine takeH 23 (v := ?_) rfl (by kernel_rfl) (by kernel_rfl) (by kernel_rfl) (fun _ _ _ h => h) (Or.inl ⟨by rfl, ?_⟩) hS ?_
            rotate_left; · ((intro w hSw); (try dsimp only at hSw); go_simp; (try with_reducible rfl))
            try simp only [Act.put, List.setIfInBounds_toArray, List.set_cons_zero, List.set_cons_succ]
            refine takeH 24 (v := ?_) rfl (by kernel_rfl) (by kernel_rfl) (by kernel_rfl) (fun _ _ _ h => h) (Or.inl ⟨by rfl, ?_⟩) hS ?_
            rotate_left; · ((intro w hSw); (try dsimp only at hSw); go_simp; (try with_reducible rfl))
            try simp only [Act.put, List.setIfInBounds_toArray, List.set_cons_zero, List.set_cons_succ]
            refine takeH 25 (v := ?_) rfl (by kernel_rfl) (by kernel_rfl) (by kernel_rfl) (fun _ _ _ h => h) (Or.inl ⟨by rfl, ?_⟩) hS ?_
            rotate_left; · ((intro w hSw); (try dsimp only at hSw); go_simp; (try with_reducible rfl))
            try simp only [Act.put, List.setIfInBounds_toArray, List.set_cons_zero, List.set_cons_succ]
            refine oneH 20 (by kernel_rfl) rfl (fun K hK => ?_)
            go_simp
            refine (HD3.out _ HB33.out).mono ?_
            rintro e w34 ⟨X3, e3, rfl, hx, hb⟩
            have HB34 := Lib.hid (HB33.out.trans (hb.mono HB33.out.size))
            have HX3 := Lib.hid hx
            clear hb hx hS
            have hcc : w34.cell? ⟨b1, q1 + j, none⟩ = some (.pointer A0) ∧ w34.cell? ⟨b2, q2 + j, none⟩ = some v0 := ⟨(World.cell?_of_block (HB34.out.block b1 (cell_lt c1))).trans c1, (World.cell?_of_block (HB34.out.block b2 (cell_lt c2))).trans c2⟩
            refine hK.out _ _ hcc (fun hS => ?_)
            clear hK K
            try simp only [Act.put, List.setIfInBounds_toArray, List.set_cons_zero, List.set_cons_succ]
            refine oneH 26 (by kernel_rfl) rfl (fun K hK => ?_)
            go_simp
            refine (HD4.out _ HB34.out).mono ?_
            rintro e w35 ⟨X4, e4, rfl, hx, hb⟩
            have HB35 := Lib.hid (HB34.out.trans (hb.mono HB34.out.size))
            have HX4 := Lib.hid hx
            have HX3k := Lib.hid (RdA.below HX3.out hb)
            clear hb hx hS
            have hcc : w35.cell? ⟨b1, q1 + j, none⟩ = some (.pointer A0) ∧ w35.cell? ⟨b2, q2 + j, none⟩ = some v0 := ⟨(World.cell?_of_block (HB35.out.block b1 (cell_lt c1))).trans c1, (World.cell?_of_block (HB35.out.block b2 (cell_lt c2))).trans c2⟩
            refine hK.out _ _ hcc (fun hS => ?_)
            clear hK K
            try simp only [Act.put, List.setIfInBounds_toArray, List.set_cons_zero, List.set_cons_succ]
            refine oneH 27 (by kernel_rfl) rfl (fun K hK => ?_)
            go_simp
            refine (ints_same X3 X4 e3 e4 xs w35 HX.out HX.out HX3k.out HX4.out hlx).mono ?_
            rintro e w36 ⟨rfl, hb⟩
            have HB36 := Lib.hid (HB35.out.trans (hb.mono HB35.out.size))
            clear hb hS
            have hcc : w36.cell? ⟨b1, q1 + j, none⟩ = some (.pointer A0) ∧ w36.cell? ⟨b2, q2 + j, none⟩ = some v0 := ⟨(World.cell?_of_block (HB36.out.block b1 (cell_lt c1))).trans c1, (World.cell?_of_block (HB36.out.block b2 (cell_lt c2))).trans c2⟩
            refine hK.out _ _ hcc (fun hS => ?_)
            clear hK K
            try simp only [Act.put, List.setIfInBounds_toArray, List.set_cons_zero, List.set_cons_succ]
            refine takeH 28 (v := ?_) rfl (by kernel_rfl) (by kernel_rfl) (by kernel_rfl) (fun _ _ _ h => h) (Or.inl ⟨by rfl, ?_⟩) hS ?_
            rotate_left; · ((intro w hSw); (try dsimp only at hSw); go_simp; (try with_reducible rfl))
            try simp only [Act.put, List.setIfInBounds_toArray, List.set_cons_zero, List.set_cons_succ]
            refine takeH 29 (v := ?_) rfl (by kernel_rfl) (by kernel_rfl) (by kernel_rfl) (fun _ _ _ h => h) (Or.inl ⟨by rfl, ?_⟩) hS ?_
            rotate_left; · ((intro w hSw); (try dsimp only at hSw); go_simp; (try with_reducible rfl))
            try simp only [Act.put, List.setIfInBounds_toArray, List.set_cons_zero, List.set_cons_succ]
            refine wpAnyH_done (by kernel_rfl) ?_ _
            go_wp2
            exact ⟨⟨j + 1, by omega, by congr 1, HJ.out.trans (HB36.out.mono HJ.out.size)⟩, by simp [intOf]; omega⟩
          · obtain rfl : j = k + 1 := by omega
            have HJ := Lib.hid (HB.out.trans (hbj.mono HB.out.size))
            clear hbj
            go_wp2_with fail
            refine (sure_any _).mono ?_
            rintro e w9 ⟨rfl, hb9⟩
            have HB9 := Lib.hid (HJ.out.trans (hb9.mono HJ.out.size))
            clear hb9
            go_wp2
            go_ret
            exact ⟨rfl, HB9.out⟩
end Go.Proofs.Ytnnadhfpkplncaa
