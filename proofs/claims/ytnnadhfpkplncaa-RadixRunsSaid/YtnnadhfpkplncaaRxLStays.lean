/- 'RadixStays': each tree stays as it was. Condition: the items read. -/
import Derived.Test.YtnnadhfpkplncaaRxLaw
namespace Go.Proofs.Ytnnadhfpkplncaa
open Go.RowKit

def xsP (f : Nat → Int) : List Value := (itemsL f 2 0).map fun x : Nat => .int .i64 (x : Int)
def xsN (f : Nat → Int) : List Value := (itemsL f 2 0).map fun x => .int .i64 (f x)
theorem ints_at {n m : Nat} (A B : Option Addr) (c d : Nat) (xs ys : List Int) (w : World) (hn : xs.length = n) (hm : ys.length = m) (hA : RdA w A (zs xs)) (hB : RdA w B (zs ys)) (hx : n ≤ 9223372036854775807) :
    Calls Try.prog 15 #[.slice A n c, .slice B m d] w (BoolPost (decide (xs = ys)) w) := by
  subst hn hm
  exact ints_any A B c d xs ys w hA hB hx
theorem ints_same {n m : Nat} (A B : Option Addr) (c d : Nat) (xs : List Int) (w : World) (hn : xs.length = n) (hm : xs.length = m) (hA : RdA w A (zs xs)) (hB : RdA w B (zs xs)) (hx : n ≤ 9223372036854775807) :
    Calls Try.prog 15 #[.slice A n c, .slice B m d] w (BoolPost true w) := by
  have := ints_at A B c d xs xs w hn hm hA hB hx
  rwa [decide_eq_true rfl] at this
theorem xsP_zs (f : Nat → Int) : xsP f = zs (ints (itemsL f 2 0)) := by
  unfold xsP zs ints
  rw [List.map_map]; rfl
theorem xsN_zs (f : Nat → Int) : xsN f = zs ((itemsL f 2 0).map f) := by
  unfold xsN zs
  rw [List.map_map]; rfl
/-- The trees so far, and what each told of itself. -/
def OldRd (w : World) (As : List (Option Addr)) (Ps Ns : List Value) (fs : List (Nat → Int)) : Prop :=
  ∀ (j : Nat) (f : Nat → Int), fs[j]? = some f → ∃ A S u1 u2, As[j]? = some A ∧ RdR f S w A ∧ Ps[j]? = some u1 ∧ Ns[j]? = some u2 ∧ w.ownsRow 0 3 1 u1 (itemsL f 2 0).length (xsP f) ∧ w.ownsRow 0 3 1 u2 (itemsL f 2 0).length (xsN f)
theorem OldRd.keepT {T : TypeId} {w w' : World} {As : List (Option Addr)} {Ps Ns : List Value} {fs : List (Nat → Int)} (h : OldRd w As Ps Ns fs) (k : KeepT T w w') (h1 : 87 ≠ T) (h2 : 80 ≠ T) (h3 : 3 ≠ T) : OldRd w' As Ps Ns fs := fun j f hj => by
  obtain ⟨A, S, u1, u2, a1, a2, a3, a4, a5, a6⟩ := h j f hj
  exact ⟨A, S, u1, u2, a1, a2.keepT k h1 h2, a3, a4, own_keepT a5 k h3, own_keepT a6 k h3⟩
/-- Between two rounds. -/
structure StaysAt (W : World) (k : Nat) (A : Option Addr) (v1 v2 v3 : Value) (f : Nat → Int) (S : Nat → Nat → Option Nat) (As : List (Option Addr)) (Ps Ns : List Value) (fs : List (Nat → Int)) (w : World) : Prop where
  tree : RdR f S w A
  inj : InjS S
  o1 : w.ownsRow W.heap.size 23 1 v1 k (As.map Value.pointer)
  o2 : w.ownsRow W.heap.size 32 1 v2 k Ps
  o3 : w.ownsRow W.heap.size 32 1 v3 k Ns
  ap : ∀ g, v2.ownBlock = some g → v3.ownBlock ≠ some g
  old : OldRd w As Ps Ns fs
  len : fs.length = k
  bl : Below W.heap.size W w
/-- A tree and the one made of it, as they lie. -/
structure TwoT (W wr : World) (B : Option Addr) (l : List (Int × Int)) (f f' : Nat → Int) (S S' : Nat → Nat → Option Nat) (A A' : Option Addr) (w : World) : Prop where
  a : RdR f S w A
  b : RdR f' S' w A'
  l : RdItems w B l
  bl : Below W.heap.size W w
  bs : Below wr.heap.size wr w
theorem TwoT.next {W wr : World} {B : Option Addr} {l : List (Int × Int)} {f f' : Nat → Int} {S S' : Nat → Nat → Option Nat} {A A' : Option Addr} {w w' : World} (h : TwoT W wr B l f f' S S' A A' w) (k : Below w.heap.size w w') : TwoT W wr B l f f' S S' A A' w' :=
  ⟨h.a.below k, h.b.below k, h.l.below k, h.bl.trans (k.mono h.bl.size), h.bs.trans (k.mono h.bs.size)⟩
theorem stays_next {W wr w20 w21 w22 w23 : World} {k : Nat} {A A' : Option Addr} {v1 v2 v3 v1' v2' v3' u1 u2 : Value} {f f' : Nat → Int} {S S' : Nat → Nat → Option Nat} {As : List (Option Addr)} {Ps Ns : List Value} {fs : List (Nat → Int)}
    (h : StaysAt W k A v1 v2 v3 f S As Ps Ns fs wr) (hb : Below wr.heap.size wr w20) (hr : RdR f' S' w20 A') (hi : InjS S') (hu1 : w20.ownsRow 0 3 1 u1 (itemsL f' 2 0).length (xsP f')) (hu2 : w20.ownsRow 0 3 1 u2 (itemsL f' 2 0).length (xsN f'))
    (k1 : KeepT 23 w20 w21) (k2 : KeepT 32 w21 w22) (k3 : KeepT 32 w22 w23) (q1 : w21.ownsRow W.heap.size 23 1 v1' (k + 1) ((As ++ [A']).map Value.pointer)) (q2 : w23.ownsRow W.heap.size 32 1 v2' (k + 1) (Ps ++ [u1])) (q3 : w23.ownsRow W.heap.size 32 1 v3' (k + 1) (Ns ++ [u2]))
    (ap : ∀ g, v2'.ownBlock = some g → v3'.ownBlock ≠ some g) (bl : Below W.heap.size W w23) : StaysAt W (k + 1) A' v1' v2' v3' f' S' (As ++ [A']) (Ps ++ [u1]) (Ns ++ [u2]) (fs ++ [f']) w23 := by
  have l1 : As.length = k := by simpa using h.o1.1
  have l2 : Ps.length = k := by simpa using h.o2.1
  have l3 : Ns.length = k := by simpa using h.o3.1
  have kk : ∀ {E : TypeId} {b s n : Nat} {v : Value} {xs : List Value}, E ≠ 23 → E ≠ 32 → w20.ownsRow b E s v n xs → w23.ownsRow b E s v n xs := fun e1 e2 q => own_keepT (own_keepT (own_keepT q k1 e1) k2 e2) k3 e2
  have kr : ∀ {f : Nat → Int} {S : Nat → Nat → Option Nat} {A : Option Addr}, RdR f S w20 A → RdR f S w23 A := fun q => ((q.keepT k1 (by decide) (by decide)).keepT k2 (by decide) (by decide)).keepT k3 (by decide) (by decide)
  refine ⟨kr hr, hi, own_keepT (own_keepT q1 k2 (by decide)) k3 (by decide), q2, q3, ap, fun j g hj => ?_, by simp [h.len], bl⟩
  rcases Nat.lt_or_ge j k with hlt | hge
  · rw [List.getElem?_append_left (by rw [h.len]; exact hlt)] at hj
    obtain ⟨A0, S0, w1, w2, a1, a2, a3, a4, a5, a6⟩ := h.old j g hj
    exact ⟨A0, S0, w1, w2, by rw [List.getElem?_append_left (by omega)]; exact a1, kr (a2.below hb), by rw [List.getElem?_append_left (by omega)]; exact a3, by rw [List.getElem?_append_left (by omega)]; exact a4, kk (by decide) (by decide) (row_below a5 hb), kk (by decide) (by decide) (row_below a6 hb)⟩
  · have hjk : j = k := by
      have := (List.getElem?_eq_some_iff.1 hj).1
      simp [h.len] at this
      omega
    subst hjk
    have hg : g = f' := by
      rw [List.getElem?_append_right (by rw [h.len]; exact Nat.le_refl _)] at hj
      rw [h.len] at hj
      simpa using hj.symm
    subst hg
    exact ⟨A', S', u1, u2, by rw [List.getElem?_append_right (by omega), l1]; simp, kr hr, by rw [List.getElem?_append_right (by omega), l2]; simp, by rw [List.getElem?_append_right (by omega), l3]; simp, kk (by decide) (by decide) hu1, kk (by decide) (by decide) hu2⟩
/-- How many nodes both have, and share. -/
theorem stays_nums {f : Nat → Int} {S S' : Nat → Nat → Option Nat} {A A' : Option Addr} {w w' : World} {z n : Int} (hr : RdR f S w A) (hi : InjS S) (hs : SetSame f S S' A A' z n w.heap.size) (hr' : RdR (setF f z n) S' w' A') :
    InjS S' ∧ ∃ N M s : Nat, (nodesL S' 2 0).length = N ∧ (nodesL S 2 0).length = M ∧ inBoth (nodesL S 2 0) (nodesL S' 2 0) = s ∧ inBoth (nodesL S' 2 0) (nodesL S 2 0) = s ∧ N ≤ s + 3 ∧ s ≤ N ∧ N ≤ 273 ∧ M ≤ 273 ∧ (getF f z = n → s = M) := by
  have hc : cnt 2 = 273 := rfl
  have l1 := nodesL_le S 2 0
  have l2 := nodesL_le S' 2 0
  rw [hc] at l1 l2
  rcases hs with ⟨_, rfl, rfl⟩ | ⟨h1, h2, h3, nb, hn, rfl⟩
  · exact ⟨hi, _, _, _, rfl, rfl, rfl, rfl, by rw [inBoth_self]; omega, by rw [inBoth_self]; omega, l1, l1, fun _ => inBoth_self _⟩
  · have hI := injS_upd (f := setF f z n) (a := z.toNat) hi (fun d h b hd hs => hr.1.lt hd hs) hn
    have hsh := shared_upd (f' := setF f z n) (a := z.toNat) hr.1 (by omega) hn
    have ho := onp_le (setF f z n) z.toNat 2
    refine ⟨hI, _, _, _, rfl, rfl, rfl, ?_, by omega, by omega, l2, l1, fun e => ?_⟩
    · exact inBoth_comm (nodes_nodup hI 2 (by omega) 0) (nodes_nodup hi 2 (by omega) 0)
    · exfalso
      apply h3
      rw [← e]
      unfold getF
      rw [if_pos ⟨h1, h2⟩]
set_option maxRecDepth 100000 in
set_option maxHeartbeats 3200000 in
theorem stays_walk (v : Value) (W : World) (hin : ItemsIn W v) : Calls Try.prog 3 #[v] W (BoolPost true W) := by
  obtain ⟨B, c, l, rfl, hlc, hll, hrd⟩ := hin
  have HS0 := Lib.hid (show StaysAt W 0 none (.slice none 0 0) (.slice none 0 0) (.slice none 0 0) (fun _ => 0) (fun _ _ => none) [] [] [] [] W from ⟨rdR_nil W, injS_nil, World.ownsRow_nil _ _ _ _, World.ownsRow_nil _ _ _ _, World.ownsRow_nil _ _ _ _, fun g e => (by cases e), fun j f hj => (by simp at hj), rfl, Below.refl _ _⟩)
  have HRD := Lib.hid hrd
  clear hrd
  obtain ⟨n, hn⟩ : ∃ n, n = l.length := ⟨_, rfl⟩
  rw [← hn] at hlc hll ⊢
  have HN := Lib.hid hn
  clear hn
  go_enter Try.func3, Try.ntmps3
  go_wp2
  go_loopw [3, 4, 5, 6, 7] (fun t o p q i wr => ∃ (k : Nat) (A : Option Addr) (v1 v2 v3 : Value), k ≤ n ∧ k ≤ 30 ∧ i = .int .i64 k ∧ t = .pointer A ∧ o = v1 ∧ p = v2 ∧ q = v3 ∧ Hid (∃ f S As Ps Ns fs, StaysAt W k A v1 v2 v3 f S As Ps Ns fs wr)) (fun _ _ _ _ i _ => 30 - (intOf i).toNat)
  case atStart => exact ⟨0, none, _, _, _, by omega, by omega, rfl, rfl, rfl, rfl, rfl, ⟨_, _, _, _, _, _, HS0.out⟩⟩
  case round =>
    obtain ⟨k, A, v1, v2, v3, hk, hk30, rfl, rfl, rfl, rfl, rfl, hst⟩ := hrel
    by_cases hgo : k < n ∧ k < 30
    · obtain ⟨hkn, hkl⟩ := hgo
      obtain ⟨f, S, As, Ps, Ns, fs, hst⟩ := hst.out
      obtain ⟨x, hx⟩ : ∃ x, l[k]? = some x := ⟨_, List.getElem?_eq_getElem (by rw [← HN.out]; exact hkn)⟩
      have hki : (k : Int) < (n : Int) := by omega
      have hki2 : (k : Int) < 30 := by omega
      have hrd := HRD.out
      have hrdk : RdItems wr B l := RdItems.below hrd hst.bl
      obtain ⟨b, o, rfl, c1, c2⟩ := RdItems.at hrdk hx
      have HST := Lib.hid hst
      have HX := Lib.hid hx
      obtain ⟨at0, n0⟩ := x
      clear hst hx hrd hrdk
      have hset := set_any f S A at0 n0 wr.drew (HST.out.tree.below (Below.refl _ _).drew)
      have HSET := Lib.hid hset
      clear hset
      go_wp2
      go_region_held3 (fun w' => w'.cell? ⟨b, o + k * 2, none⟩ = some (.int .i64 at0) ∧ w'.cell? ⟨b, o + k * 2 + 1, none⟩ = some (.int .i64 n0)) (first | exact ⟨c1, c2⟩ | exact ⟨c15, c25⟩)
        (first
        | (go_at_call 10; refine HSET.out.mono ?_; rintro e w5 ⟨A', S', rfl, hr5, hs5, hb5⟩; have hbl5 := HST.out.bl.trans ((below_drewN (Below.refl _ _) 1).trans hb5 |>.mono HST.out.bl.size); have hrd5 := RdItems.at (RdItems.below HRD.out hbl5) HX.out; obtain ⟨b', o', eb, c15, c25⟩ := hrd5; cases eb; have HR5 := Lib.hid hr5; have HS5 := Lib.hid hs5; have HB5 := Lib.hid hb5; have HBL := Lib.hid hbl5; clear hr5 hs5 hb5 hbl5))
      have hP : TwoT W wr (some ⟨b, o, none⟩) l f (setF f at0 n0) S S' A A' w5 := ⟨HST.out.tree.below ((below_drewN (Below.refl _ _) 1).trans HB5.out), HR5.out, RdItems.below HRD.out HBL.out, HBL.out, (below_drewN (Below.refl _ _) 1).trans HB5.out⟩
      obtain ⟨hinj, N, M, s, e1, e2, e3, e4, hNs, hsN, hN3, hM3, hgm⟩ := stays_nums (HST.out.tree.below (below_drewN (Below.refl _ _) 1)) HST.out.inj HS5.out HR5.out
      have HQ : Hid (∀ w0, TwoT W wr (some ⟨b, o, none⟩) l f (setF f at0 n0) S S' A A' w0 →
          (Calls Try.prog 11 #[.pointer A'] w0 fun e w' => e = .returned (.int .i64 (N : Nat)) ∧ Below w0.heap.size w0 w') ∧ (Calls Try.prog 11 #[.pointer A] w0 fun e w' => e = .returned (.int .i64 (M : Nat)) ∧ Below w0.heap.size w0 w') ∧
          (Calls Try.prog 12 #[.pointer A, .pointer A'] w0 fun e w' => e = .returned (.int .i64 (s : Nat)) ∧ Below w0.heap.size w0 w') ∧ (Calls Try.prog 12 #[.pointer A', .pointer A] w0 fun e w' => e = .returned (.int .i64 (s : Nat)) ∧ Below w0.heap.size w0 w') ∧
          (Calls Try.prog 13 #[.pointer A, .int .i64 at0] w0 fun e w' => e = .returned (.int .i64 (getF f at0)) ∧ Below w0.heap.size w0 w')) :=
        Lib.hid fun w0 h0 => ⟨by rw [← e1]; exact tnodes_any _ _ _ _ h0.b, by rw [← e2]; exact tnodes_any _ _ _ _ h0.a, by rw [← e3]; exact shared_any _ _ _ _ _ _ _ h0.a h0.b, by rw [← e4]; exact shared_any _ _ _ _ _ _ _ h0.b h0.a, get_any _ _ _ _ _ h0.a⟩
      have hPd : TwoT W wr (some ⟨b, o, none⟩) l f (setF f at0 n0) S S' A A' w5.drew := hP.next (Below.refl _ _).drew
      have HPd := Lib.hid hPd
      have HINJ := Lib.hid hinj
      clear hP e1 e2 e3 e4 hinj hPd
      obtain ⟨q, hq⟩ : ∃ q, q = getF f at0 := ⟨_, rfl⟩
      rw [← hq] at hgm HQ
      clear hq
      have hw : IntKind.i64.wrap ((N : Int) - (s : Int)) = (N : Int) - (s : Int) := IntWalk.i64_in _ (by omega)
      have hd3 : decide ((3 : Int) < (N : Int) - (s : Int)) = false := decide_eq_false (by omega)
      have hss : ((s : Int) != (s : Int)) = false := by simp
      have HGM := Lib.hid hgm
      clear hgm c1 c2
      by_cases hqn : q = n0
      · have hqb : (q == n0) = true := by simp [hqn]
        have hsm : s = M := HGM.out hqn
        have hsmb : ((s : Int) != (M : Int)) = false := by rw [hsm]; simp
        have HQN := Lib.hid hqn
        have HSM := Lib.hid hsm
        clear hqn hsm
        go_wp2
        refine wp_region_held_drew (S := fun w' => w'.cell? ⟨b, o + k * 2, none⟩ = some (.int .i64 at0) ∧ w'.cell? ⟨b, o + k * 2 + 1, none⟩ = some (.int .i64 n0)) (by kernel_rfl) ⟨c15, c25⟩ fun hS => ?_
        refine takeH 0 (v := ?_) rfl (by kernel_rfl) (by kernel_rfl) (by kernel_rfl) (fun _ _ _ h => h) (Or.inl ⟨by rfl, ?_⟩) hS ?_
        rotate_left; · ((intro w hSw); (try dsimp only at hSw); go_simp; (try with_reducible rfl))
        try simp only [Act.put, List.setIfInBounds_toArray, List.set_cons_zero, List.set_cons_succ]
        refine takeH 2 (v := ?_) rfl (by kernel_rfl) (by kernel_rfl) (by kernel_rfl) (fun _ _ _ h => h) (Or.inl ⟨by rfl, ?_⟩) hS ?_
        rotate_left; · ((intro w hSw); (try dsimp only at hSw); go_simp; (try with_reducible rfl))
        try simp only [Act.put, List.setIfInBounds_toArray, List.set_cons_zero, List.set_cons_succ]
        refine takeH 3 (v := ?_) rfl (by kernel_rfl) (by kernel_rfl) (by kernel_rfl) (fun _ _ _ h => h) (Or.inl ⟨by rfl, ?_⟩) hS ?_
        rotate_left; · ((intro w hSw); (try dsimp only at hSw); go_simp; (try with_reducible rfl))
        try simp only [Act.put, List.setIfInBounds_toArray, List.set_cons_zero, List.set_cons_succ]
        refine oneH 1 (by kernel_rfl) rfl (fun K hK => ?_)
        go_simp
        refine (HQ.out _ HPd.out).1.mono ?_
        rintro e w6 ⟨rfl, hb6⟩
        have hHP1 := HPd.out.next hb6
        obtain ⟨b', o', eb, d1, d2⟩ := RdItems.at hHP1.l HX.out
        cases eb
        have HP1 := Lib.hid hHP1
        clear hHP1 hb6 hS
        refine hK.out _ _ ⟨d1, d2⟩ (fun hS => ?_)
        clear hK K
        try simp only [Act.put, List.setIfInBounds_toArray, List.set_cons_zero, List.set_cons_succ]
        refine oneH 4 (by kernel_rfl) rfl (fun K hK => ?_)
        go_simp
        refine (HQ.out _ HP1.out).2.2.1.mono ?_
        rintro e w7 ⟨rfl, hb7⟩
        have hHP2 := HP1.out.next hb7
        obtain ⟨b', o', eb, d1, d2⟩ := RdItems.at hHP2.l HX.out
        cases eb
        have HP2 := Lib.hid hHP2
        clear hHP2 hb7 hS
        refine hK.out _ _ ⟨d1, d2⟩ (fun hS => ?_)
        clear hK K
        try simp only [Act.put, List.setIfInBounds_toArray, List.set_cons_zero, List.set_cons_succ]
        refine takeH 5 (v := ?_) rfl (by kernel_rfl) (by kernel_rfl) (by kernel_rfl) (fun _ _ _ h => h) (Or.inl ⟨by rfl, ?_⟩) hS ?_
        rotate_left; · ((intro w hSw); (try dsimp only at hSw); go_simp; (try with_reducible rfl))
        try simp only [Act.put, List.setIfInBounds_toArray, List.set_cons_zero, List.set_cons_succ]
        refine takeH 6 (v := ?_) rfl (by kernel_rfl) (by kernel_rfl) (by kernel_rfl) (fun _ _ _ h => h) (Or.inl ⟨by rfl, ?_⟩) hS ?_
        rotate_left; · ((intro w hSw); (try dsimp only at hSw); go_simp; (try with_reducible rfl))
        try simp only [Act.put, List.setIfInBounds_toArray, List.set_cons_zero, List.set_cons_succ]
        refine takeH 7 (v := ?_) rfl (by kernel_rfl) (by kernel_rfl) (by kernel_rfl) (fun _ _ _ h => h) (Or.inl ⟨by rfl, ?_⟩) hS ?_
        rotate_left; · ((intro w hSw); (try dsimp only at hSw); go_simp; (try with_reducible rfl))
        try simp only [Act.put, List.setIfInBounds_toArray, List.set_cons_zero, List.set_cons_succ]
        refine takeH 8 (v := ?_) rfl (by kernel_rfl) (by kernel_rfl) (by kernel_rfl) (fun _ _ _ h => h) (Or.inl ⟨by rfl, ?_⟩) hS ?_
        rotate_left; · ((intro w hSw); (try dsimp only at hSw); go_simp; (try with_reducible rfl))
        try simp only [Act.put, List.setIfInBounds_toArray, List.set_cons_zero, List.set_cons_succ]
        refine takeH 9 (v := ?_) rfl (by kernel_rfl) (by kernel_rfl) (by kernel_rfl) (fun _ _ _ h => h) (Or.inl ⟨by rfl, ?_⟩) hS ?_
        rotate_left; · ((intro w hSw); (try dsimp only at hSw); go_simp; (try with_reducible rfl))
        try simp only [Act.put, List.setIfInBounds_toArray, List.set_cons_zero, List.set_cons_succ]
        refine takeH 11 (v := ?_) rfl (by kernel_rfl) (by kernel_rfl) (by kernel_rfl) (fun _ _ _ h => h) (Or.inl ⟨by rfl, ?_⟩) hS ?_
        rotate_left; · ((intro w hSw); (try dsimp only at hSw); go_simp; (try with_reducible rfl))
        try simp only [Act.put, List.setIfInBounds_toArray, List.set_cons_zero, List.set_cons_succ]
        refine takeH 12 (v := ?_) rfl (by kernel_rfl) (by kernel_rfl) (by kernel_rfl) (fun _ _ _ h => h) (Or.inl ⟨by rfl, ?_⟩) hS ?_
        rotate_left; · ((intro w hSw); (try dsimp only at hSw); go_simp; (try with_reducible rfl))
        try simp only [Act.put, List.setIfInBounds_toArray, List.set_cons_zero, List.set_cons_succ]
        refine oneH 10 (by kernel_rfl) rfl (fun K hK => ?_)
        go_simp
        refine (HQ.out _ HP2.out).2.2.1.mono ?_
        rintro e w8 ⟨rfl, hb8⟩
        have hHP3 := HP2.out.next hb8
        obtain ⟨b', o', eb, d1, d2⟩ := RdItems.at hHP3.l HX.out
        cases eb
        have HP3 := Lib.hid hHP3
        clear hHP3 hb8 hS
        refine hK.out _ _ ⟨d1, d2⟩ (fun hS => ?_)
        clear hK K
        try simp only [Act.put, List.setIfInBounds_toArray, List.set_cons_zero, List.set_cons_succ]
        refine oneH 13 (by kernel_rfl) rfl (fun K hK => ?_)
        go_simp
        refine (HQ.out _ HP3.out).2.2.2.1.mono ?_
        rintro e w9 ⟨rfl, hb9⟩
        have hHP4 := HP3.out.next hb9
        obtain ⟨b', o', eb, d1, d2⟩ := RdItems.at hHP4.l HX.out
        cases eb
        have HP4 := Lib.hid hHP4
        clear hHP4 hb9 hS
        refine hK.out _ _ ⟨d1, d2⟩ (fun hS => ?_)
        clear hK K
        try simp only [Act.put, List.setIfInBounds_toArray, List.set_cons_zero, List.set_cons_succ]
        refine takeH 14 (v := ?_) rfl (by kernel_rfl) (by kernel_rfl) (by kernel_rfl) (fun _ _ _ h => h) (Or.inl ⟨by rfl, ?_⟩) hS ?_
        rotate_left; · ((intro w hSw); (try dsimp only at hSw); go_simp; (try with_reducible rfl))
        try simp only [Act.put, List.setIfInBounds_toArray, List.set_cons_zero, List.set_cons_succ]
        refine takeH 15 (v := ?_) rfl (by kernel_rfl) (by kernel_rfl) (by kernel_rfl) (fun _ _ _ h => h) (Or.inl ⟨by rfl, ?_⟩) hS ?_
        rotate_left; · ((intro w hSw); (try dsimp only at hSw); go_simp; (try with_reducible rfl))
        try simp only [Act.put, List.setIfInBounds_toArray, List.set_cons_zero, List.set_cons_succ]
        refine takeH 16 (v := ?_) rfl (by kernel_rfl) (by kernel_rfl) (by kernel_rfl) (fun _ _ _ h => h) (Or.inl ⟨by rfl, ?_⟩) hS ?_
        rotate_left; · ((intro w hSw); (try dsimp only at hSw); go_simp; (try with_reducible rfl))
        try simp only [Act.put, List.setIfInBounds_toArray, List.set_cons_zero, List.set_cons_succ]
        refine takeH 17 (v := ?_) rfl (by kernel_rfl) (by kernel_rfl) (by kernel_rfl) (fun _ _ _ h => h) (Or.inl ⟨by rfl, ?_⟩) hS ?_
        rotate_left; · ((intro w hSw); (try dsimp only at hSw); go_simp; (try with_reducible rfl))
        try simp only [Act.put, List.setIfInBounds_toArray, List.set_cons_zero, List.set_cons_succ]
        refine takeH 18 (v := ?_) rfl (by kernel_rfl) (by kernel_rfl) (by kernel_rfl) (fun _ _ _ h => h) (Or.inl ⟨by rfl, ?_⟩) hS ?_
        rotate_left; · ((intro w hSw); (try dsimp only at hSw); go_simp; (try with_reducible rfl))
        try simp only [Act.put, List.setIfInBounds_toArray, List.set_cons_zero, List.set_cons_succ]
        refine takeH 19 (v := ?_) rfl (by kernel_rfl) (by kernel_rfl) (by kernel_rfl) (fun _ _ _ h => h) (Or.inl ⟨by rfl, ?_⟩) hS ?_
        rotate_left; · ((intro w hSw); (try dsimp only at hSw); go_simp; (try with_reducible rfl))
        try simp only [Act.put, List.setIfInBounds_toArray, List.set_cons_zero, List.set_cons_succ]
        refine takeH 20 (v := ?_) rfl (by kernel_rfl) (by kernel_rfl) (by kernel_rfl) (fun _ _ _ h => h) (Or.inl ⟨by rfl, ?_⟩) hS ?_
        rotate_left; · ((intro w hSw); (try dsimp only at hSw); go_simp; (try with_reducible rfl))
        try simp only [Act.put, List.setIfInBounds_toArray, List.set_cons_zero, List.set_cons_succ]
        refine takeH 21 (v := ?_) rfl (by kernel_rfl) (by kernel_rfl) (by kernel_rfl) (fun _ _ _ h => h) (Or.inl ⟨by rfl, ?_⟩) hS ?_
        rotate_left; · ((intro w hSw); (try dsimp only at hSw); go_simp; (try with_reducible rfl))
        try simp only [Act.put, List.setIfInBounds_toArray, List.set_cons_zero, List.set_cons_succ]
        refine takeH 22 (v := ?_) rfl (by kernel_rfl) (by kernel_rfl) (by kernel_rfl) (fun _ _ _ h => h) (Or.inl ⟨by rfl, ?_⟩) hS ?_
        rotate_left; · ((intro w hSw); (try dsimp only at hSw); go_simp; (try with_reducible rfl))
        try simp only [Act.put, List.setIfInBounds_toArray, List.set_cons_zero, List.set_cons_succ]
        refine takeH 24 (v := ?_) rfl (by kernel_rfl) (by kernel_rfl) (by kernel_rfl) (fun _ _ _ h => h) (Or.inl ⟨by rfl, ?_⟩) hS ?_
        rotate_left; · ((intro w hSw); (try dsimp only at hSw); go_simp; (try with_reducible rfl))
        try simp only [Act.put, List.setIfInBounds_toArray, List.set_cons_zero, List.set_cons_succ]
        refine takeH 25 (v := ?_) rfl (by kernel_rfl) (by kernel_rfl) (by kernel_rfl) (fun _ _ _ h => h) (Or.inl ⟨by rfl, ?_⟩) hS ?_
        rotate_left; · ((intro w hSw); (try dsimp only at hSw); go_simp; (try with_reducible rfl))
        try simp only [Act.put, List.setIfInBounds_toArray, List.set_cons_zero, List.set_cons_succ]
        refine takeH 26 (v := ?_) rfl (by kernel_rfl) (by kernel_rfl) (by kernel_rfl) (fun _ _ _ h => h) (Or.inl ⟨by rfl, ?_⟩) hS ?_
        rotate_left; · ((intro w hSw); (try dsimp only at hSw); go_simp; (try with_reducible rfl))
        try simp only [Act.put, List.setIfInBounds_toArray, List.set_cons_zero, List.set_cons_succ]
        refine takeH 27 (v := ?_) rfl (by kernel_rfl) (by kernel_rfl) (by kernel_rfl) (fun _ _ _ h => h) (Or.inl ⟨by rfl, ?_⟩) hS ?_
        rotate_left; · ((intro w hSw); (try dsimp only at hSw); go_simp; (try with_reducible rfl))
        try simp only [Act.put, List.setIfInBounds_toArray, List.set_cons_zero, List.set_cons_succ]
        refine takeH 28 (v := ?_) rfl (by kernel_rfl) (by kernel_rfl) (by kernel_rfl) (fun _ _ _ h => h) (Or.inl ⟨by rfl, ?_⟩) hS ?_
        rotate_left; · ((intro w hSw); (try dsimp only at hSw); go_simp; (try with_reducible rfl))
        try simp only [Act.put, List.setIfInBounds_toArray, List.set_cons_zero, List.set_cons_succ]
        refine oneH 23 (by kernel_rfl) rfl (fun K hK => ?_)
        go_simp
        refine (HQ.out _ HP4.out).2.2.2.2.mono ?_
        rintro e w10 ⟨rfl, hb10⟩
        have hHP5 := HP4.out.next hb10
        obtain ⟨b', o', eb, d1, d2⟩ := RdItems.at hHP5.l HX.out
        cases eb
        have HP5 := Lib.hid hHP5
        clear hHP5 hb10 hS
        refine hK.out _ _ ⟨d1, d2⟩ (fun hS => ?_)
        clear hK K
        try simp only [Act.put, List.setIfInBounds_toArray, List.set_cons_zero, List.set_cons_succ]
        refine takeH 29 (v := ?_) rfl (by kernel_rfl) (by kernel_rfl) (by kernel_rfl) (fun _ _ _ h => h) (Or.inl ⟨by rfl, ?_⟩) hS ?_
        rotate_left; · ((intro w hSw); (try dsimp only at hSw); go_simp; (try with_reducible rfl))
        try simp only [Act.put, List.setIfInBounds_toArray, List.set_cons_zero, List.set_cons_succ]
        refine takeH 30 (v := ?_) rfl (by kernel_rfl) (by kernel_rfl) (by kernel_rfl) (fun _ _ _ h => h) (Or.inl ⟨by rfl, ?_⟩) hS ?_
        rotate_left; · ((intro w hSw); (try dsimp only at hSw); go_simp; (try with_reducible rfl))
        try simp only [Act.put, List.setIfInBounds_toArray, List.set_cons_zero, List.set_cons_succ]
        refine takeH 31 (v := ?_) rfl (by kernel_rfl) (by kernel_rfl) (by kernel_rfl) (fun _ _ _ h => h) (Or.inl ⟨by rfl, ?_⟩) hS ?_
        rotate_left; · ((intro w hSw); (try dsimp only at hSw); go_simp; (try with_reducible rfl))
        try simp only [Act.put, List.setIfInBounds_toArray, List.set_cons_zero, List.set_cons_succ]
        refine takeH 32 (v := ?_) rfl (by kernel_rfl) (by kernel_rfl) (by kernel_rfl) (fun _ _ _ h => h) (Or.inl ⟨by rfl, ?_⟩) hS ?_
        rotate_left; · ((intro w hSw); (try dsimp only at hSw); go_simp; (try with_reducible rfl))
        try simp only [Act.put, List.setIfInBounds_toArray, List.set_cons_zero, List.set_cons_succ]
        refine takeH 34 (v := ?_) rfl (by kernel_rfl) (by kernel_rfl) (by kernel_rfl) (fun _ _ _ h => h) (Or.inl ⟨by rfl, ?_⟩) hS ?_
        rotate_left; · ((intro w hSw); (try dsimp only at hSw); go_simp; (try with_reducible rfl))
        try simp only [Act.put, List.setIfInBounds_toArray, List.set_cons_zero, List.set_cons_succ]
        refine oneH 33 (by kernel_rfl) rfl (fun K hK => ?_)
        go_simp
        refine (HQ.out _ HP5.out).2.2.1.mono ?_
        rintro e w11 ⟨rfl, hb11⟩
        have hHP6 := HP5.out.next hb11
        obtain ⟨b', o', eb, d1, d2⟩ := RdItems.at hHP6.l HX.out
        cases eb
        have HP6 := Lib.hid hHP6
        clear hHP6 hb11 hS
        refine hK.out _ _ ⟨d1, d2⟩ (fun hS => ?_)
        clear hK K
        try simp only [Act.put, List.setIfInBounds_toArray, List.set_cons_zero, List.set_cons_succ]
        refine oneH 35 (by kernel_rfl) rfl (fun K hK => ?_)
        go_simp
        refine (HQ.out _ HP6.out).2.1.mono ?_
        rintro e w12 ⟨rfl, hb12⟩
        have hHP7 := HP6.out.next hb12
        obtain ⟨b', o', eb, d1, d2⟩ := RdItems.at hHP7.l HX.out
        cases eb
        have HP7 := Lib.hid hHP7
        clear hHP7 hb12 hS
        refine hK.out _ _ ⟨d1, d2⟩ (fun hS => ?_)
        clear hK K
        try simp only [Act.put, List.setIfInBounds_toArray, List.set_cons_zero, List.set_cons_succ]
        refine takeH 36 (v := ?_) rfl (by kernel_rfl) (by kernel_rfl) (by kernel_rfl) (fun _ _ _ h => h) (Or.inl ⟨by rfl, ?_⟩) hS ?_
        rotate_left; · ((intro w hSw); (try dsimp only at hSw); go_simp; (try with_reducible rfl))
        try simp only [Act.put, List.setIfInBounds_toArray, List.set_cons_zero, List.set_cons_succ]
        refine takeH 37 (v := ?_) rfl (by kernel_rfl) (by kernel_rfl) (by kernel_rfl) (fun _ _ _ h => h) (Or.inl ⟨by rfl, ?_⟩) hS ?_
        rotate_left; · ((intro w hSw); (try dsimp only at hSw); go_simp; (try with_reducible rfl))
        try simp only [Act.put, List.setIfInBounds_toArray, List.set_cons_zero, List.set_cons_succ]
        refine takeH 38 (v := ?_) rfl (by kernel_rfl) (by kernel_rfl) (by kernel_rfl) (fun _ _ _ h => h) (Or.inl ⟨by rfl, ?_⟩) hS ?_
        rotate_left; · ((intro w hSw); (try dsimp only at hSw); go_simp; (try with_reducible rfl))
        try simp only [Act.put, List.setIfInBounds_toArray, List.set_cons_zero, List.set_cons_succ]
        refine wpAnyH_done (by kernel_rfl) ?_ _
        have HPE := HP7
        go_wp2_with fail
        refine (all_any _ _ _ _ HPE.out.b).mono ?_
        rintro e w20 ⟨u1, u2, rfl, ho1, ho2, hb20⟩
        obtain ⟨A1, d1', rfl, _⟩ := own_rdA ho1
        obtain ⟨A2, d2', rfl, _⟩ := own_rdA ho2
        have hbl20 := HPE.out.bl.trans (hb20.mono HPE.out.bl.size)
        have hwr20 := HPE.out.bs.trans (hb20.mono HPE.out.bs.size)
        have hr20 := HPE.out.b.below hb20
        have hs := HST.out
        have R1 := Lib.hid (row_below hs.o1 hwr20)
        have R2 := Lib.hid (row_below hs.o2 hwr20)
        have R3 := Lib.hid (row_below hs.o3 hwr20)
        have HU1 := Lib.hid (own_base ho1 (Nat.zero_le _))
        have HU2 := Lib.hid (own_base ho2 (Nat.zero_le _))
        have HBL20 := Lib.hid hbl20
        have HWR20 := Lib.hid hwr20
        have HR20 := Lib.hid hr20
        obtain ⟨i1, t1, t2, t3, t4⟩ := info_parts infoTTP
        obtain ⟨i2, s1, s2, s3, s4⟩ := info_parts infoTINTSf
        clear ho1 ho2 hb20 hbl20 hwr20 hr20 hs
        go_wp2_with (at_builtin; refine Hid.out ?_)
        unfold Hid
        refine app_one rfl (.tmp 81) (.tmp 83) 24 23 rfl i1 _ 8 Try.underlying24 t1 t2 t3 t4 rfl (by omega) W.heap.size u4 k _ rfl (R1.out.alloc _) w20.heap.size (.pointer A') rfl (block_cell (heap_alloc_new _ _)) rfl (by omega) (by have := HBL20.out.size; simp; omega) ?_
        intro v1' w21 q1 g1 _
        have K1 := Lib.hid ((KeepT.alloc 23 w20 _).trans (KeepT.app (R1.out.alloc _) g1))
        have B21 := Lib.hid ((HBL20.out.alloc HBL20.out.size _).grown g1 (by have := HBL20.out.size; simp; omega) fun k e => (R1.out.lt k e).1)
        have Q1 := Lib.hid q1
        have R22 := Lib.hid (own_keepT R2.out K1.out (by decide))
        have R32 := Lib.hid (own_keepT R3.out K1.out (by decide))
        clear q1 g1 t1 t2 t3 t4
        go_wp2_with (at_builtin; refine Hid.out ?_)
        unfold Hid
        refine app_one rfl (.tmp 85) (.tmp 87) 25 32 rfl i2 _ 24 Try.underlying25 s1 s2 s3 s4 rfl (by omega) W.heap.size u5 k _ rfl (R22.out.alloc _) w21.heap.size (.slice A1 _ d1') rfl (block_cell (heap_alloc_new _ _)) rfl (by omega) (by have := B21.out.size; simp; omega) ?_
        intro v2' w22 q2 g2 at2
        have K2 := Lib.hid ((KeepT.alloc 32 w21 _).trans (KeepT.app (R22.out.alloc _) g2))
        have B22 := Lib.hid ((B21.out.alloc B21.out.size _).grown g2 (by have := B21.out.size; simp; omega) fun k e => (R22.out.lt k e).1)
        have Q2 := Lib.hid q2
        have R33 := Lib.hid ((R32.out.alloc _).kept g2 (by
          cases h3 : u6.ownBlock with
          | none => exact Or.inl rfl
          | some g => exact Or.inr fun e => HST.out.ap g e.symm h3))
        have AP2 := Lib.hid (show ∀ g, v2'.ownBlock = some g → u6.ownBlock ≠ some g from fun g e e3 => by
          rcases at2 with h | h
          · rw [h] at e; exact HST.out.ap g e e3
          · rw [h] at e; cases e; have hlt := (R32.out.lt _ e3).2; rw [World.size_alloc] at hlt; omega)
        clear q2 g2 at2
        go_wp2_with (at_builtin; refine Hid.out ?_)
        unfold Hid
        refine app_one rfl (.tmp 89) (.tmp 91) 25 32 rfl i2 _ 24 Try.underlying25 s1 s2 s3 s4 rfl (by omega) W.heap.size u6 k _ rfl (R33.out.alloc _) w22.heap.size (.slice A2 _ d2') rfl (block_cell (heap_alloc_new _ _)) rfl (by omega) (by have := B22.out.size; simp; omega) ?_
        intro v3' w23 q3 g3 at3
        have K3 := Lib.hid ((KeepT.alloc 32 w22 _).trans (KeepT.app (R33.out.alloc _) g3))
        have B23 := Lib.hid ((B22.out.alloc B22.out.size _).grown g3 (by have := B22.out.size; simp; omega) fun k e => (R33.out.lt k e).1)
        have Q23 := Lib.hid ((Q2.out.alloc (.cells #[.slice A2 (itemsL (setF f at0 n0) 2 0).length d2'] 32)).kept g3 (by
          cases h3 : v2'.ownBlock with
          | none => exact Or.inl rfl
          | some g => exact Or.inr fun e => AP2.out g h3 e.symm))
        have AP3 : ∀ g, v2'.ownBlock = some g → v3'.ownBlock ≠ some g := fun g e e3 => by
          rcases at3 with h | h
          · rw [h] at e3; exact AP2.out g e e3
          · rw [h] at e3; cases e3; have hlt := (Q2.out.lt _ e).2; rw [World.size_alloc] at hlt; omega
        have HN2 := Lib.hid (stays_next HST.out HWR20.out HR20.out HINJ.out HU1.out HU2.out K1.out K2.out K3.out (by rw [List.map_append]; exact Q1.out) Q23.out q3 AP3 B23.out)
        clear q3 g3 at3 AP3 s1 s2 s3 s4
        go_wp2
        go_roundw
        case rel => exact ⟨k + 1, A', v1', v2', v3', by omega, by omega, by go_num, rfl, rfl, rfl, rfl, ⟨_, _, _, _, _, _, HN2.out⟩⟩
        case measure => simp [intOf]; omega
      · have hqb : (q == n0) = false := by simp [hqn]
        clear hqn
        go_wp2
        refine wp_region_held_drew (S := fun w' => w'.cell? ⟨b, o + k * 2, none⟩ = some (.int .i64 at0) ∧ w'.cell? ⟨b, o + k * 2 + 1, none⟩ = some (.int .i64 n0)) (by kernel_rfl) ⟨c15, c25⟩ fun hS => ?_
        refine takeH 0 (v := ?_) rfl (by kernel_rfl) (by kernel_rfl) (by kernel_rfl) (fun _ _ _ h => h) (Or.inl ⟨by rfl, ?_⟩) hS ?_
        rotate_left; · ((intro w hSw); (try dsimp only at hSw); go_simp; (try with_reducible rfl))
        try simp only [Act.put, List.setIfInBounds_toArray, List.set_cons_zero, List.set_cons_succ]
        refine takeH 2 (v := ?_) rfl (by kernel_rfl) (by kernel_rfl) (by kernel_rfl) (fun _ _ _ h => h) (Or.inl ⟨by rfl, ?_⟩) hS ?_
        rotate_left; · ((intro w hSw); (try dsimp only at hSw); go_simp; (try with_reducible rfl))
        try simp only [Act.put, List.setIfInBounds_toArray, List.set_cons_zero, List.set_cons_succ]
        refine takeH 3 (v := ?_) rfl (by kernel_rfl) (by kernel_rfl) (by kernel_rfl) (fun _ _ _ h => h) (Or.inl ⟨by rfl, ?_⟩) hS ?_
        rotate_left; · ((intro w hSw); (try dsimp only at hSw); go_simp; (try with_reducible rfl))
        try simp only [Act.put, List.setIfInBounds_toArray, List.set_cons_zero, List.set_cons_succ]
        refine oneH 1 (by kernel_rfl) rfl (fun K hK => ?_)
        go_simp
        refine (HQ.out _ HPd.out).1.mono ?_
        rintro e w6 ⟨rfl, hb6⟩
        have hHP1 := HPd.out.next hb6
        obtain ⟨b', o', eb, d1, d2⟩ := RdItems.at hHP1.l HX.out
        cases eb
        have HP1 := Lib.hid hHP1
        clear hHP1 hb6 hS
        refine hK.out _ _ ⟨d1, d2⟩ (fun hS => ?_)
        clear hK K
        try simp only [Act.put, List.setIfInBounds_toArray, List.set_cons_zero, List.set_cons_succ]
        refine oneH 4 (by kernel_rfl) rfl (fun K hK => ?_)
        go_simp
        refine (HQ.out _ HP1.out).2.2.1.mono ?_
        rintro e w7 ⟨rfl, hb7⟩
        have hHP2 := HP1.out.next hb7
        obtain ⟨b', o', eb, d1, d2⟩ := RdItems.at hHP2.l HX.out
        cases eb
        have HP2 := Lib.hid hHP2
        clear hHP2 hb7 hS
        refine hK.out _ _ ⟨d1, d2⟩ (fun hS => ?_)
        clear hK K
        try simp only [Act.put, List.setIfInBounds_toArray, List.set_cons_zero, List.set_cons_succ]
        refine takeH 5 (v := ?_) rfl (by kernel_rfl) (by kernel_rfl) (by kernel_rfl) (fun _ _ _ h => h) (Or.inl ⟨by rfl, ?_⟩) hS ?_
        rotate_left; · ((intro w hSw); (try dsimp only at hSw); go_simp; (try with_reducible rfl))
        try simp only [Act.put, List.setIfInBounds_toArray, List.set_cons_zero, List.set_cons_succ]
        refine takeH 6 (v := ?_) rfl (by kernel_rfl) (by kernel_rfl) (by kernel_rfl) (fun _ _ _ h => h) (Or.inl ⟨by rfl, ?_⟩) hS ?_
        rotate_left; · ((intro w hSw); (try dsimp only at hSw); go_simp; (try with_reducible rfl))
        try simp only [Act.put, List.setIfInBounds_toArray, List.set_cons_zero, List.set_cons_succ]
        refine takeH 7 (v := ?_) rfl (by kernel_rfl) (by kernel_rfl) (by kernel_rfl) (fun _ _ _ h => h) (Or.inl ⟨by rfl, ?_⟩) hS ?_
        rotate_left; · ((intro w hSw); (try dsimp only at hSw); go_simp; (try with_reducible rfl))
        try simp only [Act.put, List.setIfInBounds_toArray, List.set_cons_zero, List.set_cons_succ]
        refine takeH 8 (v := ?_) rfl (by kernel_rfl) (by kernel_rfl) (by kernel_rfl) (fun _ _ _ h => h) (Or.inl ⟨by rfl, ?_⟩) hS ?_
        rotate_left; · ((intro w hSw); (try dsimp only at hSw); go_simp; (try with_reducible rfl))
        try simp only [Act.put, List.setIfInBounds_toArray, List.set_cons_zero, List.set_cons_succ]
        refine takeH 9 (v := ?_) rfl (by kernel_rfl) (by kernel_rfl) (by kernel_rfl) (fun _ _ _ h => h) (Or.inl ⟨by rfl, ?_⟩) hS ?_
        rotate_left; · ((intro w hSw); (try dsimp only at hSw); go_simp; (try with_reducible rfl))
        try simp only [Act.put, List.setIfInBounds_toArray, List.set_cons_zero, List.set_cons_succ]
        refine takeH 11 (v := ?_) rfl (by kernel_rfl) (by kernel_rfl) (by kernel_rfl) (fun _ _ _ h => h) (Or.inl ⟨by rfl, ?_⟩) hS ?_
        rotate_left; · ((intro w hSw); (try dsimp only at hSw); go_simp; (try with_reducible rfl))
        try simp only [Act.put, List.setIfInBounds_toArray, List.set_cons_zero, List.set_cons_succ]
        refine takeH 12 (v := ?_) rfl (by kernel_rfl) (by kernel_rfl) (by kernel_rfl) (fun _ _ _ h => h) (Or.inl ⟨by rfl, ?_⟩) hS ?_
        rotate_left; · ((intro w hSw); (try dsimp only at hSw); go_simp; (try with_reducible rfl))
        try simp only [Act.put, List.setIfInBounds_toArray, List.set_cons_zero, List.set_cons_succ]
        refine oneH 10 (by kernel_rfl) rfl (fun K hK => ?_)
        go_simp
        refine (HQ.out _ HP2.out).2.2.1.mono ?_
        rintro e w8 ⟨rfl, hb8⟩
        have hHP3 := HP2.out.next hb8
        obtain ⟨b', o', eb, d1, d2⟩ := RdItems.at hHP3.l HX.out
        cases eb
        have HP3 := Lib.hid hHP3
        clear hHP3 hb8 hS
        refine hK.out _ _ ⟨d1, d2⟩ (fun hS => ?_)
        clear hK K
        try simp only [Act.put, List.setIfInBounds_toArray, List.set_cons_zero, List.set_cons_succ]
        refine oneH 13 (by kernel_rfl) rfl (fun K hK => ?_)
        go_simp
        refine (HQ.out _ HP3.out).2.2.2.1.mono ?_
        rintro e w9 ⟨rfl, hb9⟩
        have hHP4 := HP3.out.next hb9
        obtain ⟨b', o', eb, d1, d2⟩ := RdItems.at hHP4.l HX.out
        cases eb
        have HP4 := Lib.hid hHP4
        clear hHP4 hb9 hS
        refine hK.out _ _ ⟨d1, d2⟩ (fun hS => ?_)
        clear hK K
        try simp only [Act.put, List.setIfInBounds_toArray, List.set_cons_zero, List.set_cons_succ]
        refine takeH 14 (v := ?_) rfl (by kernel_rfl) (by kernel_rfl) (by kernel_rfl) (fun _ _ _ h => h) (Or.inl ⟨by rfl, ?_⟩) hS ?_
        rotate_left; · ((intro w hSw); (try dsimp only at hSw); go_simp; (try with_reducible rfl))
        try simp only [Act.put, List.setIfInBounds_toArray, List.set_cons_zero, List.set_cons_succ]
        refine takeH 15 (v := ?_) rfl (by kernel_rfl) (by kernel_rfl) (by kernel_rfl) (fun _ _ _ h => h) (Or.inl ⟨by rfl, ?_⟩) hS ?_
        rotate_left; · ((intro w hSw); (try dsimp only at hSw); go_simp; (try with_reducible rfl))
        try simp only [Act.put, List.setIfInBounds_toArray, List.set_cons_zero, List.set_cons_succ]
        refine takeH 16 (v := ?_) rfl (by kernel_rfl) (by kernel_rfl) (by kernel_rfl) (fun _ _ _ h => h) (Or.inl ⟨by rfl, ?_⟩) hS ?_
        rotate_left; · ((intro w hSw); (try dsimp only at hSw); go_simp; (try with_reducible rfl))
        try simp only [Act.put, List.setIfInBounds_toArray, List.set_cons_zero, List.set_cons_succ]
        refine takeH 17 (v := ?_) rfl (by kernel_rfl) (by kernel_rfl) (by kernel_rfl) (fun _ _ _ h => h) (Or.inl ⟨by rfl, ?_⟩) hS ?_
        rotate_left; · ((intro w hSw); (try dsimp only at hSw); go_simp; (try with_reducible rfl))
        try simp only [Act.put, List.setIfInBounds_toArray, List.set_cons_zero, List.set_cons_succ]
        refine takeH 18 (v := ?_) rfl (by kernel_rfl) (by kernel_rfl) (by kernel_rfl) (fun _ _ _ h => h) (Or.inl ⟨by rfl, ?_⟩) hS ?_
        rotate_left; · ((intro w hSw); (try dsimp only at hSw); go_simp; (try with_reducible rfl))
        try simp only [Act.put, List.setIfInBounds_toArray, List.set_cons_zero, List.set_cons_succ]
        refine takeH 19 (v := ?_) rfl (by kernel_rfl) (by kernel_rfl) (by kernel_rfl) (fun _ _ _ h => h) (Or.inl ⟨by rfl, ?_⟩) hS ?_
        rotate_left; · ((intro w hSw); (try dsimp only at hSw); go_simp; (try with_reducible rfl))
        try simp only [Act.put, List.setIfInBounds_toArray, List.set_cons_zero, List.set_cons_succ]
        refine takeH 20 (v := ?_) rfl (by kernel_rfl) (by kernel_rfl) (by kernel_rfl) (fun _ _ _ h => h) (Or.inl ⟨by rfl, ?_⟩) hS ?_
        rotate_left; · ((intro w hSw); (try dsimp only at hSw); go_simp; (try with_reducible rfl))
        try simp only [Act.put, List.setIfInBounds_toArray, List.set_cons_zero, List.set_cons_succ]
        refine takeH 21 (v := ?_) rfl (by kernel_rfl) (by kernel_rfl) (by kernel_rfl) (fun _ _ _ h => h) (Or.inl ⟨by rfl, ?_⟩) hS ?_
        rotate_left; · ((intro w hSw); (try dsimp only at hSw); go_simp; (try with_reducible rfl))
        try simp only [Act.put, List.setIfInBounds_toArray, List.set_cons_zero, List.set_cons_succ]
        refine takeH 22 (v := ?_) rfl (by kernel_rfl) (by kernel_rfl) (by kernel_rfl) (fun _ _ _ h => h) (Or.inl ⟨by rfl, ?_⟩) hS ?_
        rotate_left; · ((intro w hSw); (try dsimp only at hSw); go_simp; (try with_reducible rfl))
        try simp only [Act.put, List.setIfInBounds_toArray, List.set_cons_zero, List.set_cons_succ]
        refine takeH 24 (v := ?_) rfl (by kernel_rfl) (by kernel_rfl) (by kernel_rfl) (fun _ _ _ h => h) (Or.inl ⟨by rfl, ?_⟩) hS ?_
        rotate_left; · ((intro w hSw); (try dsimp only at hSw); go_simp; (try with_reducible rfl))
        try simp only [Act.put, List.setIfInBounds_toArray, List.set_cons_zero, List.set_cons_succ]
        refine takeH 25 (v := ?_) rfl (by kernel_rfl) (by kernel_rfl) (by kernel_rfl) (fun _ _ _ h => h) (Or.inl ⟨by rfl, ?_⟩) hS ?_
        rotate_left; · ((intro w hSw); (try dsimp only at hSw); go_simp; (try with_reducible rfl))
        try simp only [Act.put, List.setIfInBounds_toArray, List.set_cons_zero, List.set_cons_succ]
        refine takeH 26 (v := ?_) rfl (by kernel_rfl) (by kernel_rfl) (by kernel_rfl) (fun _ _ _ h => h) (Or.inl ⟨by rfl, ?_⟩) hS ?_
        rotate_left; · ((intro w hSw); (try dsimp only at hSw); go_simp; (try with_reducible rfl))
        try simp only [Act.put, List.setIfInBounds_toArray, List.set_cons_zero, List.set_cons_succ]
        refine takeH 27 (v := ?_) rfl (by kernel_rfl) (by kernel_rfl) (by kernel_rfl) (fun _ _ _ h => h) (Or.inl ⟨by rfl, ?_⟩) hS ?_
        rotate_left; · ((intro w hSw); (try dsimp only at hSw); go_simp; (try with_reducible rfl))
        try simp only [Act.put, List.setIfInBounds_toArray, List.set_cons_zero, List.set_cons_succ]
        refine takeH 28 (v := ?_) rfl (by kernel_rfl) (by kernel_rfl) (by kernel_rfl) (fun _ _ _ h => h) (Or.inl ⟨by rfl, ?_⟩) hS ?_
        rotate_left; · ((intro w hSw); (try dsimp only at hSw); go_simp; (try with_reducible rfl))
        try simp only [Act.put, List.setIfInBounds_toArray, List.set_cons_zero, List.set_cons_succ]
        refine oneH 23 (by kernel_rfl) rfl (fun K hK => ?_)
        go_simp
        refine (HQ.out _ HP4.out).2.2.2.2.mono ?_
        rintro e w10 ⟨rfl, hb10⟩
        have hHP5 := HP4.out.next hb10
        obtain ⟨b', o', eb, d1, d2⟩ := RdItems.at hHP5.l HX.out
        cases eb
        have HP5 := Lib.hid hHP5
        clear hHP5 hb10 hS
        refine hK.out _ _ ⟨d1, d2⟩ (fun hS => ?_)
        clear hK K
        try simp only [Act.put, List.setIfInBounds_toArray, List.set_cons_zero, List.set_cons_succ]
        refine takeH 29 (v := ?_) rfl (by kernel_rfl) (by kernel_rfl) (by kernel_rfl) (fun _ _ _ h => h) (Or.inl ⟨by rfl, ?_⟩) hS ?_
        rotate_left; · ((intro w hSw); (try dsimp only at hSw); go_simp; (try with_reducible rfl))
        try simp only [Act.put, List.setIfInBounds_toArray, List.set_cons_zero, List.set_cons_succ]
        refine takeH 30 (v := ?_) rfl (by kernel_rfl) (by kernel_rfl) (by kernel_rfl) (fun _ _ _ h => h) (Or.inl ⟨by rfl, ?_⟩) hS ?_
        rotate_left; · ((intro w hSw); (try dsimp only at hSw); go_simp; (try with_reducible rfl))
        try simp only [Act.put, List.setIfInBounds_toArray, List.set_cons_zero, List.set_cons_succ]
        refine takeH 31 (v := undef) rfl (by kernel_rfl) (by kernel_rfl) (by kernel_rfl) (fun _ _ _ h => h) (Or.inr ⟨by rfl, rfl⟩) hS ?_
        try simp only [Act.put, List.setIfInBounds_toArray, List.set_cons_zero, List.set_cons_succ]
        refine takeH 32 (v := undef) rfl (by kernel_rfl) (by kernel_rfl) (by kernel_rfl) (fun _ _ _ h => h) (Or.inr ⟨by rfl, rfl⟩) hS ?_
        try simp only [Act.put, List.setIfInBounds_toArray, List.set_cons_zero, List.set_cons_succ]
        refine takeH 33 (v := undef) rfl (by kernel_rfl) (by kernel_rfl) (by kernel_rfl) (fun _ _ _ h => h) (Or.inr ⟨by rfl, rfl⟩) hS ?_
        try simp only [Act.put, List.setIfInBounds_toArray, List.set_cons_zero, List.set_cons_succ]
        refine takeH 34 (v := undef) rfl (by kernel_rfl) (by kernel_rfl) (by kernel_rfl) (fun _ _ _ h => h) (Or.inr ⟨by rfl, rfl⟩) hS ?_
        try simp only [Act.put, List.setIfInBounds_toArray, List.set_cons_zero, List.set_cons_succ]
        refine takeH 35 (v := undef) rfl (by kernel_rfl) (by kernel_rfl) (by kernel_rfl) (fun _ _ _ h => h) (Or.inr ⟨by rfl, rfl⟩) hS ?_
        try simp only [Act.put, List.setIfInBounds_toArray, List.set_cons_zero, List.set_cons_succ]
        refine takeH 36 (v := undef) rfl (by kernel_rfl) (by kernel_rfl) (by kernel_rfl) (fun _ _ _ h => h) (Or.inr ⟨by rfl, rfl⟩) hS ?_
        try simp only [Act.put, List.setIfInBounds_toArray, List.set_cons_zero, List.set_cons_succ]
        refine takeH 37 (v := ?_) rfl (by kernel_rfl) (by kernel_rfl) (by kernel_rfl) (fun _ _ _ h => h) (Or.inl ⟨by rfl, ?_⟩) hS ?_
        rotate_left; · ((intro w hSw); (try dsimp only at hSw); go_simp; (try with_reducible rfl))
        try simp only [Act.put, List.setIfInBounds_toArray, List.set_cons_zero, List.set_cons_succ]
        refine takeH 38 (v := ?_) rfl (by kernel_rfl) (by kernel_rfl) (by kernel_rfl) (fun _ _ _ h => h) (Or.inl ⟨by rfl, ?_⟩) hS ?_
        rotate_left; · ((intro w hSw); (try dsimp only at hSw); go_simp; (try with_reducible rfl))
        try simp only [Act.put, List.setIfInBounds_toArray, List.set_cons_zero, List.set_cons_succ]
        refine wpAnyH_done (by kernel_rfl) ?_ _
        have HPE := HP5
        go_wp2_with fail
        refine (all_any _ _ _ _ HPE.out.b).mono ?_
        rintro e w20 ⟨u1, u2, rfl, ho1, ho2, hb20⟩
        obtain ⟨A1, d1', rfl, _⟩ := own_rdA ho1
        obtain ⟨A2, d2', rfl, _⟩ := own_rdA ho2
        have hbl20 := HPE.out.bl.trans (hb20.mono HPE.out.bl.size)
        have hwr20 := HPE.out.bs.trans (hb20.mono HPE.out.bs.size)
        have hr20 := HPE.out.b.below hb20
        have hs := HST.out
        have R1 := Lib.hid (row_below hs.o1 hwr20)
        have R2 := Lib.hid (row_below hs.o2 hwr20)
        have R3 := Lib.hid (row_below hs.o3 hwr20)
        have HU1 := Lib.hid (own_base ho1 (Nat.zero_le _))
        have HU2 := Lib.hid (own_base ho2 (Nat.zero_le _))
        have HBL20 := Lib.hid hbl20
        have HWR20 := Lib.hid hwr20
        have HR20 := Lib.hid hr20
        obtain ⟨i1, t1, t2, t3, t4⟩ := info_parts infoTTP
        obtain ⟨i2, s1, s2, s3, s4⟩ := info_parts infoTINTSf
        clear ho1 ho2 hb20 hbl20 hwr20 hr20 hs
        go_wp2_with (at_builtin; refine Hid.out ?_)
        unfold Hid
        refine app_one rfl (.tmp 81) (.tmp 83) 24 23 rfl i1 _ 8 Try.underlying24 t1 t2 t3 t4 rfl (by omega) W.heap.size u4 k _ rfl (R1.out.alloc _) w20.heap.size (.pointer A') rfl (block_cell (heap_alloc_new _ _)) rfl (by omega) (by have := HBL20.out.size; simp; omega) ?_
        intro v1' w21 q1 g1 _
        have K1 := Lib.hid ((KeepT.alloc 23 w20 _).trans (KeepT.app (R1.out.alloc _) g1))
        have B21 := Lib.hid ((HBL20.out.alloc HBL20.out.size _).grown g1 (by have := HBL20.out.size; simp; omega) fun k e => (R1.out.lt k e).1)
        have Q1 := Lib.hid q1
        have R22 := Lib.hid (own_keepT R2.out K1.out (by decide))
        have R32 := Lib.hid (own_keepT R3.out K1.out (by decide))
        clear q1 g1 t1 t2 t3 t4
        go_wp2_with (at_builtin; refine Hid.out ?_)
        unfold Hid
        refine app_one rfl (.tmp 85) (.tmp 87) 25 32 rfl i2 _ 24 Try.underlying25 s1 s2 s3 s4 rfl (by omega) W.heap.size u5 k _ rfl (R22.out.alloc _) w21.heap.size (.slice A1 _ d1') rfl (block_cell (heap_alloc_new _ _)) rfl (by omega) (by have := B21.out.size; simp; omega) ?_
        intro v2' w22 q2 g2 at2
        have K2 := Lib.hid ((KeepT.alloc 32 w21 _).trans (KeepT.app (R22.out.alloc _) g2))
        have B22 := Lib.hid ((B21.out.alloc B21.out.size _).grown g2 (by have := B21.out.size; simp; omega) fun k e => (R22.out.lt k e).1)
        have Q2 := Lib.hid q2
        have R33 := Lib.hid ((R32.out.alloc _).kept g2 (by
          cases h3 : u6.ownBlock with
          | none => exact Or.inl rfl
          | some g => exact Or.inr fun e => HST.out.ap g e.symm h3))
        have AP2 := Lib.hid (show ∀ g, v2'.ownBlock = some g → u6.ownBlock ≠ some g from fun g e e3 => by
          rcases at2 with h | h
          · rw [h] at e; exact HST.out.ap g e e3
          · rw [h] at e; cases e; have hlt := (R32.out.lt _ e3).2; rw [World.size_alloc] at hlt; omega)
        clear q2 g2 at2
        go_wp2_with (at_builtin; refine Hid.out ?_)
        unfold Hid
        refine app_one rfl (.tmp 89) (.tmp 91) 25 32 rfl i2 _ 24 Try.underlying25 s1 s2 s3 s4 rfl (by omega) W.heap.size u6 k _ rfl (R33.out.alloc _) w22.heap.size (.slice A2 _ d2') rfl (block_cell (heap_alloc_new _ _)) rfl (by omega) (by have := B22.out.size; simp; omega) ?_
        intro v3' w23 q3 g3 at3
        have K3 := Lib.hid ((KeepT.alloc 32 w22 _).trans (KeepT.app (R33.out.alloc _) g3))
        have B23 := Lib.hid ((B22.out.alloc B22.out.size _).grown g3 (by have := B22.out.size; simp; omega) fun k e => (R33.out.lt k e).1)
        have Q23 := Lib.hid ((Q2.out.alloc (.cells #[.slice A2 (itemsL (setF f at0 n0) 2 0).length d2'] 32)).kept g3 (by
          cases h3 : v2'.ownBlock with
          | none => exact Or.inl rfl
          | some g => exact Or.inr fun e => AP2.out g h3 e.symm))
        have AP3 : ∀ g, v2'.ownBlock = some g → v3'.ownBlock ≠ some g := fun g e e3 => by
          rcases at3 with h | h
          · rw [h] at e3; exact AP2.out g e e3
          · rw [h] at e3; cases e3; have hlt := (Q2.out.lt _ e).2; rw [World.size_alloc] at hlt; omega
        have HN2 := Lib.hid (stays_next HST.out HWR20.out HR20.out HINJ.out HU1.out HU2.out K1.out K2.out K3.out (by rw [List.map_append]; exact Q1.out) Q23.out q3 AP3 B23.out)
        clear q3 g3 at3 AP3 s1 s2 s3 s4
        go_wp2
        go_roundw
        case rel => exact ⟨k + 1, A', v1', v2', v3', by omega, by omega, by go_num, rfl, rfl, rfl, rfl, ⟨_, _, _, _, _, _, HN2.out⟩⟩
        case measure => simp [intOf]; omega
    · obtain ⟨f, S, As, Ps, Ns, fs, hst⟩ := hst.out
      obtain ⟨A1, d1, rfl, _, hr1, _⟩ := own_rdA hst.o1
      obtain ⟨A2, d2, rfl, _, hr2, _⟩ := own_rdA hst.o2
      obtain ⟨A3, d3, rfl, _, hr3, _⟩ := own_rdA hst.o3
      have R1 := Lib.hid hr1
      have R2 := Lib.hid hr2
      have R3 := Lib.hid hr3
      have HO := Lib.hid hst.old
      have HL := Lib.hid hst.len
      have HB := Lib.hid hst.bl
      have hor : ¬ k < n ∨ ¬ k < 30 := by omega
      clear hst hr1 hr2 hr3 hgo
      by_cases hkn : k < n
      all_goals
        have hki : (k : Int) < (n : Int) ∨ (n : Int) ≤ (k : Int) := by omega
        have hki2 : k < n → (30 : Int) ≤ (k : Int) := by omega
        first
        | (have h1 : (k : Int) < (n : Int) := by omega
           have h2 : ¬ (k : Int) < 30 := by omega
           clear hki hki2 hor
           go_wp2)
        | (have h1 : ¬ (k : Int) < (n : Int) := by omega
           clear hki hki2 hor
           go_wp2)
        go_loopw [11] (fun i w2 => ∃ j : Nat, j ≤ k ∧ i = .int .i64 j ∧ Below wr.heap.size wr w2) (fun i _ => k - (intOf i).toNat)
        case atStart => exact ⟨0, by omega, rfl, Below.refl _ _⟩
        case round =>
          obtain ⟨j, hj, rfl, hbj⟩ := hrel
          by_cases hjk : j < k
          · obtain ⟨g, hg⟩ : ∃ g, fs[j]? = some g := ⟨_, List.getElem?_eq_getElem (by rw [HL.out]; exact hjk)⟩
            obtain ⟨A', S', u1, u2, a1, a2, a3, a4, a5, a6⟩ := HO.out j g hg
            obtain ⟨b1, o1, e1, c1⟩ := (RdA.below R1.out hbj) j _ (show (As.map Value.pointer)[j]? = some (.pointer A') by rw [List.getElem?_map, a1]; rfl)
            have HA := Lib.hid (all_any g S' A' _ (a2.below hbj))
            have H3 := Lib.hid a3
            have H4 := Lib.hid a4
            have H5 := Lib.hid a5
            have H6 := Lib.hid a6
            have HJ := Lib.hid hbj
            have hji : (j : Int) < (k : Int) := by omega
            subst e1
            clear hg a1 a2 a3 a4 a5 a6 hbj
            go_wp2_with fail
            refine HA.out.mono ?_
            rintro e w3 ⟨x1, x2, rfl, ho1, ho2, hb3⟩
            have hb3' := HJ.out.trans (hb3.mono HJ.out.size)
            obtain ⟨X1, k1, rfl, _, rx1, _⟩ := own_rdA ho1
            obtain ⟨X2, k2, rfl, _, rx2, _⟩ := own_rdA ho2
            have h5 := row_below H5.out hb3'
            have h6 := row_below H6.out hb3'
            obtain ⟨Y1, m1, rfl, _, ry1, _⟩ := own_rdA h5
            obtain ⟨Y2, m2, rfl, _, ry2, _⟩ := own_rdA h6
            obtain ⟨b2, o2, e2, c2⟩ := (RdA.below R2.out hb3') j _ H3.out
            obtain ⟨b3, o3, e3, c3⟩ := (RdA.below R3.out hb3') j _ H4.out
            subst e2 e3
            have hle := items_le g
            have HN1 := Lib.hid (show (ints (itemsL g 2 0)).length = (itemsL g 2 0).length by simp [ints])
            have HN2 := Lib.hid (show ((itemsL g 2 0).map g).length = (itemsL g 2 0).length by simp)
            have HI1 := Lib.hid (ints_same X1 Y1 k1 m1 (ints (itemsL g 2 0)) w3 HN1.out HN1.out (by rw [← xsP_zs]; exact rx1) (by rw [← xsP_zs]; exact ry1) (by omega))
            have HI2 := Lib.hid (fun w4 (hb : Below w3.heap.size w3 w4) => ints_same X2 Y2 k2 m2 ((itemsL g 2 0).map g) w4 HN2.out HN2.out (by rw [← xsN_zs]; exact RdA.below rx2 hb) (by rw [← xsN_zs]; exact RdA.below ry2 hb) (by omega))
            have HB3 := Lib.hid hb3'
            clear ho1 ho2 hb3 hb3' rx1 rx2 ry1 ry2 h5 h6
            go_wp2_with fail
            refine HI1.out.mono ?_
            rintro e w4 ⟨rfl, hb4⟩
            have c3' : w4.cell? ⟨b3, o3 + j, none⟩ = _ := (World.cell?_of_block (hb4.block b3 (cell_lt c3))).trans c3
            have HI2' := Lib.hid (HI2.out w4 hb4)
            have HB4 := Lib.hid (HB3.out.trans (hb4.mono HB3.out.size))
            clear hb4
            go_wp2_with fail
            refine HI2'.out.mono ?_
            rintro e w5 ⟨rfl, hb5⟩
            have HB5 := Lib.hid (HB4.out.trans (hb5.mono HB4.out.size))
            clear hb5
            go_wp2
            go_roundw
            case rel => exact ⟨j + 1, by omega, by go_num, HB5.out⟩
            case measure => simp [intOf]; omega
          · obtain rfl : j = k := by omega
            have HJ := Lib.hid (HB.out.trans (hbj.mono HB.out.size))
            clear hbj
            go_wp2_with fail
            refine (sure_any _).mono ?_
            rintro e w9 ⟨rfl, hb9⟩
            have HB9 := Lib.hid (HJ.out.trans (hb9.mono HJ.out.size))
            clear hb9
            go_wp2
            go_ret
            exact ⟨rfl, HB9.out⟩
end Go.Proofs.Ytnnadhfpkplncaa
