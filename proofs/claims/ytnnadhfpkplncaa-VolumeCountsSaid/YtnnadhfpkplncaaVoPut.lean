/- Numbers put at places of a volume. Condition: the set reads, its names go up; the numbers read. -/
import Derived.Test.YtnnadhfpkplncaaVoCont
import Derived.Deep.CutRange
import Derived.Deep.LoopGhost
namespace Go.Proofs.Ytnnadhfpkplncaa
open Go.RowKit

theorem KeepT.setCell {T : TypeId} {w : World} {g o : Nat} {cs : Array Value} (v : Value) (h : w.heap[g]? = some (.cells cs T (0, 0))) : KeepT T w (w.setCell ⟨g, o, none⟩ v) := by
  refine ⟨by rw [World.size_setCell]; exact Nat.le_refl _, fun b c t ht hb => (Below.heap_setCell w ⟨g, o, none⟩ v b (fun e => ht ?_)).trans hb⟩
  have e2 : b = g := e
  rw [e2, h] at hb
  cases hb
  rfl
/-- The volume at hand, behind so many of the numbers. -/
structure PutAt (W : World) (x : Vol) (z : Int) (xs : List Int) (q : Nat) (wr : World) (f : Nat → Int) (gs : List Int) (v : Value) (A : Option Addr) : Prop where
  low : Below W.heap.size W wr
  tree : ∃ S, RdR f S wr A
  box : wr.heap[q]? = some (.cells #[.string ⟨x.name.toArray⟩, .int .i64 x.blocks, .int .i64 x.quota, .int .i64 x.used, .bool x.frozen, .pointer A] 92 (0, 0))
  gone : wr.ownsRow W.heap.size 3 1 v gs.length (zs gs)
theorem PutAt.cl {W : World} {x : Vol} {z : Int} {xs : List Int} {q : Nat} {w w' : World} {f : Nat → Int} {gs : List Int} {v : Value} {A : Option Addr} (h : PutAt W x z xs q w f gs v A) (k : Below w.heap.size w w') : PutAt W x z xs q w' f gs v A := by
  obtain ⟨S, hS⟩ := h.tree
  exact ⟨h.low.trans (k.mono h.low.size), ⟨S, RdR.below hS k⟩, (k.block q (block_lt h.box)).trans h.box, own_keepT h.gone (KeepT.of_below (T := 3 + 1) k) (Nat.ne_of_lt (Nat.lt_succ_self _))⟩
/-- A number that went is told. -/
theorem PutAt.app {W : World} {x : Vol} {z : Int} {xs : List Int} {q : Nat} {w w' : World} {f : Nat → Int} {gs gs' : List Int} {v v' : Value} {A : Option Addr} (h : PutAt W x z xs q w f gs v A) (g : w.grownBy w' v.ownBlock) (ho : w'.ownsRow W.heap.size 3 1 v' gs'.length (zs gs')) : PutAt W x z xs q w' f gs' v' A := by
  obtain ⟨S, hS⟩ := h.tree
  have k : KeepT 3 w w' := KeepT.app h.gone g
  exact ⟨below_grown h.low g h.low.size (fun q e => own_geV h.gone e), ⟨S, RdR.keepT hS k (by decide) (by decide)⟩, k.2 _ _ _ (by decide) h.box, ho⟩
/-- The tree set anew is stored. -/
theorem PutAt.put {W : World} {x : Vol} {z : Int} {xs : List Int} {q : Nat} {w : World} {f f' : Nat → Int} {gs : List Int} {v : Value} {A A' : Option Addr} (h : PutAt W x z xs q w f gs v A) (ht : ∃ S, RdR f' S w A') (hq : W.heap.size ≤ q) :
    PutAt W x z xs q (w.setCell ⟨q, 5, none⟩ (.pointer A')) f' gs v A' := by
  obtain ⟨S, hS⟩ := ht
  have k : KeepT 92 w (w.setCell ⟨q, 5, none⟩ (.pointer A')) := KeepT.setCell _ h.box
  exact ⟨h.low.setCell (p := ⟨q, 5, none⟩) hq _, ⟨S, RdR.keepT hS k (by decide) (by decide)⟩, heap_setCell_same w q 5 _ 92 _ h.box, own_keepT h.gone k (by decide)⟩
def putX (x : Vol) (z : Int) (xs : List Int) (A : Option Addr) : Vol := ⟨x.name, x.blocks, x.quota, uK x.used x.f z xs xs.length, x.frozen, A, fK x.f z xs xs.length⟩
def okP (l : List Vol) (t : List UInt8) (z : Int) (xs : List Int) : Prop := (∀ y ∈ xs, badN y = false) ∧ ∃ x ∈ l, x.name = t ∧ inR x z xs.length ∧ x.frozen = false ∧ (uK x.used x.f z xs xs.length ≤ x.quota ∨ uK x.used x.f z xs xs.length ≤ x.used)
def PutPost (l : List Vol) (t : List UInt8) (z : Int) (xs : List Int) (w : World) (e : Ending) (w' : World) : Prop := Below w.heap.size w w' ∧
  (((∃ k, e = .returned (.tuple #[.pointer none, .slice none 0 0, .iface 93 (.int .i64 k)])) ∧ ¬ okP l t z xs) ∨
  ((∀ y ∈ xs, badN y = false) ∧ ∃ i x b A B c, l[i]? = some x ∧ x.name = t ∧ Cut l t i ∧ inR x z xs.length ∧ e = .returned (.tuple #[.pointer (some ⟨b, 0, none⟩), .slice B (goneN x.f z xs.length).length c, .nilIface]) ∧
    RdA w' B (zs (goneN x.f z xs.length)) ∧ RdS w' (some ⟨b, 0, none⟩) (putV l i (putX x z xs A))))
set_option maxRecDepth 100000 in
set_option maxHeartbeats 12800000 in
theorem vput_any (s : Option Addr) (l : List Vol) (t : List UInt8) (z : Int) (xs : List Int) (A : Option Addr) (c : Nat) (w : World) (h : RdS w s l) (hu : Up l) (hl : l.length ≤ 900) (hb : ∀ x ∈ l, 0 ≤ x.blocks ∧ x.blocks ≤ 4096 ∧ 0 ≤ x.used ∧ x.used ≤ 4096)
    (hx : RdA w A (zs xs)) (hxl : xs.length ≤ 140737488355328) : Calls Try.prog 28 #[.pointer s, .string ⟨t.toArray⟩, .int .i64 z, .slice A xs.length c] w (PutPost l t z xs w) := by
  have HCT := Lib.hid (cont_any A c xs w hx hxl)
  have HS := Lib.hid h
  have HU := Lib.hid hu
  have HBK := Lib.hid hb
  have HRX := Lib.hid hx
  obtain ⟨n, hn⟩ : ∃ n, n = xs.length := ⟨_, rfl⟩
  rw [← hn] at HCT ⊢
  have HN := Lib.hid hn
  rw [← hn] at hxl
  clear h hu hb hx hn
  go_enter Try.func28, Try.ntmps28
  go_wp2_with fail
  refine HCT.out.mono ?_
  rintro e w1 ⟨bb, rfl, hbb, hb1⟩
  have HBB := Lib.hid hbb
  have HB1 := Lib.hid hb1
  clear hbb hb1 HCT
  cases bb with
  | true =>
    go_wp2_with fail
    refine bodyPost_ret (results_tmp3 rfl _ _ _) rfl ?_
    refine ⟨HB1.out, Or.inl ⟨⟨_, rfl⟩, fun h => ?_⟩⟩
    obtain ⟨y, hy, hbad⟩ := HBB.out.1 trivial
    rw [h.1 y hy] at hbad
    cases hbad
  | false =>
    have HW := Lib.hid (writ_any s l t z (n : Int) w1 (HS.out.below HB1.out) HU.out hl (fun x hx => ⟨(HBK.out x hx).1, (HBK.out x hx).2.1⟩))
    have HNB := Lib.hid (show ∀ y ∈ xs, badN y = false from fun y hy => by
      cases hbd : badN y with
      | false => rfl
      | true => exact absurd (HBB.out.2 ⟨y, hy, hbd⟩) (by simp))
    clear HBB
    go_wp2_with fail
    refine HW.out.mono ?_
    rintro e w2 ⟨hb2, ⟨i, x, hx, hxt, hc, hin, hfr, rfl⟩ | ⟨y, k, rfl, hno⟩⟩
    · obtain ⟨w3, hw3⟩ : ∃ w3, w3 = w2.alloc (.cells #[.string ⟨x.name.toArray⟩, .int .i64 x.blocks, .int .i64 x.quota, .int .i64 x.used, .bool x.frozen, .pointer x.A] 92) := ⟨_, rfl⟩
      obtain ⟨q, hq⟩ : ∃ q, q = w2.heap.size := ⟨_, rfl⟩
      have hb3 : Below w2.heap.size w2 w3 := by rw [hw3]; exact (Below.refl _ _).alloc (Nat.le_refl _) _
      have hx3 : w3.heap[q]? = some (.cells #[.string ⟨x.name.toArray⟩, .int .i64 x.blocks, .int .i64 x.quota, .int .i64 x.used, .bool x.frozen, .pointer x.A] 92 (0, 0)) := by rw [hw3, hq]; exact alloc_new _ _
      have HQ := Lib.hid (show w.heap.size ≤ q by rw [hq]; exact Nat.le_trans HB1.out.size hb2.size)
      have HB3 := Lib.hid (HB1.out.trans ((hb2.trans (hb3.mono hb2.size)).mono HB1.out.size))
      have HP3 := Lib.hid (show PutAt w x z xs q w3 x.f [] (.slice none 0 0) x.A from ⟨HB3.out, by
        obtain ⟨S, hS⟩ := HS.out.1 x (List.mem_of_getElem? hx)
        exact ⟨S, RdR.below hS HB3.out⟩, hx3, World.ownsRow_nil _ _ _ _⟩)
      obtain ⟨h1, h2, h3, h4⟩ := id hin
      obtain ⟨_, hx4096, hu0, hu1⟩ := HBK.out x (List.mem_of_getElem? hx)
      have HXX := Lib.hid (And.intro hx (And.intro hxt (And.intro hc (And.intro hin hfr))))
      have hz0 : 0 ≤ z := h1
      have hzn : z + (n : Int) ≤ 4096 := by omega
      have hn4 : n ≤ 4096 := by omega
      have y3 : w3.cell? ⟨q, 3, none⟩ = some (.int .i64 x.used) := block_cell hx3
      clear hb2 hb3 hx3 hx hxt hc hin hfr h1 h2 h3 h4 HW
      go_upto_region 4 with fail
      rw [← hw3, ← hq]
      clear hw3 hq
      go_upto_region 9 with fail
      clear y3
      go_loopg [38, 13, 14] n (fun gg iv v u wr => ∃ (k : Nat) (B : Value) (Ak : Option Addr), k ≤ n ∧ gg = n - k ∧ iv = .int .i64 k ∧ v = B ∧ u = .int .i64 (uK x.used x.f z xs k) ∧ Hid (PutAt w x z xs q wr (fK x.f z xs k) (goneN x.f z k) B Ak))
      case atStart => exact ⟨0, _, _, by omega, by omega, rfl, rfl, rfl, HP3.out⟩
      case round =>
        obtain ⟨k, B, Ak, hk, hgk, rfl, hvB, rfl, HP⟩ := hrel
        obtain rfl := hvB.symm
        clear HP3
        obtain ⟨U, hU⟩ : ∃ U, U = uK x.used x.f z xs k := ⟨_, rfl⟩
        have hUn := uK_near x.used x.f z xs k
        rw [← hU] at hUn ⊢
        have HUU := Lib.hid hU
        clear hU
        by_cases hlt : k < n
        · have hki : (k : Int) < (n : Int) := by omega
          have hw4 : IntKind.i64.wrap ((k : Int) + 1) = (k : Int) + 1 := IntWalk.i64_in _ (by omega)
          have hw5 : IntKind.i64.wrap (z + (k : Int)) = z + (k : Int) := IntWalk.i64_in _ (by omega)
          have hw6 : IntKind.i64.wrap (U - 1) = U - 1 := IntWalk.i64_in _ (by omega)
          obtain ⟨y, hy⟩ : ∃ y, xs[k]? = some y := ⟨_, List.getElem?_eq_getElem (by rw [← HN.out]; omega)⟩
          obtain ⟨b, o, rfl, c0⟩ := (HRX.out.below HP.out.low) k _ (zs_at hy)
          have HY := Lib.hid (show xs.getD k 0 = y by rw [List.getD_eq_getElem?_getD, hy]; rfl)
          have y5 : wr.cell? ⟨q, 5, none⟩ = some (.pointer Ak) := block_cell HP.out.box
          obtain ⟨O, hO⟩ : ∃ O, O = getF x.f (z + (k : Int)) := ⟨_, rfl⟩
          have HGT := Lib.hid (show Calls Try.prog 13 #[.pointer Ak, .int .i64 (z + (k : Int))] wr (fun e w' => e = .returned (.int .i64 O) ∧ Below wr.heap.size wr w') from by
            obtain ⟨S, hS⟩ := HP.out.tree
            have := get_any (fK x.f z xs k) S Ak (z + (k : Int)) wr hS
            rwa [fK_get x.f z xs k k (Nat.le_refl _), ← hO] at this)
          have HO := Lib.hid hO
          clear hy hO
          go_wp2_with fail
          refine HGT.out.mono ?_
          rintro e w6 ⟨rfl, hb6⟩
          have HP6 := Lib.hid (HP.out.cl hb6)
          clear hb6 y5 c0 HGT
          go_upto_if 50 with fail
          go_cut [13, 14] from 39 to 69 (fun v u w' => ∃ B', v = B' ∧ u = .int .i64 (U - (if O = 0 then 0 else 1)) ∧ Hid (PutAt w x z xs q w' (fK x.f z xs k) (goneN x.f z (k + 1)) B' Ak))
          case first =>
            by_cases hO : O = 0
            · subst hO
              have HG9 := Lib.hid (gone_no (f := x.f) (z := z) (k := k) HO.out.symm)
              go_wp2_with fail
              go_meet
              case rel => exact ⟨_, rfl, by simp, by rw [HG9.out]; exact HP6.out⟩
            · have HG9 := Lib.hid (gone_yes (f := x.f) (z := z) (k := k) (by rw [← HO.out]; exact hO))
              have hOb : (O != 0) = true := by simpa using hO
              have hOb2 : (O == 0) = false := by simpa using hO
              have HO9 := Lib.hid hO
              clear hO
              obtain ⟨iI, hiI, hi0, hi1, hi2⟩ := info_parts infoTINTv
              have hgl := gone_len x.f z k
              have HP6a := Lib.hid (HP6.out.cl ((Below.refl w6.heap.size w6).alloc (Nat.le_refl _) (.cells #[.int .i64 O] 3)))
              go_wp2_with (at_builtin; refine Hid.out ?_)
              unfold Hid
              refine app_one rfl (.tmp 51) (.tmp 53) 32 3 rfl iI _ 8 Try.underlying32 hiI hi0 hi1 hi2 rfl (by omega) w.heap.size _ (goneN x.f z k).length _ rfl HP6a.out.gone w6.heap.size (.int .i64 O) rfl (block_cell (alloc_new _ _)) rfl (by omega) (by have := HP6.out.low.size; rw [World.size_alloc]; omega) ?_
              intro v7 w7 ho7 hg7 _
              have HP7 := Lib.hid (HP6a.out.app (gs' := goneN x.f z (k + 1)) (v' := v7) hg7 (by
                rw [HG9.out, List.length_append, show zs (goneN x.f z k ++ [getF x.f (z + (k : Int))]) = zs (goneN x.f z k) ++ [.int .i64 O] by unfold zs; rw [List.map_append, ← HO.out]; rfl]
                exact ho7))
              clear ho7 hg7 hiI hi0 hi1 hi2
              go_wp2_with fail
              go_meet
              case rel => exact ⟨_, rfl, by rw [if_neg HO9.out], HP7.out⟩
          case rest =>
            obtain ⟨B', rfl, rfl, HPC⟩ := hcut
            obtain ⟨w8, hw8⟩ : ∃ w8, w8 = wc := ⟨_, rfl⟩
            rw [← hw8] at HPC ⊢
            clear hw8 HP6 HP
            obtain ⟨V, hV⟩ : ∃ V, V = U - (if O = 0 then 0 else 1) := ⟨_, rfl⟩
            have hVn : V ≤ U ∧ U - 1 ≤ V := by rw [hV]; split <;> omega
            rw [← hV]
            have HV := Lib.hid hV
            clear hV
            have hw7 : IntKind.i64.wrap (V + 1) = V + 1 := IntWalk.i64_in _ (by omega)
            have z5 : w8.cell? ⟨q, 5, none⟩ = some (.pointer Ak) := block_cell HPC.out.box
            have HST := Lib.hid (show Calls Try.prog 10 #[.pointer Ak, .int .i64 (z + (k : Int)), .int .i64 y] w8 (fun e w' => ∃ A', e = .returned (.pointer A') ∧ (∃ S', RdR (fK x.f z xs (k + 1)) S' w' A') ∧ Below w8.heap.size w8 w') from by
              obtain ⟨S, hS⟩ := HPC.out.tree
              exact set_to (fK x.f z xs k) (fK x.f z xs (k + 1)) S Ak (z + (k : Int)) y w8 hS (by rw [← HY.out]; rfl))
            have HUK := Lib.hid (show uK x.used x.f z xs (k + 1) = V + (if y = 0 then 0 else 1) from by
              show uK x.used x.f z xs k - (if getF x.f (z + (k : Int)) = 0 then 0 else 1) + (if xs.getD k 0 = 0 then 0 else 1) = _
              rw [HY.out, ← HO.out, ← HUU.out, HV.out])
            rcases (show y = 0 ∨ y ≠ 0 by omega) with hy | hy
            · subst hy
              have HU2 := Lib.hid (show uK x.used x.f z xs (k + 1) = V from by rw [HUK.out]; simp)
              go_wp2_with fail
              refine HST.out.mono ?_
              rintro e w9 ⟨A', rfl, ht9, hb9⟩
              have HP9 := Lib.hid ((HPC.out.cl hb9).put ht9 HQ.out)
              have f9 : w9.frozen? ⟨q, 5, none⟩ = false := block_free (HPC.out.cl hb9).box
              have z9 : w9.cell? ⟨q, 5, none⟩ = some (.pointer Ak) := block_cell (HPC.out.cl hb9).box
              clear hb9 ht9 z5
              go_wp2_with fail
              go_roundg (n - (k + 1))
              case measure => omega
              case rel => exact ⟨k + 1, _, A', by omega, rfl, by congr 1, rfl, by rw [HU2.out], HP9.out⟩
            · have hyb : (y != 0) = true := by simpa using hy
              have hyb2 : (y == 0) = false := by simpa using hy
              have HU2 := Lib.hid (show uK x.used x.f z xs (k + 1) = V + 1 from by rw [HUK.out, if_neg hy])
              go_wp2_with fail
              refine HST.out.mono ?_
              rintro e w9 ⟨A', rfl, ht9, hb9⟩
              have HP9 := Lib.hid ((HPC.out.cl hb9).put ht9 HQ.out)
              have f9 : w9.frozen? ⟨q, 5, none⟩ = false := block_free (HPC.out.cl hb9).box
              have z9 : w9.cell? ⟨q, 5, none⟩ = some (.pointer Ak) := block_cell (HPC.out.cl hb9).box
              clear hb9 ht9 z5
              go_wp2_with fail
              go_roundg (n - (k + 1))
              case measure => omega
              case rel => exact ⟨k + 1, _, A', by omega, rfl, by congr 1, rfl, by rw [HU2.out], HP9.out⟩
        · have hke : k = n := by omega
          subst hke
          have hki : ¬ (k : Int) < (k : Int) := by omega
          obtain ⟨Bd, cB, rfl, hcB, hrB, _⟩ := own_rdA HP.out.gone
          have q2 : wr.cell? ⟨q, 2, none⟩ = some (.int .i64 x.quota) := block_cell HP.out.box
          have q3 : wr.cell? ⟨q, 3, none⟩ = some (.int .i64 x.used) := block_cell HP.out.box
          have f3 : wr.frozen? ⟨q, 3, none⟩ = false := block_free HP.out.box
          have HRB := Lib.hid hrB
          have HBX := Lib.hid HP.out.box
          have HLW := Lib.hid HP.out.low
          have HTR := Lib.hid HP.out.tree
          have HGO := Lib.hid HP.out.gone
          clear hcB hrB hlt HP
          rcases (show (x.quota < U ∧ x.used < U) ∨ (¬ x.quota < U) ∨ (x.quota < U ∧ ¬ x.used < U) by omega) with ⟨h1, h2⟩ | h1 | ⟨h1, h2⟩
          · have HNOK := Lib.hid (show ¬ okP l t z xs from fun h => by
              obtain ⟨_, y, hy, e, _, _, ho⟩ := h
              have hyx : y = x := up_one HU.out hy (List.mem_of_getElem? HXX.out.1) (e.trans HXX.out.2.1.symm)
              subst hyx
              rw [← HN.out, ← HUU.out] at ho
              omega)
            go_wp2_with fail
            refine bodyPost_ret (results_tmp3 rfl _ _ _) rfl ?_
            exact ⟨HLW.out, Or.inl ⟨⟨_, rfl⟩, HNOK.out⟩⟩
          all_goals
            obtain ⟨w10, hw10⟩ : ∃ w10, w10 = wr.setCell ⟨q, 3, none⟩ (.int .i64 U) := ⟨_, rfl⟩
            have hk10 : KeepT 92 wr w10 := by rw [hw10]; exact KeepT.setCell _ HBX.out
            have hx10 : w10.heap[q]? = some (.cells #[.string ⟨x.name.toArray⟩, .int .i64 x.blocks, .int .i64 x.quota, .int .i64 U, .bool x.frozen, .pointer Ak] 92 (0, 0)) := by
              rw [hw10]
              exact heap_setCell_same wr q 3 _ 92 _ HBX.out
            have HB10 := Lib.hid (show Below w.heap.size w w10 by rw [hw10]; exact HLW.out.setCell (p := ⟨q, 3, none⟩) HQ.out _)
            have HR10 := Lib.hid (show RdA w10 Bd (zs (goneN x.f z k)) from by
              obtain ⟨A2, c2, e2, _, h9, _⟩ := own_rdA (own_keepT HGO.out hk10 (by decide))
              injection e2 with e3
              subst e3
              exact h9)
            have HWI := Lib.hid (show Calls Try.prog 44 #[.pointer s, .agg #[.string ⟨x.name.toArray⟩, .int .i64 x.blocks, .int .i64 x.quota, .int .i64 U, .bool x.frozen, .pointer Ak]] w10 (WithPost l (putX x z xs Ak) w10) from by
              have h9 := vwith_any s l (putX x z xs Ak) w10 (HS.out.below HB10.out) HU.out hl (by
                obtain ⟨S, hS⟩ := HTR.out
                refine ⟨S, ?_⟩
                have h8 := RdR.keepT hS hk10 (by decide) (by decide)
                unfold putX
                rw [← HN.out]
                exact h8)
              have e9 : (putX x z xs Ak).used = U := by unfold putX; rw [← HN.out, ← HUU.out]
              rw [e9] at h9
              exact h9)
            have y0 : w10.cell? ⟨q, 0, none⟩ = some (.string ⟨x.name.toArray⟩) := block_cell hx10
            have y1 : w10.cell? ⟨q, 1, none⟩ = some (.int .i64 x.blocks) := block_cell hx10
            have y2 : w10.cell? ⟨q, 2, none⟩ = some (.int .i64 x.quota) := block_cell hx10
            have y3 : w10.cell? ⟨q, 3, none⟩ = some (.int .i64 U) := block_cell hx10
            have y4 : w10.cell? ⟨q, 4, none⟩ = some (.bool x.frozen) := block_cell hx10
            have y5 : w10.cell? ⟨q, 5, none⟩ = some (.pointer Ak) := block_cell hx10
            clear hk10 hx10
            go_upto_region 22 with fail
            rw [← hw10]
            clear hw10 q2 q3 f3
            go_wp2_with fail
            refine HWI.out.mono ?_
            rintro e w11 ⟨j, b, hj, rfl, hs11, hb11⟩
            have HJ := Lib.hid (show Cut l t j by have h9 : Cut l x.name j := hj; rwa [HXX.out.2.1] at h9)
            have HS11 := Lib.hid hs11
            have HB11 := Lib.hid (HB10.out.trans (hb11.mono HB10.out.size))
            have HR11 := Lib.hid (HR10.out.below hb11)
            clear hj hs11 hb11 y0 y1 y2 y3 y4 y5
            go_wp2_with fail
            refine bodyPost_ret (results_tmp3 rfl _ _ _) rfl ?_
            have hjl := HJ.out.one HXX.out.2.2.1
            subst hjl
            exact ⟨HB11.out, Or.inr ⟨HNB.out, j, x, b, Ak, Bd, cB, HXX.out.1, HXX.out.2.1, HJ.out, by rw [← HN.out]; exact HXX.out.2.2.2.1, by rw [← HN.out]; rfl, by rw [← HN.out]; exact HR11.out, HS11.out⟩⟩
    · have HB2 := Lib.hid (Below.alloc (HB1.out.trans (hb2.mono HB1.out.size)) (HB1.out.trans (hb2.mono HB1.out.size)).size (.cells #[.string ⟨y.name.toArray⟩, .int .i64 y.blocks, .int .i64 y.quota, .int .i64 y.used, .bool y.frozen, .pointer y.A] 92))
      have HNO := Lib.hid hno
      clear hb2 hno HW
      go_wp2_with fail
      refine bodyPost_ret (results_tmp3 rfl _ _ _) rfl ?_
      refine ⟨HB2.out, Or.inl ⟨⟨_, rfl⟩, fun h => ?_⟩⟩
      obtain ⟨x, hx, e, h1, h2, _⟩ := h.2
      exact HNO.out x hx e ⟨by rw [HN.out]; exact h1, h2⟩
end Go.Proofs.Ytnnadhfpkplncaa
