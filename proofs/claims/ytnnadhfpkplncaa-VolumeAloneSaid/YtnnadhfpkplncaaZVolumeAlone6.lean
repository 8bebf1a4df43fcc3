/- Texts of the proof of VolumeAlone, part 6 of 9. Conditions stand ahead of each. -/
import Derived.Test.YtnnadhfpkplncaaZVolumeAlone5
import Derived.Deep.CutRange
import Derived.Deep.LoopGhost
import Derived.Maps.OwnOps
import Derived.Maps.OwnSet
import Derived.Sort.KeysCollected
import Derived.Lib.SlKeysI
import Derived.Lib.Hide
import Derived.Maps.AppendAt
import Derived.Maps.RangeWalk
import Derived.Maps.OwnIn
import Derived.Deep.QuietTactic
import Derived.BigQuiet

/- Numbers put at places of a volume. Condition: the set reads, its names go up; the numbers read. -/
namespace Go.Proofs.Ytnnadhfpkplncaa
open Go.RowKit

theorem KeepT.setCell {T : TypeId} {w : World} {g o : Nat} {cs : Array Value} (v : Value) (h : w.heap[g]? = some (.cells cs T (0, 0))) : KeepT T w (w.setCell ⟨g, o, none⟩ v) := by
  refine ⟨by rw [World.size_setCell]; exact Nat.le_refl _, fun b c t ht hb => (Below.heap_setCell w ⟨g, o, none⟩ v b (fun e => ht ?_)).trans hb⟩
  have e2 : b = g := e
  rw [e2, h] at hb
  cases hb
  rfl
/-- The volume at hand, behind so many of the numbers. -/
structure PutAt (W : World) (x : Vol) (z : Int) (xs : List Int) (q : Nat) (wr : World) (f : Nat → Int) (gs : List Int) (v : Value) (A : Option Addr) : Prop where
  low : Below W.heap.size W wr
  tree : ∃ S, RdR f S wr A
  box : wr.heap[q]? = some (.cells #[.string ⟨x.name.toArray⟩, .int .i64 x.blocks, .int .i64 x.quota, .int .i64 x.used, .bool x.frozen, .pointer A] 92 (0, 0))
  gone : wr.ownsRow W.heap.size 3 1 v gs.length (zs gs)
theorem PutAt.cl {W : World} {x : Vol} {z : Int} {xs : List Int} {q : Nat} {w w' : World} {f : Nat → Int} {gs : List Int} {v : Value} {A : Option Addr} (h : PutAt W x z xs q w f gs v A) (k : Below w.heap.size w w') : PutAt W x z xs q w' f gs v A := by
  obtain ⟨S, hS⟩ := h.tree
  exact ⟨h.low.trans (k.mono h.low.size), ⟨S, RdR.below hS k⟩, (k.block q (block_lt h.box)).trans h.box, own_keepT h.gone (KeepT.of_below (T := 3 + 1) k) (Nat.ne_of_lt (Nat.lt_succ_self _))⟩
/-- A number that went is told. -/
theorem PutAt.app {W : World} {x : Vol} {z : Int} {xs : List Int} {q : Nat} {w w' : World} {f : Nat → Int} {gs gs' : List Int} {v v' : Value} {A : Option Addr} (h : PutAt W x z xs q w f gs v A) (g : w.grownBy w' v.ownBlock) (ho : w'.ownsRow W.heap.size 3 1 v' gs'.length (zs gs')) : PutAt W x z xs q w' f gs' v' A := by
  obtain ⟨S, hS⟩ := h.tree
  have k : KeepT 3 w w' := KeepT.app h.gone g
  exact ⟨below_grown h.low g h.low.size (fun q e => own_geV h.gone e), ⟨S, RdR.keepT hS k (by decide) (by decide)⟩, k.2 _ _ _ (by decide) h.box, ho⟩
/-- The tree set anew is stored. -/
theorem PutAt.put {W : World} {x : Vol} {z : Int} {xs : List Int} {q : Nat} {w : World} {f f' : Nat → Int} {gs : List Int} {v : Value} {A A' : Option Addr} (h : PutAt W x z xs q w f gs v A) (ht : ∃ S, RdR f' S w A') (hq : W.heap.size ≤ q) :
    PutAt W x z xs q (w.setCell ⟨q, 5, none⟩ (.pointer A')) f' gs v A' := by
  obtain ⟨S, hS⟩ := ht
  have k : KeepT 92 w (w.setCell ⟨q, 5, none⟩ (.pointer A')) := KeepT.setCell _ h.box
  exact ⟨h.low.setCell (p := ⟨q, 5, none⟩) hq _, ⟨S, RdR.keepT hS k (by decide) (by decide)⟩, heap_setCell_same w q 5 _ 92 _ h.box, own_keepT h.gone k (by decide)⟩
def putX (x : Vol) (z : Int) (xs : List Int) (A : Option Addr) : Vol := ⟨x.name, x.blocks, x.quota, uK x.used x.f z xs xs.length, x.frozen, A, fK x.f z xs xs.length⟩
def okP (l : List Vol) (t : List UInt8) (z : Int) (xs : List Int) : Prop := (∀ y ∈ xs, badN y = false) ∧ ∃ x ∈ l, x.name = t ∧ inR x z xs.length ∧ x.frozen = false ∧ (uK x.used x.f z xs xs.length ≤ x.quota ∨ uK x.used x.f z xs xs.length ≤ x.used)
def PutPost (l : List Vol) (t : List UInt8) (z : Int) (xs : List Int) (w : World) (e : Ending) (w' : World) : Prop := Below w.heap.size w w' ∧
  (((∃ k, e = .returned (.tuple #[.pointer none, .slice none 0 0, .iface 93 (.int .i64 k)])) ∧ ¬ okP l t z xs) ∨
  ((∀ y ∈ xs, badN y = false) ∧ ∃ i x b A B c, l[i]? = some x ∧ x.name = t ∧ Cut l t i ∧ (inR x z xs.length ∧ x.frozen = false) ∧ e = .returned (.tuple #[.pointer (some ⟨b, 0, none⟩), .slice B (goneN x.f z xs.length).length c, .nilIface]) ∧
    RdA w' B (zs (goneN x.f z xs.length)) ∧ RdS w' (some ⟨b, 0, none⟩) (putV l i (putX x z xs A))))
set_option maxRecDepth 100000 in
set_option maxHeartbeats 12800000 in
theorem vput_any (s : Option Addr) (l : List Vol) (t : List UInt8) (z : Int) (xs : List Int) (A : Option Addr) (c : Nat) (w : World) (h : RdS w s l) (hu : Up l) (hl : l.length ≤ 900) (hb : ∀ x ∈ l, 0 ≤ x.blocks ∧ x.blocks ≤ 4096 ∧ 0 ≤ x.used ∧ x.used ≤ 4096)
    (hx : RdA w A (zs xs)) (hxl : xs.length ≤ 140737488355328) : Calls Try.prog 28 #[.pointer s, .string ⟨t.toArray⟩, .int .i64 z, .slice A xs.length c] w (PutPost l t z xs w) := by
  have HCT := Lib.hid (cont_any A c xs w hx hxl)
  have HS := Lib.hid h
  have HU := Lib.hid hu
  have HBK := Lib.hid hb
  have HRX := Lib.hid hx
  obtain ⟨n, hn⟩ : ∃ n, n = xs.length := ⟨_, rfl⟩
  rw [← hn] at HCT ⊢
  have HN := Lib.hid hn
  rw [← hn] at hxl
  clear h hu hb hx hn
  go_enter Try.func28, Try.ntmps28
  go_wp2_with fail
  refine HCT.out.mono ?_
  rintro e w1 ⟨bb, rfl, hbb, hb1⟩
  have HBB := Lib.hid hbb
  have HB1 := Lib.hid hb1
  clear hbb hb1 HCT
  cases bb with
  | true =>
    go_wp2_with fail
    refine bodyPost_ret (results_tmp3 rfl _ _ _) rfl ?_
    refine ⟨HB1.out, Or.inl ⟨⟨_, rfl⟩, fun h => ?_⟩⟩
    obtain ⟨y, hy, hbad⟩ := HBB.out.1 trivial
    rw [h.1 y hy] at hbad
    cases hbad
  | false =>
    have HW := Lib.hid (writ_any s l t z (n : Int) w1 (HS.out.below HB1.out) HU.out hl (fun x hx => ⟨(HBK.out x hx).1, (HBK.out x hx).2.1⟩))
    have HNB := Lib.hid (show ∀ y ∈ xs, badN y = false from fun y hy => by
      cases hbd : badN y with
      | false => rfl
      | true => exact absurd (HBB.out.2 ⟨y, hy, hbd⟩) (by simp))
    clear HBB
    go_wp2_with fail
    refine HW.out.mono ?_
    rintro e w2 ⟨hb2, ⟨i, x, hx, hxt, hc, hin, hfr, rfl⟩ | ⟨y, k, rfl, hno⟩⟩
    · obtain ⟨w3, hw3⟩ : ∃ w3, w3 = w2.alloc (.cells #[.string ⟨x.name.toArray⟩, .int .i64 x.blocks, .int .i64 x.quota, .int .i64 x.used, .bool x.frozen, .pointer x.A] 92) := ⟨_, rfl⟩
      obtain ⟨q, hq⟩ : ∃ q, q = w2.heap.size := ⟨_, rfl⟩
      have hb3 : Below w2.heap.size w2 w3 := by rw [hw3]; exact (Below.refl _ _).alloc (Nat.le_refl _) _
      have hx3 : w3.heap[q]? = some (.cells #[.string ⟨x.name.toArray⟩, .int .i64 x.blocks, .int .i64 x.quota, .int .i64 x.used, .bool x.frozen, .pointer x.A] 92 (0, 0)) := by rw [hw3, hq]; exact alloc_new _ _
      have HQ := Lib.hid (show w.heap.size ≤ q by rw [hq]; exact Nat.le_trans HB1.out.size hb2.size)
      have HB3 := Lib.hid (HB1.out.trans ((hb2.trans (hb3.mono hb2.size)).mono HB1.out.size))
      have HP3 := Lib.hid (show PutAt w x z xs q w3 x.f [] (.slice none 0 0) x.A from ⟨HB3.out, by
        obtain ⟨S, hS⟩ := HS.out.1 x (List.mem_of_getElem? hx)
        exact ⟨S, RdR.below hS HB3.out⟩, hx3, World.ownsRow_nil _ _ _ _⟩)
      obtain ⟨h1, h2, h3, h4⟩ := id hin
      obtain ⟨_, hx4096, hu0, hu1⟩ := HBK.out x (List.mem_of_getElem? hx)
      have HXX := Lib.hid (And.intro hx (And.intro hxt (And.intro hc (And.intro hin hfr))))
      have hz0 : 0 ≤ z := h1
      have hzn : z + (n : Int) ≤ 4096 := by omega
      have hn4 : n ≤ 4096 := by omega
      have y3 : w3.cell? ⟨q, 3, none⟩ = some (.int .i64 x.used) := block_cell hx3
      clear hb2 hb3 hx3 hx hxt hc hin hfr h1 h2 h3 h4 HW
      go_upto_region 4 with fail
      rw [← hw3, ← hq]
      clear hw3 hq
      go_upto_region 9 with fail
      clear y3
      go_loopg [38, 13, 14] n (fun gg iv v u wr => ∃ (k : Nat) (B : Value) (Ak : Option Addr), k ≤ n ∧ gg = n - k ∧ iv = .int .i64 k ∧ v = B ∧ u = .int .i64 (uK x.used x.f z xs k) ∧ Hid (PutAt w x z xs q wr (fK x.f z xs k) (goneN x.f z k) B Ak))
      case atStart => exact ⟨0, _, _, by omega, by omega, rfl, rfl, rfl, HP3.out⟩
      case round =>
        obtain ⟨k, B, Ak, hk, hgk, rfl, hvB, rfl, HP⟩ := hrel
        obtain rfl := hvB.symm
        clear HP3
        obtain ⟨U, hU⟩ : ∃ U, U = uK x.used x.f z xs k := ⟨_, rfl⟩
        have hUn := uK_near x.used x.f z xs k
        rw [← hU] at hUn ⊢
        have HUU := Lib.hid hU
        clear hU
        by_cases hlt : k < n
        · have hki : (k : Int) < (n : Int) := by omega
          have hw4 : IntKind.i64.wrap ((k : Int) + 1) = (k : Int) + 1 := IntWalk.i64_in _ (by omega)
          have hw5 : IntKind.i64.wrap (z + (k : Int)) = z + (k : Int) := IntWalk.i64_in _ (by omega)
          have hw6 : IntKind.i64.wrap (U - 1) = U - 1 := IntWalk.i64_in _ (by omega)
          obtain ⟨y, hy⟩ : ∃ y, xs[k]? = some y := ⟨_, List.getElem?_eq_getElem (by rw [← HN.out]; omega)⟩
          obtain ⟨b, o, rfl, c0⟩ := (HRX.out.below HP.out.low) k _ (zs_at hy)
          have HY := Lib.hid (show xs.getD k 0 = y by rw [List.getD_eq_getElem?_getD, hy]; rfl)
          have y5 : wr.cell? ⟨q, 5, none⟩ = some (.pointer Ak) := block_cell HP.out.box
          obtain ⟨O, hO⟩ : ∃ O, O = getF x.f (z + (k : Int)) := ⟨_, rfl⟩
          have HGT := Lib.hid (show Calls Try.prog 13 #[.pointer Ak, .int .i64 (z + (k : Int))] wr (fun e w' => e = .returned (.int .i64 O) ∧ Below wr.heap.size wr w') from by
            obtain ⟨S, hS⟩ := HP.out.tree
            have := get_any (fK x.f z xs k) S Ak (z + (k : Int)) wr hS
            rwa [fK_get x.f z xs k k (Nat.le_refl _), ← hO] at this)
          have HO := Lib.hid hO
          clear hy hO
          go_wp2_with fail
          refine HGT.out.mono ?_
          rintro e w6 ⟨rfl, hb6⟩
          have HP6 := Lib.hid (HP.out.cl hb6)
          clear hb6 y5 c0 HGT
          go_upto_if 50 with fail
          go_cut [13, 14] from 39 to 69 (fun v u w' => ∃ B', v = B' ∧ u = .int .i64 (U - (if O = 0 then 0 else 1)) ∧ Hid (PutAt w x z xs q w' (fK x.f z xs k) (goneN x.f z (k + 1)) B' Ak))
          case first =>
            by_cases hO : O = 0
            · subst hO
              have HG9 := Lib.hid (gone_no (f := x.f) (z := z) (k := k) HO.out.symm)
              go_wp2_with fail
              go_meet
              case rel => exact ⟨_, rfl, by simp, by rw [HG9.out]; exact HP6.out⟩
            · have HG9 := Lib.hid (gone_yes (f := x.f) (z := z) (k := k) (by rw [← HO.out]; exact hO))
              have hOb : (O != 0) = true := by simpa using hO
              have hOb2 : (O == 0) = false := by simpa using hO
              have HO9 := Lib.hid hO
              clear hO
              obtain ⟨iI, hiI, hi0, hi1, hi2⟩ := info_parts infoTINTv
              have hgl := gone_len x.f z k
              have HP6a := Lib.hid (HP6.out.cl ((Below.refl w6.heap.size w6).alloc (Nat.le_refl _) (.cells #[.int .i64 O] 3)))
              go_wp2_with (at_builtin; refine Hid.out ?_)
              unfold Hid
              refine app_one rfl (.tmp 51) (.tmp 53) 32 3 rfl iI _ 8 Try.underlying32 hiI hi0 hi1 hi2 rfl (by omega) w.heap.size _ (goneN x.f z k).length _ rfl HP6a.out.gone w6.heap.size (.int .i64 O) rfl (block_cell (alloc_new _ _)) rfl (by omega) (by have := HP6.out.low.size; rw [World.size_alloc]; omega) ?_
              intro v7 w7 ho7 hg7 _
              have HP7 := Lib.hid (HP6a.out.app (gs' := goneN x.f z (k + 1)) (v' := v7) hg7 (by
                rw [HG9.out, List.length_append, show zs (goneN x.f z k ++ [getF x.f (z + (k : Int))]) = zs (goneN x.f z k) ++ [.int .i64 O] by unfold zs; rw [List.map_append, ← HO.out]; rfl]
                exact ho7))
              clear ho7 hg7 hiI hi0 hi1 hi2
              go_wp2_with fail
              go_meet
              case rel => exact ⟨_, rfl, by rw [if_neg HO9.out], HP7.out⟩
          case rest =>
            obtain ⟨B', rfl, rfl, HPC⟩ := hcut
            obtain ⟨w8, hw8⟩ : ∃ w8, w8 = wc := ⟨_, rfl⟩
            rw [← hw8] at HPC ⊢
            clear hw8 HP6 HP
            obtain ⟨V, hV⟩ : ∃ V, V = U - (if O = 0 then 0 else 1) := ⟨_, rfl⟩
            have hVn : V ≤ U ∧ U - 1 ≤ V := by rw [hV]; split <;> omega
            rw [← hV]
            have HV := Lib.hid hV
            clear hV
            have hw7 : IntKind.i64.wrap (V + 1) = V + 1 := IntWalk.i64_in _ (by omega)
            have z5 : w8.cell? ⟨q, 5, none⟩ = some (.pointer Ak) := block_cell HPC.out.box
            have HST := Lib.hid (show Calls Try.prog 10 #[.pointer Ak, .int .i64 (z + (k : Int)), .int .i64 y] w8 (fun e w' => ∃ A', e = .returned (.pointer A') ∧ (∃ S', RdR (fK x.f z xs (k + 1)) S' w' A') ∧ Below w8.heap.size w8 w') from by
              obtain ⟨S, hS⟩ := HPC.out.tree
              exact set_to (fK x.f z xs k) (fK x.f z xs (k + 1)) S Ak (z + (k : Int)) y w8 hS (by rw [← HY.out]; rfl))
            have HUK := Lib.hid (show uK x.used x.f z xs (k + 1) = V + (if y = 0 then 0 else 1) from by
              show uK x.used x.f z xs k - (if getF x.f (z + (k : Int)) = 0 then 0 else 1) + (if xs.getD k 0 = 0 then 0 else 1) = _
              rw [HY.out, ← HO.out, ← HUU.out, HV.out])
            rcases (show y = 0 ∨ y ≠ 0 by omega) with hy | hy
            · subst hy
              have HU2 := Lib.hid (show uK x.used x.f z xs (k + 1) = V from by rw [HUK.out]; simp)
              go_wp2_with fail
              refine HST.out.mono ?_
              rintro e w9 ⟨A', rfl, ht9, hb9⟩
              have HP9 := Lib.hid ((HPC.out.cl hb9).put ht9 HQ.out)
              have f9 : w9.frozen? ⟨q, 5, none⟩ = false := block_free (HPC.out.cl hb9).box
              have z9 : w9.cell? ⟨q, 5, none⟩ = some (.pointer Ak) := block_cell (HPC.out.cl hb9).box
              clear hb9 ht9 z5
              go_wp2_with fail
              go_roundg (n - (k + 1))
              case measure => omega
              case rel => exact ⟨k + 1, _, A', by omega, rfl, by congr 1, rfl, by rw [HU2.out], HP9.out⟩
            · have hyb : (y != 0) = true := by simpa using hy
              have hyb2 : (y == 0) = false := by simpa using hy
              have HU2 := Lib.hid (show uK x.used x.f z xs (k + 1) = V + 1 from by rw [HUK.out, if_neg hy])
              go_wp2_with fail
              refine HST.out.mono ?_
              rintro e w9 ⟨A', rfl, ht9, hb9⟩
              have HP9 := Lib.hid ((HPC.out.cl hb9).put ht9 HQ.out)
              have f9 : w9.frozen? ⟨q, 5, none⟩ = false := block_free (HPC.out.cl hb9).box
              have z9 : w9.cell? ⟨q, 5, none⟩ = some (.pointer Ak) := block_cell (HPC.out.cl hb9).box
              clear hb9 ht9 z5
              go_wp2_with fail
              go_roundg (n - (k + 1))
              case measure => omega
              case rel => exact ⟨k + 1, _, A', by omega, rfl, by congr 1, rfl, by rw [HU2.out], HP9.out⟩
        · have hke : k = n := by omega
          subst hke
          have hki : ¬ (k : Int) < (k : Int) := by omega
          obtain ⟨Bd, cB, rfl, hcB, hrB, _⟩ := own_rdA HP.out.gone
          have q2 : wr.cell? ⟨q, 2, none⟩ = some (.int .i64 x.quota) := block_cell HP.out.box
          have q3 : wr.cell? ⟨q, 3, none⟩ = some (.int .i64 x.used) := block_cell HP.out.box
          have f3 : wr.frozen? ⟨q, 3, none⟩ = false := block_free HP.out.box
          have HRB := Lib.hid hrB
          have HBX := Lib.hid HP.out.box
          have HLW := Lib.hid HP.out.low
          have HTR := Lib.hid HP.out.tree
          have HGO := Lib.hid HP.out.gone
          clear hcB hrB hlt HP
          rcases (show (x.quota < U ∧ x.used < U) ∨ (¬ x.quota < U) ∨ (x.quota < U ∧ ¬ x.used < U) by omega) with ⟨h1, h2⟩ | h1 | ⟨h1, h2⟩
          · have HNOK := Lib.hid (show ¬ okP l t z xs from fun h => by
              obtain ⟨_, y, hy, e, _, _, ho⟩ := h
              have hyx : y = x := up_one HU.out hy (List.mem_of_getElem? HXX.out.1) (e.trans HXX.out.2.1.symm)
              subst hyx
              rw [← HN.out, ← HUU.out] at ho
              omega)
            go_wp2_with fail
            refine bodyPost_ret (results_tmp3 rfl _ _ _) rfl ?_
            exact ⟨HLW.out, Or.inl ⟨⟨_, rfl⟩, HNOK.out⟩⟩
          all_goals
            obtain ⟨w10, hw10⟩ : ∃ w10, w10 = wr.setCell ⟨q, 3, none⟩ (.int .i64 U) := ⟨_, rfl⟩
            have hk10 : KeepT 92 wr w10 := by rw [hw10]; exact KeepT.setCell _ HBX.out
            have hx10 : w10.heap[q]? = some (.cells #[.string ⟨x.name.toArray⟩, .int .i64 x.blocks, .int .i64 x.quota, .int .i64 U, .bool x.frozen, .pointer Ak] 92 (0, 0)) := by
              rw [hw10]
              exact heap_setCell_same wr q 3 _ 92 _ HBX.out
            have HB10 := Lib.hid (show Below w.heap.size w w10 by rw [hw10]; exact HLW.out.setCell (p := ⟨q, 3, none⟩) HQ.out _)
            have HR10 := Lib.hid (show RdA w10 Bd (zs (goneN x.f z k)) from by
              obtain ⟨A2, c2, e2, _, h9, _⟩ := own_rdA (own_keepT HGO.out hk10 (by decide))
              injection e2 with e3
              subst e3
              exact h9)
            have HWI := Lib.hid (show Calls Try.prog 44 #[.pointer s, .agg #[.string ⟨x.name.toArray⟩, .int .i64 x.blocks, .int .i64 x.quota, .int .i64 U, .bool x.frozen, .pointer Ak]] w10 (WithPost l (putX x z xs Ak) w10) from by
              have h9 := vwith_any s l (putX x z xs Ak) w10 (HS.out.below HB10.out) HU.out hl (by
                obtain ⟨S, hS⟩ := HTR.out
                refine ⟨S, ?_⟩
                have h8 := RdR.keepT hS hk10 (by decide) (by decide)
                unfold putX
                rw [← HN.out]
                exact h8)
              have e9 : (putX x z xs Ak).used = U := by unfold putX; rw [← HN.out, ← HUU.out]
              rw [e9] at h9
              exact h9)
            have y0 : w10.cell? ⟨q, 0, none⟩ = some (.string ⟨x.name.toArray⟩) := block_cell hx10
            have y1 : w10.cell? ⟨q, 1, none⟩ = some (.int .i64 x.blocks) := block_cell hx10
            have y2 : w10.cell? ⟨q, 2, none⟩ = some (.int .i64 x.quota) := block_cell hx10
            have y3 : w10.cell? ⟨q, 3, none⟩ = some (.int .i64 U) := block_cell hx10
            have y4 : w10.cell? ⟨q, 4, none⟩ = some (.bool x.frozen) := block_cell hx10
            have y5 : w10.cell? ⟨q, 5, none⟩ = some (.pointer Ak) := block_cell hx10
            clear hk10 hx10
            go_upto_region 22 with fail
            rw [← hw10]
            clear hw10 q2 q3 f3
            go_wp2_with fail
            refine HWI.out.mono ?_
            rintro e w11 ⟨j, b, hj, rfl, hs11, hb11⟩
            have HJ := Lib.hid (show Cut l t j by have h9 : Cut l x.name j := hj; rwa [HXX.out.2.1] at h9)
            have HS11 := Lib.hid hs11
            have HB11 := Lib.hid (HB10.out.trans (hb11.mono HB10.out.size))
            have HR11 := Lib.hid (HR10.out.below hb11)
            clear hj hs11 hb11 y0 y1 y2 y3 y4 y5
            go_wp2_with fail
            refine bodyPost_ret (results_tmp3 rfl _ _ _) rfl ?_
            have hjl := HJ.out.one HXX.out.2.2.1
            subst hjl
            exact ⟨HB11.out, Or.inr ⟨HNB.out, j, x, b, Ak, Bd, cB, HXX.out.1, HXX.out.2.1, HJ.out, ⟨by rw [← HN.out]; exact HXX.out.2.2.2.1, HXX.out.2.2.2.2⟩, by rw [← HN.out]; rfl, by rw [← HN.out]; exact HR11.out, HS11.out⟩⟩
    · have HB2 := Lib.hid (Below.alloc (HB1.out.trans (hb2.mono HB1.out.size)) (HB1.out.trans (hb2.mono HB1.out.size)).size (.cells #[.string ⟨y.name.toArray⟩, .int .i64 y.blocks, .int .i64 y.quota, .int .i64 y.used, .bool y.frozen, .pointer y.A] 92))
      have HNO := Lib.hid hno
      clear hb2 hno HW
      go_wp2_with fail
      refine bodyPost_ret (results_tmp3 rfl _ _ _) rfl ?_
      refine ⟨HB2.out, Or.inl ⟨⟨_, rfl⟩, fun h => ?_⟩⟩
      obtain ⟨x, hx, e, h1, h2, _⟩ := h.2
      exact HNO.out x hx e ⟨by rw [HN.out]; exact h1, h2⟩
end Go.Proofs.Ytnnadhfpkplncaa


/- What is told of a volume; all names. Condition: the set reads, its names go up. -/
namespace Go.Proofs.Ytnnadhfpkplncaa
open Go.RowKit

def InfoPost (l : List Vol) (t : List UInt8) (w : World) (e : Ending) (w' : World) : Prop := Below w.heap.size w w' ∧
  ((∃ i x, l[i]? = some x ∧ x.name = t ∧ Cut l t i ∧ e = .returned (.tuple #[.agg #[.string ⟨x.name.toArray⟩, .int .i64 x.blocks, .int .i64 x.quota, .int .i64 x.used, .bool x.frozen], .nilIface])) ∨
  ((∀ x ∈ l, x.name ≠ t) ∧ e = .returned (.tuple #[.agg #[.string ⟨#[]⟩, .int .i64 0, .int .i64 0, .int .i64 0, .bool false], .iface 93 (.int .i64 30)])))
set_option maxRecDepth 100000 in
set_option maxHeartbeats 3200000 in
theorem info_any (s : Option Addr) (l : List Vol) (t : List UInt8) (w : World) (h : RdS w s l) (hu : Up l) (hl : l.length ≤ 900) : Calls Try.prog 31 #[.pointer s, .string ⟨t.toArray⟩] w (InfoPost l t w) := by
  obtain ⟨w1, hw1⟩ : ∃ w1, w1 = w.alloc (.cells #[.string ⟨#[]⟩, .int .i64 0, .int .i64 0, .int .i64 0, .bool false] 66) := ⟨_, rfl⟩
  obtain ⟨p, hp⟩ : ∃ p, p = w.heap.size := ⟨_, rfl⟩
  have hb1 : Below w.heap.size w w1 := by rw [hw1]; exact (Below.refl _ _).alloc (Nat.le_refl _) _
  have hx1 : w1.heap[p]? = some (.cells #[.string ⟨#[]⟩, .int .i64 0, .int .i64 0, .int .i64 0, .bool false] 66 (0, 0)) := by rw [hw1, hp]; exact alloc_new _ _
  have HG := Lib.hid (vget_any s l t w1 (h.below hb1) hu (by omega))
  have HB1 := Lib.hid hb1
  have HX1 := Lib.hid hx1
  have HP := Lib.hid (show w.heap.size ≤ p by omega)
  clear hb1 hx1 h hu
  go_enter Try.func31, Try.ntmps31
  go_wp2_with fail
  rw [← hw1, ← hp]
  clear hw1 hp
  refine HG.out.mono ?_
  rintro e w2 ⟨hb2, hpost⟩
  obtain ⟨x, E, he, hE⟩ : ∃ (x : Vol) (E : Value), e = .returned (.tuple #[.agg #[.string ⟨x.name.toArray⟩, .int .i64 x.blocks, .int .i64 x.quota, .int .i64 x.used, .bool x.frozen, .pointer x.A], E]) ∧ ((∃ i, l[i]? = some x ∧ x.name = t ∧ Cut l t i ∧ E = .nilIface) ∨ ((∀ y ∈ l, y.name ≠ t) ∧ x = ⟨[], 0, 0, 0, false, none, fun _ => 0⟩ ∧ E = .iface 93 (.int .i64 30))) := by
    rcases hpost with ⟨i, x, hx, hxt, hc, rfl⟩ | ⟨hno, rfl⟩
    · exact ⟨x, _, rfl, Or.inl ⟨i, hx, hxt, hc, rfl⟩⟩
    · exact ⟨⟨[], 0, 0, 0, false, none, fun _ => 0⟩, _, rfl, Or.inr ⟨hno, rfl, rfl⟩⟩
  subst he
  clear hpost
  obtain ⟨w3, hw3⟩ : ∃ w3, w3 = w2.alloc (.cells #[.string ⟨x.name.toArray⟩, .int .i64 x.blocks, .int .i64 x.quota, .int .i64 x.used, .bool x.frozen, .pointer x.A] 92) := ⟨_, rfl⟩
  obtain ⟨q, hq⟩ : ∃ q, q = w2.heap.size := ⟨_, rfl⟩
  have hb3 : Below w2.heap.size w2 w3 := by rw [hw3]; exact (Below.refl _ _).alloc (Nat.le_refl _) _
  have hx3 : w3.heap[q]? = some (.cells #[.string ⟨x.name.toArray⟩, .int .i64 x.blocks, .int .i64 x.quota, .int .i64 x.used, .bool x.frozen, .pointer x.A] 92 (0, 0)) := by rw [hw3, hq]; exact alloc_new _ _
  have HX3 := Lib.hid (((hb2.trans (hb3.mono hb2.size)).block _ (block_lt HX1.out)).trans HX1.out)
  have HB3 := Lib.hid (HB1.out.trans ((hb2.trans (hb3.mono hb2.size)).mono HB1.out.size))
  have y0 : w3.cell? ⟨q, 0, none⟩ = some (.string ⟨x.name.toArray⟩) := block_cell hx3
  have y1 : w3.cell? ⟨q, 1, none⟩ = some (.int .i64 x.blocks) := block_cell hx3
  have y2 : w3.cell? ⟨q, 2, none⟩ = some (.int .i64 x.quota) := block_cell hx3
  have y3 : w3.cell? ⟨q, 3, none⟩ = some (.int .i64 x.used) := block_cell hx3
  have y4 : w3.cell? ⟨q, 4, none⟩ = some (.bool x.frozen) := block_cell hx3
  clear hb2 hb3 hx3 HG
  have HE := Lib.hid hE
  clear hE
  go_upto_region 2 with fail
  rw [← hw3, ← hq]
  clear hw3 hq
  go_wp2_with ((with_reducible refine stop_storeI _ _ rfl ?_))
  unfold Hid
  refine wpList_store_row rfl 66 _ _ rfl p #[.string ⟨x.name.toArray⟩, .int .i64 x.blocks, .int .i64 x.quota, .int .i64 x.used, .bool x.frozen] rfl rfl 66 _ HX3.out (by kernel_rfl) rfl (by simp [Value.oneCell']) ?_
  have HB4 := Lib.hid (HB3.out.trans (below_setRow (L := w.heap.size) (g := p) (w := w3) (cs := #[.string ⟨x.name.toArray⟩, .int .i64 x.blocks, .int .i64 x.quota, .int .i64 x.used, .bool x.frozen]) HP.out))
  have HX4 := Lib.hid (setRow_heap w3 p _ #[.string ⟨x.name.toArray⟩, .int .i64 x.blocks, .int .i64 x.quota, .int .i64 x.used, .bool x.frozen] 66 _ HX3.out)
  generalize w3.setRow p #[.string ⟨x.name.toArray⟩, .int .i64 x.blocks, .int .i64 x.quota, .int .i64 x.used, .bool x.frozen] = w4 at *
  clear y0 y1 y2 y3 y4
  go_wp2
  refine bodyPost_ret (results_row_tmp rfl _ _ p _ _ _ _ rfl HX4.out Try.underlying66 rfl (by kernel_rfl)) rfl ?_
  rcases HE.out with ⟨i, hx, hxt, hc, rfl⟩ | ⟨hno, rfl, rfl⟩
  · exact ⟨HB4.out, Or.inl ⟨i, x, hx, hxt, hc, rfl⟩⟩
  · exact ⟨HB4.out, Or.inr ⟨hno, rfl⟩⟩
def nmsV (l : List Vol) : List Value := l.map fun x => .string ⟨x.name.toArray⟩
def NamesPost (l : List Vol) (w : World) (e : Ending) (w' : World) : Prop := ∃ A c, e = .returned (.slice A l.length c) ∧ RdA w' A (nmsV l) ∧ Below w.heap.size w w'
theorem infoTSTRv : (Try.prog.info? 9).map (fun i => (i.zero, i.size, i.bytes)) = some (some (.string ⟨#[]⟩), 1, 16) := by kernel_rfl
set_option maxRecDepth 100000 in
set_option maxHeartbeats 3200000 in
theorem vnames_any (s : Option Addr) (l : List Vol) (w : World) (h : RdS w s l) (hl : l.length ≤ 900) : Calls Try.prog 30 #[.pointer s] w (NamesPost l w) := by
  have HA := Lib.hid (vall_any s l w h)
  obtain ⟨n, hn⟩ : ∃ n, n = l.length := ⟨_, rfl⟩
  rw [← hn] at hl HA
  have HN := Lib.hid hn
  obtain ⟨iI, hiI, hi0, hi1, hi2⟩ := info_parts infoTSTRv
  have HII := Lib.hid (And.intro hiI (And.intro hi0 (And.intro hi1 hi2)))
  clear h hn hiI hi0 hi1 hi2
  go_enter Try.func30, Try.ntmps30
  go_wp2_with fail
  refine HA.out.mono ?_
  rintro e w1 ⟨A, c, rfl, hr, rfl⟩
  have HR := Lib.hid hr
  clear hr
  go_wp2_with fail
  go_loopg [9, 3] n (fun gg iv v wr => ∃ (k : Nat) (B : Value), k ≤ n ∧ gg = n - k ∧ iv = .int .i64 k ∧ v = B ∧ Hid (wr.ownsRow w1.heap.size 9 1 B k (nmsV (l.take k))) ∧ Hid (Below w1.heap.size w1 wr))
  case atStart => exact ⟨0, _, by omega, by omega, rfl, rfl, World.ownsRow_nil _ _ _ _, Below.refl _ _⟩
  case round =>
    obtain ⟨k, B, hk, hgk, rfl, hvB, HO, HB⟩ := hrel
    obtain rfl := hvB.symm
    by_cases hlt : k < n
    · have hki : (k : Int) < (n : Int) := by omega
      have hw1 : IntKind.i64.wrap ((k : Int) + 1) = (k : Int) + 1 := IntWalk.i64_in _ (by omega)
      obtain ⟨x, hx⟩ : ∃ x, l[k]? = some x := ⟨_, List.getElem?_eq_getElem (by rw [← HN.out]; omega)⟩
      obtain ⟨b, o, rfl, c0, c1, c2, c3, c4, c5⟩ := (HR.out.below HB.out).at hx
      have HTK := Lib.hid (show nmsV (l.take (k + 1)) = nmsV (l.take k) ++ [.string ⟨x.name.toArray⟩] by
        obtain ⟨hl1, rfl⟩ := List.getElem?_eq_some_iff.1 hx
        unfold nmsV
        rw [List.take_succ_eq_append_getElem hl1, List.map_append]; rfl)
      obtain ⟨xn, xb, xq, xu, xf, xA, xg⟩ := x
      dsimp only at c0 c1 c2 c3 c4 c5 HTK
      clear hx
      obtain ⟨w2, hw2⟩ : ∃ w2, w2 = wr.alloc (.cells #[.string ⟨xn.toArray⟩, .int .i64 xb, .int .i64 xq, .int .i64 xu, .bool xf, .pointer xA] 92) := ⟨_, rfl⟩
      obtain ⟨p, hp⟩ : ∃ p, p = wr.heap.size := ⟨_, rfl⟩
      have hb2 : Below wr.heap.size wr w2 := by rw [hw2]; exact (Below.refl _ _).alloc (Nat.le_refl _) _
      have hx2 : w2.heap[p]? = some (.cells #[.string ⟨xn.toArray⟩, .int .i64 xb, .int .i64 xq, .int .i64 xu, .bool xf, .pointer xA] 92 (0, 0)) := by rw [hw2, hp]; exact alloc_new _ _
      have y0 : w2.cell? ⟨p, 0, none⟩ = some (.string ⟨xn.toArray⟩) := block_cell hx2
      have hk2 : KeepT (9 + 1) wr w2 := KeepT.of_below hb2
      have HB2 := Lib.hid (HB.out.trans (hb2.mono HB.out.size))
      have HB2a := Lib.hid (HB2.out.alloc HB2.out.size (.cells #[.string ⟨xn.toArray⟩] 9))
      have HO2 := Lib.hid (own_keepT (own_keepT HO.out hk2 (by decide)) (KeepT.alloc (9 + 1) w2 (.cells #[.string ⟨xn.toArray⟩] 9)) (by decide))
      clear hb2 hx2 hk2
      go_upto_region 5 with fail
      rw [← hw2, ← hp]
      clear hw2 hp c0 c1 c2 c3 c4 c5
      obtain ⟨hiI, hi0, hi1, hi2⟩ := HII.out
      go_wp2_with (at_builtin; refine Hid.out ?_)
      unfold Hid
      refine app_one rfl (.tmp 13) (.tmp 17) 63 9 rfl iI _ 16 Try.underlying63 hiI hi0 hi1 hi2 rfl (by omega) w1.heap.size _ k _ rfl HO2.out w2.heap.size (.string ⟨xn.toArray⟩) rfl (block_cell (alloc_new _ _)) rfl (by omega) HB2a.out.size ?_
      intro v7 w7 ho7 hg7 _
      have HO7 := Lib.hid (show w7.ownsRow w1.heap.size 9 1 v7 (k + 1) (nmsV (l.take (k + 1))) by rw [HTK.out]; exact ho7)
      have HB7 := Lib.hid (below_grown HB2a.out hg7 HB2a.out.size (fun q e => own_geV HO2.out e))
      clear ho7 hg7 y0 hiI hi0 hi1 hi2
      go_wp2_with fail
      go_roundg (n - (k + 1))
      case measure => omega
      case rel => exact ⟨k + 1, v7, by omega, rfl, by congr 1, rfl, HO7.out, HB7.out⟩
    · have hke : k = n := by omega
      subst hke
      have hki : ¬ (k : Int) < (k : Int) := by omega
      clear hlt
      have ho := HO.out
      rw [List.take_of_length_le (by rw [← HN.out]; exact Nat.le_refl _)] at ho
      obtain ⟨A2, c2, rfl, _, hr2, _⟩ := own_rdA ho
      have HR2 := Lib.hid hr2
      clear ho hr2 HO
      go_wp2_with fail
      go_ret
      exact ⟨A2, c2, by rw [← HN.out]; rfl, HR2.out, HB.out⟩
end Go.Proofs.Ytnnadhfpkplncaa


/- How often a number stands somewhere, as it lies: a map. Condition: the map reads. -/
namespace Go.Proofs
open Go.RowKit Go.Maps Go.Sort Go.Shelf
theorem Try.sortsV (m : Nat) : AnyZI.SortsIn Try.prog Try.sorted56_ren Fence.wide m :=
  ⟨fun blk off cap ss W hH hblk hsz => callsIn_wide.2 (AnyM.slices_Sort_int Try.sort41 blk off cap ss W hH hblk hsz),
   fun p cap W => callsIn_wide.2 (AnyM.slices_Sort_int_none Try.sort41 p cap W)⟩
theorem Try.keysV (mb : Option Nat) (W : World) : CallsIn Fence.wide 5 Try.prog 57 #[.map mb] W fun e w' => e = .returned (.func (.func 76) #[] #[.pointer (some ⟨W.heap.size, 0, none⟩)]) ∧ w' = W.alloc (.cells #[.map mb] 109) :=
  AnyZI.keys_in Try.keys57 Fence.wide 5 trivial rfl mb W
set_option maxHeartbeats 1000000 in
theorem Try.sortedV {H : Type} (b nn : Nat) (D0 : DataW H) (R : Value → Option (DataW H × List MemPlace)) (w : World) (hown : w.ownsMap Try.prog 3 R b nn D0) (hmax : Maps.size D0 ≤ maxLen) (hbytes : Maps.size D0 * 8 ≤ 140737488355328) :
    CallsIn Fence.wide 5 Try.prog 56 #[.func (.func 76) #[] #[.pointer (some ⟨w.heap.size, 0, none⟩)]] (w.alloc (.cells #[.map (some b)] 109)) fun e w' => ∃ (v : Value) (ss : List Int), e = .returned v ∧ ss.Perm (intKeys D0) ∧
      w'.ownsRow (w.alloc (.cells #[.map (some b)] 109)).heap.size 3 1 v ss.length ((ss.mergeSort (fun x y => decide (x ≤ y))).map encZ) ∧ (v = .slice none 0 0 ↔ ss = []) ∧ Below (w.alloc (.cells #[.map (some b)] 109)).heap.size (w.alloc (.cells #[.map (some b)] 109)) w' := by
  have hbl := hown.lt
  have hseq : SeqGives Fence.wide 2 Try.prog 76 #[.pointer (some ⟨w.heap.size, 0, none⟩)] encZ (fun ss => ss.Perm (intKeys D0)) (Maps.size D0) (w.alloc (.cells #[.map (some b)] 109)) :=
    AnyZI.keys_gives (ρ := Try.keys57_ren) { Try.keys57 with } Fence.wide _ trivial rfl (by omega) w.heap.size b nn D0 _ (by simp) (by simp) (by
      obtain ⟨es, clock, hb, Ft, hs, hD⟩ := hown
      exact ⟨es, clock, (Below.heap_alloc _ _ b hbl).trans hb, Ft, hs, hD⟩)
  exact AnyZI.sorted_in Try.sorted56 Fence.wide 5 trivial trivial trivial trivial rfl (by omega) (Try.sortsV _) (enters_of Try.func41 (by kernel_rfl) rfl) 76 #[.pointer (some ⟨w.heap.size, 0, none⟩)] trivial (enters_of Try.func76 (by kernel_rfl) rfl) _ _ hmax hbytes _ hseq
end Go.Proofs
namespace Go.Proofs.Ytnnadhfpkplncaa
open Go.RowKit Go.Maps

theorem keyIv : Keyed Try.prog 3 := int_keyed Try.underlying3
theorem zeroIv (w : World) : (zeroValue 3).run Try.prog w = .ok (.int .i64 0) w := by kernel_rfl
def wfI (x : Int) : Prop := (Lit.int .i64 x).wf = true
theorem wf_small {x : Int} (h : 0 ≤ x ∧ x ≤ 1099511627776) : wfI x := by
  unfold wfI
  simp [Lit.wf, IntKind.min, IntKind.max, IntKind.signed, IntKind.bits]
  omega
theorem kIv {x : Int} (h : wfI x) : keyOf Try.prog 3 (.int .i64 x) = some (.int .i64 x) := keyOf_int_mk Try.underlying3 h
noncomputable abbrev plIv : Value → Option (DataW Unit × List MemPlace) := plainElem Try.prog 3
/-- The map counts the numbers of a list. -/
def CtM (w : World) (b : Nat) (L : List Int) : Prop :=
  ∃ n D, w.ownsMap Try.prog 3 plIv b n D ∧ n ≤ L.length ∧ ∀ i, wfI i → D.atKey (.int .i64 i) (.lit (.int .i64 0)) = .lit (.int .i64 ((L.count i : Nat) : Int)) ∧ Maps.has D (.int .i64 i) = decide (i ∈ L)
theorem own_keptv {k : TypeId} {R : Value → Option (DataW Unit × List MemPlace)} {w w' : World} {b n : Nat} {D : DataW Unit} (h : w.ownsMap Try.prog k R b n D) (g : w'.heap[b]? = w.heap[b]?) : w'.ownsMap Try.prog k R b n D := by
  obtain ⟨es, clock, hb, Ft, hs, hD⟩ := h
  exact ⟨es, clock, g.trans hb, Ft, hs, hD⟩
theorem CtM.block {w w' : World} {b : Nat} {L : List Int} (h : CtM w b L) (g : w'.heap[b]? = w.heap[b]?) : CtM w' b L := by
  obtain ⟨n, D, h1, h2, h3⟩ := h
  exact ⟨n, D, own_keptv h1 g, h2, h3⟩
theorem CtM.is {w : World} {b : Nat} {L : List Int} (h : CtM w b L) : ∃ es clock, w.heap[b]? = some (.map es clock) := by
  obtain ⟨n, D, ⟨es, clock, hb, _⟩, _⟩ := h
  exact ⟨es, clock, hb⟩
theorem CtM.lt {w : World} {b : Nat} {L : List Int} (h : CtM w b L) : b < w.heap.size := by
  obtain ⟨es, clock, hb⟩ := h.is
  exact block_lt hb
theorem CtM.below {w w' : World} {b : Nat} {L : List Int} (h : CtM w b L) (k : Below w.heap.size w w') : CtM w' b L := h.block (k.block b h.lt)
theorem ct_made (w : World) : CtM (w.alloc (.map #[] 0)) w.heap.size [] :=
  ⟨0, .map [], World.ownsMap_made w Try.prog 3 plIv, Nat.le_refl _, fun _ _ => ⟨rfl, rfl⟩⟩
set_option maxRecDepth 100000 in
theorem look_ct {w : World} {b : Nat} {L : List Int} (h : CtM w b L) {i : Int} (hi : wfI i) : (Instr.lookup 109 (.map (some b)) (.int .i64 i) false).run Try.prog w = .ok (.int .i64 ((L.count i : Nat) : Int)) w := by
  obtain ⟨n, D, h1, _, h3⟩ := h
  obtain ⟨c, hrun, hat, _⟩ := h1.lookup_int keyIv Try.underlying109 Try.underlying3 (zeroIv w) (kIv hi)
  rw [(h3 i hi).1] at hat
  injection hat with hat
  injection hat with _ hat
  rw [hrun, hat]
theorem CtM.store {n b : Nat} {w' : World} {D : DataW Unit} {L : List Int} {i : Int} (hown : w'.ownsMap Try.prog 3 plIv b (n + 1) (D.put (.int .i64 i) (.lit (.int .i64 (((L.count i : Nat) : Int) + 1))))) (hm : IsMap D) (hn : n ≤ L.length) (ho : wfI i)
    (h3 : ∀ i, wfI i → D.atKey (.int .i64 i) (.lit (.int .i64 0)) = .lit (.int .i64 ((L.count i : Nat) : Int)) ∧ Maps.has D (.int .i64 i) = decide (i ∈ L)) : CtM w' b (L ++ [i]) := by
  refine ⟨n + 1, _, hown, by simp; omega, fun j hj => ?_⟩
  by_cases e : j = i
  · subst e
    rw [atKey_put_same hm (keyIv.key (kIv ho)), has_put_same hm (keyIv.key (kIv ho))]
    exact ⟨by simp, by simp⟩
  · have hne : Lit.int .i64 j ≠ Lit.int .i64 i := fun c => by injection c with _ c; exact e c
    rw [atKey_put_other hne, has_put_other hne]
    have e2 : (L ++ [i]).count j = L.count j := by simp [Ne.symm e]
    have e3 : (j ∈ L ++ [i]) ↔ j ∈ L := by simp [e]
    rw [e2]
    simp only [e3]
    exact h3 j hj
theorem intKeys_spec {R : Value → Option (DataW Unit × List MemPlace)} {w : World} {b n : Nat} {D : DataW Unit} (h : w.ownsMap Try.prog 3 R b n D) : (intKeys D).Nodup ∧ ∀ i, i ∈ intKeys D ↔ wfI i ∧ Maps.has D (.int .i64 i) = true := by
  have hle := intKeys_wf h Try.underlying3
  obtain ⟨es, hD, hpw, _⟩ := h.entries keyIv
  obtain ⟨es', hD', hko⟩ := h.keysOf
  obtain rfl : es = es' := by rw [hD] at hD'; simpa using hD'
  subst hD
  have hk : ∀ p ∈ es, ∃ x, p.1 = .int .i64 x := fun p hp => by obtain ⟨v, hv⟩ := hko p hp; obtain ⟨x, _, hx, _⟩ := Maps.keyOf_int_inv Try.underlying3 hv; exact ⟨x, hx⟩
  have hm : ∀ i, i ∈ intKeys (.map es) ↔ ∃ p ∈ es, p.1 = .int .i64 i := fun i => by
    unfold intKeys
    rw [List.mem_map]
    constructor
    · rintro ⟨p, hp, rfl⟩
      obtain ⟨a, ha⟩ := hk p hp
      exact ⟨p, hp, by rw [ha]; rfl⟩
    · rintro ⟨p, hp, he⟩
      exact ⟨p, hp, by rw [he]; rfl⟩
  refine ⟨?_, fun i => ?_⟩
  · unfold intKeys
    refine List.pairwise_map.2 (hpw.imp_of_mem fun {p q} hp' hq' hne e => hne ?_)
    obtain ⟨a, ha⟩ := hk p hp'
    obtain ⟨b, hb⟩ := hk q hq'
    rw [ha, hb] at e ⊢
    exact congrArg _ e
  · rw [has_eq, List.any_eq_true]
    constructor
    · intro hi
      obtain ⟨p, hp, he⟩ := (hm i).1 hi
      exact ⟨hle i hi, p, hp, by rw [he]; simp [Lit.sameKey]⟩
    · rintro ⟨_, p, hp, hs⟩
      exact (hm i).2 ⟨p, hp, WideAt.sameKey_eq hs⟩
theorem sortedI_spec (ss : List Int) : (ss.mergeSort fun x y => decide (x ≤ y)).Perm ss ∧ (ss.mergeSort fun x y => decide (x ≤ y)).Pairwise fun x y => x ≤ y := by
  refine ⟨List.mergeSort_perm _ _, ?_⟩
  have := List.pairwise_mergeSort (le := fun x y : Int => decide (x ≤ y)) (fun a b c h1 h2 => by simp only [decide_eq_true_eq] at *; omega) (fun a b => by simp only [Bool.or_eq_true, decide_eq_true_eq]; omega) ss
  exact this.imp fun h => by simpa using h
/-- The keys, in order. -/
def KeysOf (L K : List Int) : Prop := K.Nodup ∧ (∀ i, i ∈ K ↔ wfI i ∧ i ∈ L) ∧ K.Pairwise fun x y => x ≤ y
def KeysPost (L : List Int) (b : Nat) (w : World) (e : Ending) (w' : World) : Prop := ∃ v K, e = .returned v ∧ KeysOf L K ∧ K.length ≤ L.length ∧ w'.ownsRow w.heap.size 3 1 v K.length (zs K) ∧ Below w.heap.size w w' ∧ b < w.heap.size
set_option maxHeartbeats 1000000 in
/-- slices.Sorted(maps.Keys(m)): the two calls. -/
theorem keysv (L : List Int) (b : Nat) (w : World) (h : CtM w b L) (hl : L.length ≤ 1000000) :
    Calls Try.prog 57 #[.map (some b)] w (fun e w' => e = .returned (.func (.func 76) #[] #[.pointer (some ⟨w.heap.size, 0, none⟩)]) ∧ w' = w.alloc (.cells #[.map (some b)] 109)) ∧
    Calls Try.prog 56 #[.func (.func 76) #[] #[.pointer (some ⟨w.heap.size, 0, none⟩)]] (w.alloc (.cells #[.map (some b)] 109)) (KeysPost L b (w.alloc (.cells #[.map (some b)] 109))) := by
  obtain ⟨n, D, h1, h2, h3⟩ := h
  have hsz : Maps.size D ≤ n := by
    obtain ⟨es, clock, hb, F, hs, rfl⟩ := h1
    simpa [Maps.size, length_sorted] using hs
  refine ⟨(callsIn_wide (n := 5)).1 (Try.keysV (some b) w), ((callsIn_wide (n := 5)).1 (Try.sortedV b n D plIv w h1 (by unfold maxLen; omega) (by omega))).mono ?_⟩
  rintro e w' ⟨v, ss, rfl, hS, hrow, _, hb⟩
  obtain ⟨s1, s2⟩ := sortedI_spec ss
  obtain ⟨k1, k2⟩ := intKeys_spec h1
  have s3 := s1.trans hS
  have hlen : (ss.mergeSort fun x y => decide (x ≤ y)).length = ss.length := List.length_mergeSort _
  refine ⟨v, ss.mergeSort fun x y => decide (x ≤ y), rfl, ⟨s3.nodup_iff.2 k1, fun i => ?_, s2⟩, ?_, by rw [hlen]; exact hrow, hb, by rw [World.size_alloc]; exact Nat.lt_succ_of_lt h1.lt⟩
  · rw [s3.mem_iff, k2 i]
    constructor
    · rintro ⟨a, c⟩
      rw [(h3 i a).2] at c
      exact ⟨a, of_decide_eq_true c⟩
    · rintro ⟨a, c⟩
      exact ⟨a, by rw [(h3 i a).2]; exact decide_eq_true c⟩
  · rw [s3.length_eq]
    have : (intKeys D).length ≤ Maps.size D := by cases D <;> simp [intKeys, Maps.size]
    omega
end Go.Proofs.Ytnnadhfpkplncaa


/- How often each number stands somewhere. Condition: the set reads; its numbers are such as may be put. -/
namespace Go.Proofs.Ytnnadhfpkplncaa
open Go.RowKit Go.Maps

def allN (l : List Vol) : List Int := l.flatMap fun x => numsL x.f
theorem nums_le (f : Nat → Int) : (numsL f).length ≤ 4096 := by rw [nums_len]; exact items_le f
theorem allN_le (l : List Vol) : (allN l).length ≤ l.length * 4096 := by
  induction l with
  | nil => simp [allN]
  | cons x l ih =>
    have := nums_le x.f
    have e : allN (x :: l) = numsL x.f ++ allN l := rfl
    rw [e, List.length_append, List.length_cons]
    omega
theorem allN_take {l : List Vol} {a : Nat} {x : Vol} (h : l[a]? = some x) : allN (l.take (a + 1)) = allN (l.take a) ++ numsL x.f := by
  obtain ⟨h1, rfl⟩ := List.getElem?_eq_some_iff.1 h
  unfold allN
  rw [List.take_succ_eq_append_getElem h1, List.flatMap_append]
  simp
theorem RdA.grown {w w' : World} {b : Nat} {A : Option Addr} {vs : List Value} (h : RdA w A vs) (g : w.grownBy w' (some b)) (hm : ∃ es clock, w.heap[b]? = some (.map es clock)) : RdA w' A vs := fun i u hi => by
  obtain ⟨b2, o, e, hc⟩ := h i u hi
  refine ⟨b2, o, e, (World.cell?_of_block (g.block b2 (cell_lt hc) (fun e2 => ?_))).trans hc⟩
  injection e2 with e2
  obtain ⟨es, clock, hb⟩ := hm
  subst e2
  simp [World.cell?, hb] at hc
theorem nums_wf {f : Nat → Int} (h : ∀ a, 0 ≤ f a ∧ f a ≤ 1099511627776) {y : Int} (hy : y ∈ numsL f) : wfI y := by
  unfold numsL at hy
  obtain ⟨a, _, rfl⟩ := List.mem_map.1 hy
  exact wf_small (h a)
/-- The counting of one volume's numbers stands at number k. -/
structure CntAt (W : World) (b : Nat) (L xs : List Int) (A : Option Addr) (wr : World) (k : Nat) : Prop where
  ct : CtM wr b (L ++ xs.take k)
  low : Below W.heap.size W wr
  rd : RdA wr A (zs xs)
theorem CntAt.step {W : World} {b : Nat} {L xs : List Int} {A : Option Addr} {wr w' : World} {k n : Nat} {D : DataW Unit} {y : Int} (h : CntAt W b L xs A wr k) (hy : xs[k]? = some y) (hb : W.heap.size ≤ b)
    (hown : w'.ownsMap Try.prog 3 plIv b (n + 1) (D.put (.int .i64 y) (.lit (.int .i64 ((((L ++ xs.take k).count y : Nat) : Int) + 1))))) (hg : wr.grownBy w' (some b)) (hm : IsMap D) (hn : n ≤ (L ++ xs.take k).length) (hw : wfI y)
    (h3 : ∀ i, wfI i → D.atKey (.int .i64 i) (.lit (.int .i64 0)) = .lit (.int .i64 (((L ++ xs.take k).count i : Nat) : Int)) ∧ Maps.has D (.int .i64 i) = decide (i ∈ L ++ xs.take k)) : CntAt W b L xs A w' (k + 1) := by
  obtain ⟨hl, rfl⟩ := List.getElem?_eq_some_iff.1 hy
  refine ⟨?_, ⟨hg.os.trans h.low.os, hg.tape.trans h.low.tape, hg.output.trans h.low.output, Nat.le_trans h.low.size hg.size, fun i hi => (hg.block i (Nat.lt_of_lt_of_le hi h.low.size) (fun e => by injection e with e; omega)).trans (h.low.block i hi)⟩, RdA.grown h.rd hg h.ct.is⟩
  rw [List.take_succ_eq_append_getElem hl, ← List.append_assoc]
  exact CtM.store hown hm hn hw h3
def OutAt (W : World) (b : Nat) (l : List Vol) (wr : World) (a : Nat) : Prop := CtM wr b (allN (l.take a)) ∧ Below W.heap.size W wr

set_option maxHeartbeats 800000 in
/-- All volumes: the same slice in whatever world comes later. -/
theorem vall_fix (s : Option Addr) (l : List Vol) (w : World) (h : RdS w s l) : ∃ A c, RdV w A l c ∧ ∀ w1, Below w.heap.size w w1 → Calls Try.prog 55 #[.pointer s] w1 fun e w' => e = .returned (.slice A l.length c) ∧ w' = w1 := by
  rcases h.2 with ⟨rfl, rfl⟩ | ⟨b, A, c, rfl, hb, hr⟩
  · refine ⟨none, 0, RdV.empty w, fun w1 _ => ?_⟩
    go_enter Try.func55, Try.ntmps55
    go_wp2
    go_ret
    exact ⟨rfl, rfl⟩
  · refine ⟨A, c, hr, fun w1 hk => ?_⟩
    have hc : w1.cell? ⟨b, 0, none⟩ = some (.slice A l.length c) := block_cell ((hk.block b (block_lt hb)).trans hb)
    obtain ⟨n, hn⟩ : ∃ n, n = l.length := ⟨_, rfl⟩
    rw [← hn] at hc ⊢
    clear hr hb hn h
    go_enter Try.func55, Try.ntmps55
    go_wp2
    go_ret
    exact ⟨rfl, rfl⟩
/-- Two lists of one's own that grow by one each: what is boxed for each of them lies apart. -/
structure Two (w0 w : World) (v1 v2 : Value) (n1 n2 : Nat) (xs1 xs2 : List Value) (g1 g2 : Option Nat) (x1 x2 : Value) : Prop where
  o1 : w.ownsRow w0.heap.size 3 1 v1 n1 xs1
  o2 : w.ownsRow w0.heap.size 3 1 v2 n2 xs2
  ap : ∀ q, v1.ownBlock = some q → v2.ownBlock ≠ some q
  low : Below w0.heap.size w0 w
  c1 : ∀ g, g1 = some g → w.heap[g]? = some (.cells #[x1] 3 (0, 0)) ∧ v1.ownBlock ≠ some g ∧ v2.ownBlock ≠ some g
  c2 : ∀ g, g2 = some g → w.heap[g]? = some (.cells #[x2] 3 (0, 0)) ∧ v1.ownBlock ≠ some g ∧ v2.ownBlock ≠ some g
theorem own_lt {w : World} {B n s : Nat} {E : TypeId} {v : Value} {xs : List Value} (h : w.ownsRow B E s v n xs) {q : Nat} (e : v.ownBlock = some q) : q < w.heap.size := by
  rcases h.2 with ⟨e1, _⟩ | ⟨g, c, cur, e1, hg, hh, _⟩
  · rw [e1] at e; cases e
  · rw [e1] at e; cases e; exact block_lt hh
theorem own_belowV {w w' : World} {B n s : Nat} {E : TypeId} {v : Value} {xs : List Value} (h : w.ownsRow B E s v n xs) (k : Below w.heap.size w w') : w'.ownsRow B E s v n xs := own_keepT h (KeepT.of_below (T := E + 1) k) (Nat.ne_of_lt (Nat.lt_succ_self _))
theorem Two.alloc1 {w0 w : World} {v1 v2 : Value} {n1 n2 : Nat} {xs1 xs2 : List Value} {g2 : Option Nat} {x1 x2 : Value} (h : Two w0 w v1 v2 n1 n2 xs1 xs2 none g2 x1 x2) :
    Two w0 (w.alloc (.cells #[x1] 3)) v1 v2 n1 n2 xs1 xs2 (some w.heap.size) g2 x1 x2 := by
  have k : Below w.heap.size w (w.alloc (.cells #[x1] 3)) := (Below.refl _ _).alloc (Nat.le_refl _) _
  refine ⟨own_belowV h.o1 k, own_belowV h.o2 k, h.ap, h.low.trans (k.mono h.low.size), fun g e => ?_, fun g e => ?_⟩
  · cases e
    exact ⟨alloc_new _ _, fun e => by have := own_lt h.o1 e; omega, fun e => by have := own_lt h.o2 e; omega⟩
  · obtain ⟨a, b⟩ := h.c2 g e
    exact ⟨(k.block g (block_lt a)).trans a, b⟩
theorem Two.alloc2 {w0 w : World} {v1 v2 : Value} {n1 n2 : Nat} {xs1 xs2 : List Value} {g1 : Option Nat} {x1 x2 : Value} (h : Two w0 w v1 v2 n1 n2 xs1 xs2 g1 none x1 x2) :
    Two w0 (w.alloc (.cells #[x2] 3)) v1 v2 n1 n2 xs1 xs2 g1 (some w.heap.size) x1 x2 := by
  have k : Below w.heap.size w (w.alloc (.cells #[x2] 3)) := (Below.refl _ _).alloc (Nat.le_refl _) _
  refine ⟨own_belowV h.o1 k, own_belowV h.o2 k, h.ap, h.low.trans (k.mono h.low.size), fun g e => ?_, fun g e => ?_⟩
  · obtain ⟨a, b⟩ := h.c1 g e
    exact ⟨(k.block g (block_lt a)).trans a, b⟩
  · cases e
    exact ⟨alloc_new _ _, fun e => by have := own_lt h.o1 e; omega, fun e => by have := own_lt h.o2 e; omega⟩
theorem own_other {w w' : World} {B n s : Nat} {E : TypeId} {v v1 : Value} {xs : List Value} (h : w.ownsRow B E s v n xs) (g : w.grownBy w' v1.ownBlock) (hne : ∀ q, v1.ownBlock = some q → v.ownBlock ≠ some q) : w'.ownsRow B E s v n xs := by
  refine ⟨h.1, ?_⟩
  rcases h.2 with h2 | ⟨q, c, cur, e, hb, hq, r⟩
  · exact Or.inl h2
  · exact Or.inr ⟨q, c, cur, e, hb, (g.block q (block_lt hq) (fun e2 => hne q e2.symm (by rw [e]; rfl))).trans hq, r⟩
theorem Two.app1 {w0 w w' : World} {v1 v2 v1' : Value} {n1 n2 : Nat} {xs1 xs2 : List Value} {g : Nat} {g2 : Option Nat} {x1 x2 : Value} (h : Two w0 w v1 v2 n1 n2 xs1 xs2 (some g) g2 x1 x2) (r : w.grownBy w' v1.ownBlock)
    (o : w'.ownsRow w0.heap.size 3 1 v1' (n1 + 1) (xs1 ++ [x1])) (a : v1'.ownBlock = v1.ownBlock ∨ v1'.ownBlock = some w.heap.size) : Two w0 w' v1' v2 (n1 + 1) n2 (xs1 ++ [x1]) xs2 none g2 x1 x2 := by
  refine ⟨o, own_other h.o2 r h.ap, fun q e => ?_, below_grown h.low r h.low.size (fun q e => own_geV h.o1 e), fun g e => (by cases e), fun g e => ?_⟩
  · rcases a with a | a
    · exact h.ap q (a.symm.trans e)
    · rw [a] at e
      cases e
      exact fun e => by have := own_lt h.o2 e; omega
  · obtain ⟨b1, b2, b3⟩ := h.c2 g e
    refine ⟨(r.block g (block_lt b1) (fun e => b2 e.symm)).trans b1, ?_, b3⟩
    rcases a with a | a
    · rw [a]; exact b2
    · rw [a]
      intro e
      injection e with e
      have := block_lt b1
      omega
theorem Two.app2 {w0 w w' : World} {v1 v2 v2' : Value} {n1 n2 : Nat} {xs1 xs2 : List Value} {g : Nat} {g1 : Option Nat} {x1 x2 : Value} (h : Two w0 w v1 v2 n1 n2 xs1 xs2 g1 (some g) x1 x2) (r : w.grownBy w' v2.ownBlock)
    (o : w'.ownsRow w0.heap.size 3 1 v2' (n2 + 1) (xs2 ++ [x2])) (a : v2'.ownBlock = v2.ownBlock ∨ v2'.ownBlock = some w.heap.size) : Two w0 w' v1 v2' n1 (n2 + 1) xs1 (xs2 ++ [x2]) g1 none x1 x2 := by
  refine ⟨own_other h.o1 r (fun q e e2 => h.ap q e2 e), o, fun q e => ?_, below_grown h.low r h.low.size (fun q e => own_geV h.o2 e), fun g e => ?_, fun g e => (by cases e)⟩
  · rcases a with a | a
    · rw [a]; exact h.ap q e
    · rw [a]
      intro e2
      injection e2 with e2
      have := own_lt h.o1 e
      omega
  · obtain ⟨b1, b2, b3⟩ := h.c1 g e
    refine ⟨(r.block g (block_lt b1) (fun e => b3 e.symm)).trans b1, b2, ?_⟩
    rcases a with a | a
    · rw [a]; exact b3
    · rw [a]
      intro e
      injection e with e
      have := block_lt b1
      omega
theorem one_cell {w : World} {g : Nat} {x : Value} (h : w.heap[g]? = some (.cells #[x] 3 (0, 0))) : ∀ (j : Nat) (u : Value), ([x] : List Value)[j]? = some u → w.cell? ((⟨g, 0, none⟩ : Addr).add j) = some u := fun j u hj => by
  rw [WideShapes.add_plain, Nat.zero_add, block_cell h]
  simpa using hj
theorem step_append_own_k {P : Program} {ops : Array Oper} {o : Oper} {a : Act} {w : World} {K : Act → World → Prop} {Q : Exit → Act → World → Prop} {E : Prop}
    (hgd : o.guard = none) (s x : Operand) (t : TypeId) (hop : o.op = Op.call { callee := Callee.builtin Builtin.append, args := #[s, x], argTypes := #[t, t] })
    (base : Nat) (e : TypeId) (i : TypeInfo) (z : Value) (size bytes : Nat) (ht : P.underlying t = some (.slice e)) (hi : P.info? e = some i) (hz : i.zero = some z)
    (hsize : i.size = size) (hby : i.bytes = bytes) (hzs : z.cells.size = size) (hsz : 0 < size)
    (v : Value) (n : Nat) (xs : List Value) (hs : a.eval s = v) (hown : w.ownsRow base e size v n xs)
    (ad : Addr) (m c : Nat) (news : List Value) (hx : a.eval x = .slice (some ad) m c) (hl : news.length = m * size) (hnews : ∀ (j : Nat) (u : Value), news[j]? = some u → w.cell? (ad.add j) = some u) (h1 : ∀ u ∈ news, u.oneCell' = true)
    (h63 : n + m ≤ maxLen) (hbytes : (n + m) * bytes ≤ 140737488355328) (hbase : base ≤ w.heap.size)
    (h : ∀ v' w', w'.ownsRow base e size v' (n + m) (xs ++ news) → w.grownBy w' v.ownBlock → (v'.ownBlock = v.ownBlock ∨ v'.ownBlock = some w.heap.size) → K (a.put o.dst v') w') :
    if Region.wanted o (yielded ops a.tmps) = true then Oper.wp P o a w K Q else E := by
  obtain ⟨v', w', hr, h2, h3, _, h5⟩ := run_append_own_at (P := P) w base t o.type e i z size bytes ht hi hz hsize hby hzs hsz v n xs hown ad m c news hl hnews h1 h63 hbytes hbase
  have hw : Region.wanted o (yielded ops a.tmps) = true := by simp [Region.wanted, hgd]
  rw [if_pos hw]
  unfold Oper.wp
  simp [execOp, hop, resolve, invoke, builtin, hs, hx, hr, Result.andThen]
  exact h _ _ h2 h3 h5
theorem two_next {w0 w : World} {v1 v2 : Value} {k : Nat} {xs1 xs2 xs1' xs2' : List Value} {x1 x2 y1 y2 : Value} (h : Two w0 w v1 v2 k k xs1 xs2 none none x1 x2) (e1 : xs1' = xs1) (e2 : xs2' = xs2) : Two w0 w v1 v2 k k xs1' xs2' none none y1 y2 := by
  subst e1 e2
  exact ⟨h.o1, h.o2, h.ap, h.low, fun g e => (by cases e), fun g e => (by cases e)⟩
def CountsPost (L : List Int) (w : World) (e : Ending) (w' : World) : Prop := ∃ A B c d K, e = .returned (.tuple #[.slice A K.length c, .slice B K.length d]) ∧ KeysOf L K ∧ RdA w' A (zs K) ∧ RdA w' B (zs (K.map fun i => ((L.count i : Nat) : Int))) ∧ Below w.heap.size w w'
set_option maxRecDepth 100000 in
set_option maxHeartbeats 12800000 in
theorem counts_any (s : Option Addr) (l : List Vol) (w : World) (h : RdS w s l) (hl : l.length ≤ 64) (hf : ∀ x ∈ l, ∀ a, 0 ≤ x.f a ∧ x.f a ≤ 1099511627776) : Calls Try.prog 29 #[.pointer s] w (CountsPost (allN l) w) := by
  have hmm := @run_makeMap Try.prog
  obtain ⟨b, hb⟩ : ∃ b, b = w.heap.size := ⟨_, rfl⟩
  obtain ⟨w1, hw1⟩ : ∃ w1, w1 = w.alloc (.map #[] 0) := ⟨_, rfl⟩
  have hb1 : Below w.heap.size w w1 := by rw [hw1]; exact (Below.refl _ _).alloc (Nat.le_refl _) _
  have HCT1 := Lib.hid (show CtM w1 b [] by rw [hw1, hb]; exact ct_made w)
  have HB1 := Lib.hid hb1
  have HS := Lib.hid h
  have HF := Lib.hid hf
  have HBB := Lib.hid (show w.heap.size ≤ b by omega)
  obtain ⟨A, c, hr, hA⟩ := vall_fix s l w h
  have HA := Lib.hid (hA w1 hb1)
  have HR := Lib.hid hr
  obtain ⟨n, hn⟩ : ∃ n, n = l.length := ⟨_, rfl⟩
  rw [← hn] at HA hl
  have HN := Lib.hid hn
  clear h hf hb1 hn hA hr
  go_enter Try.func29, Try.ntmps29
  go_wp2_with fail
  rw [← hw1, ← hb]
  clear hw1 hb hmm
  refine HA.out.mono ?_
  rintro e w1' ⟨rfl, rfl⟩
  clear HA
  go_upto_region 3 with fail
  go_loopg [17] n (fun gg iv wr => ∃ a : Nat, a ≤ n ∧ gg = n - a ∧ iv = .int .i64 a ∧ Hid (OutAt w b l wr a))
  case atStart => exact ⟨0, by omega, by omega, rfl, HCT1.out, HB1.out⟩
  case round =>
    obtain ⟨a, ha, hga, rfl, HO⟩ := hrel
    by_cases hlt : a < n
    · have hai : (a : Int) < (n : Int) := by omega
      have hwa : IntKind.i64.wrap ((a : Int) + 1) = (a : Int) + 1 := IntWalk.i64_in _ (by omega)
      obtain ⟨x, hx⟩ : ∃ x, l[a]? = some x := ⟨_, List.getElem?_eq_getElem (by rw [← HN.out]; omega)⟩
      obtain ⟨bv, ov, rfl, c0, c1, c2, c3, c4, c5⟩ := (HR.out.below HO.out.2).at hx
      have HX := Lib.hid hx
      have HFX := Lib.hid (HF.out x (List.mem_of_getElem? hx))
      have HTX := Lib.hid (show ∃ S, RdR x.f S wr x.A from by
        obtain ⟨S, hS⟩ := HS.out.1 x (List.mem_of_getElem? hx)
        exact ⟨S, RdR.below hS HO.out.2⟩)
      clear hx
      obtain ⟨w2, hw2⟩ : ∃ w2, w2 = wr.alloc (.cells #[.string ⟨x.name.toArray⟩, .int .i64 x.blocks, .int .i64 x.quota, .int .i64 x.used, .bool x.frozen, .pointer x.A] 92) := ⟨_, rfl⟩
      obtain ⟨p, hp⟩ : ∃ p, p = wr.heap.size := ⟨_, rfl⟩
      have hb2 : Below wr.heap.size wr w2 := by rw [hw2]; exact (Below.refl _ _).alloc (Nat.le_refl _) _
      have hx2 : w2.heap[p]? = some (.cells #[.string ⟨x.name.toArray⟩, .int .i64 x.blocks, .int .i64 x.quota, .int .i64 x.used, .bool x.frozen, .pointer x.A] 92 (0, 0)) := by rw [hw2, hp]; exact alloc_new _ _
      have y0 : w2.cell? ⟨p, 0, none⟩ = some (.string ⟨x.name.toArray⟩) := block_cell hx2
      have y1 : w2.cell? ⟨p, 1, none⟩ = some (.int .i64 x.blocks) := block_cell hx2
      have y2 : w2.cell? ⟨p, 2, none⟩ = some (.int .i64 x.quota) := block_cell hx2
      have y3 : w2.cell? ⟨p, 3, none⟩ = some (.int .i64 x.used) := block_cell hx2
      have y4 : w2.cell? ⟨p, 4, none⟩ = some (.bool x.frozen) := block_cell hx2
      have y5 : w2.cell? ⟨p, 5, none⟩ = some (.pointer x.A) := block_cell hx2
      have HCT2 := Lib.hid (HO.out.1.below hb2)
      have HB2 := Lib.hid (HO.out.2.trans (hb2.mono HO.out.2.size))
      have HNU := Lib.hid (numbers_any x w2 (by
        obtain ⟨S, hS⟩ := HTX.out
        exact ⟨S, RdR.below hS hb2⟩))
      clear hb2 hx2
      go_upto_region 5 with fail
      rw [← hw2, ← hp]
      clear hw2 hp c0 c1 c2 c3 c4 c5
      go_wp2_with fail
      refine HNU.out.mono ?_
      rintro e w3 ⟨u, rfl, hu, hb3⟩
      obtain ⟨A3, d3, rfl, _, hr3, _⟩ := own_rdA hu
      obtain ⟨L0, hL0⟩ : ∃ L0, L0 = allN (l.take a) := ⟨_, rfl⟩
      obtain ⟨ys, hys⟩ : ∃ ys, ys = numsL x.f := ⟨_, rfl⟩
      have hLl : L0.length ≤ 262144 := by
        rw [hL0]
        have h1 := allN_le (l.take a)
        have h2 : (l.take a).length ≤ 64 := by rw [List.length_take]; omega
        omega
      have hyl : ys.length ≤ 4096 := by rw [hys]; exact nums_le x.f
      have HCN := Lib.hid (show CntAt w b L0 ys A3 w3 0 from ⟨by rw [List.take_zero, List.append_nil, hL0]; exact HCT2.out.below hb3, HB2.out.trans (hb3.mono HB2.out.size), by rw [hys]; exact hr3⟩)
      have HYW := Lib.hid (show ∀ y ∈ ys, wfI y from fun y hy => nums_wf HFX.out (by rw [← hys]; exact hy))
      have HFIN := Lib.hid (show allN (l.take (a + 1)) = L0 ++ ys by rw [hL0, hys]; exact allN_take HX.out)
      rw [← hys]
      obtain ⟨m, hm⟩ : ∃ m, m = ys.length := ⟨_, rfl⟩
      rw [← hm] at hyl ⊢
      have HM := Lib.hid hm
      clear hu hr3 hb3 hL0 hys hm y0 y1 y2 y3 y4 y5 HNU HTX HO
      go_upto_region 6 with fail
      go_loopg [24] m (fun gg iv wq => ∃ k : Nat, k ≤ m ∧ gg = m - k ∧ iv = .int .i64 k ∧ Hid (CntAt w b L0 ys A3 wq k))
      case atStart => exact ⟨0, by omega, by omega, rfl, HCN.out⟩
      case round =>
        obtain ⟨k, hk, hgk, rfl, HC⟩ := hrel
        clear HCN HCT2
        by_cases hkl : k < m
        · have hki : (k : Int) < (m : Int) := by omega
          have hwk : IntKind.i64.wrap ((k : Int) + 1) = (k : Int) + 1 := IntWalk.i64_in _ (by omega)
          obtain ⟨y, hy⟩ : ∃ y, ys[k]? = some y := ⟨_, List.getElem?_eq_getElem (by rw [← HM.out]; omega)⟩
          have hyw := HYW.out y (List.mem_of_getElem? hy)
          obtain ⟨b3, o3, rfl, d0⟩ := HC.out.rd k _ (zs_at hy)
          have hlk := look_ct HC.out.ct hyw
          obtain ⟨nn, D, hown, hnl, hat⟩ := HC.out.ct
          have hcl : (L0 ++ ys.take k).count y ≤ 266240 := by
            have h1 : (L0 ++ ys.take k).count y ≤ (L0 ++ ys.take k).length := List.count_le_length
            rw [List.length_append, List.length_take] at h1
            omega
          have hnb : nn ≤ 266240 := by
            rw [List.length_append, List.length_take] at hnl
            omega
          have HNL := Lib.hid hnl
          have HAT := Lib.hid hat
          have HOWN := Lib.hid hown
          have HY := Lib.hid hy
          have HYW2 := Lib.hid hyw
          obtain ⟨C, hC⟩ : ∃ C, C = (L0 ++ ys.take k).count y := ⟨_, rfl⟩
          rw [← hC] at hlk hcl
          have HCC := Lib.hid hC
          have hwc : IntKind.i64.wrap ((C : Int) + 1) = (C : Int) + 1 := IntWalk.i64_in _ (by omega)
          have hpl : plIv (.int .i64 ((C : Int) + 1)) = some (.lit (.int .i64 ((C : Int) + 1)), []) := plainElem_int Try.underlying3 (wf_small ⟨by omega, by omega⟩)
          have HPL := Lib.hid hpl
          clear hown hnl hat hy hyw hC hpl
          go_wp2_with (at_mapUpdate; refine Hid.out ?_)
          unfold Hid
          refine wpList_mapUpdate_own _ rfl _ _ _ 109 rfl 3 3 keyIv Try.underlying109 plIv b nn D rfl HOWN.out (by unfold maxLen; omega) _ _ _ rfl rfl (kIv HYW2.out) (.lit (.int .i64 ((C : Int) + 1))) [] HPL.out ?_
          intro w5 hown5 hg5
          have HC5 := Lib.hid (HC.out.step HY.out HBB.out (by rw [← HCC.out]; exact hown5) hg5 HOWN.out.isMap HNL.out HYW2.out HAT.out)
          clear hown5 hg5 hlk d0
          go_wp2_with fail
          go_roundg (m - (k + 1))
          case measure => omega
          case rel => exact ⟨k + 1, by omega, rfl, by congr 1, HC5.out⟩
        · have hke : k = m := by omega
          subst hke
          have hki : ¬ (k : Int) < (k : Int) := by omega
          have HO2 := Lib.hid (show OutAt w b l wr (a + 1) from ⟨by
            rw [HFIN.out]
            have h9 := HC.out.ct
            rwa [List.take_of_length_le (by rw [← HM.out]; exact Nat.le_refl _)] at h9, HC.out.low⟩)
          clear hkl HC
          go_wp2_with fail
          go_roundg (n - (a + 1))
          case measure => omega
          case rel => exact ⟨a + 1, by omega, rfl, by congr 1, HO2.out⟩
    · have hae : a = n := by omega
      subst hae
      have hai : ¬ (a : Int) < (a : Int) := by omega
      have hL : CtM wr b (allN l) := by
        have h9 := HO.out.1
        rwa [List.take_of_length_le (by rw [← HN.out]; exact Nat.le_refl _)] at h9
      have hLl : (allN l).length ≤ 262144 := by
        have h1 := allN_le l
        rw [← HN.out] at h1
        omega
      obtain ⟨hk1, hk2⟩ := keysv (allN l) b wr hL (by omega)
      have HK1 := Lib.hid hk1
      have HK2 := Lib.hid hk2
      have HLW := Lib.hid HO.out.2
      have HCT := Lib.hid hL
      clear hlt hL hk1 hk2 HO HCT1 HB1
      go_upto_region 12 with fail
      go_wp2_with fail
      refine HK1.out.mono ?_
      rintro e w4 ⟨rfl, rfl⟩
      go_wp2_with fail
      refine HK2.out.mono ?_
      rintro e wk ⟨vk, K, rfl, hKO, hKl, hok, hbk, hblt⟩
      obtain ⟨Ak, ck, rfl, _, hrk, hltk⟩ := own_rdA hok
      have hbal : Below wr.heap.size wr (wr.alloc (.cells #[.map (some b)] 109)) := (Below.refl _ _).alloc (Nat.le_refl _) _
      have HRK := Lib.hid hrk
      have HKO := Lib.hid hKO
      have HCK := Lib.hid ((HCT.out.below hbal).below hbk)
      have HLK := Lib.hid (HLW.out.trans ((hbal.trans (hbk.mono hbal.size)).mono HLW.out.size))
      obtain ⟨N, hN⟩ : ∃ N, N = K.length := ⟨_, rfl⟩
      rw [← hN] at hKl ⊢
      have HNK := Lib.hid hN
      have HT0 := Lib.hid (show Two wk wk (.slice none 0 0) (.slice none 0 0) 0 0 [] [] none none (.int .i64 0) (.int .i64 0) from ⟨World.ownsRow_nil _ _ _ _, World.ownsRow_nil _ _ _ _, fun q e => (by cases e), Below.refl _ _, fun g e => (by cases e), fun g e => (by cases e)⟩)
      clear hKO hok hbk hblt hrk hltk hN hbal HK1 HK2
      go_upto_region 13 with fail
      obtain ⟨iI, hiI, hi0, hi1, hi2⟩ := info_parts infoTINTv
      go_loopg [38, 9, 10] N (fun gg iv a1 a2 wr => ∃ (k : Nat) (v1 v2 : Value), k ≤ N ∧ gg = N - k ∧ iv = .int .i64 k ∧ a1 = v1 ∧ a2 = v2 ∧ Hid (Two wk wr v1 v2 k k (zs (K.take k)) (zs ((K.take k).map fun i => (((allN l).count i : Nat) : Int))) none none (.int .i64 0) (.int .i64 0)))
      case atStart => exact ⟨0, _, _, by omega, by omega, rfl, rfl, rfl, HT0.out⟩
      case round => 
       obtain ⟨k, v1, v2, hk, hgk, rfl, hv1, hv2, HT⟩ := hrel
       obtain rfl := hv1.symm
       obtain rfl := hv2.symm
       by_cases hkl : k < N
       · have hki : (k : Int) < (N : Int) := by omega
         have hwk : IntKind.i64.wrap ((k : Int) + 1) = (k : Int) + 1 := IntWalk.i64_in _ (by omega)
         obtain ⟨y, hy⟩ : ∃ y, K[k]? = some y := ⟨_, List.getElem?_eq_getElem (by rw [← HNK.out]; omega)⟩
         obtain ⟨b4, o4, rfl, d0⟩ := (HRK.out.below HT.out.low) k _ (zs_at hy)
         have hyw := ((HKO.out.2.1 y).1 (List.mem_of_getElem? hy)).1
         obtain ⟨C, hC⟩ : ∃ C, C = (((allN l).count y : Nat) : Int) := ⟨_, rfl⟩
         have HLP := Lib.hid (show ∀ w', Below wk.heap.size wk w' → (Instr.lookup 109 (.map (some b)) (.int .i64 y) false).run Try.prog w' = .ok (.int .i64 C) w' from fun w' hb => by
           rw [hC]
           exact look_ct (HCK.out.below hb) hyw)
         have HTA := Lib.hid (show zs (K.take (k + 1)) = zs (K.take k) ++ [.int .i64 y] from by
           obtain ⟨h1, rfl⟩ := List.getElem?_eq_some_iff.1 hy
           unfold zs
           rw [List.take_succ_eq_append_getElem h1, List.map_append]; rfl)
         have HTB := Lib.hid (show zs ((K.take (k + 1)).map fun i => (((allN l).count i : Nat) : Int)) = zs ((K.take k).map fun i => (((allN l).count i : Nat) : Int)) ++ [.int .i64 C] from by
           obtain ⟨h1, rfl⟩ := List.getElem?_eq_some_iff.1 hy
           unfold zs
           rw [List.take_succ_eq_append_getElem h1, List.map_append, List.map_append, hC]; rfl)
         have HD := Lib.hid (show Two wk wr.drew v1 v2 k k (zs (K.take k)) (zs ((K.take k).map fun i => (((allN l).count i : Nat) : Int))) none none (.int .i64 y) (.int .i64 C) from
           ⟨HT.out.o1, HT.out.o2, HT.out.ap, HT.out.low.drew, fun g e => (by cases e), fun g e => (by cases e)⟩)
         have HTL := Lib.hid (show Below wk.heap.size wk wr.drew from HT.out.low.drew)
         clear hy hyw hC HT0 HT
         go_upto_region 15 with fail
         refine wp_region_held_drew (S := fun w' => Below wk.heap.size wk w') (by kernel_rfl) HTL.out fun hS => ?_
         clear d0 HTL
         generalize wr.drew = wd at *
         refine takeR 0 (v := ?_) rfl (by kernel_rfl) (by kernel_rfl) (by kernel_rfl) (fun _ _ _ h => h) (Or.inl ⟨by rfl, ?_⟩) hS ?_
         rotate_left; · (intro w hSw; (try dsimp only at hSw); go_simp; (try with_reducible rfl))
         try simp only [Act.put, List.setIfInBounds_toArray, List.set_cons_zero, List.set_cons_succ]
         refine takeR 1 (v := ?_) rfl (by kernel_rfl) (by kernel_rfl) (by kernel_rfl) (fun _ _ _ h => h) (Or.inl ⟨by rfl, ?_⟩) hS ?_
         rotate_left; · (intro w hSw; (try dsimp only at hSw); go_simp; (try with_reducible rfl))
         try simp only [Act.put, List.setIfInBounds_toArray, List.set_cons_zero, List.set_cons_succ]
         refine takeR 4 (v := ?_) rfl (by kernel_rfl) (by kernel_rfl) (by kernel_rfl) (fun _ _ _ h => h) (Or.inl ⟨by rfl, ?_⟩) hS ?_
         rotate_left; · (intro w hSw; (try dsimp only at hSw); go_simp; (try with_reducible rfl))
         try simp only [Act.put, List.setIfInBounds_toArray, List.set_cons_zero, List.set_cons_succ]
         refine takeR 5 (v := ?_) rfl (by kernel_rfl) (by kernel_rfl) (by kernel_rfl) (fun _ _ _ h => h) (Or.inl ⟨by rfl, ?_⟩) hS ?_
         rotate_left; · (intro w hSw; (try dsimp only at hSw); go_simp; (try with_reducible rfl))
         try simp only [Act.put, List.setIfInBounds_toArray, List.set_cons_zero, List.set_cons_succ]
         refine takeR 6 (v := ?_) rfl (by kernel_rfl) (by kernel_rfl) (by kernel_rfl) (fun _ _ _ h => h) (Or.inl ⟨by rfl, ?_⟩) hS ?_
         rotate_left; · (intro w hSw; (try dsimp only at hSw); go_simp; (try with_reducible rfl))
         try simp only [Act.put, List.setIfInBounds_toArray, List.set_cons_zero, List.set_cons_succ]
         refine takeR 7 (v := ?_) rfl (by kernel_rfl) (by kernel_rfl) (by kernel_rfl) (fun _ _ _ h => h) (Or.inl ⟨by rfl, ?_⟩) hS ?_
         rotate_left; · (intro w hSw; (try dsimp only at hSw); have hlk := HLP.out w hSw; go_simp; (try with_reducible rfl))
         try simp only [Act.put, List.setIfInBounds_toArray, List.set_cons_zero, List.set_cons_succ]
         refine twoR 2 8 (by kernel_rfl) rfl rfl (fun K hK => ?_) (fun K hK => ?_)
         · go_simp
           obtain ⟨g1, hg1⟩ : ∃ g, g = wd.heap.size := ⟨_, rfl⟩
           obtain ⟨z1, hz1⟩ : ∃ z, z = wd.alloc (.cells #[.int .i64 y] 3) := ⟨_, rfl⟩
           have T1 := Lib.hid (HD.out.alloc1)
           rw [← hz1, ← hg1] at T1 ⊢
           clear hz1 hg1 hS
           refine hK.out _ _ T1.out.low (fun hS => ?_)
           clear hK K
           try simp only [Act.put, List.setIfInBounds_toArray, List.set_cons_zero, List.set_cons_succ]
           refine twoR 3 8 (by kernel_rfl) rfl rfl (fun K hK => ?_) (fun K hK => ?_)
           · refine step_append_own_k rfl _ _ 32 rfl wk.heap.size 3 iI _ 1 8 Try.underlying32 hiI hi0 hi1 hi2 rfl (by decide) v1 k _ (by go_simp) T1.out.o1 ⟨g1, 0, none⟩ 1 1 [.int .i64 y] (by go_simp) rfl (one_cell (T1.out.c1 _ rfl).1) (by simp [Value.oneCell']) (by unfold maxLen; omega) (by omega) T1.out.low.size ?_
             intro u2 z2 o2 r2 a2
             have T2 := Lib.hid (T1.out.app1 r2 o2 a2)
             clear o2 r2 a2 hS
             refine hK.out _ _ T2.out.low (fun hS => ?_)
             clear hK K
             try simp only [Act.put, List.setIfInBounds_toArray, List.set_cons_zero, List.set_cons_succ]
             refine oneR 8 (by kernel_rfl) rfl (fun K hK => ?_)
             go_simp
             obtain ⟨g3, hg3⟩ : ∃ g, g = z2.heap.size := ⟨_, rfl⟩
             obtain ⟨z3, hz3⟩ : ∃ z, z = z2.alloc (.cells #[.int .i64 C] 3) := ⟨_, rfl⟩
             have T3 := Lib.hid (T2.out.alloc2)
             rw [← hz3, ← hg3] at T3 ⊢
             clear hz3 hg3 hS
             refine hK.out _ _ T3.out.low (fun hS => ?_)
             clear hK K
             try simp only [Act.put, List.setIfInBounds_toArray, List.set_cons_zero, List.set_cons_succ]
             refine oneR 9 (by kernel_rfl) rfl (fun K hK => ?_)
             refine step_append_own_k rfl _ _ 32 rfl wk.heap.size 3 iI _ 1 8 Try.underlying32 hiI hi0 hi1 hi2 rfl (by decide) v2 k _ (by go_simp) T3.out.o2 ⟨g3, 0, none⟩ 1 1 [.int .i64 C] (by go_simp) rfl (one_cell (T3.out.c2 _ rfl).1) (by simp [Value.oneCell']) (by unfold maxLen; omega) (by omega) T3.out.low.size ?_
             intro u4 z4 o4 r4 a4
             have T4 := Lib.hid (T3.out.app2 r4 o4 a4)
             clear o4 r4 a4 hS
             refine hK.out _ _ T4.out.low (fun hS => ?_)
             clear hK K
             try simp only [Act.put, List.setIfInBounds_toArray, List.set_cons_zero, List.set_cons_succ]
             refine takeR 10 (v := ?_) rfl (by kernel_rfl) (by kernel_rfl) (by kernel_rfl) (fun _ _ _ h => h) (Or.inl ⟨by rfl, ?_⟩) hS ?_
             rotate_left; · (intro w hSw; (try dsimp only at hSw); go_simp; (try with_reducible rfl))
             try simp only [Act.put, List.setIfInBounds_toArray, List.set_cons_zero, List.set_cons_succ]
             refine takeR 11 (v := ?_) rfl (by kernel_rfl) (by kernel_rfl) (by kernel_rfl) (fun _ _ _ h => h) (Or.inl ⟨by rfl, ?_⟩) hS ?_
             rotate_left; · (intro w hSw; (try dsimp only at hSw); go_simp; (try with_reducible rfl))
             try simp only [Act.put, List.setIfInBounds_toArray, List.set_cons_zero, List.set_cons_succ]
             refine doneR (by kernel_rfl) ?_
             have HT9 := Lib.hid (two_next (y1 := .int .i64 0) (y2 := .int .i64 0) T4.out HTA.out HTB.out)
             go_wp2_with fail
             go_roundg (N - (k + 1))
             case measure => omega
             case rel => exact ⟨k + 1, u2, u4, by omega, rfl, by congr 1, rfl, rfl, HT9.out⟩
           · go_simp
             obtain ⟨g5, hg5⟩ : ∃ g, g = z1.heap.size := ⟨_, rfl⟩
             obtain ⟨z5, hz5⟩ : ∃ z, z = z1.alloc (.cells #[.int .i64 C] 3) := ⟨_, rfl⟩
             have T5 := Lib.hid (T1.out.alloc2)
             rw [← hz5, ← hg5] at T5 ⊢
             clear hz5 hg5 hS
             refine hK.out _ _ T5.out.low (fun hS => ?_)
             clear hK K
             try simp only [Act.put, List.setIfInBounds_toArray, List.set_cons_zero, List.set_cons_succ]
             refine oneR 3 (by kernel_rfl) rfl (fun K hK => ?_)
             refine step_append_own_k rfl _ _ 32 rfl wk.heap.size 3 iI _ 1 8 Try.underlying32 hiI hi0 hi1 hi2 rfl (by decide) v1 k _ (by go_simp) T5.out.o1 ⟨g1, 0, none⟩ 1 1 [.int .i64 y] (by go_simp) rfl (one_cell (T5.out.c1 _ rfl).1) (by simp [Value.oneCell']) (by unfold maxLen; omega) (by omega) T5.out.low.size ?_
             intro u6 z6 o6 r6 a6
             have T6 := Lib.hid (T5.out.app1 r6 o6 a6)
             clear o6 r6 a6 hS
             refine hK.out _ _ T6.out.low (fun hS => ?_)
             clear hK K
             try simp only [Act.put, List.setIfInBounds_toArray, List.set_cons_zero, List.set_cons_succ]
             refine oneR 9 (by kernel_rfl) rfl (fun K hK => ?_)
             refine step_append_own_k rfl _ _ 32 rfl wk.heap.size 3 iI _ 1 8 Try.underlying32 hiI hi0 hi1 hi2 rfl (by decide) v2 k _ (by go_simp) T6.out.o2 ⟨g5, 0, none⟩ 1 1 [.int .i64 C] (by go_simp) rfl (one_cell (T6.out.c2 _ rfl).1) (by simp [Value.oneCell']) (by unfold maxLen; omega) (by omega) T6.out.low.size ?_
             intro u7 z7 o7 r7 a7
             have T7 := Lib.hid (T6.out.app2 r7 o7 a7)
             clear o7 r7 a7 hS
             refine hK.out _ _ T7.out.low (fun hS => ?_)
             clear hK K
             try simp only [Act.put, List.setIfInBounds_toArray, List.set_cons_zero, List.set_cons_succ]
             refine takeR 10 (v := ?_) rfl (by kernel_rfl) (by kernel_rfl) (by kernel_rfl) (fun _ _ _ h => h) (Or.inl ⟨by rfl, ?_⟩) hS ?_
             rotate_left; · (intro w hSw; (try dsimp only at hSw); go_simp; (try with_reducible rfl))
             try simp only [Act.put, List.setIfInBounds_toArray, List.set_cons_zero, List.set_cons_succ]
             refine takeR 11 (v := ?_) rfl (by kernel_rfl) (by kernel_rfl) (by kernel_rfl) (fun _ _ _ h => h) (Or.inl ⟨by rfl, ?_⟩) hS ?_
             rotate_left; · (intro w hSw; (try dsimp only at hSw); go_simp; (try with_reducible rfl))
             try simp only [Act.put, List.setIfInBounds_toArray, List.set_cons_zero, List.set_cons_succ]
             refine doneR (by kernel_rfl) ?_
             have HT9 := Lib.hid (two_next (y1 := .int .i64 0) (y2 := .int .i64 0) T7.out HTA.out HTB.out)
             go_wp2_with fail
             go_roundg (N - (k + 1))
             case measure => omega
             case rel => exact ⟨k + 1, u6, u7, by omega, rfl, by congr 1, rfl, rfl, HT9.out⟩
         · go_simp
           obtain ⟨g8, hg8⟩ : ∃ g, g = wd.heap.size := ⟨_, rfl⟩
           obtain ⟨z8, hz8⟩ : ∃ z, z = wd.alloc (.cells #[.int .i64 C] 3) := ⟨_, rfl⟩
           have T8 := Lib.hid (HD.out.alloc2)
           rw [← hz8, ← hg8] at T8 ⊢
           clear hz8 hg8 hS
           refine hK.out _ _ T8.out.low (fun hS => ?_)
           clear hK K
           try simp only [Act.put, List.setIfInBounds_toArray, List.set_cons_zero, List.set_cons_succ]
           refine oneR 2 (by kernel_rfl) rfl (fun K hK => ?_)
           go_simp
           obtain ⟨g9, hg9⟩ : ∃ g, g = z8.heap.size := ⟨_, rfl⟩
           obtain ⟨z9, hz9⟩ : ∃ z, z = z8.alloc (.cells #[.int .i64 y] 3) := ⟨_, rfl⟩
           have T9 := Lib.hid (T8.out.alloc1)
           rw [← hz9, ← hg9] at T9 ⊢
           clear hz9 hg9 hS
           refine hK.out _ _ T9.out.low (fun hS => ?_)
           clear hK K
           try simp only [Act.put, List.setIfInBounds_toArray, List.set_cons_zero, List.set_cons_succ]
           refine oneR 3 (by kernel_rfl) rfl (fun K hK => ?_)
           refine step_append_own_k rfl _ _ 32 rfl wk.heap.size 3 iI _ 1 8 Try.underlying32 hiI hi0 hi1 hi2 rfl (by decide) v1 k _ (by go_simp) T9.out.o1 ⟨g9, 0, none⟩ 1 1 [.int .i64 y] (by go_simp) rfl (one_cell (T9.out.c1 _ rfl).1) (by simp [Value.oneCell']) (by unfold maxLen; omega) (by omega) T9.out.low.size ?_
           intro u10 z10 o10 r10 a10
           have T10 := Lib.hid (T9.out.app1 r10 o10 a10)
           clear o10 r10 a10 hS
           refine hK.out _ _ T10.out.low (fun hS => ?_)
           clear hK K
           try simp only [Act.put, List.setIfInBounds_toArray, List.set_cons_zero, List.set_cons_succ]
           refine oneR 9 (by kernel_rfl) rfl (fun K hK => ?_)
           refine step_append_own_k rfl _ _ 32 rfl wk.heap.size 3 iI _ 1 8 Try.underlying32 hiI hi0 hi1 hi2 rfl (by decide) v2 k _ (by go_simp) T10.out.o2 ⟨g8, 0, none⟩ 1 1 [.int .i64 C] (by go_simp) rfl (one_cell (T10.out.c2 _ rfl).1) (by simp [Value.oneCell']) (by unfold maxLen; omega) (by omega) T10.out.low.size ?_
           intro u11 z11 o11 r11 a11
           have T11 := Lib.hid (T10.out.app2 r11 o11 a11)
           clear o11 r11 a11 hS
           refine hK.out _ _ T11.out.low (fun hS => ?_)
           clear hK K
           try simp only [Act.put, List.setIfInBounds_toArray, List.set_cons_zero, List.set_cons_succ]
           refine takeR 10 (v := ?_) rfl (by kernel_rfl) (by kernel_rfl) (by kernel_rfl) (fun _ _ _ h => h) (Or.inl ⟨by rfl, ?_⟩) hS ?_
           rotate_left; · (intro w hSw; (try dsimp only at hSw); go_simp; (try with_reducible rfl))
           try simp only [Act.put, List.setIfInBounds_toArray, List.set_cons_zero, List.set_cons_succ]
           refine takeR 11 (v := ?_) rfl (by kernel_rfl) (by kernel_rfl) (by kernel_rfl) (fun _ _ _ h => h) (Or.inl ⟨by rfl, ?_⟩) hS ?_
           rotate_left; · (intro w hSw; (try dsimp only at hSw); go_simp; (try with_reducible rfl))
           try simp only [Act.put, List.setIfInBounds_toArray, List.set_cons_zero, List.set_cons_succ]
           refine doneR (by kernel_rfl) ?_
           have HT9 := Lib.hid (two_next (y1 := .int .i64 0) (y2 := .int .i64 0) T11.out HTA.out HTB.out)
           go_wp2_with fail
           go_roundg (N - (k + 1))
           case measure => omega
           case rel => exact ⟨k + 1, u10, u11, by omega, rfl, by congr 1, rfl, rfl, HT9.out⟩
       · have hke : k = N := by omega
         subst hke
         have hki : ¬ (k : Int) < (k : Int) := by omega
         have ho1 := HT.out.o1
         have ho2 := HT.out.o2
         rw [List.take_of_length_le (by rw [← HNK.out]; exact Nat.le_refl _)] at ho1 ho2
         obtain ⟨A1, c1, rfl, _, hr1, _⟩ := own_rdA ho1
         obtain ⟨A2, c2, rfl, _, hr2, _⟩ := own_rdA ho2
         have HR1 := Lib.hid hr1
         have HR2 := Lib.hid hr2
         have HLL := Lib.hid (HLK.out.trans (HT.out.low.mono HLK.out.size))
         clear ho1 ho2 hr1 hr2 HT0 HT hkl
         go_wp2_with fail
         go_ret2
         exact ⟨A1, A2, c1, c2, K, by rw [← HNK.out]; rfl, HKO.out, HR1.out, HR2.out, HLL.out⟩
end Go.Proofs.Ytnnadhfpkplncaa


/- What stands of a set throughout, in plain words; the sum of all counts. No condition. -/
namespace Go.Proofs.Ytnnadhfpkplncaa
open Go.RowKit

set_option maxRecDepth 100000 in
set_option maxHeartbeats 1600000 in
theorem vints_any (A B : Option Addr) (c d : Nat) (xs ys : List Int) (w : World) (hA : RdA w A (zs xs)) (hB : RdA w B (zs ys)) (hx : xs.length ≤ 9223372036854775807) :
    Calls Try.prog 58 #[.slice A xs.length c, .slice B ys.length d] w (BoolPost (decide (xs = ys)) w) := by
  by_cases hl : xs.length = ys.length
  · have HL := Lib.hid hl
    rw [← hl]
    clear hl
    go_enter Try.func58, Try.ntmps58
    go_wp2
    go_loopw [5] (fun i wr => ∃ j : Nat, j ≤ xs.length ∧ i = .int .i64 j ∧ Below w.heap.size w wr ∧ Hid (xs.take j = ys.take j)) (fun i _ => xs.length - (intOf i).toNat)
    case atStart => exact ⟨0, by omega, rfl, Below.refl _ _, rfl⟩
    case round =>
      obtain ⟨j, hj, rfl, hb, hall⟩ := hrel
      by_cases hlt : j < xs.length
      · obtain ⟨x, hxj⟩ : ∃ x, xs[j]? = some x := ⟨_, List.getElem?_eq_getElem hlt⟩
        obtain ⟨y, hyj⟩ : ∃ y, ys[j]? = some y := ⟨_, List.getElem?_eq_getElem (by rw [← HL.out]; exact hlt)⟩
        obtain ⟨b1, o1, rfl, hc1⟩ := (hA.below hb) j _ (zs_at hxj)
        obtain ⟨b2, o2, rfl, hc2⟩ := (hB.below hb) j _ (zs_at hyj)
        have hji : (j : Int) < (xs.length : Int) := by omega
        have HX := Lib.hid hxj
        have HY := Lib.hid hyj
        have HB := Lib.hid hb
        clear hxj hyj hb hA hB
        by_cases hxy : x = y
        · subst hxy
          go_wp2
          go_quiet (fail)
          go_wp2
          refine ⟨⟨j + 1, by omega, by go_num, below_drewN HB.out _, ?_⟩, by simp [intOf]; omega⟩
          show xs.take (j + 1) = ys.take (j + 1)
          rw [List.take_add_one, List.take_add_one, HX.out, HY.out, hall.out]
        · have hne : (x != y) = true := by simp [hxy]
          have hd : decide (xs = ys) = false := decide_eq_false fun e => hxy (by
            have h1 := HX.out
            rw [e, HY.out] at h1
            exact (Option.some.inj h1).symm)
          have HD := Lib.hid hd
          clear hd hxy
          go_wp2
          go_quiet (fail)
          go_wp2
          go_ret
          exact ⟨by rw [HD.out]; rfl, below_drewN HB.out _⟩
      · have hd : decide (xs = ys) = true := decide_eq_true (by
          have h1 := hall.out
          rwa [List.take_of_length_le (by omega), List.take_of_length_le (by rw [← HL.out]; omega)] at h1)
        have HD := Lib.hid hd
        have HB := Lib.hid hb
        clear hd hb
        go_wp2
        go_ret
        exact ⟨by rw [HD.out]; rfl, HB.out⟩
  · have hd : decide (xs = ys) = false := decide_eq_false fun e => hl (by rw [e])
    have hne : ((xs.length : Int) != (ys.length : Int)) = true := by simp; omega
    have HD := Lib.hid hd
    clear hd hl
    go_enter Try.func58, Try.ntmps58
    go_wp2
    go_ret
    exact ⟨by rw [HD.out]; rfl, Below.refl _ _⟩

structure OkVol (x : Vol) : Prop where
  bl : 1 ≤ x.blocks ∧ x.blocks ≤ 4096
  us : x.used = (cntV x.f : Int)
  far : ∀ a : Nat, x.blocks ≤ (a : Int) → x.f a = 0
  num : ∀ a, 0 ≤ x.f a ∧ x.f a ≤ 1099511627776
  nm : x.name.length ≤ 32
  qt : 0 ≤ x.quota ∧ x.quota ≤ 4096
structure Good (l : List Vol) : Prop where
  up : Up l
  few : l.length ≤ 64
  ok : ∀ x ∈ l, OkVol x
theorem cntV_le (f : Nat → Int) : cntV f ≤ 4096 := nums_le f
theorem cntV_bl {f : Nat → Int} {n : Nat} (hn : n ≤ 4096) (h : ∀ a : Nat, n ≤ a → f a = 0) : cntV f ≤ n := by
  rw [cntV_eq]
  have e : List.range 4096 = List.range n ++ (List.range (4096 - n)).map (n + ·) := by
    rw [← List.range_add]
    congr 1
    omega
  rw [e, List.filter_append, List.length_append]
  have h1 := List.length_filter_le (fun a => decide (f a ≠ 0)) (List.range n)
  have h2 : ((List.range (4096 - n)).map (n + ·)).filter (fun a => decide (f a ≠ 0)) = [] := by
    refine List.filter_eq_nil_iff.2 fun a ha => ?_
    obtain ⟨b, _, rfl⟩ := List.mem_map.1 ha
    rw [h _ (Nat.le_add_right n b)]
    simp
  rw [h2]
  simp at h1 ⊢
  omega
theorem OkVol.le {x : Vol} (h : OkVol x) : 0 ≤ x.used ∧ x.used ≤ 4096 ∧ x.used ≤ x.blocks := by
  have h1 := cntV_le x.f
  obtain ⟨n, hn⟩ := Int.eq_ofNat_of_zero_le (show (0 : Int) ≤ x.blocks by have := h.bl.1; omega)
  have hb := h.bl.2
  have h2 := cntV_bl (f := x.f) (n := n) (by omega) (fun a ha => h.far a (by rw [hn]; omega))
  rw [h.us, hn]
  omega
theorem Good.bnd {l : List Vol} (h : Good l) : ∀ x ∈ l, 0 ≤ x.blocks ∧ x.blocks ≤ 4096 ∧ 0 ≤ x.used ∧ x.used ≤ 4096 := fun x hx => by
  have h1 := (h.ok x hx).bl
  have h2 := (h.ok x hx).le
  omega
theorem good_nil : Good [] := ⟨List.Pairwise.nil, by simp, fun x hx => by cases hx⟩
theorem good_put {l : List Vol} (h : Good l) {i : Nat} {v : Vol} (hc : Cut l v.name i) (hv : OkVol v) (hl : hasAt l i v.name = true ∨ l.length < 64) : Good (putV l i v) := by
  refine ⟨up_put h.up hc, ?_, fun x hx => ?_⟩
  · rw [put_len hc.le]
    have := h.few
    split
    · exact this
    · rename_i hh
      rcases hl with hl | hl
      · exact absurd hl hh
      · omega
  · rcases put_mem hx with rfl | hx
    · exact hv
    · exact h.ok x hx
theorem cntV_zero : cntV (fun _ => 0) = 0 := by
  rw [cntV_eq]
  simp
theorem ok_mk {t : List UInt8} {bl qu : Int} (h : okV bl qu ∧ t.length ≤ 32) : OkVol (mkV t bl qu) :=
  ⟨⟨h.1.1, h.1.2.1⟩, by show (0 : Int) = ((cntV (fun _ => 0) : Nat) : Int); rw [cntV_zero]; rfl, fun _ _ => rfl, fun _ => ⟨by show (0 : Int) ≤ 0; omega, by show (0 : Int) ≤ 1099511627776; omega⟩, h.2, ⟨h.1.2.2.1, by have := h.1.2.1; have := h.1.2.2.2; show qu ≤ 4096; omega⟩⟩
theorem ok_cp {x : Vol} (h : OkVol x) {t : List UInt8} (ht : t.length ≤ 32) (fr : Bool) : OkVol (cpV x t fr) := ⟨h.bl, h.us, h.far, h.num, ht, h.qt⟩
theorem badN_no {y : Int} (h : badN y = false) : 0 ≤ y ∧ y ≤ 1099511627776 := by
  unfold badN at h
  simp at h
  omega
theorem fK_num (f : Nat → Int) (z : Int) (xs : List Int) (hf : ∀ a, 0 ≤ f a ∧ f a ≤ 1099511627776) (hx : ∀ y ∈ xs, badN y = false) : ∀ (k : Nat) (a : Nat), 0 ≤ fK f z xs k a ∧ fK f z xs k a ≤ 1099511627776
  | 0, a => hf a
  | k + 1, a => by
    have ih := fK_num f z xs hf hx k a
    unfold fK setF
    split
    · unfold updF
      split
      · rw [List.getD_eq_getElem?_getD]
        cases hk : xs[k]? with
        | none => simp
        | some y => exact badN_no (hx y (List.mem_of_getElem? hk))
      · exact ih
    · exact ih
theorem ok_put {x : Vol} (h : OkVol x) {z : Int} {xs : List Int} (hin : inR x z xs.length) (hx : ∀ y ∈ xs, badN y = false) (A : Option Addr) : OkVol (putX x z xs A) := by
  obtain ⟨h1, h2, h3, h4⟩ := hin
  have hb := h.bl.2
  refine ⟨h.bl, ?_, fun a ha => ?_, fun a => fK_num x.f z xs h.num hx _ a, h.nm, h.qt⟩
  · show uK x.used x.f z xs xs.length = ((cntV (fK x.f z xs xs.length) : Nat) : Int)
    rw [cnt_fK x.used x.f z xs h1 xs.length (by omega), h.us]
    omega
  · exact fK_far x.f z x.blocks xs h1 h.far xs.length (by omega) a ha
theorem good_del {l : List Vol} (h : Good l) (i : Nat) : Good (l.eraseIdx i) :=
  ⟨List.Pairwise.sublist (List.eraseIdx_sublist l i) h.up, Nat.le_trans (List.length_eraseIdx_le l i) h.few, fun x hx => h.ok x (List.mem_of_mem_eraseIdx hx)⟩
theorem sum_zero {l : List Nat} (h : ∀ x ∈ l, x = 0) : l.sum = 0 := by
  induction l with
  | nil => rfl
  | cons a l ih => rw [List.sum_cons, h a List.mem_cons_self, ih (fun x hx => h x (List.mem_cons_of_mem _ hx))]
theorem sum_one {K : List Int} (hk : K.Nodup) {y : Int} (hy : y ∈ K) : (K.map fun i => if y = i then (1 : Nat) else 0).sum = 1 := by
  induction K with
  | nil => cases hy
  | cons a K ih =>
    obtain ⟨h1, h2⟩ := List.nodup_cons.1 hk
    rw [List.map_cons, List.sum_cons]
    by_cases e : y = a
    · subst e
      have : (K.map fun i => if y = i then (1 : Nat) else 0).sum = 0 := by
        refine sum_zero fun x hx => ?_
        obtain ⟨i, hi, rfl⟩ := List.mem_map.1 hx
        rw [if_neg (fun e : y = i => h1 (e ▸ hi))]
      rw [this, if_pos rfl]
    · rw [if_neg e, ih h2 (by rcases List.mem_cons.1 hy with h | h; exact absurd h e; exact h)]
theorem sum_add {α : Type} (K : List α) (f g : α → Nat) : (K.map fun i => f i + g i).sum = (K.map f).sum + (K.map g).sum := by
  induction K with
  | nil => rfl
  | cons a K ih => simp only [List.map_cons, List.sum_cons, ih]; omega
theorem sum_count {K : List Int} (hk : K.Nodup) : ∀ L : List Int, (∀ y ∈ L, y ∈ K) → (K.map fun i => L.count i).sum = L.length
  | [], _ => by
    refine sum_zero fun x hx => ?_
    obtain ⟨i, _, rfl⟩ := List.mem_map.1 hx
    simp
  | y :: L, h => by
    have ih := sum_count hk L (fun z hz => h z (List.mem_cons_of_mem _ hz))
    have e : (fun i => (y :: L).count i) = fun i => L.count i + (if y = i then 1 else 0) := by
      funext i
      rw [List.count_cons]
      simp
    rw [e, sum_add, ih, sum_one hk (h y List.mem_cons_self)]
    rfl
def usedL (l : List Vol) : Int := (l.map Vol.used).sum
theorem all_used {l : List Vol} (h : ∀ x ∈ l, OkVol x) : ((allN l).length : Int) = usedL l := by
  induction l with
  | nil => rfl
  | cons x l ih =>
    have e : allN (x :: l) = numsL x.f ++ allN l := rfl
    have e2 : usedL (x :: l) = x.used + usedL l := by unfold usedL; rw [List.map_cons, List.sum_cons]
    rw [e, List.length_append, e2, (h x List.mem_cons_self).us, ← ih (fun y hy => h y (List.mem_cons_of_mem _ hy))]
    show ((numsL x.f).length + (allN l).length : Int) = (((numsL x.f).length : Nat) : Int) + _
    rfl
theorem all_wf {l : List Vol} (h : ∀ x ∈ l, OkVol x) : ∀ y ∈ allN l, wfI y := fun y hy => by
  obtain ⟨x, hx, hy⟩ := List.mem_flatMap.1 hy
  exact nums_wf (h x hx).num hy
def cntS (L K : List Int) (k : Nat) : Int := ((K.take k).map fun i => ((L.count i : Nat) : Int)).sum
theorem sum_cast (K : List Int) (f : Int → Nat) : (K.map fun i => ((f i : Nat) : Int)).sum = (((K.map f).sum : Nat) : Int) := by
  induction K with
  | nil => rfl
  | cons a K ih => rw [List.map_cons, List.sum_cons, ih, List.map_cons, List.sum_cons]; omega
theorem cnt_all {l : List Vol} {K : List Int} (h : Good l) (hk : KeysOf (allN l) K) : cntS (allN l) K K.length = usedL l := by
  unfold cntS
  rw [List.take_of_length_le (Nat.le_refl _), sum_cast, sum_count hk.1 (allN l) (fun y hy => (hk.2.1 y).2 ⟨all_wf h.ok y hy, hy⟩)]
  exact all_used h.ok
def useS (l : List Vol) (k : Nat) : Int := ((l.take k).map Vol.used).sum
theorem useS_succ {l : List Vol} {k : Nat} {x : Vol} (h : l[k]? = some x) : useS l (k + 1) = useS l k + x.used := by
  obtain ⟨h1, rfl⟩ := List.getElem?_eq_some_iff.1 h
  unfold useS
  rw [List.take_succ_eq_append_getElem h1, List.map_append, List.sum_append]
  simp
theorem cntS_succ {L K : List Int} {k : Nat} {y : Int} (h : K[k]? = some y) : cntS L K (k + 1) = cntS L K k + ((L.count y : Nat) : Int) := by
  obtain ⟨h1, rfl⟩ := List.getElem?_eq_some_iff.1 h
  unfold cntS
  rw [List.take_succ_eq_append_getElem h1, List.map_append, List.sum_append]
  simp
theorem useS_near {l : List Vol} (h : Good l) : ∀ k : Nat, 0 ≤ useS l k ∧ useS l k ≤ (k : Int) * 4096
  | 0 => by simp [useS]
  | k + 1 => by
    have ih := useS_near h k
    rcases Nat.lt_or_ge k l.length with hk | hk
    · have hx : l[k]? = some l[k] := List.getElem?_eq_getElem hk
      rw [useS_succ hx]
      have := (h.ok _ (List.mem_of_getElem? hx)).le
      omega
    · have : useS l (k + 1) = useS l k := by unfold useS; rw [List.take_of_length_le (by omega), List.take_of_length_le hk]
      rw [this]
      omega
theorem cntS_near (L K : List Int) : ∀ k : Nat, 0 ≤ cntS L K k ∧ cntS L K k ≤ (k : Int) * (L.length : Int)
  | 0 => by simp [cntS]
  | k + 1 => by
    have ih := cntS_near L K k
    rcases Nat.lt_or_ge k K.length with hk | hk
    · have hx : K[k]? = some K[k] := List.getElem?_eq_getElem hk
      rw [cntS_succ hx]
      have h1 : L.count K[k] ≤ L.length := List.count_le_length
      rw [show (((k + 1 : Nat) : Int)) * (L.length : Int) = (k : Int) * (L.length : Int) + (L.length : Int) by rw [Int.natCast_add, Int.add_mul]; simp]
      omega
    · have : cntS L K (k + 1) = cntS L K k := by unfold cntS; rw [List.take_of_length_le (by omega), List.take_of_length_le hk]
      rw [this, show (((k + 1 : Nat) : Int)) * (L.length : Int) = (k : Int) * (L.length : Int) + (L.length : Int) by rw [Int.natCast_add, Int.add_mul]; simp]
      omega
end Go.Proofs.Ytnnadhfpkplncaa

