/- 'LockRuns': whatever is taken and let go: who holds what, alone or not, and the errors; nothing of a nil one. Condition: the acts read; the handle of 'error'. -/
import Derived.Test.YtnnadhfpkplncaaDoorLkRHol
import Derived.Test.YtnnadhfpkplncaaDoorLkLMay
import Derived.Deep.CutRange
import Derived.Deep.LoopGhost
namespace Go.Proofs.YtnnadhfpkplncaaDoor
open Go.RowKit Go.Maps

/-- The same world class: nothing that lay there has turned. -/
def Cl (w0 w : World) : Prop := Below w0.heap.size w0 w
theorem Cl.refl (w : World) : Cl w w := Below.refl _ _
theorem Cl.next {w0 w w' : World} (h : Cl w0 w) (k : Below w.heap.size w w') : Cl w0 w' := Below.trans h (k.mono (Below.size h))
theorem Cl.drew {w0 w : World} (h : Cl w0 w) : Cl w0 w.drew := Cl.next h (Below.refl _ _).drew
theorem Cl.cell {w0 w : World} (h : Cl w0 w) {a : Addr} {v : Value} (hc : w0.cell? a = some v) : w.cell? a = some v := (World.cell?_of_block (Below.block h a.block (by
  rcases Nat.lt_or_ge a.block w0.heap.size with hlt | hge
  · exact hlt
  · simp [World.cell?, Array.getElem?_eq_none hge] at hc))).trans hc
/-- A region that draws its order: one walk in the text's order, in any world of a class. -/
theorem region_class {P : Program} {C : World → Prop} {id : Nat} {Q : Exit → Act → World → Prop} {a : Act} {w : World} {l : List Oper} (hm : P.follows .mixedOrders = true) (hB : Region.lexB .any l.toArray = true) (hC : C w.drew)
    (h : wpQuiet P l.toArray C (fun a' => ∀ w', C w' → Q .normal a' w') l a) : (Code.region id l.toArray true).wp P Q a w :=
  wp_region_quiet (C := C) hm hB hC (by simpa using h)
theorem len_both {L N t : Nat} {F : Int → List UInt8 → Int} {r : List Held} (w : World) (h : Tab L N w t F) (ha : Agr F r) :
    Calls Tryd.prog 19 #[.pointer (some ⟨t, 0, none⟩)] w fun e w' => e = .returned (.int .i64 (holdersL r [] true).length) ∧ Below w.heap.size w w' := by
  obtain ⟨n, D, ⟨m, hown⟩, hhas, hc⟩ := len_any w h
  refine hc.mono fun e w' ⟨he, hb⟩ => ⟨?_, hb⟩
  obtain ⟨h1, h2⟩ := intKeys_spec hown
  have hl : (intKeys D).length = Maps.size D := by cases D <;> simp [intKeys, Maps.size]
  rw [he, ← hl, len_eq ha h1 fun i => by
    rw [h2 i]
    exact ⟨fun ⟨a, b⟩ => ⟨a, (hhas i a).1 b⟩, fun ⟨a, b⟩ => ⟨a, (hhas i a).2 b⟩⟩]
structure RunAt (W : World) (k t : Nat) (v : Value) (F : Int → List UInt8 → Int) (r : List Held) (w : World) : Prop where
  at_ : LockAt W k t v F r w
  up : UpR r
theorem RunAt.cl {W : World} {k t : Nat} {v : Value} {F : Int → List UInt8 → Int} {r : List Held} {w w' : World} (h : RunAt W k t v F r w) (c : Cl w w') : RunAt W k t v F r w' :=
  ⟨⟨h.at_.tab.below c, h.at_.agr, h.at_.own.below c, h.at_.len, h.at_.keep.trans (Keep.of c h.at_.keep.bl.size)⟩, h.up⟩
theorem names_step {r : List Held} {q : Nat} {y : Held} {who : Int} (hy : r[q]? = some y) :
    namesL (r.take (q + 1)) who = (if y.1 = who then namesL (r.take q) who ++ [y.2.1] else namesL (r.take q) who) ∧ (y.1 = who → (namesL r who)[(namesL (r.take q) who).length]? = some y.2.1) := by
  obtain ⟨hlt, rfl⟩ := List.getElem?_eq_some_iff.1 hy
  have e1 : r.take (q + 1) = r.take q ++ [r[q]] := List.take_succ_eq_append_getElem hlt
  have e2 : namesL (r.take (q + 1)) who = (if r[q].1 = who then namesL (r.take q) who ++ [r[q].2.1] else namesL (r.take q) who) := by
    rw [e1]
    unfold namesL
    rw [List.filter_append, List.map_append]
    by_cases h : r[q].1 = who
    · simp [h]
    · simp [h]
  refine ⟨e2, fun h => ?_⟩
  have e3 : namesL r who = namesL (r.take (q + 1)) who ++ namesL (r.drop (q + 1)) who := by
    unfold namesL
    rw [← List.map_append, ← List.filter_append, List.take_append_drop]
  rw [e3, e2, if_pos h, List.append_assoc, List.getElem?_append_right (Nat.le_refl _), Nat.sub_self]
  rfl
theorem strs_at {l : List (List UInt8)} {i : Nat} {x : List UInt8} (h : l[i]? = some x) : (strs l)[i]? = some (.string ⟨x.toArray⟩) := by
  unfold strs
  rw [List.getElem?_map, h]; rfl
set_option maxRecDepth 100000 in
set_option maxHeartbeats 6400000 in
theorem runs_walk (v : Value) (W : World) (hg : Handle W) (hin : ActsIn W v) : Calls Tryd.prog 6 #[v] W (BoolPost true W) := by
  obtain ⟨B, c, l, rfl, hlc, hll, hrd, hok⟩ := hin
  have HG := Lib.hid hg
  have HRD := Lib.hid hrd
  have HOK := Lib.hid hok
  obtain ⟨m, hm⟩ : ∃ m, m = l.length := ⟨_, rfl⟩
  rw [← hm] at hlc hll ⊢
  have HN := Lib.hid hm
  clear hrd hm hok hg
  go_enter Tryd.func6, Tryd.ntmps6
  go_wp2_with fail
  refine (new_any W).mono ?_
  rintro e w1 ⟨t, rfl, ht, hlt, hb1⟩
  have HS := Lib.hid (show RunAt W 0 t (.slice none 0 0) (fun _ _ => 0) [] w1 from ⟨⟨ht.lower (Nat.le_refl _), Agr.nil, OwnH.nil _, Nat.le_refl _, Keep.of hb1 (Nat.le_refl _)⟩, UpR.nil⟩)
  have HG1 := Lib.hid ((HG.out).keep (Keep.of hb1 (Nat.le_refl _) : Keep W.heap.size W w1))
  clear ht hb1
  go_wp2_with fail
  refine (free_nil 1 w1).mono ?_
  rintro e w2 ⟨rfl, rfl⟩
  go_wp2_with fail
  refine (holds_nil 1 [97] w2).mono ?_
  rintro e w3 ⟨rfl, rfl⟩
  go_wp2_with fail
  refine (take_nil 1 [97] true w3).mono ?_
  rintro e w4 ⟨rfl, rfl⟩
  rw [show errV 1 = .iface 78 (.int .i64 1) from rfl]
  go_wp2_with fail
  refine (numk_hit 1 w4 HG1.out).mono ?_
  rintro e w5 ⟨rfl, hb5⟩
  go_wp2_with fail
  refine (may_nil 1 [97] true w5).mono ?_
  rintro e w6 ⟨rfl, rfl⟩
  rw [show errV 1 = .iface 78 (.int .i64 1) from rfl]
  go_wp2_with fail
  refine (numk_hit 1 w6 (HG1.out.keep (Keep.of hb5 (Nat.le_refl _)))).mono ?_
  rintro e w7 ⟨rfl, hb7⟩
  have HSA := Lib.hid (HS.out.cl ((Cl.next (Cl.refl _) hb5).next hb7))
  clear hb5 hb7 HS HG1
  go_wp2_with fail
  refine (len_nil w7).mono ?_
  rintro e w8 ⟨rfl, rfl⟩
  go_wp2_with fail
  refine (holders_nil [97] w8).mono ?_
  rintro e w9 ⟨rfl, rfl⟩
  go_wp2_with fail
  refine (names_nil 1 w9).mono ?_
  rintro e w10 ⟨rfl, rfl⟩
  go_wp2_with fail
  go_loopg [7, 8] 60 (fun g o i wr => ∃ (k : Nat) (v1 : Value), k ≤ m ∧ k ≤ 60 ∧ g = 60 - k ∧ i = .int .i64 k ∧ o = v1 ∧ Hid (∃ F r, RunAt W k t v1 F r wr))
  case atStart => exact ⟨0, _, by omega, by omega, rfl, rfl, rfl, ⟨_, _, HSA.out⟩⟩
  case round =>
    obtain ⟨k, v1, hk, hk60, hgk, rfl, hv, hst⟩ := hrel
    obtain rfl := hv.symm
    obtain ⟨F, r, hst⟩ := hst.out
    have HST := Lib.hid hst
    clear hst HSA
    by_cases hgo : k < m ∧ k < 60
    · obtain ⟨hkm, hk3⟩ := hgo
      obtain ⟨x, hx⟩ : ∃ x, l[k]? = some x := ⟨_, List.getElem?_eq_getElem (by rw [← HN.out]; omega)⟩
      have hox := HOK.out x (List.mem_of_getElem? hx)
      have hki : (k : Int) < (m : Int) := by omega
      have hki2 : (k : Int) < 60 := by omega
      obtain ⟨b, o, rfl, c0, c1, c2, c3⟩ := act_at (HRD.out.keep HST.out.at_.keep) hx
      obtain ⟨x0, x1, x2, x3⟩ := x
      have hx1 : wfI x1 := hox.1
      have hx2 : okS x2 := hox.2
      have hlen := HST.out.at_.len
      have hkw : IntKind.i64.wrap ((k : Int) + 1) = (k : Int) + 1 := IntWalk.i64_in _ (by omega)
      obtain ⟨w0, hw0⟩ : ∃ w0, w0 = wr.alloc (.cells #[.int .i64 x0, .int .i64 x1, .string ⟨x2.toArray⟩, .bool x3] 24) := ⟨_, rfl⟩
      have HP0 := Lib.hid (show w0.heap[wr.heap.size]? = some (.cells #[.int .i64 x0, .int .i64 x1, .string ⟨x2.toArray⟩, .bool x3] 24 (0, 0)) by rw [hw0]; exact alloc_new _ _)
      have HS0 := Lib.hid (HST.out.cl (show Cl wr w0 by rw [hw0]; exact (Below.refl _ _).alloc (Nat.le_refl _) _))
      have HG0 := Lib.hid (HG.out.keep HS0.out.at_.keep)
      obtain ⟨p, hp⟩ : ∃ p, p = wr.heap.size := ⟨_, rfl⟩
      rw [← hp] at HP0
      clear hx hox HST
      go_wp2_with fail
      rw [← hw0, ← hp]
      clear hw0 hp c0 c1 c2 c3
      obtain ⟨E, hE⟩ : ∃ E, E = refMay r x1 x2 x3 := ⟨_, rfl⟩
      obtain ⟨ev, hev⟩ : ∃ ev, ev = errV E := ⟨_, rfl⟩
      have HM : ∀ w', Cl w0 w' → Calls Tryd.prog 11 #[.pointer (some ⟨t, 0, none⟩), .int .i64 x1, .string ⟨x2.toArray⟩, .bool x3] w' fun e w'' => e = .returned ev ∧ Cl w0 w'' := fun w' h => (may_both x1 x2 x3 w' (HS0.out.cl h).at_.tab HS0.out.at_.agr hx1 hx2).mono fun e w'' ⟨he, hb⟩ => ⟨by rw [he, hev, hE], h.next hb⟩
      have HNU : ∀ w', Cl w0 w' → Calls Tryd.prog 12 #[ev] w' fun e w'' => e = .returned (.int .i64 E) ∧ Cl w0 w'' := fun w' h => by
        rw [hev]
        exact (numk_any E w' (HG0.out.keep (Keep.of h (Nat.zero_le _) : Keep 0 w0 w'))).mono fun e w'' ⟨he, hb⟩ => ⟨he, h.next hb⟩
      have HRM : ∀ w', Cl w0 w' → Calls Tryd.prog 13 #[v1, .int .i64 x1, .string ⟨x2.toArray⟩, .bool x3] w' fun e w'' => e = .returned (.int .i64 E) ∧ Cl w0 w'' := fun w' h => by
        obtain ⟨A1, c1, e1, hc1, hr1, _⟩ := (HS0.out.cl h).at_.own.read
        rw [e1, hE]
        exact (rmay_any r A1 c1 x1 x2 x3 w' hr1 hc1 (by omega)).mono fun e w'' ⟨he, hb⟩ => ⟨he, h.next hb⟩
      have d1 : w0.cell? ⟨p, 1, none⟩ = some (.int .i64 x1) := block_cell HP0.out
      have d2 : w0.cell? ⟨p, 2, none⟩ = some (.string ⟨x2.toArray⟩) := block_cell HP0.out
      have d3 : w0.cell? ⟨p, 3, none⟩ = some (.bool x3) := block_cell HP0.out
      have HE := Lib.hid hE
      have HEV := Lib.hid hev
      have HNU' := Lib.hid HNU
      clear hE hev
      refine region_class (C := fun w' => Cl w0 w') (by kernel_rfl) (by kernel_rfl) (Cl.refl w0).drew ?_
      repeat (go_big_quiet_step (first | exact HM _ | exact HNU _ | exact HRM _ | (intro hw5; have z1 := hw5.cell d1; have z2 := hw5.cell d2; have z3 := hw5.cell d3; go_simp; try rfl)))
      refine wpQuiet_nil ?_
      intro w2 hc2
      have HS2 := Lib.hid (HS0.out.cl hc2)
      have HP2 := Lib.hid ((Below.block hc2 p (block_lt HP0.out)).trans HP0.out)
      have HNU2 := Lib.hid (fun w' (h : Cl w2 w') => HNU'.out w' (hc2.trans (h.mono (Below.size hc2))))
      clear HM HNU HRM d1 d2 d3 hc2
      have hEE : (E != E) = false := by simp
      have hEF : (E == E) = true := by simp
      have d1 : w2.cell? ⟨p, 1, none⟩ = some (.int .i64 x1) := block_cell HP2.out
      have d2 : w2.cell? ⟨p, 2, none⟩ = some (.string ⟨x2.toArray⟩) := block_cell HP2.out
      have d3 : w2.cell? ⟨p, 3, none⟩ = some (.bool x3) := block_cell HP2.out
      have d0 : w2.cell? ⟨p, 0, none⟩ = some (.int .i64 x0) := block_cell HP2.out
      have HFR := Lib.hid (free_any x1 w2 HS2.out.at_.tab hx1)
      have HTK := Lib.hid (take_both x1 x2 x3 w2 HS2.out.at_.tab HS2.out.at_.agr hx1 hx2 HS2.out.at_.keep.bl.size (by omega))
      rw [← HE.out, ← HEV.out] at HTK
      go_upto_if 96 with fail
      go_cut [7] from 59 to 234 (fun o w' => ∃ v5 F5 r5, o = v5 ∧ Hid (RunAt W (k + 1) t v5 F5 r5 w' ∧ w'.heap[p]? = some (.cells #[.int .i64 x0, .int .i64 x1, .string ⟨x2.toArray⟩, .bool x3] 24 (0, 0))))
      case first =>
        go_wp2_with fail
        · refine HFR.out.mono ?_
          rintro e w3 ⟨rfl, ht3, hk3⟩
          have HRF := Lib.hid (rfree_any r v1 x1 w3 (HS2.out.at_.own.keep hk3) (by omega))
          have HP3 := Lib.hid (hk3.cells _ _ _ _ HP2.out)
          have HT3 := Lib.hid (ht3.mono (N' := 3 * (k + 1)) (by omega))
          have HK3 := Lib.hid (HS2.out.at_.keep.trans hk3)
          clear ht3 hk3 d0 d1 d2 d3
          have d1 : w3.cell? ⟨p, 1, none⟩ = some (.int .i64 x1) := block_cell HP3.out
          go_wp2_with fail
          refine HRF.out.mono ?_
          rintro e w4 ⟨v4, rfl, ho4, hb4⟩
          have HR := Lib.hid (show RunAt W (k + 1) t v4 (fun i l => if i = x1 then 0 else F i l) (freeL r x1) w4 ∧ w4.heap[p]? = some (.cells #[.int .i64 x0, .int .i64 x1, .string ⟨x2.toArray⟩, .bool x3] 24 (0, 0)) from
            ⟨⟨⟨HT3.out.below hb4, HS2.out.at_.agr.free x1, ho4, Nat.le_trans (freeL_len _ _) (by omega), HK3.out.trans (Keep.of hb4 HK3.out.bl.size)⟩, HS2.out.up.free x1⟩, (hb4.block p (block_lt HP3.out)).trans HP3.out⟩)
          clear ho4 hb4 d1
          go_wp2_with fail
          go_meet
          case rel => exact ⟨_, _, _, rfl, HR⟩
        · refine HTK.out.mono ?_
          rintro e w3 ⟨rfl, ⟨F3, ht3, ha3⟩, hk3⟩
          have HRT := Lib.hid (rtake_any r v1 x1 x2 x3 w3 (HS2.out.at_.own.keep hk3) (by omega))
          rw [← HE.out] at HRT
          have HP3 := Lib.hid (hk3.cells _ _ _ _ HP2.out)
          have HT3 := Lib.hid (ht3.mono (N' := 3 * (k + 1)) (by omega))
          have HA3 := Lib.hid ha3
          have HK3 := Lib.hid (HS2.out.at_.keep.trans hk3)
          clear ht3 hk3 ha3 d0 d1 d2 d3
          have d1 : w3.cell? ⟨p, 1, none⟩ = some (.int .i64 x1) := block_cell HP3.out
          have d2 : w3.cell? ⟨p, 2, none⟩ = some (.string ⟨x2.toArray⟩) := block_cell HP3.out
          have d3 : w3.cell? ⟨p, 3, none⟩ = some (.bool x3) := block_cell HP3.out
          go_wp2_with fail
          refine HRT.out.mono ?_
          rintro e w4 ⟨v4, rfl, ho4, hb4⟩
          have HR := Lib.hid (show RunAt W (k + 1) t v4 F3 (rtakeL r x1 x2 x3) w4 from
            ⟨⟨HT3.out.below hb4, HA3.out, ho4, Nat.le_trans (rtakeL_len _ _ _ _) (by omega), HK3.out.trans (Keep.of hb4 HK3.out.bl.size)⟩, HS2.out.up.take x1 x2 x3⟩)
          have HP4 := Lib.hid ((hb4.block p (block_lt HP3.out)).trans HP3.out)
          have HNE := Lib.hid (numk_any E w4 (HG.out.keep HR.out.at_.keep))
          rw [← HEV.out] at HNE
          clear ho4 hb4 d1 d2 d3
          go_wp2_with fail
          refine HNE.out.mono ?_
          rintro e w5 ⟨rfl, hb5⟩
          have HR5 := Lib.hid (show RunAt W (k + 1) t v4 F3 (rtakeL r x1 x2 x3) w5 ∧ w5.heap[p]? = some (.cells #[.int .i64 x0, .int .i64 x1, .string ⟨x2.toArray⟩, .bool x3] 24 (0, 0)) from ⟨HR.out.cl hb5, (hb5.block p (block_lt HP4.out)).trans HP4.out⟩)
          clear hb5
          go_wp2_with fail
          go_meet
          case rel => exact ⟨_, _, _, rfl, HR5⟩
      case rest =>
        obtain ⟨v5, F5, r5, hv5, HH5⟩ := hcut
        obtain rfl := hv5.symm
        clear HFR HTK HNU2 HS2 HP2 HS0 HP0 d0 d1 d2 d3 HG0 HNU' hEE hEF HE HEV
        have HS5 := Lib.hid HH5.out.1
        have HP5 := Lib.hid HH5.out.2
        clear HH5
        obtain ⟨A5, c5, rfl, hc5, hr5, _⟩ := HS5.out.at_.own.read
        have HR5 := Lib.hid hr5
        obtain ⟨n5, hn5⟩ : ∃ n5, n5 = r5.length := ⟨_, rfl⟩
        rw [← hn5] at hc5 HS5 ⊢
        have HN5 := Lib.hid hn5
        have hl5 := HS5.out.at_.len
        rw [← hn5] at hl5
        obtain ⟨w5, hw5⟩ : ∃ w5, w5 = wc := ⟨_, rfl⟩
        rw [← hw5] at HS5 HP5 HR5 ⊢
        clear hr5 hn5 hw5
        go_wp2_with fail
        go_loopg [13, 14, 15] n5 (fun g a b i wr => ∃ (q : Nat) (bi ba : Bool), q ≤ n5 ∧ g = n5 - q ∧ i = .int .i64 q ∧ a = .bool bi ∧ b = .bool ba ∧ Hid (bi = isL (r5.take q) x1 x2 ∧ ba = aloneL (r5.take q) x1 x2) ∧ Hid (Cl w5 wr))
        case atStart => exact ⟨0, _, _, by omega, by omega, rfl, rfl, rfl, ⟨rfl, rfl⟩, Cl.refl _⟩
        case round =>
          obtain ⟨q, bi, ba, hq, hgq, rfl, rfl, rfl, HIS, HC⟩ := hrel
          by_cases hql : q < n5
          · obtain ⟨y, hy⟩ : ∃ y, r5[q]? = some y := ⟨_, List.getElem?_eq_getElem (by rw [← HN5.out]; omega)⟩
            obtain ⟨b5, o5, eA, e1, e2, e3⟩ := held_at (HR5.out.below HC.out) hy
            cases eA
            have HST := Lib.hid (is_step HS5.out.at_.agr hy x1 x2)
            rw [← HIS.out.1, ← HIS.out.2] at HST
            obtain ⟨y1, y2, y3⟩ := y
            have hqi : (q : Int) < (n5 : Int) := by omega
            have hqw : IntKind.i64.wrap ((q : Int) + 1) = (q : Int) + 1 := IntWalk.i64_in _ (by omega)
            have d1 : wr.cell? ⟨p, 1, none⟩ = some (.int .i64 x1) := HC.out.cell (block_cell HP5.out)
            have d2 : wr.cell? ⟨p, 2, none⟩ = some (.string ⟨x2.toArray⟩) := HC.out.cell (block_cell HP5.out)
            clear hy
            by_cases h1 : y1 = x1
            · have h1b : (y1 == x1) = true := by simp [h1]
              by_cases h2 : y2 = x2
              · have h2b : (y2 == x2) = true := by simp [h2]
                have HST2 := Lib.hid (show isL (r5.take (q + 1)) x1 x2 = true ∧ aloneL (r5.take (q + 1)) x1 x2 = y3 by
                  have := HST.out
                  simpa [pT, h1, h2] using this)
                clear h1 h2
                go_wp2
                go_quiet (fail)
                have HC2 := Lib.hid (show Cl w5 (wr.drewN nq) from below_drewN HC.out nq)
                have e4 : (wr.drewN nq).cell? ⟨b5, o5 + q * 3 + 2, none⟩ = some (.bool y3) := e3
                generalize wr.drewN nq = wz at *
                clear e1 e2 e3 d1 d2
                go_wp2
                go_quiet (fail)
                have HC3 := Lib.hid (show Cl w5 (wz.drewN nq) from below_drewN HC2.out nq)
                generalize wz.drewN nq = wy at *
                clear e4
                go_wp2
                go_roundg (n5 - (q + 1))
                case measure => omega
                case rel => exact ⟨q + 1, _, _, by omega, rfl, by congr 1, rfl, rfl, ⟨HST2.out.1.symm, HST2.out.2.symm⟩, HC3⟩
              · have h2b : (y2 == x2) = false := by simpa using h2
                have HST2 := Lib.hid (show isL (r5.take (q + 1)) x1 x2 = bi ∧ aloneL (r5.take (q + 1)) x1 x2 = ba by
                  have := HST.out
                  simpa [pT, h1, h2] using this)
                clear h1 h2
                go_wp2
                go_quiet (fail)
                have HC2 := Lib.hid (show Cl w5 (wr.drewN nq) from below_drewN HC.out nq)
                generalize wr.drewN nq = wz at *
                clear e1 e2 e3 d1 d2
                go_wp2
                go_roundg (n5 - (q + 1))
                case measure => omega
                case rel => exact ⟨q + 1, _, _, by omega, rfl, by congr 1, rfl, rfl, ⟨HST2.out.1.symm, HST2.out.2.symm⟩, HC2⟩
            · have h1b : (y1 == x1) = false := by simpa using h1
              have HST2 := Lib.hid (show isL (r5.take (q + 1)) x1 x2 = bi ∧ aloneL (r5.take (q + 1)) x1 x2 = ba by
                have := HST.out
                simpa [pT, h1] using this)
              clear h1
              go_wp2
              go_quiet (fail)
              have HC2 := Lib.hid (show Cl w5 (wr.drewN nq) from below_drewN HC.out nq)
              generalize wr.drewN nq = wz at *
              clear e1 e2 e3 d1 d2
              go_wp2
              go_roundg (n5 - (q + 1))
              case measure => omega
              case rel => exact ⟨q + 1, _, _, by omega, rfl, by congr 1, rfl, rfl, ⟨HST2.out.1.symm, HST2.out.2.symm⟩, HC2⟩
          · have hqe : q = n5 := by omega
            subst hqe
            have hqi : ¬ (q : Int) < (q : Int) := by omega
            have HIS2 := Lib.hid (show bi = isL r5 x1 x2 ∧ ba = aloneL r5 x1 x2 by
              have := HIS.out
              rwa [List.take_of_length_le (by rw [← HN5.out]; omega)] at this)
            have HS6 := Lib.hid (HS5.out.cl HC.out)
            have HP6 := Lib.hid ((Below.block HC.out p (block_lt HP5.out)).trans HP5.out)
            have HR6 := Lib.hid (HR5.out.below HC.out)
            have HHD := Lib.hid (show Calls Tryd.prog 18 #[.pointer (some ⟨t, 0, none⟩), .int .i64 x1, .string ⟨x2.toArray⟩] wr fun e w' => e = .returned (.tuple #[.bool bi, .bool ba]) ∧ Below wr.heap.size wr w' from by
              obtain ⟨i1, i2⟩ := is_eq HS6.out.at_.agr x1 x2
              rw [HIS2.out.1, HIS2.out.2, ← i1, ← i2]
              exact holds_any x1 x2 wr HS6.out.at_.tab hx1 hx2)
            have d1 : wr.cell? ⟨p, 1, none⟩ = some (.int .i64 x1) := block_cell HP6.out
            have d2 : wr.cell? ⟨p, 2, none⟩ = some (.string ⟨x2.toArray⟩) := block_cell HP6.out
            clear hq HIS HIS2 HS5 HP5 HR5 HC
            go_wp2_with fail
            refine HHD.out.mono ?_
            rintro e w7 ⟨rfl, hb7⟩
            have HS7 := Lib.hid (HS6.out.cl hb7)
            have HP7 := Lib.hid ((hb7.block p (block_lt HP6.out)).trans HP6.out)
            have HR7 := Lib.hid (HR6.out.below hb7)
            clear hb7 d1 d2 HS6 HP6 HR6 HHD
            have d2 : w7.drew.cell? ⟨p, 2, none⟩ = some (.string ⟨x2.toArray⟩) := block_cell HP7.out
            have hii : (bi != bi) = false := by simp
            have haa : (ba != ba) = false := by simp
            obtain ⟨HL, hHL⟩ : ∃ HL, HL = holdersL r5 x2 false := ⟨_, rfl⟩
            obtain ⟨nH, hnH⟩ : ∃ nH, nH = HL.length := ⟨_, rfl⟩
            obtain ⟨HA, hHA⟩ : ∃ HA, HA = holdersL r5 [] true := ⟨_, rfl⟩
            obtain ⟨nA, hnA⟩ : ∃ nA, nA = HA.length := ⟨_, rfl⟩
            have HH1 := Lib.hid (show ∀ w', Cl w7 w' → Calls Tryd.prog 17 #[.pointer (some ⟨t, 0, none⟩), .string ⟨x2.toArray⟩] w' fun e w'' => ∃ A c, e = .returned (.slice A nH c) ∧ RdA w'' A (zs HL) ∧ Below w'.heap.size w' w'' from fun w' h =>
              (holders_any x2 w' (HS7.out.cl h).at_.tab hx2 (by omega)).mono fun e w'' ⟨v, H, he, ho, hi, hb⟩ => by
                obtain rfl : H = HL := by rw [hHL]; exact holders_eq HS7.out.at_.agr hi
                obtain ⟨A, c, e1, _, e2⟩ := own_rdA ho
                exact ⟨A, c, by rw [he, e1, hnH], e2, hb⟩)
            have HH2 := Lib.hid (show ∀ w', Cl w7 w' → Calls Tryd.prog 22 #[.slice A5 q c5, .string ⟨x2.toArray⟩, .bool false] w' fun e w'' => ∃ A c, e = .returned (.slice A nH c) ∧ RdA w'' A (zs HL) ∧ Below w'.heap.size w' w'' from fun w' h => by
              have hown := (HS7.out.cl h).at_.own
              refine (rholders_any r5 _ x2 false w' hown (by have := HN5.out; omega)).mono fun e w'' ⟨v, he, ho, hb⟩ => ?_
              obtain ⟨A, c, e1, _, e2⟩ := own_rdA ho
              exact ⟨A, c, by rw [he, e1, hnH, hHL], by rw [hHL]; exact e2, hb⟩)
            have HH3 := Lib.hid (show ∀ w', Cl w7 w' → Calls Tryd.prog 22 #[.slice A5 q c5, .string ⟨([] : List UInt8).toArray⟩, .bool true] w' fun e w'' => ∃ A c, e = .returned (.slice A nA c) ∧ Below w'.heap.size w' w'' from fun w' h => by
              have hown := (HS7.out.cl h).at_.own
              refine (rholders_any r5 _ [] true w' hown (by have := HN5.out; omega)).mono fun e w'' ⟨v, he, ho, hb⟩ => ?_
              obtain ⟨A, c, e1, _, e2⟩ := own_rdA ho
              exact ⟨A, c, by rw [he, e1, hnA, hHA], hb⟩)
            have HH4 := Lib.hid (show ∀ w', Cl w7 w' → Calls Tryd.prog 19 #[.pointer (some ⟨t, 0, none⟩)] w' fun e w'' => e = .returned (.int .i64 nA) ∧ Below w'.heap.size w' w'' from fun w' h =>
              (len_both w' (HS7.out.cl h).at_.tab HS7.out.at_.agr).mono fun e w'' ⟨he, hb⟩ => ⟨by rw [he, hnA, hHA], hb⟩)
            have HH5 := Lib.hid (show ∀ w' A B c d, RdA w' A (zs HL) → RdA w' B (zs HL) → Calls Tryd.prog 21 #[.slice A nH c, .slice B nH d] w' fun e w'' => e = .returned (.bool true) ∧ Below w'.heap.size w' w'' from fun w' A B c d h1 h2 => by
              have hlen : HL.length ≤ 1000 := by have := holdersL_len r5 x2 false; rw [← hHL] at this; have := HN5.out; omega
              have := ints_any A B c d HL HL w' h1 h2 (by omega)
              rw [← hnH] at this
              exact this.mono fun e w'' ⟨he, hb⟩ => ⟨by rw [he, decide_eq_true rfl], hb⟩)
            have hnn : ((nA : Int) != (nA : Int)) = false := by simp
            clear hHL hnH hHA hnA
            have hz : Cl w7 w7.drew := (Cl.refl w7).drew
            go_upto_region 29 with fail
            go_cut [194] from 59 to 234 (fun z w' => z = .bool false ∧ Hid (Cl w7 w'))
            case first =>
              go_region_held3 (fun w' => w'.cell? ⟨p, 2, none⟩ = some (.string ⟨x2.toArray⟩)) (first | exact d2)
                (first
                | (go_at_call 17; refine (HH1.out _ hz).mono ?_; rintro e wa ⟨Aa, ca, rfl, hra, hba⟩; have hz := hz.next hba; have d2 : wa.cell? ⟨p, 2, none⟩ = some (.string ⟨x2.toArray⟩) := (World.cell?_of_block (hba.block p (cell_lt d2))).trans d2; try have hrb := hrb.below hba)
                | (go_at_call 22; ((with_reducible refine (HH2.out _ hz).mono ?_); rintro e wb ⟨Ab, cb, rfl, hrb, hbb⟩; have hz := hz.next hbb; have d2 : wb.cell? ⟨p, 2, none⟩ = some (.string ⟨x2.toArray⟩) := (World.cell?_of_block (hbb.block p (cell_lt d2))).trans d2; try have hra := hra.below hbb))
                | (go_at_call 21; refine (HH5.out _ Aa Ab ca cb hra hrb).mono ?_; rintro e wi ⟨rfl, hbi⟩; have hz := hz.next hbi; have d2 : wi.cell? ⟨p, 2, none⟩ = some (.string ⟨x2.toArray⟩) := (World.cell?_of_block (hbi.block p (cell_lt d2))).trans d2)
                | (go_at_call 19; refine (HH4.out _ hz).mono ?_; rintro e wl ⟨rfl, hbl⟩; have hz := hz.next hbl; have d2 : wl.cell? ⟨p, 2, none⟩ = some (.string ⟨x2.toArray⟩) := (World.cell?_of_block (hbl.block p (cell_lt d2))).trans d2)
                | (go_at_call 22; refine (HH3.out _ hz).mono ?_; rintro e wc3 ⟨Ac, cc, rfl, hbc⟩; have hz := hz.next hbc; have d2 : wc3.cell? ⟨p, 2, none⟩ = some (.string ⟨x2.toArray⟩) := (World.cell?_of_block (hbc.block p (cell_lt d2))).trans d2))
              all_goals
                go_wp2_with fail
                go_meet
                case rel => exact ⟨rfl, hz⟩
            case rest =>
              obtain ⟨rfl, HC8⟩ := hcut
              clear HH1 HH2 HH3 HH4 HH5 hz d2 hnn
              have HS8 := Lib.hid (HS7.out.cl HC8.out)
              have HP8 := Lib.hid ((Below.block HC8.out p (block_lt HP7.out)).trans HP7.out)
              have HR8 := Lib.hid (HR7.out.below HC8.out)
              obtain ⟨w8, hw8⟩ : ∃ w8, w8 = wc := ⟨_, rfl⟩
              rw [← hw8] at HS8 HP8 HR8 ⊢
              clear HS7 HP7 HR7 HC8 hw8
              have HNM := Lib.hid (names_any x1 w8 HS8.out.at_.tab hx1 (by omega))
              have d1 : w8.cell? ⟨p, 1, none⟩ = some (.int .i64 x1) := block_cell HP8.out
              go_wp2_with fail
              refine HNM.out.mono ?_
              rintro e w9 ⟨v9, L, rfl, ho9, hL, hb9⟩
              obtain rfl : L = namesL r5 x1 := names_eq HS8.out.at_.agr HS8.out.up hL
              obtain ⟨A9, c9, rfl, hc9, hr9⟩ := own_rdA ho9
              have hnL : (namesL r5 x1).length ≤ 1000 := by
                have h1 : (namesL r5 x1).length ≤ r5.length := by unfold namesL; rw [List.length_map]; exact List.length_filter_le _ _
                have := HN5.out; omega
              obtain ⟨NL, hNL⟩ : ∃ NL, NL = namesL r5 x1 := ⟨_, rfl⟩
              rw [← hNL] at hnL hr9 hc9 ⊢
              obtain ⟨nN, hnN⟩ : ∃ nN, nN = NL.length := ⟨_, rfl⟩
              rw [← hnN] at hnL hc9 ⊢
              have HNL := Lib.hid hNL
              have HNN := Lib.hid hnN
              have HR9 := Lib.hid hr9
              have HS9 := Lib.hid (HS8.out.cl hb9)
              have HP9 := Lib.hid ((hb9.block p (block_lt HP8.out)).trans HP8.out)
              have HQ9 := Lib.hid (HR8.out.below hb9)
              clear ho9 hL hb9 hr9 hNL hnN d1 HS8 HP8 HR8 HNM
              go_wp2_with fail
              go_loopg [19, 20] q (fun g a i wr => ∃ (j nn : Nat), j ≤ q ∧ g = q - j ∧ i = .int .i64 j ∧ a = .int .i64 nn ∧ Hid (nn = (namesL (r5.take j) x1).length) ∧ Hid (Cl w9 wr))
              case atStart => exact ⟨0, 0, by omega, by omega, rfl, rfl, rfl, Cl.refl _⟩
              case round =>
                obtain ⟨j, nn, hj, hgj, rfl, rfl, HNJ, HC⟩ := hrel
                by_cases hjl : j < q
                · obtain ⟨y, hy⟩ : ∃ y, r5[j]? = some y := ⟨_, List.getElem?_eq_getElem (by rw [← HN5.out]; omega)⟩
                  obtain ⟨b5, o5, eA, e1, e2, e3⟩ := held_at (HQ9.out.below HC.out) hy
                  cases eA
                  have HST := Lib.hid (names_step (who := x1) hy)
                  obtain ⟨y1, y2, y3⟩ := y
                  have hji : (j : Int) < (q : Int) := by omega
                  have hjw : IntKind.i64.wrap ((j : Int) + 1) = (j : Int) + 1 := IntWalk.i64_in _ (by omega)
                  have d1 : wr.cell? ⟨p, 1, none⟩ = some (.int .i64 x1) := HC.out.cell (block_cell HP9.out)
                  clear hy
                  by_cases h1 : y1 = x1
                  · have h1b : (y1 == x1) = true := by simp [h1]
                    have hat := HST.out.2 h1
                    rw [← HNJ.out, ← HNL.out] at hat
                    have hnlt : nn < nN := by rw [HNN.out]; exact (List.getElem?_eq_some_iff.1 hat).1
                    obtain ⟨b9, o9, eA9, f1⟩ := (HR9.out.below HC.out) nn _ (strs_at hat)
                    cases eA9
                    have hge : ¬ (nN : Int) ≤ (nn : Int) := by omega
                    have hnl2 : (nn : Int) < (nN : Int) := by omega
                    have hnw : IntKind.i64.wrap ((nn : Int) + 1) = (nn : Int) + 1 := IntWalk.i64_in _ (by omega)
                    have HNX := Lib.hid (show nn + 1 = (namesL (r5.take (j + 1)) x1).length by rw [HST.out.1, if_pos h1, List.length_append, ← HNJ.out]; rfl)
                    clear h1 hat
                    go_wp2
                    go_quiet (fail)
                    have HC2 := Lib.hid (show Cl w9 (wr.drewN nq) from below_drewN HC.out nq)
                    have e4 : (wr.drewN nq).cell? ⟨b5, o5 + j * 3 + 1, none⟩ = some (.string ⟨y2.toArray⟩) := e2
                    have f4 : (wr.drewN nq).cell? ⟨b9, o9 + nn, none⟩ = some (.string ⟨y2.toArray⟩) := f1
                    generalize wr.drewN nq = wz at *
                    clear e1 e2 e3 d1 f1
                    go_wp2
                    go_quiet (fail)
                    have HC3 := Lib.hid (show Cl w9 (wz.drewN nq) from below_drewN HC2.out nq)
                    generalize wz.drewN nq = wy at *
                    clear e4 f4
                    go_wp2
                    go_roundg (q - (j + 1))
                    case measure => omega
                    case rel => exact ⟨j + 1, nn + 1, by omega, rfl, by congr 1, by congr 1, HNX, HC3⟩
                  · have h1b : (y1 == x1) = false := by simpa using h1
                    have HNX := Lib.hid (show nn = (namesL (r5.take (j + 1)) x1).length by rw [HST.out.1, if_neg h1]; exact HNJ.out)
                    clear h1
                    go_wp2
                    go_quiet (fail)
                    have HC2 := Lib.hid (show Cl w9 (wr.drewN nq) from below_drewN HC.out nq)
                    generalize wr.drewN nq = wz at *
                    clear e1 e2 e3 d1
                    go_wp2
                    go_roundg (q - (j + 1))
                    case measure => omega
                    case rel => exact ⟨j + 1, nn, by omega, rfl, by congr 1, rfl, HNX, HC2⟩
                · have hje : j = q := by omega
                  subst hje
                  have hji : ¬ (j : Int) < (j : Int) := by omega
                  obtain rfl : nn = nN := by
                    rw [HNJ.out, HNN.out, HNL.out, List.take_of_length_le (by rw [← HN5.out]; omega)]
                  have hne : ((nn : Int) != (nn : Int)) = false := by simp
                  have HSZ := Lib.hid (HS9.out.cl HC.out)
                  clear hj HNJ HC HS9 HP9 HQ9
                  go_wp2
                  go_roundg (60 - (k + 1))
                  case measure => omega
                  case rel => exact ⟨k + 1, _, by omega, by omega, rfl, by congr 1, rfl, ⟨_, _, HSZ.out⟩⟩
    · have hor : (m : Int) ≤ (k : Int) ∨ ((k : Int) < (m : Int) ∧ (60 : Int) ≤ (k : Int)) := by omega
      clear hgo
      rcases hor with h1 | ⟨h1, h2⟩
      all_goals
        first
        | (have h1' : ¬ (k : Int) < (m : Int) := by omega
           clear h1)
        | (have h2' : ¬ (k : Int) < 60 := by omega
           clear h2)
        go_wp2_with fail
        refine (sure_any wr (HG.out.keep HST.out.at_.keep)).mono ?_
        rintro e w8 ⟨rfl, hb8⟩
        have HB8 := Lib.hid (HST.out.at_.keep.bl.trans (hb8.mono HST.out.at_.keep.bl.size))
        clear hb8
        go_wp2_with fail
        go_ret
        exact ⟨rfl, HB8.out⟩
end Go.Proofs.YtnnadhfpkplncaaDoor
