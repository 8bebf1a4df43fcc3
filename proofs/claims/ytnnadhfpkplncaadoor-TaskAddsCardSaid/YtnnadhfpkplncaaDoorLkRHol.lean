/- Who holds a name, the reference's answer. Condition: the list reads. -/
import Derived.Test.YtnnadhfpkplncaaDoorLkNil
import Derived.Maps.AppendAt
import Derived.Deep.RegionLaw
namespace Go.Proofs.YtnnadhfpkplncaaDoor
open Go.RowKit Go.Maps

/-- append of what may be none, onto a row of one's own. -/
theorem run_append_src {P : Program} (w : World) (base : Nat) (t ty e : TypeId) (i : TypeInfo) (z : Value) (size bytes : Nat) (ht : P.underlying t = some (.slice e)) (hi : P.info? e = some i) (hz : i.zero = some z)
    (hsize : i.size = size) (hby : i.bytes = bytes) (hzs : z.cells.size = size) (hsz : 0 < size)
    (v : Value) (n : Nat) (xs : List Value) (hown : w.ownsRow base e size v n xs)
    (A : Option Addr) (m c : Nat) (news : List Value) (hl : news.length = m * size) (hnews : RdA w A news) (h1 : ∀ u ∈ news, u.oneCell' = true)
    (h63 : n + m ≤ maxLen) (hbytes : (n + m) * bytes ≤ 140737488355328) (hbase : base ≤ w.heap.size) :
    ∃ v' w', (Builtin.append_ #[t, t] ty #[v, .slice A m c]).run P w = .ok v' w' ∧ w'.ownsRow base e size v' (n + m) (xs ++ news) ∧ w.grownBy w' v.ownBlock ∧ (v'.ownBlock = v.ownBlock ∨ v'.ownBlock = some w.heap.size) := by
  cases A with
  | none =>
    have hm : m = 0 := by
      rcases Nat.eq_zero_or_pos m with h | h
      · exact h
      · have hlt : 0 < news.length := by rw [hl]; exact Nat.mul_pos h hsz
        obtain ⟨b, o, e, _⟩ := hnews 0 news[0] (List.getElem?_eq_getElem hlt)
        cases e
    subst hm
    have hn : news = [] := List.eq_nil_of_length_eq_zero (by simpa using hl)
    subst hn
    refine ⟨v, w, ?_, by simpa using hown, ⟨rfl, rfl, rfl, Nat.le_refl _, fun _ _ _ => rfl⟩, Or.inl rfl⟩
    rcases hown.2 with ⟨rfl, rfl⟩ | ⟨g, cap, cur, rfl, hbg, hg, hnc, hcm, hcs, htake⟩
    · simp [Builtin.append_, run_underlying ht, sizeOf, typeInfo, hi, Builtin.lenOf, Builtin.firstCells]
    · simp [Builtin.append_, run_underlying ht, sizeOf, typeInfo, hi, Builtin.lenOf, Builtin.firstCells, hnc, storeCells]
  | some a =>
    obtain ⟨v', w', hr, h2, h3, _, h5⟩ := run_append_own_at (P := P) w base t ty e i z size bytes ht hi hz hsize hby hzs hsz v n xs hown a m c news hl (fun j u hj => by
      obtain ⟨b, o, e, hc⟩ := hnews j u hj
      cases e
      rw [WideShapes.add_plain]; exact hc) h1 h63 hbytes hbase
    exact ⟨v', w', hr, h2, h3, h5⟩
/-- An append whose run is known, as one step of a region. -/
theorem step_append_run {P : Program} {ops : Array Oper} {o : Oper} {a : Act} {w : World} {K : Act → World → Prop} {Q : Exit → Act → World → Prop} {E : Prop}
    (hg : o.guard = none) (s x : Operand) (tys : Array TypeId) (hop : o.op = Op.call { callee := Callee.builtin Builtin.append, args := #[s, x], argTypes := tys })
    (vs vx v : Value) (w' : World) (hs : a.eval s = vs) (hx : a.eval x = vx) (hrun : (Builtin.append_ tys o.type #[vs, vx]).run P w = .ok v w') (hK : K (a.put o.dst v) w') :
    if Region.wanted o (yielded ops a.tmps) = true then Oper.wp P o a w K Q else E := by
  have hw : Region.wanted o (yielded ops a.tmps) = true := by simp [Region.wanted, hg]
  rw [if_pos hw]
  unfold Oper.wp
  simp [execOp, hop, resolve, invoke, builtin, hs, hx, hrun, Result.andThen]
  exact hK
/-- The same, as one step of a region. -/
theorem step_append_src {P : Program} {ops : Array Oper} {o : Oper} {a : Act} {w : World} {K : Act → World → Prop} {Q : Exit → Act → World → Prop} {E : Prop}
    (hgd : o.guard = none) (s x : Operand) (t : TypeId) (hop : o.op = Op.call { callee := Callee.builtin Builtin.append, args := #[s, x], argTypes := #[t, t] })
    (base : Nat) (e : TypeId) (i : TypeInfo) (z : Value) (size bytes : Nat) (ht : P.underlying t = some (.slice e)) (hi : P.info? e = some i) (hz : i.zero = some z)
    (hsize : i.size = size) (hby : i.bytes = bytes) (hzs : z.cells.size = size) (hsz : 0 < size)
    (v : Value) (n : Nat) (xs : List Value) (hs : a.eval s = v) (hown : w.ownsRow base e size v n xs)
    (A : Option Addr) (m c : Nat) (news : List Value) (hx : a.eval x = .slice A m c) (hl : news.length = m * size) (hnews : RdA w A news) (h1 : ∀ u ∈ news, u.oneCell' = true)
    (h63 : n + m ≤ maxLen) (hbytes : (n + m) * bytes ≤ 140737488355328) (hbase : base ≤ w.heap.size)
    (h : ∀ v' w', w'.ownsRow base e size v' (n + m) (xs ++ news) → w.grownBy w' v.ownBlock → (v'.ownBlock = v.ownBlock ∨ v'.ownBlock = some w.heap.size) → K (a.put o.dst v') w') :
    if Region.wanted o (yielded ops a.tmps) = true then Oper.wp P o a w K Q else E := by
  obtain ⟨v', w', hr, h2, h3, h5⟩ := run_append_src (P := P) w base t o.type e i z size bytes ht hi hz hsize hby hzs hsz v n xs hown A m c news hl hnews h1 h63 hbytes hbase
  exact step_append_run hgd s x #[t, t] hop _ _ _ _ hs hx hr (h _ _ h2 h3 h5)
theorem RdA.grown {w w' : World} {A : Option Addr} {vs : List Value} {row : Option Nat} (h : RdA w A vs) (g : w.grownBy w' row) (hne : ∀ q, row = some q → ∀ b, A = some b → b.block ≠ q) : RdA w' A vs := fun i u hi => by
  obtain ⟨b, o, e, hc⟩ := h i u hi
  refine ⟨b, o, e, ?_⟩
  rw [← hc]
  exact World.cell?_of_block (g.block b (cell_lt hc) fun c => hne _ c.symm _ e rfl)
theorem RdA.drop {w : World} {b o p : Nat} {vs : List Value} (h : RdA w (some ⟨b, o, none⟩) vs) : RdA w (some ⟨b, o + p, none⟩) (vs.drop p) := fun i u hi => by
  rw [List.getElem?_drop] at hi
  obtain ⟨b2, o2, e, hc⟩ := h _ _ hi
  cases e
  exact ⟨b, o + p, rfl, by rw [Nat.add_assoc]; exact hc⟩
theorem RdA.take {w : World} {A : Option Addr} {p : Nat} {vs : List Value} (h : RdA w A vs) : RdA w A (vs.take p) := fun i u hi => by
  rw [List.getElem?_take] at hi
  split at hi
  · exact h i u hi
  · cases hi
theorem RdA.one (w : World) (y : Value) (T : TypeId) : RdA (w.alloc (.cells #[y] T)) (some ⟨w.heap.size, 0, none⟩) [y] := fun j u hj => by
  refine ⟨_, _, rfl, ?_⟩
  rw [Nat.zero_add, block_cell (alloc_new _ _)]
  simpa using hj
theorem RdA.drew {w : World} {A : Option Addr} {vs : List Value} (h : RdA w A vs) : RdA w.drew A vs := h
theorem RdA.alloc {w : World} {A : Option Addr} {vs : List Value} (h : RdA w A vs) (o : Obj) : RdA (w.alloc o) A vs := h.below ((Below.refl _ _).alloc (Nat.le_refl _) _)
theorem insZ_at {x : Int} : ∀ {l : List Int} {p : Nat}, p ≤ l.length → (∀ y ∈ l.take p, y < x) → (∀ y, l[p]? = some y → ¬ y < x) → insZ x l = if l[p]? = some x then l else l.take p ++ ([x] ++ l.drop p)
  | [], p, hp, _, _ => by simp [insZ]
  | z :: l, 0, _, _, h3 => by
    have := h3 z rfl
    unfold insZ
    rw [if_neg this]
    simp only [List.getElem?_cons_zero, Option.some.injEq, List.take_zero, List.drop_zero, List.nil_append]
    split <;> rfl
  | z :: l, p + 1, hp, h2, h3 => by
    have hz : z < x := h2 z (by simp)
    unfold insZ
    rw [if_pos hz, insZ_at (l := l) (p := p) (by simpa using hp) (fun y hy => h2 y (by simp [hy])) (fun y hy => h3 y (by simpa using hy))]
    simp only [List.getElem?_cons_succ, List.take_succ_cons, List.drop_succ_cons, List.cons_append]
    split <;> rfl
theorem zs_take (l : List Int) (p : Nat) : zs (l.take p) = (zs l).take p := List.map_take
theorem zs_drop (l : List Int) (p : Nat) : zs (l.drop p) = (zs l).drop p := List.map_drop
theorem zs_one (l : List Int) : ∀ u ∈ zs l, u.oneCell' = true := fun u hu => by
  obtain ⟨y, _, rfl⟩ := List.mem_map.1 hu
  rfl
def HolRel (r : List Held) (nm : List UInt8) (any : Bool) (w : World) (k : Nat) (v1 : Value) (wr : World) : Prop := ∃ nh, nh ≤ k ∧ ∃ H, H = holdersL (r.take k) nm any ∧ nh = H.length ∧ wr.ownsRow w.heap.size 3 1 v1 nh (zs H)
theorem fresh_ne {va : Value} {s q g : Nat} (h : va.ownBlock = (Value.slice none 0 0).ownBlock ∨ va.ownBlock = some s) (hs : g < s) (e : va.ownBlock = some q) : g ≠ q := by
  rcases h with h | h
  · rw [h] at e; cases e
  · rw [h] at e; cases e; omega
-- WALK
set_option maxRecDepth 100000 in
set_option maxHeartbeats 3200000 in
theorem rholders_any (r : List Held) (v : Value) (nm : List UInt8) (any : Bool) (w : World) (h : OwnH w v r) (hr : r.length ≤ 1000) :
    Calls Tryd.prog 22 #[v, .string ⟨nm.toArray⟩, .bool any] w fun e w' => ∃ v', e = .returned v' ∧ w'.ownsRow w.heap.size 3 1 v' (holdersL r nm any).length (zs (holdersL r nm any)) ∧ Below w.heap.size w w' := by
  obtain ⟨A, c, rfl, hc, hrd, _⟩ := h.read
  obtain ⟨n, hn⟩ : ∃ n, n = r.length := ⟨_, rfl⟩
  rw [← hn] at hc hr ⊢
  have HR := Lib.hid hrd
  have HN := Lib.hid hn
  obtain ⟨iI, hiI, hz0, hz1, hz2⟩ := info_parts infoTINT
  clear hrd h hn
  go_enter Tryd.func22, Tryd.ntmps22
  go_wp2
  go_loopw [7, 8, 9, 10] (fun o i _ _ wr => ∃ (k : Nat) (v1 : Value), k ≤ n ∧ i = .int .i64 k ∧ o = v1 ∧ Hid (HolRel r nm any w k v1 wr) ∧ Hid (Below w.heap.size w wr)) (fun _ i _ _ _ => n - (intOf i).toNat)
  case atStart => exact ⟨0, _, by omega, rfl, rfl, ⟨0, Nat.le_refl _, [], rfl, rfl, World.ownsRow_nil _ _ _ _⟩, Below.refl _ _⟩
  case round =>
    obtain ⟨k, v1, hk, rfl, hv, HH, HB⟩ := hrel
    obtain rfl := hv.symm
    by_cases hgo : k < n
    · obtain ⟨nh, hnk, H, hH, hnh, hrow⟩ := HH.out
      obtain ⟨x, hx⟩ : ∃ x, r[k]? = some x := ⟨_, List.getElem?_eq_getElem (by rw [← HN.out]; omega)⟩
      obtain ⟨b, o, rfl, c1, c2, c3⟩ := held_at (HR.out.below HB.out) hx
      have hki : (k : Int) < (n : Int) := by omega
      have hw1 : IntKind.i64.wrap ((k : Int) + 1) = (k : Int) + 1 := IntWalk.i64_in _ (by omega)
      have HTK := Lib.hid (show r.take (k + 1) = r.take k ++ [x] by
        obtain ⟨hlt, rfl⟩ := List.getElem?_eq_some_iff.1 hx
        exact List.take_succ_eq_append_getElem hlt)
      obtain ⟨x1, x2, x3⟩ := x
      have HROW := Lib.hid hrow
      have HNH := Lib.hid hnh
      have HHH := Lib.hid hH
      clear hx hnh hH
      by_cases hsk : any = false ∧ (x2 == nm) = false
      · obtain ⟨rfl, hs2⟩ := hsk
        have hs3 : (x2 != nm) = true := by simp [bne, hs2]
        have HE := Lib.hid (show HolRel r nm false w (k + 1) v1 wr from ⟨nh, by omega, H, by rw [HTK.out, holdersL_snoc]; simp only [Bool.false_or]; rw [if_neg (by rw [hs2]; decide)]; exact HHH.out, HNH.out, HROW.out⟩)
        clear hrow
        go_wp2
        exact ⟨⟨k + 1, v1, by omega, by congr 1, rfl, HE, HB⟩, by simp [intOf]; omega⟩
      · have hsel : any = true ∨ (any = false ∧ (x2 == nm) = true) := by
          cases any with
          | true => exact Or.inl rfl
          | false => exact Or.inr ⟨rfl, by cases he : (x2 == nm) with | true => rfl | false => exact absurd ⟨rfl, he⟩ hsk⟩
        have HINS := Lib.hid (show holdersL (r.take (k + 1)) nm any = insZ x1 H by
          rw [HTK.out, holdersL_snoc, ← HHH.out, if_pos]
          rcases hsel with rfl | ⟨rfl, e⟩
          · rfl
          · simp [e])
        clear hsk
        have hsz0 := HB.out.size
        have HSZ := Lib.hid hsz0
        clear hsz0
        rcases hrow.2 with ⟨rfl, hn0⟩ | ⟨g, c7, cur, rfl, hg, hh, hcap, hmax, _, _⟩
        · have hH0 : H = [] := List.eq_nil_of_length_eq_zero (by rw [← HNH.out]; exact hn0)
          subst hn0
          have HH0 := Lib.hid hH0
          clear hH0 hrow
          rcases hsel with rfl | ⟨rfl, hs2⟩
          all_goals
            try have hs3 : (x2 != nm) = false := by simp [bne, hs2]
            go_wp2
            go_loopw [9] (fun i w2 => i = .int .i64 0 ∧ w2 = wr) (fun _ _ => 0)
            case atStart => exact ⟨rfl, rfl⟩
            case round =>
              obtain ⟨rfl, rfl⟩ := hrel
              have h00 : ¬ (0 : Int) < (0 : Int) := by omega
              go_wp2
              go_quiet (fail)
              have HB5 := Lib.hid (below_drewN HB.out nq)
              have d5 : (World.drewN wr nq).cell? ⟨b, o + k * 3, none⟩ = some (.int .i64 x1) := c1
              generalize World.drewN wr nq = w5 at *
              go_wp2
              go_quiet (fail)
              have HBZ := Lib.hid (below_drewN HB5.out nq)
              have dZ : (World.drewN w5 nq).cell? ⟨b, o + k * 3, none⟩ = some (.int .i64 x1) := d5
              have HSZ := Lib.hid HBZ.out.size
              have HSPL := Lib.hid (show insZ x1 H = H.take 0 ++ ([x1] ++ H.drop 0) by rw [HH0.out]; rfl)
              have HLEN := Lib.hid (show 0 + 1 = (insZ x1 H).length by rw [HH0.out]; rfl)
              have HGZ := Lib.hid trivial
              generalize World.drewN w5 nq = wz at *
              clear d5 HB5
              go_wp2
              have HRT := Lib.hid (show RdA wz none (zs (H.take 0)) from fun i u hi => by simp [zs] at hi)
              have HRD := Lib.hid (show RdA wz none (zs (H.drop 0)) from fun i u hi => by rw [HH0.out] at hi; simp [zs] at hi)
              have hlim : 0 ≤ 1000 := by omega
              have HT1 := Lib.hid (show (zs (H.take 0)).length = 0 * 1 by unfold zs; rw [List.length_map, List.length_take]; have := HNH.out; omega)
              have HD1 := Lib.hid (show (zs (H.drop 0)).length = (0 - 0) * 1 by unfold zs; rw [List.length_map, List.length_drop]; have := HNH.out; omega)
              have hcz : (wz.drew).cell? ⟨b, o + k * 3, none⟩ = some (.int .i64 x1) := dZ
              have hcz2 := (World.cell?_of_block (Below.heap_alloc wz.drew (.cells #[.int .i64 x1] 3) _ (cell_lt hcz))).trans hcz
              go_region_law (first
                | (refine step_append_src rfl _ _ 37 rfl w.heap.size 3 iI (.int .i64 0) 1 8 Tryd.underlying37 hiI hz0 hz1 hz2 rfl (by decide) (.slice none 0 0) 0 [] (by go_simp) (World.ownsRow_nil _ _ _ _) (none) 0 (0) (zs (H.take 0)) (by go_simp) HT1.out (by first | exact HRT.out.drew | exact HRT.out.drew.alloc _) (zs_one _) (by unfold maxLen; omega) (by omega) (by first | (have := HSZ.out; simp; omega) | (have := HSZ.out; have := ga.size; simp at this ⊢; omega) | (have := HSZ.out; have := ga.size; simp at this; omega) | (have h1 := HSZ.out; have h2 := ga.size; have h3 := gb.size; simp at h2 h3; omega)) ?_
                   intro va wa owa ga ata
                   try have hca := ga.cell hcz (fun e => by simp [Value.ownBlock] at e))
                | (refine step_append_src rfl _ _ 37 rfl w.heap.size 3 iI (.int .i64 0) 1 8 Tryd.underlying37 hiI hz0 hz1 hz2 rfl (by decide) va _ _ (by go_simp) (owa.alloc _) (some ⟨wa.heap.size, 0, none⟩) 1 1 [.int .i64 x1] (by go_simp) rfl (RdA.one _ _ _) (fun u hu => by rw [List.mem_singleton.1 hu]; rfl) (by unfold maxLen; omega) (by omega) (by first | (have := HSZ.out; simp; omega) | (have := HSZ.out; have := ga.size; simp at this ⊢; omega) | (have := HSZ.out; have := ga.size; simp at this; omega) | (have h1 := HSZ.out; have h2 := ga.size; have h3 := gb.size; simp at h2 h3; omega)) ?_
                   intro vb wb owb gb atb)
                | (refine step_append_src rfl _ _ 37 rfl w.heap.size 3 iI (.int .i64 0) 1 8 Tryd.underlying37 hiI hz0 hz1 hz2 rfl (by decide) va _ _ (by go_simp) owa (some ⟨wz.heap.size, 0, none⟩) 1 1 [.int .i64 x1] (by go_simp) rfl ((RdA.one wz (.int .i64 x1) 3).drew.grown ga (fun q e => by simp [Value.ownBlock] at e)) (fun u hu => by rw [List.mem_singleton.1 hu]; rfl) (by unfold maxLen; omega) (by omega) (by first | (have := HSZ.out; simp; omega) | (have := HSZ.out; have := ga.size; simp at this ⊢; omega) | (have := HSZ.out; have := ga.size; simp at this; omega) | (have h1 := HSZ.out; have h2 := ga.size; have h3 := gb.size; simp at h2 h3; omega)) ?_
                   intro vb wb owb gb atb)
                | (refine step_append_src rfl _ _ 37 rfl w.heap.size 3 iI (.int .i64 0) 1 8 Tryd.underlying37 hiI hz0 hz1 hz2 rfl (by decide) vb _ _ (by go_simp) owb (none) (0 - 0) (0) (zs (H.drop 0)) (by go_simp) HD1.out (by first | exact ((HRD.out.drew.grown ga (fun q e => by simp [Value.ownBlock] at e)).alloc _).grown gb (fun q' e b' eb => by first | (cases eb; done) | (cases eb; exact fresh_ne ata (by have := HGZ.out; simp; omega) e)) | exact ((HRD.out.alloc _).drew.grown ga (fun q e => by simp [Value.ownBlock] at e)).grown gb (fun q' e b' eb => by first | (cases eb; done) | (cases eb; exact fresh_ne ata (by have := HGZ.out; simp; omega) e))) (zs_one _) (by unfold maxLen; omega) (by omega) (by first | (have := HSZ.out; simp; omega) | (have := HSZ.out; have := ga.size; simp at this ⊢; omega) | (have := HSZ.out; have := ga.size; simp at this; omega) | (have h1 := HSZ.out; have h2 := ga.size; have h3 := gb.size; simp at h2 h3; omega)) ?_
                   intro vc wc owc gc atc))
              all_goals
                have hba : Below w.heap.size w wa := by first | exact (HBZ.out.drew).grown ga (by first | (have := HSZ.out; simp; omega)) (fun q e => by simp [Value.ownBlock] at e) | exact ((HBZ.out.alloc (by have := HSZ.out; simp; omega) _).drew).grown ga (by have := HSZ.out; simp; omega) (fun q e => by simp [Value.ownBlock] at e)
                have hbb : Below w.heap.size w wb := by first | exact hba.grown gb hba.size (fun q e => own_ge owa e) | exact (hba.alloc hba.size _).grown gb (by have := hba.size; simp; omega) (fun q e => own_ge owa e)
                have hbc : Below w.heap.size w wc := hbb.grown gc hbb.size (fun q e => own_ge owb e)
                have HE := Lib.hid (show HolRel r nm _ w (k + 1) vc wc from ⟨0 + 1, by omega, insZ x1 H, HINS.out.symm, HLEN.out, by
                  rw [HSPL.out]
                  have e1 : zs (H.take 0 ++ ([x1] ++ H.drop 0)) = ([] ++ zs (H.take 0)) ++ [.int .i64 x1] ++ zs (H.drop 0) := by unfold zs; simp
                  rw [e1]
                  have e2 : 0 + 1 = 0 + 0 + 1 + (0 - 0) := by omega
                  rw [e2]
                  exact owc⟩)
                have HBE := Lib.hid hbc
                clear owa owb owc ga gb gc ata atb atc hba hbb hbc
                go_wp2
                exact ⟨⟨k + 1, vc, by omega, by congr 1, rfl, HE, HBE⟩, by simp [intOf]; omega⟩
        · have hgz := block_lt hh
          obtain ⟨X, cX, eX, hcX, hrX⟩ := own_rdA hrow
          cases eX
          have HRX := Lib.hid hrX
          clear hrow hrX hh
          rcases hsel with rfl | ⟨rfl, hs2⟩
          all_goals
            try have hs3 : (x2 != nm) = false := by simp [bne, hs2]
            go_wp2
            obtain ⟨wo, hwo⟩ : ∃ wo, wo = wr := ⟨_, rfl⟩
            subst hwo
            go_loopw [9] (fun i w2 => ∃ q : Nat, q ≤ nh ∧ i = .int .i64 q ∧ Hid (∀ y ∈ H.take q, y < x1) ∧ Hid (Below wo.heap.size wo w2)) (fun i _ => nh - (intOf i).toNat)
            case atStart => exact ⟨0, by omega, rfl, fun y hy => by simp at hy, Below.refl _ _⟩
            case round =>
              obtain ⟨q, hq, rfl, HLT, HB2⟩ := hrel
              have d1 : wr.cell? ⟨b, o + k * 3, none⟩ = some (.int .i64 x1) := (World.cell?_of_block (HB2.out.block b (cell_lt c1))).trans c1
              have hqc7 : q ≤ c7 := by omega
              have hqw : IntKind.i64.wrap ((q : Int) + 1) = (q : Int) + 1 := IntWalk.i64_in _ (by omega)
              by_cases hql : q < nh
              · obtain ⟨y, hy⟩ : ∃ y, H[q]? = some y := ⟨_, List.getElem?_eq_getElem (by rw [← HNH.out]; omega)⟩
                obtain ⟨b2, o2, eA, d2⟩ := (HRX.out.below HB2.out) q (.int .i64 y) (zs_at hy)
                cases eA
                rw [Nat.zero_add] at d2
                have hqi : (q : Int) < (nh : Int) := by omega
                have hqc : ¬ c7 = q := by omega
                have HY := Lib.hid hy
                clear hy
                by_cases hyx : y < x1
                · have HL2 := Lib.hid (show ∀ z ∈ H.take (q + 1), z < x1 by
                    rw [List.take_add_one, HY.out]
                    intro z hz
                    rcases List.mem_append.1 hz with h | h
                    · exact HLT.out z h
                    · have : z = y := by simpa using h
                      omega)
                  go_wp2
                  go_quiet (fail)
                  have HB5 := Lib.hid (below_drewN HB2.out nq)
                  generalize World.drewN wr nq = w5 at *
                  go_wp2
                  exact ⟨⟨q + 1, by omega, by congr 1, HL2, HB5⟩, by simp [intOf]; omega⟩
                · have HAT := Lib.hid (insZ_at (x := x1) (l := H) (p := q) (by rw [← HNH.out]; omega) HLT.out (fun z hz => by rw [HY.out] at hz; cases hz; exact hyx))
                  go_wp2
                  go_quiet (fail)
                  have HB5 := Lib.hid (below_drewN HB2.out nq)
                  have d5 : (World.drewN wr nq).cell? ⟨b, o + k * 3, none⟩ = some (.int .i64 x1) := d1
                  have d6 : (World.drewN wr nq).cell? ⟨g, q, none⟩ = some (.int .i64 y) := d2
                  generalize World.drewN wr nq = w5 at *
                  clear d1 d2
                  by_cases hye : y = x1
                  · have hyb : (y == x1) = true := by simp [hye]
                    have HE0 := Lib.hid (show insZ x1 H = H by rw [HAT.out, HY.out, hye, if_pos rfl])
                    clear hye
                    go_wp2
                    go_quiet (fail)
                    have HB6 := Lib.hid (HB.out.trans ((below_drewN HB5.out nq).mono HB.out.size))
                    have HRO := Lib.hid (own_keepC HROW.out (Keep.of (below_drewN HB5.out nq) (Nat.le_refl _)))
                    generalize World.drewN w5 nq = wz at *
                    have HE := Lib.hid (show HolRel r nm _ w (k + 1) (.slice (some ⟨g, 0, none⟩) nh c7) wz from ⟨nh, by omega, H, by rw [HINS.out, HE0.out], HNH.out, HRO.out⟩)
                    clear d5 d6
                    go_wp2
                    exact ⟨⟨k + 1, _, by omega, by congr 1, rfl, HE, HB6⟩, by simp [intOf]; omega⟩
                  · have hyb : (y == x1) = false := by simpa using hye
                    have HSPL := Lib.hid (show insZ x1 H = H.take q ++ ([x1] ++ H.drop q) by rw [HAT.out, HY.out, if_neg (by simpa using hye)])
                    clear hye
                    go_wp2
                    go_quiet (fail)
                    clear d6
                    have HBZ := Lib.hid (below_drewN HB5.out nq)
                    have dZ : (World.drewN w5 nq).cell? ⟨b, o + k * 3, none⟩ = some (.int .i64 x1) := d5
                    generalize World.drewN w5 nq = wz at *
                    clear d5 HB5
                    go_wp2
                    have HBB := Lib.hid (HB.out.trans (HBZ.out.mono HB.out.size))
                    have HRZ := Lib.hid (HRX.out.below HBZ.out)
                    have HSZ := Lib.hid HBB.out.size
                    have HGZ := Lib.hid (show g < wz.heap.size from Nat.lt_of_lt_of_le hgz HBZ.out.size)
                    have HRT := Lib.hid (show RdA wz (some ⟨g, 0, none⟩) (zs (H.take q)) by rw [zs_take]; exact HRZ.out.take)
                    have HRD := Lib.hid (show RdA wz (some ⟨g, q, none⟩) (zs (H.drop q)) by rw [zs_drop]; have := HRZ.out.drop (p := q); rwa [Nat.zero_add] at this)
                    have HLEN := Lib.hid (show nh + 1 = (insZ x1 H).length by rw [HSPL.out]; have := HNH.out; simp; omega)

                    have hlim : nh ≤ 1000 := by omega
                    have HT1 := Lib.hid (show (zs (H.take q)).length = q * 1 by unfold zs; rw [List.length_map, List.length_take]; have := HNH.out; omega)
                    have HD1 := Lib.hid (show (zs (H.drop q)).length = (nh - q) * 1 by unfold zs; rw [List.length_map, List.length_drop]; have := HNH.out; omega)
                    have hcz : (wz.drew).cell? ⟨b, o + k * 3, none⟩ = some (.int .i64 x1) := dZ
                    have hcz2 := (World.cell?_of_block (Below.heap_alloc wz.drew (.cells #[.int .i64 x1] 3) _ (cell_lt hcz))).trans hcz
                    go_region_law (first
                      | (refine step_append_src rfl _ _ 37 rfl w.heap.size 3 iI (.int .i64 0) 1 8 Tryd.underlying37 hiI hz0 hz1 hz2 rfl (by decide) (.slice none 0 0) 0 [] (by go_simp) (World.ownsRow_nil _ _ _ _) (some ⟨g, 0, none⟩) q (c7) (zs (H.take q)) (by go_simp) HT1.out (by first | exact HRT.out.drew | exact HRT.out.drew.alloc _) (zs_one _) (by unfold maxLen; omega) (by omega) (by first | (have := HSZ.out; simp; omega) | (have := HSZ.out; have := ga.size; simp at this ⊢; omega) | (have := HSZ.out; have := ga.size; simp at this; omega) | (have h1 := HSZ.out; have h2 := ga.size; have h3 := gb.size; simp at h2 h3; omega)) ?_
                         intro va wa owa ga ata
                         try have hca := ga.cell hcz (fun e => by simp [Value.ownBlock] at e))
                      | (refine step_append_src rfl _ _ 37 rfl w.heap.size 3 iI (.int .i64 0) 1 8 Tryd.underlying37 hiI hz0 hz1 hz2 rfl (by decide) va _ _ (by go_simp) (owa.alloc _) (some ⟨wa.heap.size, 0, none⟩) 1 1 [.int .i64 x1] (by go_simp) rfl (RdA.one _ _ _) (fun u hu => by rw [List.mem_singleton.1 hu]; rfl) (by unfold maxLen; omega) (by omega) (by first | (have := HSZ.out; simp; omega) | (have := HSZ.out; have := ga.size; simp at this ⊢; omega) | (have := HSZ.out; have := ga.size; simp at this; omega) | (have h1 := HSZ.out; have h2 := ga.size; have h3 := gb.size; simp at h2 h3; omega)) ?_
                         intro vb wb owb gb atb)
                      | (refine step_append_src rfl _ _ 37 rfl w.heap.size 3 iI (.int .i64 0) 1 8 Tryd.underlying37 hiI hz0 hz1 hz2 rfl (by decide) va _ _ (by go_simp) owa (some ⟨wz.heap.size, 0, none⟩) 1 1 [.int .i64 x1] (by go_simp) rfl ((RdA.one wz (.int .i64 x1) 3).drew.grown ga (fun q e => by simp [Value.ownBlock] at e)) (fun u hu => by rw [List.mem_singleton.1 hu]; rfl) (by unfold maxLen; omega) (by omega) (by first | (have := HSZ.out; simp; omega) | (have := HSZ.out; have := ga.size; simp at this ⊢; omega) | (have := HSZ.out; have := ga.size; simp at this; omega) | (have h1 := HSZ.out; have h2 := ga.size; have h3 := gb.size; simp at h2 h3; omega)) ?_
                         intro vb wb owb gb atb)
                      | (refine step_append_src rfl _ _ 37 rfl w.heap.size 3 iI (.int .i64 0) 1 8 Tryd.underlying37 hiI hz0 hz1 hz2 rfl (by decide) vb _ _ (by go_simp) owb (some ⟨g, q, none⟩) (nh - q) (c7 - q) (zs (H.drop q)) (by go_simp) HD1.out (by first | exact ((HRD.out.drew.grown ga (fun q e => by simp [Value.ownBlock] at e)).alloc _).grown gb (fun q' e b' eb => by first | (cases eb; done) | (cases eb; exact fresh_ne ata (by have := HGZ.out; simp; omega) e)) | exact ((HRD.out.alloc _).drew.grown ga (fun q e => by simp [Value.ownBlock] at e)).grown gb (fun q' e b' eb => by first | (cases eb; done) | (cases eb; exact fresh_ne ata (by have := HGZ.out; simp; omega) e))) (zs_one _) (by unfold maxLen; omega) (by omega) (by first | (have := HSZ.out; simp; omega) | (have := HSZ.out; have := ga.size; simp at this ⊢; omega) | (have := HSZ.out; have := ga.size; simp at this; omega) | (have h1 := HSZ.out; have h2 := ga.size; have h3 := gb.size; simp at h2 h3; omega)) ?_
                         intro vc wc owc gc atc))
                    all_goals
                      have hba : Below w.heap.size w wa := by first | exact (HBB.out.drew).grown ga (by first | (have := HSZ.out; simp; omega)) (fun q e => by simp [Value.ownBlock] at e) | exact ((HBB.out.alloc (by have := HSZ.out; simp; omega) _).drew).grown ga (by have := HSZ.out; simp; omega) (fun q e => by simp [Value.ownBlock] at e)
                      have hbb : Below w.heap.size w wb := by first | exact hba.grown gb hba.size (fun q e => own_ge owa e) | exact (hba.alloc hba.size _).grown gb (by have := hba.size; simp; omega) (fun q e => own_ge owa e)
                      have hbc : Below w.heap.size w wc := hbb.grown gc hbb.size (fun q e => own_ge owb e)
                      have HE := Lib.hid (show HolRel r nm _ w (k + 1) vc wc from ⟨nh + 1, by omega, insZ x1 H, HINS.out.symm, HLEN.out, by
                        rw [HSPL.out]
                        have e1 : zs (H.take q ++ ([x1] ++ H.drop q)) = ([] ++ zs (H.take q)) ++ [.int .i64 x1] ++ zs (H.drop q) := by unfold zs; simp
                        rw [e1]
                        have e2 : nh + 1 = 0 + q + 1 + (nh - q) := by omega
                        rw [e2]
                        exact owc⟩)
                      have HBE := Lib.hid hbc
                      clear owa owb owc ga gb gc ata atb atc hba hbb hbc
                      go_wp2
                      exact ⟨⟨k + 1, vc, by omega, by congr 1, rfl, HE, HBE⟩, by simp [intOf]; omega⟩
              · have hqe : q = nh := by omega
                have hqi : ¬ (q : Int) < (nh : Int) := by omega
                have HSPL := Lib.hid (show insZ x1 H = H.take q ++ ([x1] ++ H.drop q) by
                  have hn : H[q]? = none := List.getElem?_eq_none (by rw [← HNH.out]; omega)
                  rw [insZ_at (x := x1) (l := H) (p := q) (by rw [← HNH.out]; omega) HLT.out (fun z hz => by rw [hn] at hz; cases hz), hn, if_neg (by simp)])
                go_wp2
                go_quiet (fail)
                have HB5 := Lib.hid (below_drewN HB2.out nq)
                have d5 : (World.drewN wr nq).cell? ⟨b, o + k * 3, none⟩ = some (.int .i64 x1) := d1
                generalize World.drewN wr nq = w5 at *
                clear d1
                go_wp2
                go_quiet (fail)
                by_cases hcq : c7 = nh
                · have hqc : c7 = q := by omega
                  have HBZ := Lib.hid (below_drewN HB5.out nq)
                  have dZ : (World.drewN w5 nq).cell? ⟨b, o + k * 3, none⟩ = some (.int .i64 x1) := d5
                  generalize World.drewN w5 nq = wz at *
                  clear d5 HB5
                  go_wp2
                  have HBB := Lib.hid (HB.out.trans (HBZ.out.mono HB.out.size))
                  have HRZ := Lib.hid (HRX.out.below HBZ.out)
                  have HSZ := Lib.hid HBB.out.size
                  have HGZ := Lib.hid (show g < wz.heap.size from Nat.lt_of_lt_of_le hgz HBZ.out.size)
                  have HRT := Lib.hid (show RdA wz (some ⟨g, 0, none⟩) (zs (H.take q)) by rw [zs_take]; exact HRZ.out.take)
                  have HRD := Lib.hid (show RdA wz (some ⟨g, 0, none⟩) (zs (H.drop q)) from fun i u hi => by rw [List.drop_of_length_le (by rw [← HNH.out]; omega)] at hi; simp [zs] at hi)
                  have HLEN := Lib.hid (show nh + 1 = (insZ x1 H).length by rw [HSPL.out]; have := HNH.out; simp; omega)

                  have hlim : nh ≤ 1000 := by omega
                  have HT1 := Lib.hid (show (zs (H.take q)).length = q * 1 by unfold zs; rw [List.length_map, List.length_take]; have := HNH.out; omega)
                  have HD1 := Lib.hid (show (zs (H.drop q)).length = (nh - q) * 1 by unfold zs; rw [List.length_map, List.length_drop]; have := HNH.out; omega)
                  have hcz : (wz.drew).cell? ⟨b, o + k * 3, none⟩ = some (.int .i64 x1) := dZ
                  have hcz2 := (World.cell?_of_block (Below.heap_alloc wz.drew (.cells #[.int .i64 x1] 3) _ (cell_lt hcz))).trans hcz
                  go_region_law (first
                    | (refine step_append_src rfl _ _ 37 rfl w.heap.size 3 iI (.int .i64 0) 1 8 Tryd.underlying37 hiI hz0 hz1 hz2 rfl (by decide) (.slice none 0 0) 0 [] (by go_simp) (World.ownsRow_nil _ _ _ _) (some ⟨g, 0, none⟩) q (c7) (zs (H.take q)) (by go_simp) HT1.out (by first | exact HRT.out.drew | exact HRT.out.drew.alloc _) (zs_one _) (by unfold maxLen; omega) (by omega) (by first | (have := HSZ.out; simp; omega) | (have := HSZ.out; have := ga.size; simp at this ⊢; omega) | (have := HSZ.out; have := ga.size; simp at this; omega) | (have h1 := HSZ.out; have h2 := ga.size; have h3 := gb.size; simp at h2 h3; omega)) ?_
                       intro va wa owa ga ata
                       try have hca := ga.cell hcz (fun e => by simp [Value.ownBlock] at e))
                    | (refine step_append_src rfl _ _ 37 rfl w.heap.size 3 iI (.int .i64 0) 1 8 Tryd.underlying37 hiI hz0 hz1 hz2 rfl (by decide) va _ _ (by go_simp) (owa.alloc _) (some ⟨wa.heap.size, 0, none⟩) 1 1 [.int .i64 x1] (by go_simp) rfl (RdA.one _ _ _) (fun u hu => by rw [List.mem_singleton.1 hu]; rfl) (by unfold maxLen; omega) (by omega) (by first | (have := HSZ.out; simp; omega) | (have := HSZ.out; have := ga.size; simp at this ⊢; omega) | (have := HSZ.out; have := ga.size; simp at this; omega) | (have h1 := HSZ.out; have h2 := ga.size; have h3 := gb.size; simp at h2 h3; omega)) ?_
                       intro vb wb owb gb atb)
                    | (refine step_append_src rfl _ _ 37 rfl w.heap.size 3 iI (.int .i64 0) 1 8 Tryd.underlying37 hiI hz0 hz1 hz2 rfl (by decide) va _ _ (by go_simp) owa (some ⟨wz.heap.size, 0, none⟩) 1 1 [.int .i64 x1] (by go_simp) rfl ((RdA.one wz (.int .i64 x1) 3).drew.grown ga (fun q e => by simp [Value.ownBlock] at e)) (fun u hu => by rw [List.mem_singleton.1 hu]; rfl) (by unfold maxLen; omega) (by omega) (by first | (have := HSZ.out; simp; omega) | (have := HSZ.out; have := ga.size; simp at this ⊢; omega) | (have := HSZ.out; have := ga.size; simp at this; omega) | (have h1 := HSZ.out; have h2 := ga.size; have h3 := gb.size; simp at h2 h3; omega)) ?_
                       intro vb wb owb gb atb)
                    | (refine step_append_src rfl _ _ 37 rfl w.heap.size 3 iI (.int .i64 0) 1 8 Tryd.underlying37 hiI hz0 hz1 hz2 rfl (by decide) vb _ _ (by go_simp) owb (some ⟨g, 0, none⟩) (nh - q) (c7 - q) (zs (H.drop q)) (by go_simp) HD1.out (by first | exact ((HRD.out.drew.grown ga (fun q e => by simp [Value.ownBlock] at e)).alloc _).grown gb (fun q' e b' eb => by first | (cases eb; done) | (cases eb; exact fresh_ne ata (by have := HGZ.out; simp; omega) e)) | exact ((HRD.out.alloc _).drew.grown ga (fun q e => by simp [Value.ownBlock] at e)).grown gb (fun q' e b' eb => by first | (cases eb; done) | (cases eb; exact fresh_ne ata (by have := HGZ.out; simp; omega) e))) (zs_one _) (by unfold maxLen; omega) (by omega) (by first | (have := HSZ.out; simp; omega) | (have := HSZ.out; have := ga.size; simp at this ⊢; omega) | (have := HSZ.out; have := ga.size; simp at this; omega) | (have h1 := HSZ.out; have h2 := ga.size; have h3 := gb.size; simp at h2 h3; omega)) ?_
                       intro vc wc owc gc atc))
                  all_goals
                    have hba : Below w.heap.size w wa := by first | exact (HBB.out.drew).grown ga (by first | (have := HSZ.out; simp; omega)) (fun q e => by simp [Value.ownBlock] at e) | exact ((HBB.out.alloc (by have := HSZ.out; simp; omega) _).drew).grown ga (by have := HSZ.out; simp; omega) (fun q e => by simp [Value.ownBlock] at e)
                    have hbb : Below w.heap.size w wb := by first | exact hba.grown gb hba.size (fun q e => own_ge owa e) | exact (hba.alloc hba.size _).grown gb (by have := hba.size; simp; omega) (fun q e => own_ge owa e)
                    have hbc : Below w.heap.size w wc := hbb.grown gc hbb.size (fun q e => own_ge owb e)
                    have HE := Lib.hid (show HolRel r nm _ w (k + 1) vc wc from ⟨nh + 1, by omega, insZ x1 H, HINS.out.symm, HLEN.out, by
                      rw [HSPL.out]
                      have e1 : zs (H.take q ++ ([x1] ++ H.drop q)) = ([] ++ zs (H.take q)) ++ [.int .i64 x1] ++ zs (H.drop q) := by unfold zs; simp
                      rw [e1]
                      have e2 : nh + 1 = 0 + q + 1 + (nh - q) := by omega
                      rw [e2]
                      exact owc⟩)
                    have HBE := Lib.hid hbc
                    clear owa owb owc ga gb gc ata atb atc hba hbb hbc
                    go_wp2
                    exact ⟨⟨k + 1, vc, by omega, by congr 1, rfl, HE, HBE⟩, by simp [intOf]; omega⟩
                · have hqc : ¬ c7 = q := by omega
                  have HBZ := Lib.hid (below_drewN HB5.out nq)
                  have dZ : (World.drewN w5 nq).cell? ⟨b, o + k * 3, none⟩ = some (.int .i64 x1) := d5
                  generalize World.drewN w5 nq = wz at *
                  clear d5 HB5
                  go_wp2
                  have HBB := Lib.hid (HB.out.trans (HBZ.out.mono HB.out.size))
                  have HRZ := Lib.hid (HRX.out.below HBZ.out)
                  have HSZ := Lib.hid HBB.out.size
                  have HGZ := Lib.hid (show g < wz.heap.size from Nat.lt_of_lt_of_le hgz HBZ.out.size)
                  have HRT := Lib.hid (show RdA wz (some ⟨g, 0, none⟩) (zs (H.take q)) by rw [zs_take]; exact HRZ.out.take)
                  have HRD := Lib.hid (show RdA wz (some ⟨g, q, none⟩) (zs (H.drop q)) by rw [zs_drop]; have := HRZ.out.drop (p := q); rwa [Nat.zero_add] at this)
                  have HLEN := Lib.hid (show nh + 1 = (insZ x1 H).length by rw [HSPL.out]; have := HNH.out; simp; omega)

                  have hlim : nh ≤ 1000 := by omega
                  have HT1 := Lib.hid (show (zs (H.take q)).length = q * 1 by unfold zs; rw [List.length_map, List.length_take]; have := HNH.out; omega)
                  have HD1 := Lib.hid (show (zs (H.drop q)).length = (nh - q) * 1 by unfold zs; rw [List.length_map, List.length_drop]; have := HNH.out; omega)
                  have hcz : (wz.drew).cell? ⟨b, o + k * 3, none⟩ = some (.int .i64 x1) := dZ
                  have hcz2 := (World.cell?_of_block (Below.heap_alloc wz.drew (.cells #[.int .i64 x1] 3) _ (cell_lt hcz))).trans hcz
                  go_region_law (first
                    | (refine step_append_src rfl _ _ 37 rfl w.heap.size 3 iI (.int .i64 0) 1 8 Tryd.underlying37 hiI hz0 hz1 hz2 rfl (by decide) (.slice none 0 0) 0 [] (by go_simp) (World.ownsRow_nil _ _ _ _) (some ⟨g, 0, none⟩) q (c7) (zs (H.take q)) (by go_simp) HT1.out (by first | exact HRT.out.drew | exact HRT.out.drew.alloc _) (zs_one _) (by unfold maxLen; omega) (by omega) (by first | (have := HSZ.out; simp; omega) | (have := HSZ.out; have := ga.size; simp at this ⊢; omega) | (have := HSZ.out; have := ga.size; simp at this; omega) | (have h1 := HSZ.out; have h2 := ga.size; have h3 := gb.size; simp at h2 h3; omega)) ?_
                       intro va wa owa ga ata
                       try have hca := ga.cell hcz (fun e => by simp [Value.ownBlock] at e))
                    | (refine step_append_src rfl _ _ 37 rfl w.heap.size 3 iI (.int .i64 0) 1 8 Tryd.underlying37 hiI hz0 hz1 hz2 rfl (by decide) va _ _ (by go_simp) (owa.alloc _) (some ⟨wa.heap.size, 0, none⟩) 1 1 [.int .i64 x1] (by go_simp) rfl (RdA.one _ _ _) (fun u hu => by rw [List.mem_singleton.1 hu]; rfl) (by unfold maxLen; omega) (by omega) (by first | (have := HSZ.out; simp; omega) | (have := HSZ.out; have := ga.size; simp at this ⊢; omega) | (have := HSZ.out; have := ga.size; simp at this; omega) | (have h1 := HSZ.out; have h2 := ga.size; have h3 := gb.size; simp at h2 h3; omega)) ?_
                       intro vb wb owb gb atb)
                    | (refine step_append_src rfl _ _ 37 rfl w.heap.size 3 iI (.int .i64 0) 1 8 Tryd.underlying37 hiI hz0 hz1 hz2 rfl (by decide) va _ _ (by go_simp) owa (some ⟨wz.heap.size, 0, none⟩) 1 1 [.int .i64 x1] (by go_simp) rfl ((RdA.one wz (.int .i64 x1) 3).drew.grown ga (fun q e => by simp [Value.ownBlock] at e)) (fun u hu => by rw [List.mem_singleton.1 hu]; rfl) (by unfold maxLen; omega) (by omega) (by first | (have := HSZ.out; simp; omega) | (have := HSZ.out; have := ga.size; simp at this ⊢; omega) | (have := HSZ.out; have := ga.size; simp at this; omega) | (have h1 := HSZ.out; have h2 := ga.size; have h3 := gb.size; simp at h2 h3; omega)) ?_
                       intro vb wb owb gb atb)
                    | (refine step_append_src rfl _ _ 37 rfl w.heap.size 3 iI (.int .i64 0) 1 8 Tryd.underlying37 hiI hz0 hz1 hz2 rfl (by decide) vb _ _ (by go_simp) owb (some ⟨g, q, none⟩) (nh - q) (c7 - q) (zs (H.drop q)) (by go_simp) HD1.out (by first | exact ((HRD.out.drew.grown ga (fun q e => by simp [Value.ownBlock] at e)).alloc _).grown gb (fun q' e b' eb => by first | (cases eb; done) | (cases eb; exact fresh_ne ata (by have := HGZ.out; simp; omega) e)) | exact ((HRD.out.alloc _).drew.grown ga (fun q e => by simp [Value.ownBlock] at e)).grown gb (fun q' e b' eb => by first | (cases eb; done) | (cases eb; exact fresh_ne ata (by have := HGZ.out; simp; omega) e))) (zs_one _) (by unfold maxLen; omega) (by omega) (by first | (have := HSZ.out; simp; omega) | (have := HSZ.out; have := ga.size; simp at this ⊢; omega) | (have := HSZ.out; have := ga.size; simp at this; omega) | (have h1 := HSZ.out; have h2 := ga.size; have h3 := gb.size; simp at h2 h3; omega)) ?_
                       intro vc wc owc gc atc))
                  all_goals
                    have hba : Below w.heap.size w wa := by first | exact (HBB.out.drew).grown ga (by first | (have := HSZ.out; simp; omega)) (fun q e => by simp [Value.ownBlock] at e) | exact ((HBB.out.alloc (by have := HSZ.out; simp; omega) _).drew).grown ga (by have := HSZ.out; simp; omega) (fun q e => by simp [Value.ownBlock] at e)
                    have hbb : Below w.heap.size w wb := by first | exact hba.grown gb hba.size (fun q e => own_ge owa e) | exact (hba.alloc hba.size _).grown gb (by have := hba.size; simp; omega) (fun q e => own_ge owa e)
                    have hbc : Below w.heap.size w wc := hbb.grown gc hbb.size (fun q e => own_ge owb e)
                    have HE := Lib.hid (show HolRel r nm _ w (k + 1) vc wc from ⟨nh + 1, by omega, insZ x1 H, HINS.out.symm, HLEN.out, by
                      rw [HSPL.out]
                      have e1 : zs (H.take q ++ ([x1] ++ H.drop q)) = ([] ++ zs (H.take q)) ++ [.int .i64 x1] ++ zs (H.drop q) := by unfold zs; simp
                      rw [e1]
                      have e2 : nh + 1 = 0 + q + 1 + (nh - q) := by omega
                      rw [e2]
                      exact owc⟩)
                    have HBE := Lib.hid hbc
                    clear owa owb owc ga gb gc ata atb atc hba hbb hbc
                    go_wp2
                    exact ⟨⟨k + 1, vc, by omega, by congr 1, rfl, HE, HBE⟩, by simp [intOf]; omega⟩
    · have hke : k = n := by omega
      subst hke
      have hki : ¬ (k : Int) < (k : Int) := by omega
      obtain ⟨nh, hnk, H, hH, hnh, hrow⟩ := HH.out
      have ht : r.take k = r := List.take_of_length_le (by rw [← HN.out]; omega)
      rw [ht] at hH
      have HE := Lib.hid (show wr.ownsRow w.heap.size 3 1 v1 (holdersL r nm any).length (zs (holdersL r nm any)) by rw [← hH, ← hnh]; exact hrow)
      clear hk hgo ht hH hnh hrow hnk HH
      go_wp2
      go_ret
      exact ⟨_, rfl, HE.out, HB.out⟩
end Go.Proofs.YtnnadhfpkplncaaDoor
