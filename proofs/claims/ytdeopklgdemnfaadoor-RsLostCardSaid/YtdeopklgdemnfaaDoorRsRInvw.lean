/- The reference's inverse: the walk. Condition: the matrix reads, no row is too long. -/
import Derived.Test.YtdeopklgdemnfaaDoorRsRInv
namespace Go.Proofs.YtdeopklgdemnfaaDoor
open Go.RowKit Gf Rs

/-- The first row found so far that has something in column j. -/
def Found (n j : Nat) (M : Mat) (i : Nat) (at_ : Int) : Prop := (at_ = -1 ∧ ∀ p, j ≤ p → p < i → M p j = fz) ∨ (0 ≤ at_ ∧ at_ < n ∧ pv n j M = some at_.toNat)
theorem invS_none {m : List (List F)} (h : Sq m) (hn : minv m.length (mf m) = none) : invS m = ([], 14) := by unfold invS; rw [if_pos h, hn]
theorem invS_some {m : List (List F)} {X : Mat} (h : Sq m) (hn : minv m.length (mf m) = some X) : invS m = (sq m.length X, 0) := by unfold invS; rw [if_pos h, hn]
theorem sq_snoc {n p : Nat} {X : Mat} (h : p < n) : (sq n X).take (p + 1) = (sq n X).take p ++ [rowL n (X p)] := take_snoc_map _ n p h
theorem rowsM_snoc {n p : Nat} {M : Mat} (h : p < n) : (rowsM n M).take (p + 1) = (rowsM n M).take p ++ [rowL (2 * n) (M p)] := take_snoc_map _ n p h
/-- append(l, x) of one byte onto one's own, as one step of a region. -/
theorem step_app_byte {ops : Array Oper} {o : Oper} {a : Act} {w : World} {K : Act → World → Prop} {Q : Exit → Act → World → Prop} {E : Prop} (hgd : o.guard = none) (s x : Operand)
    (ho : o.op = .call { callee := .builtin .append, args := #[s, x], argTypes := #[54, 54] }) (base : Nat) (v : Value) (n : Nat) (l : List F) (hs : a.eval s = v) (hown : w.ownsRow base 5 1 v n (l.map B))
    (g : Nat) (b : F) (hx : a.eval x = .slice (some ⟨g, 0, none⟩) 1 1) (hc : w.cell? ⟨g, 0, none⟩ = some (B b)) (hn : n ≤ 1048576) (hbase : base ≤ w.heap.size)
    (h : ∀ v' w', w'.ownsRow base 5 1 v' (n + 1) ((l ++ [b]).map B) → w.grownBy w' v.ownBlock → K (a.put o.dst v') w') :
    if Region.wanted o (yielded ops a.tmps) = true then Oper.wp Tryd.prog o a w K Q else E := by
  obtain ⟨iB, h1, h2, h3, h4⟩ := infoTB
  refine step_append_own_k hgd s x 54 ho base 5 iB (.int .u8 0) 1 1 Tryd.underlying54 h1 h2 h3 h4 rfl (by decide) v n _ hs hown ⟨g, 0, none⟩ 1 1 [B b] hx rfl (fun j u hj => ?_) (fun u hu => by rw [List.mem_singleton.1 hu]; rfl) (by unfold maxLen; omega) (by omega) hbase (fun v' w' e1 e2 _ => h v' w' ?_ e2)
  · match j, hj with
    | 0, hj => cases hj; simpa [Addr.add] using hc
  · rw [List.map_append]; exact e1
set_option maxRecDepth 100000 in
set_option maxHeartbeats 1600000 in
theorem rinvert_S (fb : Nat) (A1 : Option Addr) (c1 : Nat) (m : List (List F)) (hm : m.length ≤ 1048576) (hl : ∀ (i : Nat) (l : List F), m[i]? = some l → l.length ≤ 1048576) (w : World) (h1 : RdM fb w A1 m) :
    Calls Tryd.prog 44 #[.slice A1 m.length c1] w (RRes w (invS m)) := by
  have hsquare := square_any fb A1 c1 m hm hl w h1
  have HSQR := Lib.hid hsquare
  clear hsquare
  by_cases hsq : Sq m
  · have HS := Lib.hid hsq
    have h0 := hsq.1
    have h32 := hsq.2.1
    have HLEN : Hid (∀ (i : Nat) (l : List F), m[i]? = some l → l.length = m.length) := hsq.2.2
    clear hsq hl hm
    obtain ⟨iB, hiB, hzB0, hzB1, hzB2⟩ := infoTB
    go_enter Tryd.func44, Tryd.ntmps44
    go_wp2_with fail
    refine HSQR.out.mono ?_
    rintro e w' ⟨he, _, rfl⟩
    obtain rfl := he HS.out
    clear he HSQR
    go_wp2
    go_loopw [5, 6, 7, 8, 9] (fun v i _ _ _ wr => ∃ p : Nat, p ≤ m.length ∧ i = .int .i64 p ∧ Below w.heap.size w wr ∧ OutR w.heap.size wr v ((rowsM m.length (aug m.length (mf m))).take p)) (fun _ i _ _ _ _ => m.length - (intOf i).toNat)
    case atStart => exact ⟨0, by omega, rfl, Below.refl _ _, OutR.nil _ _⟩
    case round =>
      obtain ⟨p, hp, rfl, hb, hout⟩ := hrel
      generalize hDp : (rowsM m.length (aug m.length (mf m))).take p = D at hout
      have HDP := Lib.hid hDp
      clear hDp
      obtain ⟨A3, c3, rfl⟩ := hout.shape
      by_cases hlt : p < m.length
      · obtain ⟨b2, o2, A4, c4, rfl, hb2, hc2, hl4, h4⟩ := (h1.below hb).at hlt
        have hmp := List.getElem?_eq_getElem hlt
        have HMP := Lib.hid hmp
        have hpl := HLEN.out p _ hmp
        rw [hpl] at hc2
        have HPL := Lib.hid hpl
        clear hmp hpl hl4
        generalize m[p] = q at *
        have hsz := hb.size
        go_wp2_with (at_builtin; refine Hid.out ?_)
        unfold Hid
        refine wpList_append_rd rfl _ _ 54 rfl wr.heap.size 5 iB (.int .u8 0) 1 Tryd.underlying54 hiB hzB0 hzB1 hzB2 rfl (.slice none 0 0) 0 [] rfl (World.ownsRow_nil _ _ _ _) fb A4 m.length c4 (q.map B) rfl (by simp; exact HPL.out) h4 B_one (by unfold maxLen; omega) (by omega) (Nat.le_refl _) ?_
        intro v1 w1 hown1 hgrow1
        have hb1 := hb.grown hgrow1 hsz (fun k e => by simp [Value.ownBlock] at e)
        have hbo : Below wr.heap.size wr w1 := (Below.refl _ _).grown hgrow1 (Nat.le_refl _) (fun k e => by simp [Value.ownBlock] at e)
        rw [Nat.zero_add, List.nil_append] at hown1
        clear hgrow1 hc2 h4
        obtain ⟨A5, c5, rfl⟩ := ownsRow_shape hown1
        go_wp2
        obtain ⟨wo, rfl⟩ : ∃ wo : World, wo = wr := ⟨_, rfl⟩
        go_loopw [7, 8, 9] (fun v i _ wr => ∃ j : Nat, j ≤ m.length ∧ i = .int .i64 j ∧ Below wo.heap.size wo wr ∧ wr.ownsRow wo.heap.size 5 1 v (m.length + j) ((q ++ rowL j (dl p)).map B)) (fun _ i _ _ => m.length - (intOf i).toNat)
        case atStart => exact ⟨0, by omega, rfl, hbo, by rw [show q ++ rowL 0 (dl p) = q by simp [rowL]]; exact hown1⟩
        case round =>
          clear hbo hown1 hb1
          obtain ⟨j, hj, rfl, hbo, hown⟩ := hrel
          obtain ⟨A4, c4, rfl⟩ := ownsRow_shape hown
          have hszo := hbo.size
          have hcat : ∀ x : F, dl p j = x → (q ++ rowL j (dl p)) ++ [x] = q ++ rowL (j + 1) (dl p) := fun x hx => by
            rw [rowL_snoc, List.append_assoc, hx]
          have HC := Lib.hid hcat
          clear hcat
          by_cases hjlt : j < m.length
          · by_cases hpj : p = j
            · have hx : dl p j = fo := by simp [dl, hpj]
              have HX := Lib.hid hx
              have hbb : ((p : Int) == (j : Int)) = true := by rw [hpj]; simp
              clear hx hpj
              go_wp2_with (at_builtin; refine Hid.out ?_)
              unfold Hid
              refine app_byte rfl _ _ rfl wo.heap.size _ _ _ rfl (hown.alloc _) wr.heap.size fo rfl (by simp [B, fo]) (by omega) (by simp; omega) ?_
              intro v1 w1 hown1 hgrow1
              rw [HC.out _ HX.out] at hown1
              have hb1 := (hbo.alloc (by omega) _).grown hgrow1 (by simp; omega) (fun k e => by have := (hown.lt k e).1; omega)
              clear hown hgrow1 hbo
              go_wp2
              exact ⟨⟨j + 1, by omega, by go_num, hb1, hown1⟩, by simp [intOf]; omega⟩
            · have hx : dl p j = fz := by simp [dl, hpj]
              have HX := Lib.hid hx
              have hbb : ((p : Int) == (j : Int)) = false := by simp; omega
              clear hx hpj
              go_wp2_with (at_builtin; refine Hid.out ?_)
              unfold Hid
              refine app_byte rfl _ _ rfl wo.heap.size _ _ _ rfl (hown.alloc _) wr.heap.size fz rfl (by simp [B, fz]) (by omega) (by simp; omega) ?_
              intro v1 w1 hown1 hgrow1
              rw [HC.out _ HX.out] at hown1
              have hb1 := (hbo.alloc (by omega) _).grown hgrow1 (by simp; omega) (fun k e => by have := (hown.lt k e).1; omega)
              clear hown hgrow1 hbo
              go_wp2
              exact ⟨⟨j + 1, by omega, by go_num, hb1, hown1⟩, by simp [intOf]; omega⟩
          · have hjn : j = m.length := by omega
            have hbs := beside HMP.out HPL.out
            have ho3 : OwnB w.heap.size wr (.slice A4 (m.length + j) c4) (rowL (2 * m.length) (aug m.length (mf m) p)) := by
              unfold OwnB
              rw [rowL_length, ← hbs, show 2 * m.length = m.length + j by omega, show rowL m.length (dl p) = rowL j (dl p) by rw [hjn]]
              exact own_base hown (by omega)
            have hout3 := hout.below hbo
            have hbw3 := hb.trans (hbo.mono (by omega))
            have hlen3 : D.length ≤ 1048576 := by rw [← HDP.out, List.length_take, rowsM_length]; omega
            have hsn := rowsM_snoc (M := aug m.length (mf m)) hlt
            rw [HDP.out] at hsn
            have HS1 := Lib.hid hsn
            clear hsn hbs hjn hown hout hb
            go_wp2_with (at_builtin; refine Hid.out ?_)
            unfold Hid
            refine app_row rfl _ _ rfl w.heap.size _ _ rfl (hout3.below ((Below.refl _ _).alloc (Nat.le_refl _) _)) wr.heap.size _ _ rfl (by simp) (ho3.below ((Below.refl _ _).alloc (Nat.le_refl _) _)) hlen3 (by simp; omega) ?_
            intro v5 w5 hout5 hgrow5
            rw [← HS1.out] at hout5
            have hb5 := (hbw3.alloc (by omega) _).grown hgrow5 (by simp; omega) (fun k e => by have := (hout3.lt k e).1; omega)
            clear hgrow5 hout3 hbw3 ho3 hbo
            go_wp2
            exact ⟨⟨p + 1, by omega, by go_num, hb5, hout5⟩, by simp [intOf]; omega⟩
      · have hDe : D = rowsM m.length (aug m.length (mf m)) := by rw [← HDP.out]; exact List.take_of_length_le (by rw [rowsM_length]; omega)
        subst hDe
        rw [rowsM_length] at hout ⊢
        have HNS : Hid (∀ X, minv m.length (mf m) = some X → invS m = (sq m.length X, 0)) := fun X hX => invS_some HS.out hX
        have HNN : Hid (minv m.length (mf m) = none → invS m = ([], 14)) := fun hX => invS_none HS.out hX
        clear HDP HLEN h1 HS
        have hmn : m.length ≤ 32 := h32
        generalize hnl : m.length = n at *
        clear hnl
        generalize mf m = mm at *
        go_wp2
        go_loopw [10, 11, 12, 13, 14, 15, 16, 17, 18, 19, 20, 21] (fun i _ _ _ _ _ _ _ _ _ _ _ wr => ∃ (j : Nat) (M : Mat), j ≤ n ∧ i = .int .i64 j ∧ Below w.heap.size w wr ∧ OutR w.heap.size wr (.slice A3 n c3) (rowsM n M) ∧ Hid (run n n 0 (aug n mm) = run n (n - j) j M)) (fun i _ _ _ _ _ _ _ _ _ _ _ _ => n - (intOf i).toNat)
        case atStart => exact ⟨0, _, by omega, rfl, hb, hout, rfl⟩
        case round =>
          clear hb hout
          obtain ⟨j, M, hj, rfl, hb, hout, hrun⟩ := hrel
          by_cases hlt : j < n
          · go_wp2
            go_loop [11, 12] (fun t i => ∃ (a : Nat) (q : Int), j ≤ a ∧ a ≤ n ∧ i = .int .i64 a ∧ t = .int .i64 q ∧ -1 ≤ q ∧ q < n ∧ Hid (Found n j M a q)) (fun _ i => n - (intOf i).toNat)
            case atStart => exact ⟨j, -1, by omega, by omega, rfl, rfl, by omega, by omega, Or.inl ⟨rfl, fun p h1 h2 => by omega⟩⟩
            case round =>
              obtain ⟨a, q, ha1, ha2, rfl, rfl, hq1, hq2, hfd⟩ := hrel
              by_cases halt : a < n
              · obtain ⟨g, Aa, ca, e1, hg1, hg2, hca, hfa, hra⟩ := hout.mat halt
                subst e1
                obtain ⟨sa, oa, e2, hsa1, hsa2, hcs⟩ := hra.cell (k := j) (by omega)
                subst e2
                have hcj := hcs j (by omega)
                have HCS := Lib.hid hcs
                clear hcs
                have hj2 : (j : Int) < ((2 * n : Nat) : Int) := by omega
                have hji : (j : Int) < 2 * (n : Int) := by omega
                by_cases hz : M a j = fz
                · have hzb : (((M a j).1 : Int) != 0) = false := by rw [hz]; rfl
                  have hF : Found n j M (a + 1) q := by
                    rcases hfd.out with ⟨e1, e2⟩ | h2
                    · refine Or.inl ⟨e1, fun p h1 h2 => ?_⟩
                      by_cases e : p = a
                      · rw [e]; exact hz
                      · exact e2 p h1 (by omega)
                    · exact Or.inr h2
                  have HF := Lib.hid hF
                  clear hz hF hfd
                  go_wp2
                  exact ⟨⟨a + 1, q, by omega, by omega, by go_num, rfl, hq1, hq2, HF.out⟩, by simp [intOf]; omega⟩
                · have hzb : (((M a j).1 : Int) != 0) = true := by
                    have := fpos hz
                    rw [bne_iff_ne]; omega
                  by_cases hq0 : q < 0
                  · have hF : Found n j M (a + 1) (a : Int) := by
                      rcases hfd.out with ⟨e1, e2⟩ | h2
                      · exact Or.inr ⟨by omega, by omega, by rw [Int.toNat_natCast]; exact pv_some ha1 halt hz e2⟩
                      · omega
                    have HF := Lib.hid hF
                    clear hz hF hfd
                    go_wp2
                    exact ⟨⟨a + 1, a, by omega, by omega, by go_num, rfl, by omega, by omega, HF.out⟩, by simp [intOf]; omega⟩
                  · have hF : Found n j M (a + 1) q := by
                      rcases hfd.out with ⟨e1, e2⟩ | h2
                      · omega
                      · exact Or.inr h2
                    have HF := Lib.hid hF
                    clear hz hF hfd
                    go_wp2
                    exact ⟨⟨a + 1, q, by omega, by omega, by go_num, rfl, hq1, hq2, HF.out⟩, by simp [intOf]; omega⟩
              · have han : a = n := by omega
                subst han
                by_cases hq0 : q < 0
                · have hno : minv a mm = none := by
                    rcases hfd.out with ⟨e1, e2⟩ | h2
                    · have hpv : pv a j M = none := pv_none.2 e2
                      have hr := hrun.out
                      unfold minv
                      rw [hr, show a - j = (a - (j + 1)) + 1 by omega]
                      simp only [run, hpv, Option.map_none]
                    · omega
                  have HN := Lib.hid hno
                  clear hno hfd
                  go_wp2
                  go_ret2
                  exact RRes.no (HNN.out HN.out) rfl hb
                · obtain ⟨at_, rfl⟩ := Int.eq_ofNat_of_zero_le (show 0 ≤ q by omega)
                  have hpv : pv a j M = some at_ := by
                    rcases hfd.out with ⟨e1, e2⟩ | h2
                    · omega
                    · simpa using h2.2.2
                  obtain ⟨hp0, hp1, hp2⟩ := pv_spec hpv
                  have HPV := Lib.hid hpv
                  have HNZ := Lib.hid hp2
                  clear hpv hp2 hfd
                  have hja : j < a := hlt
                  obtain ⟨g, Aa, ca, e1, hg1, hg2, hca, hfa, hra⟩ := hout.mat hp1
                  subst e1
                  obtain ⟨g', Aj, cj, e1, _, _, hcj, hfj, hrj⟩ := hout.mat hja
                  cases e1
                  have hst := hout.set (i := at_) hrj
                  have hout1 := hst.1
                  have hra1 := hst.2 _ _ hra
                  have hb1 : Below w.heap.size w (wr.setCell ⟨g, at_, none⟩ (.slice Aj (2 * a) cj)) := hb.setCell (p := ⟨g, at_, none⟩) hg1 _
                  obtain ⟨sa, oa, e2, hsa1, hsa2, hcs⟩ := hra1.cell (k := j) (by omega)
                  subst e2
                  have hcaj := hcs j (by omega)
                  have hsz1 : (wr.setCell ⟨g, at_, none⟩ (.slice Aj (2 * a) cj)).heap.size = wr.heap.size := by simp [World.setCell]
                  have HCS := Lib.hid hcs
                  have HOUT := Lib.hid hout1
                  have HB1 := Lib.hid hb1
                  have HRA := Lib.hid hra1
                  have HSZ := Lib.hid hsz1
                  have hji : (j : Int) < 2 * (a : Int) := by omega
                  clear hcs hst hout1 hra hra1 hrj hb1 hout hb hsz1 hsa2 hg2
                  go_wp2_with fail
                  refine (rinv_F (M at_ j) _).mono ?_
                  rintro e w2 ⟨z, rfl, rfl⟩
                  clear hcaj hca hcj hfa hfj
                  generalize wr.setCell ⟨g, at_, none⟩ (.slice Aj (2 * a) cj) = w1 at *
                  go_wp2
                  go_loopw [16, 17] (fun v k wr => ∃ q : Nat, q ≤ 2 * a ∧ k = .int .i64 q ∧ Below w1.heap.size w1 wr ∧ wr.ownsRow w1.heap.size 5 1 v q ((rowL q (unit M j at_)).map B)) (fun _ k _ => 2 * a - (intOf k).toNat)
                  case atStart => exact ⟨0, by omega, rfl, Below.refl _ _, World.ownsRow_nil _ _ _ _⟩
                  case round =>
                    obtain ⟨q, hq, rfl, hbo, hown⟩ := hrel
                    obtain ⟨A4, c4, rfl⟩ := ownsRow_shape hown
                    have hszo := hbo.size
                    by_cases hqlt : q < 2 * a
                    · have hqi : (q : Int) < 2 * (a : Int) := by omega
                      have hqi2 : (q : Int) < ((2 * a : Nat) : Int) := by omega
                      have hcq0 := HCS.out q hqlt
                      have hcq : wr.cell? ⟨sa, oa + q, none⟩ = some (.int .u8 ((M at_ q).1 : Int)) := by rw [← hcq0]; exact World.cell?_of_block (hbo.block sa (cell_lt hcq0))
                      have hcat : rowL q (unit M j at_) ++ [fmul (M at_ q) (finv (M at_ j))] = rowL (q + 1) (unit M j at_) := rowL_snoc.symm
                      have HC := Lib.hid hcat
                      clear hcat hcq0
                      go_wp2_with fail
                      refine (rmul_F (M at_ q) (finv (M at_ j)) _).mono ?_
                      rintro e w2 ⟨rfl, rfl⟩
                      clear hcq
                      go_wp2_with (at_builtin; refine Hid.out ?_)
                      unfold Hid
                      refine app_byte rfl _ _ rfl w1.heap.size _ _ _ rfl (hown.alloc _) w2.heap.size (fmul (M at_ q) (finv (M at_ j))) rfl (by simp [B]) (by omega) (by simp; omega) ?_
                      intro v5 w5 hown5 hgrow5
                      rw [HC.out] at hown5
                      have hb5 := (hbo.alloc (by omega) _).grown hgrow5 (by simp; omega) (fun k e => by have := (hown.lt k e).1; omega)
                      clear hown hgrow5 hbo
                      go_wp2
                      exact ⟨⟨q + 1, by omega, by go_num, hb5, hown5⟩, by simp [intOf]; omega⟩
                    · have hqe : q = 2 * a := by omega
                      have hqe1 : q ≤ 2 * a := by omega
                      have hqe2 : 2 * a ≤ q := by omega
                      have hqi : ¬ (q : Int) < 2 * (a : Int) := by omega
                      have hun : OwnB w1.heap.size wr (.slice A4 q c4) (rowL (2 * a) (unit M j at_)) := by
                        unfold OwnB
                        rw [← hqe, rowL_length]; exact hown
                      have hw1 := HSZ.out
                      have hb1s := HB1.out.size
                      have hunv := hun.v.base (show w.heap.size ≤ w1.heap.size by omega)
                      have hout2 := HOUT.out.below hbo
                      have hst := hout2.set (i := j) hunv
                      rw [rowsM_set hp1, rowsM_set hja] at hst
                      have hM : rowsM a (fun p => if p = j then unit M j at_ else (fun p => if p = at_ then M j else M p) p) = rowsM a (midM M j at_ 0) := rowsM_congr fun i k hi => by
                        by_cases e1 : i = j
                        · rw [e1]; simp [midM]
                        · rw [midM_ge e1 (Nat.zero_le _)]
                          simp only [swp, e1, if_false]
                      rw [hM] at hst
                      have hout3 := hst.1
                      have hun3 := hst.2 _ _ hunv
                      rw [← hqe] at hun3
                      have hb3 : Below w.heap.size w (wr.setCell ⟨g, j, none⟩ (.slice A4 q c4)) := (HB1.out.trans (hbo.mono (by omega))).setCell (p := ⟨g, j, none⟩) hg1 _
                      have hfg : wr.frozen? ⟨g, j, none⟩ = false := by
                        obtain ⟨g', _, _, e1, _, _, _, hf, _⟩ := OutR.at hout2 (i := j) (by simp [rowsM]; omega)
                        cases e1; exact hf
                      have hcg : ∃ v, wr.cell? ⟨g, j, none⟩ = some v := by
                        obtain ⟨g', _, _, e1, _, _, hc, _⟩ := OutR.at hout2 (i := j) (by simp [rowsM]; omega)
                        cases e1; exact ⟨_, hc⟩
                      obtain ⟨vg, hcg⟩ := hcg
                      clear hst hM hunv hun hown hout2 hw1 hqe
                      have HO3 := Lib.hid hout3
                      have HU3 := Lib.hid hun3
                      have HB3 := Lib.hid hb3
                      clear hout3 hun3 hb3 hbo
                      go_wp2
                      clear hcg hfg
                      generalize wr.setCell ⟨g, j, none⟩ (.slice A4 q c4) = w3 at *
                      obtain ⟨Q, rfl⟩ : ∃ Q : Nat, Q = q := ⟨_, rfl⟩
                      go_loopw [18, 19, 20, 21] (fun i _ _ _ wr => ∃ p : Nat, p ≤ a ∧ i = .int .i64 p ∧ Below w.heap.size w wr ∧ OutR w.heap.size wr (.slice (some ⟨g, 0, none⟩) a c3) (rowsM a (midM M j at_ p)) ∧ OwnV w.heap.size wr (.slice A4 Q c4) (rowL Q (unit M j at_))) (fun i _ _ _ _ => a - (intOf i).toNat)
                      case atStart => exact ⟨0, by omega, rfl, HB3.out, HO3.out, HU3.out⟩
                      case round =>
                        clear HB3 HO3 HU3 HB1 HOUT HRA HCS
                        obtain ⟨p, hp, rfl, hb, hout, hun⟩ := hrel
                        by_cases hplt : p < a
                        · by_cases hpj : p = j
                          · have hbb : ((p : Int) == (j : Int)) = true := by rw [hpj]; simp
                            have hM : rowsM a (midM M j at_ p) = rowsM a (midM M j at_ (p + 1)) := rowsM_congr fun i k _ => by rw [hpj]; exact (midM_skip i k).symm
                            rw [hM] at hout
                            clear hpj hM
                            go_wp2
                            exact ⟨⟨p + 1, by omega, by go_num, hb, hout, hun⟩, by simp [intOf]; omega⟩
                          · have hbb : ((p : Int) == (j : Int)) = false := by simp; omega
                            obtain ⟨g', Ap, cp, e1, _, hg2, hcp, hfp, hrp⟩ := hout.mat hplt
                            cases e1
                            obtain ⟨sp, op, e2, hsp1, hsp2, hcs⟩ := hrp.cell (k := j) (by omega)
                            subst e2
                            have hcpj := hcs j (by omega)
                            have HCP := Lib.hid hcs
                            obtain ⟨su, ou, e3, hsu1, hsu2, hcu⟩ := hun.cell (k := j) (by omega)
                            subst e3
                            have HCU := Lib.hid hcu
                            clear hcs hcu
                            go_wp2
                            obtain ⟨wo, rfl⟩ : ∃ wo : World, wo = wr := ⟨_, rfl⟩
                            go_loopw [20, 21] (fun v k wr => ∃ q : Nat, q ≤ 2 * a ∧ k = .int .i64 q ∧ Below wo.heap.size wo wr ∧ wr.ownsRow wo.heap.size 5 1 v q ((rowL q fun k => fadd (midM M j at_ p p k) (fmul (midM M j at_ p p j) (unit M j at_ k))).map B)) (fun _ k _ => 2 * a - (intOf k).toNat)
                            case atStart => exact ⟨0, by omega, rfl, Below.refl _ _, World.ownsRow_nil _ _ _ _⟩
                            case round =>
                              clear hcpj
                              obtain ⟨q, hq, rfl, hbo, hown⟩ := hrel
                              obtain ⟨A7, c7, rfl⟩ := ownsRow_shape hown
                              have hszo := hbo.size
                              by_cases hqlt : q < 2 * a
                              · have hqi : (q : Int) < 2 * (a : Int) := by omega
                                have hqi2 : (q : Int) < ((2 * a : Nat) : Int) := by omega
                                have hqq : (q : Int) < (Q : Int) := by omega
                                have hcq0 := HCP.out q hqlt
                                have hcq : wr.cell? ⟨sp, op + q, none⟩ = some (.int .u8 ((midM M j at_ p p q).1 : Int)) := by rw [← hcq0]; exact World.cell?_of_block (hbo.block sp (cell_lt hcq0))
                                have hcu0 := HCU.out q (by omega)
                                have hcu : wr.cell? ⟨su, ou + q, none⟩ = some (.int .u8 ((unit M j at_ q).1 : Int)) := by rw [← hcu0]; exact World.cell?_of_block (hbo.block su (cell_lt hcu0))
                                have hcp2 : wr.cell? ⟨g, p, none⟩ = some (.slice (some ⟨sp, op, none⟩) (2 * a) cp) := by rw [← hcp]; exact World.cell?_of_block (hbo.block g hg2)
                                have hcat : rowL q (fun k => fadd (midM M j at_ p p k) (fmul (midM M j at_ p p j) (unit M j at_ k))) ++ [fadd (midM M j at_ p p q) (fmul (midM M j at_ p p j) (unit M j at_ q))] = rowL (q + 1) fun k => fadd (midM M j at_ p p k) (fmul (midM M j at_ p p j) (unit M j at_ k)) := rowL_snoc.symm
                                have HC := Lib.hid hcat
                                have hownd : wr.drew.ownsRow wo.heap.size 5 1 _ q _ := own_drew hown
                                have HOD := Lib.hid hownd
                                clear hcat hcq0 hcu0 hownd
                                generalize rowL q (fun k => fadd (midM M j at_ p p k) (fmul (midM M j at_ p p j) (unit M j at_ k))) = L at *
                                generalize midM M j at_ p p q = y at *
                                generalize midM M j at_ p p j = x at *
                                generalize unit M j at_ q = z at *
                                have hxor : bits .xor .u8 (y.1 : Int) ((fmul x z).1 : Int) = ((fadd y (fmul x z)).1 : Int) := u8_xor_nat _ _ y.2 (fmul x z).2
                                go_wp2
                                go_region_law (first
                                  | (refine step_app_byte rfl _ _ rfl wo.heap.size _ _ _ rfl (HOD.out.alloc _) wr.heap.size (fadd y (fmul x z)) rfl (by simp [B]) (by omega) (by simp; omega) ?_; intro v5 w5 hown5 hgrow5)
                                  | (go_simp; go_at_call 29; refine (rmul_F x z _).mono ?_; rintro e w6 ⟨rfl, rfl⟩))
                                all_goals
                                  have hbd : Below wo.heap.size wo wr.drew := ⟨hbo.os, hbo.tape, hbo.output, hbo.size, hbo.block⟩
                                  have hb5 := (hbd.alloc (by simp; omega) _).grown hgrow5 (by simp; omega) (fun k e => by have := (hown.lt k e).1; omega)
                                  rw [HC.out] at hown5
                                  clear hbd hown hgrow5 hbo hcq hcu hcp2 HOD hxor
                                  go_wp2
                                  exact ⟨⟨q + 1, by omega, by go_num, hb5, hown5⟩, by simp [intOf]; omega⟩
                              · have hqe : q = 2 * a := by omega
                                subst hqe
                                have hun2 := hun.below hbo
                                have hout2 := hout.below hbo
                                have hbw2 := hb.trans (hbo.mono hb.size)
                                have hsw := hb.size
                                have hless : OwnB wo.heap.size wr (.slice A7 (2 * a) c7) (rowL (2 * a) fun k => fadd (midM M j at_ p p k) (fmul (midM M j at_ p p j) (unit M j at_ k))) := by
                                  unfold OwnB
                                  rw [rowL_length]; exact hown
                                have hst := hout2.set (i := p) (hless.v.base hsw)
                                rw [rowsM_set hplt] at hst
                                have hM : rowsM a (fun i => if i = p then (fun k => fadd (midM M j at_ p p k) (fmul (midM M j at_ p p j) (unit M j at_ k))) else midM M j at_ p i) = rowsM a (midM M j at_ (p + 1)) := rowsM_congr fun i k hi => by
                                  by_cases e1 : i = p
                                  · subst e1
                                    rw [if_pos rfl, midM_ge hpj (Nat.le_refl _), midM_ge hpj (Nat.le_refl _)]
                                    unfold midM
                                    rw [if_neg hpj, if_pos (by omega), stp_ne hpj, fmul_comm]
                                  · rw [if_neg e1, midM_next e1]
                                rw [hM] at hst
                                have hcg : wr.cell? ⟨g, p, none⟩ = some (.slice (some ⟨sp, op, none⟩) (2 * a) cp) := by rw [← hcp]; exact World.cell?_of_block (hbo.block g hg2)
                                have hfg : wr.frozen? ⟨g, p, none⟩ = false := by rw [← hfp]; exact World.frozen?_of_block (hbo.block g hg2)
                                have hout3 := hst.1
                                have hun3 := hst.2 _ _ hun2
                                have hb3 : Below w.heap.size w (wr.setCell ⟨g, p, none⟩ (.slice A7 (2 * a) c7)) := hbw2.setCell (p := ⟨g, p, none⟩) hg1 _
                                clear hst hM hless hout2 hbw2 hun2 hown hbo
                                have HO3 := Lib.hid hout3
                                have HU3 := Lib.hid hun3
                                have HB3 := Lib.hid hb3
                                clear hout3 hun3 hb3
                                go_wp2
                                exact ⟨⟨p + 1, by omega, by go_num, HB3.out, HO3.out, HU3.out⟩, by simp [intOf]; omega⟩
                        · have hpe : p = a := by omega
                          have hM : rowsM a (midM M j at_ p) = rowsM a (stp M j at_) := rowsM_congr fun i k hi => by rw [hpe]; exact midM_end hi k
                          rw [hM] at hout
                          have hr2 := run_next hrun.out hja HPV.out
                          have HR2 := Lib.hid hr2
                          clear hpe hM hr2
                          go_wp2
                          exact ⟨⟨j + 1, stp M j at_, by omega, by go_num, hb, hout, HR2.out⟩, by simp [intOf]; omega⟩
          · have hjn : j = n := by omega
            subst hjn
            have hfin := hrun.out
            rw [Nat.sub_self] at hfin
            have hmi : minv j mm = some fun i k => M i (j + k) := by
              unfold minv
              rw [hfin]; rfl
            have hS := HNS.out _ hmi
            have HSS := Lib.hid hS
            clear hfin hmi hS
            go_wp2
            obtain ⟨wo, rfl⟩ : ∃ wo : World, wo = wr := ⟨_, rfl⟩
            go_loopw [22, 23] (fun v i wr => ∃ p : Nat, p ≤ j ∧ i = .int .i64 p ∧ Below wo.heap.size wo wr ∧ OutR w.heap.size wr v ((sq j fun i k => M i (j + k)).take p) ∧ Hid (∀ k, v.ownBlock = some k → wo.heap.size ≤ k)) (fun _ i _ => j - (intOf i).toNat)
            case atStart => exact ⟨0, by omega, rfl, Below.refl _ _, OutR.nil _ _, fun k e => by simp [Value.ownBlock] at e⟩
            case round =>
              obtain ⟨p, hp, rfl, hbo, hov, hob⟩ := hrel
              generalize hDp : (sq j fun i k => M i (j + k)).take p = D at hov
              have HDP := Lib.hid hDp
              clear hDp
              obtain ⟨A8, c8, rfl⟩ := hov.shape
              have hszo := hbo.size
              have hsw := hb.size
              by_cases hplt : p < j
              · obtain ⟨g, Ap, cp, e1, hg1, hg2, hcp, hfp, hrp⟩ := (hout.below hbo).mat hplt
                subst e1
                have hcap := hrp.cap (rowL_length _ _)
                obtain ⟨sp, op, e2, hsp1, hsp2, _⟩ := hrp.cell (k := 0) (by omega)
                subst e2
                have hhalf := hrp.half
                have hsn := sq_snoc (X := fun i k => M i (j + k)) hplt
                rw [HDP.out] at hsn
                have HSN := Lib.hid hsn
                have hlen3 : D.length ≤ 1048576 := by rw [← HDP.out, List.length_take, sq_length]; omega
                have h2n : 2 * j - j = j := by omega
                have hwe : (j : Int) ≤ ((2 * j : Nat) : Int) := by omega
                have hwe2 : (j : Int) ≤ 2 * (j : Int) := by omega
                have hwc : (j : Int) ≤ (cp : Int) := by omega
                have hcne : ¬ cp = j := by omega
                have hcpi : (2 : Int) * (j : Int) ≤ (cp : Int) := by omega
                clear hsn hrp hcap
                go_wp2_with (at_builtin; refine Hid.out ?_)
                unfold Hid
                refine app_rowW rfl _ _ rfl w.heap.size _ _ rfl (hov.below ((Below.refl _ _).alloc (Nat.le_refl _) _)) wr.heap.size (.slice (some ⟨sp, op + j, none⟩) j (cp - j)) _ rfl (by simp) (hhalf.below ((Below.refl _ _).alloc (Nat.le_refl _) _)) hlen3 wo.heap.size hsw hob.out (by simp; omega) ?_
                intro v5 w5 hov5 hgrow5 hob5
                rw [← HSN.out] at hov5
                have hb5 := (hbo.alloc (by omega) _).grown hgrow5 (by simp; omega) (fun k e => hob.out k e)
                have HOB := Lib.hid hob5
                clear hov hgrow5 hbo hob hob5 hcp hfp hhalf
                go_wp2
                exact ⟨⟨p + 1, by omega, by go_num, hb5, hov5, HOB.out⟩, by simp [intOf]; omega⟩
              · have hDe : D = sq j fun i k => M i (j + k) := by rw [← HDP.out]; exact List.take_of_length_le (by rw [sq_length]; omega)
                have hR : RRes w (invS m) (.returned (.tuple #[.slice A8 D.length c8, .int .i64 0])) wr := by
                  rw [HSS.out, ← hDe]; exact ⟨_, rfl, fun fb hfb => hov.hdm (by omega), hb.trans (hbo.mono hsw)⟩
                have HR := Lib.hid hR
                clear hDe hR
                go_wp2
                go_ret2
                exact HR.out
  · have HS := Lib.hid hsq
    have hS : invS m = ([], 1) := by unfold invS; rw [if_neg hsq]
    have HIS := Lib.hid hS
    clear hsq hS
    go_enter Tryd.func44, Tryd.ntmps44
    go_wp2_with fail
    refine HSQR.out.mono ?_
    rintro e w' ⟨_, he, rfl⟩
    obtain rfl := he HS.out
    clear he HSQR
    go_wp2
    go_ret2
    exact RRes.no HIS.out rfl (Below.refl _ _)
end Go.Proofs.YtdeopklgdemnfaaDoor
