/- The reference's code, rows and parts. Condition: sizes that a code can have. -/
import Derived.Test.YtdeopklgdemnfaaDoorRsLow
import Derived.Test.YtdeopklgdemnfaaDoorGfRefs
namespace Go.Proofs.YtdeopklgdemnfaaDoor
open Go.RowKit Gf Rs

set_option maxRecDepth 100000 in
theorem rnew_bad (k m : Int) (h : k < 1 ∨ m < 0 ∨ 32 < k ∨ 32 - k < m) (w : World) : Calls Tryd.prog 31 #[.int .i64 k, .int .i64 m] w fun e w' => e = .returned (.tuple #[.agg #[.int .i64 0, .int .i64 0], .int .i64 1]) ∧ Below w.heap.size w w' := by
  by_cases h1 : k < 1
  · go_enter Tryd.func31, Tryd.ntmps31
    go_wp2
    exact bodyPost_ret (v := .tuple #[.agg #[.int .i64 0, .int .i64 0], .int .i64 1]) (by simp [results, Tryd.results31, go_sem]) rfl ⟨rfl, (Below.refl _ _).alloc (Nat.le_refl _) _⟩
  by_cases h2 : m < 0
  · go_enter Tryd.func31, Tryd.ntmps31
    go_wp2
    exact bodyPost_ret (v := .tuple #[.agg #[.int .i64 0, .int .i64 0], .int .i64 1]) (by simp [results, Tryd.results31, go_sem]) rfl ⟨rfl, (Below.refl _ _).alloc (Nat.le_refl _) _⟩
  by_cases h3 : 32 < k
  · go_enter Tryd.func31, Tryd.ntmps31
    go_wp2
    exact bodyPost_ret (v := .tuple #[.agg #[.int .i64 0, .int .i64 0], .int .i64 1]) (by simp [results, Tryd.results31, go_sem]) rfl ⟨rfl, (Below.refl _ _).alloc (Nat.le_refl _) _⟩
  have h4 : 32 - k < m := by omega
  go_enter Tryd.func31, Tryd.ntmps31
  go_wp2
  exact bodyPost_ret (v := .tuple #[.agg #[.int .i64 0, .int .i64 0], .int .i64 1]) (by simp [results, Tryd.results31, go_sem]) rfl ⟨rfl, (Below.refl _ _).alloc (Nat.le_refl _) _⟩
set_option maxRecDepth 100000 in
theorem rnew_good (K M : Nat) (h1 : 1 ≤ K) (h2 : K + M ≤ 32) (w : World) : Calls Tryd.prog 31 #[.int .i64 K, .int .i64 M] w fun e w' => e = .returned (.tuple #[.agg #[.int .i64 K, .int .i64 M], .int .i64 0]) ∧ Below w.heap.size w w' := by
  go_enter Tryd.func31, Tryd.ntmps31
  go_wp2
  exact bodyPost_ret (v := .tuple #[.agg #[.int .i64 K, .int .i64 M], .int .i64 0]) (by simp [results, Tryd.results31, go_sem]) rfl ⟨rfl, (Below.refl _ _).alloc (Nat.le_refl _) _⟩
set_option maxRecDepth 100000 in
theorem rrow_bad (K M : Nat) (hs : K + M ≤ 32) (i : Int) (hi : i < 0 ∨ (K + M : Nat) ≤ i) (w : World) :
    Calls Tryd.prog 35 #[.agg #[.int .i64 K, .int .i64 M], .int .i64 i] w fun e w' => e = .returned (.tuple #[.slice none 0 0, .int .i64 1]) ∧ Below w.heap.size w w' := by
  by_cases h1 : i < 0
  · go_enter Tryd.func35, Tryd.ntmps35
    go_wp2
    go_ret2
    exact ⟨rfl, (Below.refl _ _).alloc (Nat.le_refl _) _⟩
  · have h2 : (K : Int) + (M : Int) ≤ i := by omega
    go_enter Tryd.func35, Tryd.ntmps35
    go_wp2
    go_ret2
    exact ⟨rfl, (Below.refl _ _).alloc (Nat.le_refl _) _⟩
theorem rinv_F (x : F) (w : World) : Calls Tryd.prog 16 #[.int .u8 (x.1 : Int)] w fun e w' => ∃ z, e = .returned (.tuple #[.int .u8 ((finv x).1 : Int), .int .i64 z]) ∧ w = w' :=
  (rinv_any x.1 x.2 w).mono fun _ _ ⟨he, hw⟩ => ⟨_, he, hw⟩
theorem rowF_get {K i j : Nat} (hj : j < K) : (rowF K i)[j]'(by rw [rowF_length]; exact hj) = if i < K then dl i j else finv (ofN (i ^^^ j)) := by
  rw [← gd_eq, rowF_at hj]
theorem rowF_snoc {K i j : Nat} (hj : j < K) : (rowF K i).take (j + 1) = (rowF K i).take j ++ [if i < K then dl i j else finv (ofN (i ^^^ j))] := by
  rw [List.take_succ_eq_append_getElem (by rw [rowF_length]; exact hj), rowF_get hj]
set_option maxRecDepth 100000 in
set_option maxHeartbeats 1600000 in
theorem rrow_good (K M : Nat) (hs : K + M ≤ 32) (i : Nat) (hi : i < K + M) (w : World) :
    Calls Tryd.prog 35 #[.agg #[.int .i64 K, .int .i64 M], .int .i64 i] w fun e w' => ∃ v, e = .returned (.tuple #[v, .int .i64 0]) ∧ OwnB w.heap.size w' v (rowF K i) ∧ Below w.heap.size w w' := by
  have hi2 : (i : Int) < (K : Int) + (M : Int) := by omega
  go_enter Tryd.func35, Tryd.ntmps35
  go_wp2
  go_loopw [6, 7, 8, 9] (fun v j _ _ wr => ∃ p : Nat, p ≤ K ∧ j = .int .i64 p ∧ Below w.heap.size w wr ∧ wr.heap[w.heap.size]? = some (.cells #[.int .i64 K, .int .i64 M] 51 (0, 0)) ∧ wr.ownsRow (w.heap.size + 1) 5 1 v p (((rowF K i).take p).map B)) (fun _ j _ _ _ => K - (intOf j).toNat)
  case atStart => exact ⟨0, by omega, rfl, (Below.refl _ _).alloc (Nat.le_refl _) _, heap_new _ _ _ rfl, World.ownsRow_nil _ _ _ _⟩
  case round =>
    obtain ⟨p, hp, rfl, hb, hcb, hown⟩ := hrel
    have hc0 : wr.cell? ⟨w.heap.size, 0, none⟩ = some (.int .i64 K) := block_cell hcb
    have hlt1 := block_lt hcb
    obtain ⟨A3, c3, rfl⟩ := ownsRow_shape hown
    by_cases hlt : p < K
    · have hsn := rowF_snoc (i := i) hlt
      by_cases hiK : K ≤ i
      · have hiK2 : decide (i < K) = false := by simp; omega
        have hx : i ^^^ p < 256 := xor_lt (by omega) (by omega)
        rw [if_neg (by omega)] at hsn
        have HSN := Lib.hid hsn
        clear hsn
        go_wp2_with fail
        rw [show (bits .xor .i64 (i : Int) (p : Int) % 256) = (((ofN (i ^^^ p)).1 : Nat) : Int) by
          rw [i64_xor_nat i p (by omega) (by omega)]; simp [ofN]]
        refine (rinv_F (ofN (i ^^^ p)) _).mono ?_
        rintro e w5 ⟨z, rfl, rfl⟩
        go_wp2_with (at_builtin; refine Hid.out ?_)
        unfold Hid
        refine app_byte rfl _ _ rfl (w.heap.size + 1) _ _ _ rfl (hown.alloc _) wr.heap.size (finv (ofN (i ^^^ p))) rfl (by simp [B]) (by omega) (by simp; omega) ?_
        intro v1 w1 hown1 hgrow1
        rw [← HSN.out] at hown1
        have hb1 := (hb.alloc (by have := hb.size; omega) _).grown hgrow1 (by simp; omega) (fun k e => by have := (hown.lt k e).1; omega)
        have hcb1 := (hgrow1.block w.heap.size (by simp; omega) (fun e => by have := (hown.lt _ e.symm).1; omega)).trans ((Below.heap_alloc _ _ _ hlt1).trans hcb)
        clear hown hgrow1 hcb hb hc0
        go_wp2
        exact ⟨⟨p + 1, by omega, by go_num, hb1, hcb1, hown1⟩, by simp [intOf]; omega⟩
      · rw [if_pos (by omega)] at hsn
        by_cases hip : i = p
        · have e1 : dl i p = fo := by simp [dl, hip]
          rw [e1] at hsn
          have HSN := Lib.hid hsn
          have hne : ((i : Int) == (p : Int)) = true := by rw [hip]; simp
          clear hsn e1 hip
          go_wp2_with (at_builtin; refine Hid.out ?_)
          unfold Hid
          refine app_byte rfl _ _ rfl (w.heap.size + 1) _ _ _ rfl (hown.alloc _) wr.heap.size fo rfl (by simp [B, fo]) (by omega) (by simp; omega) ?_
          intro v1 w1 hown1 hgrow1
          rw [← HSN.out] at hown1
          have hb1 := (hb.alloc (by have := hb.size; omega) _).grown hgrow1 (by simp; omega) (fun k e => by have := (hown.lt k e).1; omega)
          have hcb1 := (hgrow1.block w.heap.size (by simp; omega) (fun e => by have := (hown.lt _ e.symm).1; omega)).trans ((Below.heap_alloc _ _ _ hlt1).trans hcb)
          clear hown hgrow1 hcb hb hc0
          go_wp2
          exact ⟨⟨p + 1, by omega, by go_num, hb1, hcb1, hown1⟩, by simp [intOf]; omega⟩
        · have e1 : dl i p = fz := by simp [dl, hip]
          rw [e1] at hsn
          have HSN := Lib.hid hsn
          have hne : ((i : Int) == (p : Int)) = false := by simp; omega
          clear hsn e1 hip
          go_wp2_with (at_builtin; refine Hid.out ?_)
          unfold Hid
          refine app_byte rfl _ _ rfl (w.heap.size + 1) _ _ _ rfl (hown.alloc _) wr.heap.size fz rfl (by simp [B, fz]) (by omega) (by simp; omega) ?_
          intro v1 w1 hown1 hgrow1
          rw [← HSN.out] at hown1
          have hb1 := (hb.alloc (by have := hb.size; omega) _).grown hgrow1 (by simp; omega) (fun k e => by have := (hown.lt k e).1; omega)
          have hcb1 := (hgrow1.block w.heap.size (by simp; omega) (fun e => by have := (hown.lt _ e.symm).1; omega)).trans ((Below.heap_alloc _ _ _ hlt1).trans hcb)
          clear hown hgrow1 hcb hb hc0
          go_wp2
          exact ⟨⟨p + 1, by omega, by go_num, hb1, hcb1, hown1⟩, by simp [intOf]; omega⟩
    · have hpK : p = K := by omega
      have hd : OwnB w.heap.size wr (.slice A3 p c3) (rowF K i) := by
        rw [List.take_of_length_le (by rw [rowF_length]; omega)] at hown
        unfold OwnB
        rw [show (rowF K i).length = p by rw [rowF_length]; exact hpK.symm]
        exact own_base hown (Nat.le_succ _)
      have HD := Lib.hid hd
      clear hd hpK
      go_wp2
      go_ret2
      exact ⟨_, rfl, HD.out, hb⟩
theorem rmul_F (x y : F) (w : World) : Calls Tryd.prog 29 #[.int .u8 (x.1 : Int), .int .u8 (y.1 : Int)] w fun e w' => e = .returned (.int .u8 ((fmul x y).1 : Int)) ∧ w' = w :=
  (rmul_nat x.1 y.1 x.2 y.2 w).mono fun _ _ ⟨he, hw⟩ => ⟨he, hw.symm⟩
theorem mixL_snoc {row : List F} {ls : List (List F)} {n p : Nat} (h : p < n) : (mixL row ls n).take (p + 1) = (mixL row ls n).take p ++ [mixAt row ls row.length p] := by
  rw [List.take_succ_eq_append_getElem (by rw [mixL_length]; exact h)]
  simp [mixL]
set_option maxRecDepth 100000 in
set_option maxHeartbeats 1600000 in
theorem part_any (fb fb2 : Nat) (A1 A2 : Option Addr) (c1 c2 : Nat) (row : List F) (parts : List (List F)) (n : Nat) (hn : n ≤ 1048576) (hr : row.length ≤ 64) (hp : row.length ≤ parts.length)
    (hlen : ∀ j, j < row.length → (parts.getD j []).length = n) (w : World) (h1 : RdB fb w A1 row) (h2 : RdM fb2 w A2 parts) :
    Calls Tryd.prog 58 #[.slice A1 row.length c1, .slice A2 parts.length c2, .int .i64 n] w fun e w' =>
      ∃ v, e = .returned v ∧ OwnB w.heap.size w' v (mixL row parts n) ∧ Below w.heap.size w w' := by
  have HLEN := Lib.hid hlen
  clear hlen
  go_enter Tryd.func58, Tryd.ntmps58
  go_wp2
  go_loopw [7, 8, 9, 10] (fun v i _ _ wr => ∃ p : Nat, p ≤ n ∧ i = .int .i64 p ∧ Below w.heap.size w wr ∧ wr.ownsRow w.heap.size 5 1 v p (((mixL row parts n).take p).map B)) (fun _ i _ _ _ => n - (intOf i).toNat)
  case atStart => exact ⟨0, by omega, rfl, Below.refl _ _, World.ownsRow_nil _ _ _ _⟩
  case round =>
    obtain ⟨p, hpn, rfl, hb, hown⟩ := hrel
    obtain ⟨A3, c3, rfl⟩ := ownsRow_shape hown
    by_cases hlt : p < n
    · go_wp2
      go_loopw [9, 10] (fun x i wr => ∃ q : Nat, q ≤ row.length ∧ i = .int .i64 q ∧ x = .int .u8 ((mixAt row parts q p).1 : Int) ∧ Below w.heap.size w wr ∧ wr.ownsRow w.heap.size 5 1 (.slice A3 p c3) p (((mixL row parts n).take p).map B)) (fun _ i _ => row.length - (intOf i).toNat)
      case atStart => exact ⟨0, by omega, rfl, rfl, hb, hown⟩
      case round =>
        clear hb hown
        obtain ⟨q, hq, rfl, rfl, hb, hown⟩ := hrel
        by_cases hlq : q < row.length
        · obtain ⟨b1, o1, rfl, hb1, hc1⟩ := RdB.at (RdB.below h1 hb) hlq
          obtain ⟨b2, o2, A4, c4, rfl, hb2, hc2, hl4, h4⟩ := (h2.below hb).at (i := q) (by omega)
          have hl := HLEN.out q hlq
          have ep : parts.getD q [] = parts[q] := by rw [List.getD_eq_getElem?_getD, List.getElem?_eq_getElem (show q < parts.length by omega)]; rfl
          rw [ep] at hl
          rw [hl] at hc2
          have hlt3 : p < parts[q].length := by omega
          obtain ⟨b3, o3, rfl, hb3, hc3⟩ := RdB.at h4 (i := p) hlt3
          unfold B at hc1 hc3
          have er : row.getD q fz = row[q] := by rw [List.getD_eq_getElem?_getD, List.getElem?_eq_getElem hlq]; rfl
          have e3 : (parts.getD q []).getD p fz = parts[q][p] := by rw [ep, List.getD_eq_getElem?_getD, List.getElem?_eq_getElem hlt3]; rfl
          have hmx : mixAt row parts (q + 1) p = fadd (mixAt row parts q p) (fmul row[q] (parts[q][p]'hlt3)) := by
            unfold mixAt; rw [sm_succ, er, e3]
          have HMX := Lib.hid hmx
          have hqp : (q : Int) < (parts.length : Int) := by omega
          have hqr : (q : Int) < (row.length : Int) := by omega
          have hpn2 : (p : Int) < (n : Int) := by omega
          clear hmx er e3 ep hl
          clear h4
          generalize row[q] = x at *
          generalize parts[q][p] = y at *
          generalize mixAt row parts q p = m at *
          go_wp2
          go_quiet ((go_at_call 29; exact Calls.quiet_of_same (rmul_F _ _ _)))
          rw [u8_xor_nat _ _ m.2 (fmul x y).2]
          clear hc1 hc2 hc3
          go_wp2
          exact ⟨⟨q + 1, by omega, by go_num, by rw [HMX.out]; rfl, below_drewN hb _, hown⟩, by simp [intOf]; omega⟩
        · have hqe : q = row.length := by omega
          have hm : mixAt row parts q p = mixAt row parts row.length p := by rw [hqe]
          have hsn := mixL_snoc (row := row) (ls := parts) hlt
          rw [← hm] at hsn
          have HSN := Lib.hid hsn
          have hsz := hb.size
          clear hsn hm hqe
          generalize mixAt row parts q p = x at *
          go_wp2_with (at_builtin; refine Hid.out ?_)
          unfold Hid
          refine app_byte rfl _ _ rfl w.heap.size _ _ _ rfl (hown.alloc _) wr.heap.size x rfl (by simp [B]) (by omega) (by simp; omega) ?_
          intro v1 w1 hown1 hgrow1
          rw [← HSN.out] at hown1
          have hb1 := (hb.alloc (by have := hb.size; omega) _).grown hgrow1 (by simp; omega) (fun k e => by have := (hown.lt k e).1; omega)
          clear hown hgrow1 hb
          go_wp2
          exact ⟨⟨p + 1, by omega, by go_num, hb1, hown1⟩, by simp [intOf]; omega⟩
    · have hpn' : p = n := by omega
      have hd : OwnB w.heap.size wr (.slice A3 p c3) (mixL row parts n) := by
        rw [List.take_of_length_le (by rw [mixL_length]; omega)] at hown
        unfold OwnB
        rw [show (mixL row parts n).length = p by rw [mixL_length]; exact hpn'.symm]
        exact hown
      have HD := Lib.hid hd
      clear hd hpn'
      go_wp2
      go_ret
      exact ⟨_, rfl, HD.out, hb⟩
end Go.Proofs.YtdeopklgdemnfaaDoor
