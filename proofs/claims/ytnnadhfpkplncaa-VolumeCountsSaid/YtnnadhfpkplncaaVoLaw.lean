/- 'VolumeCounts': how often numbers stand somewhere is, together, how many places of all volumes have one; what went by a put is what stood there. Condition: the acts read. -/
import Derived.Test.YtnnadhfpkplncaaVoSure
import Derived.Deep.QuietTactic
import Derived.BigQuiet
namespace Go.Proofs.Ytnnadhfpkplncaa
open Go.RowKit

/-- The set at the head of a round. -/
def SetAt (W wr : World) (s : Option Addr) : Prop := Below W.heap.size W wr ∧ ∃ l, RdS wr s l ∧ Good l
theorem SetAt.cl {W w w' : World} {s : Option Addr} (h : SetAt W w s) (k : Below w.heap.size w w') : SetAt W w' s := by
  obtain ⟨a, l, b, c⟩ := h
  exact ⟨a.trans (k.mono a.size), l, b.below k, c⟩
theorem gone_prefix (f : Nat → Int) (z : Int) (n : Nat) : ∀ j, j ≤ n → ∃ r, goneN f z n = goneN f z j ++ r := fun j hj => by
  induction n with
  | zero =>
    obtain rfl : j = 0 := by omega
    exact ⟨[], by simp⟩
  | succ n ih =>
    rcases Nat.lt_or_ge n j with h | h
    · obtain rfl : j = n + 1 := by omega
      exact ⟨[], by simp⟩
    · obtain ⟨r, hr⟩ := ih h
      by_cases h0 : getF f (z + (n : Int)) = 0
      · exact ⟨r, by rw [gone_no h0, hr]⟩
      · exact ⟨r ++ [getF f (z + (n : Int))], by rw [gone_yes h0, hr, List.append_assoc]⟩
theorem getN_at (f : Nat → Int) (z : Int) {n j : Nat} (h : j < n) : (getN f z n)[j]? = some (getF f (z + (j : Int))) := by
  unfold getN
  rw [List.getElem?_map, List.getElem?_range h]
  rfl
theorem gone_at {f : Nat → Int} {z : Int} {n j : Nat} (h : j < n) (h0 : getF f (z + (j : Int)) ≠ 0) : (goneN f z n)[(goneN f z j).length]? = some (getF f (z + (j : Int))) ∧ (goneN f z j).length < (goneN f z n).length := by
  obtain ⟨r, hr⟩ := gone_prefix f z n (j + 1) h
  rw [hr, gone_yes h0, List.append_assoc]
  refine ⟨by rw [List.getElem?_append_right (Nat.le_refl _), Nat.sub_self]; rfl, by simp⟩
/-- Behind a put: what stood there, what went, both sets. -/
structure PutL (W w : World) (s s' : Option Addr) (A B : Option Addr) (xs ys : List Int) : Prop where
  s0 : SetAt W w s
  s1 : SetAt W w s'
  ra : RdA w A (zs xs)
  rb : RdA w B (zs ys)
theorem PutL.cl {W w w' : World} {s s' A B : Option Addr} {xs ys : List Int} (h : PutL W w s s' A B xs ys) (k : Below w.heap.size w w') : PutL W w' s s' A B xs ys := ⟨h.s0.cl k, h.s1.cl k, h.ra.below k, h.rb.below k⟩
/-- How a step of the switch ends. -/
def SwEnd (W w : World) (s : Option Addr) (X E : Value) : Prop := SetAt W w s ∧ ((E = .nilIface ∧ ∃ s', X = .pointer s' ∧ SetAt W w s') ∨ ∃ k : Int, E = .iface 93 (.int .i64 k))
/-- The names' loop. -/
structure NmAt (W w : World) (s : Option Addr) (l : List Vol) (A : Option Addr) : Prop where
  set : RdS w s l
  low : Below W.heap.size W w
  nms : RdA w A (nmsV l)
theorem NmAt.cl {W w w' : World} {s : Option Addr} {l : List Vol} {A : Option Addr} (h : NmAt W w s l A) (k : Below w.heap.size w w') : NmAt W w' s l A := ⟨h.set.below k, h.low.trans (k.mono h.low.size), h.nms.below k⟩
set_option maxRecDepth 100000 in
set_option maxHeartbeats 25600000 in
theorem vcounts_walk (v : Value) (W : World) (hin : ActsV W v) : Calls Try.prog 8 #[v] W (BoolPost true W) := by
  obtain ⟨B, c, l, rfl, hlc, hll, hrd, hok⟩ := hin
  have HRD := Lib.hid hrd
  have HOK := Lib.hid hok
  obtain ⟨k0, hk0⟩ : ∃ k0, k0 = l.length := ⟨_, rfl⟩
  rw [← hk0] at hlc hll ⊢
  have HN := Lib.hid hk0
  clear hrd hok hk0
  have HS0 := Lib.hid (show SetAt W W none from ⟨Below.refl _ _, [], ⟨fun x hx => (by cases hx), Or.inl ⟨rfl, rfl⟩⟩, good_nil⟩)
  go_enter Try.func8, Try.ntmps8
  go_upto_region 3 with fail
  go_loopg [4, 3] 30 (fun gg i sv wr => ∃ (k : Nat) (s : Option Addr), k ≤ k0 ∧ k ≤ 30 ∧ gg = 30 - k ∧ i = .int .i64 k ∧ sv = .pointer s ∧ Hid (SetAt W wr s))
  case atStart => exact ⟨0, none, by omega, by omega, rfl, rfl, rfl, HS0.out⟩
  case round =>
    obtain ⟨k, s, hk, hk30, hgk, rfl, rfl, HS⟩ := hrel
    clear HS0
    by_cases hgo : k < k0 ∧ k < 30
    · obtain ⟨h1, h2⟩ := hgo
      have hki : (k : Int) < (k0 : Int) := by omega
      have hki2 : (k : Int) < 30 := by omega
      have hkw : IntKind.i64.wrap ((k : Int) + 1) = (k : Int) + 1 := IntWalk.i64_in _ (by omega)
      obtain ⟨x, hx⟩ : ∃ x, l[k]? = some x := ⟨_, List.getElem?_eq_getElem (by rw [← HN.out]; omega)⟩
      have HOX := Lib.hid (HOK.out x (List.mem_of_getElem? hx))
      obtain ⟨b, o, rfl, c0, c1, c2, c3, c4, c5⟩ := av_at (HRD.out.below HS.out.1) hx
      obtain ⟨kd, xa, xb, nm, fm, LA, Lc, ys⟩ := x
      dsimp only at c0 c1 c2 c3 c4 c5
      clear hx
      obtain ⟨w1, hw1⟩ : ∃ w1, w1 = wr.alloc (.cells #[.int .i64 kd, .int .i64 xa, .int .i64 xb, .string ⟨nm.toArray⟩, .string ⟨fm.toArray⟩, .slice LA ys.length Lc] 51) := ⟨_, rfl⟩
      obtain ⟨p, hp⟩ : ∃ p, p = wr.heap.size := ⟨_, rfl⟩
      have hb1 : Below wr.heap.size wr w1 := by rw [hw1]; exact (Below.refl _ _).alloc (Nat.le_refl _) _
      have hx1 : w1.heap[p]? = some (.cells #[.int .i64 kd, .int .i64 xa, .int .i64 xb, .string ⟨nm.toArray⟩, .string ⟨fm.toArray⟩, .slice LA ys.length Lc] 51 (0, 0)) := by rw [hw1, hp]; exact alloc_new _ _
      have HP := Lib.hid hx1
      have HS1 := Lib.hid (HS.out.cl hb1)
      obtain ⟨n, hn⟩ : ∃ n, n = ys.length := ⟨_, rfl⟩
      have HYN := Lib.hid hn
      have hyl : n ≤ 140737488355328 := by rw [hn]; exact HOX.out.len
      have d0 : w1.cell? ⟨p, 0, none⟩ = some (.int .i64 kd) := block_cell hx1
      have d5 : w1.cell? ⟨p, 5, none⟩ = some (.slice LA ys.length Lc) := block_cell hx1
      rw [← hn] at d5 c5 hw1
      clear hb1 hx1 hn
      go_upto_region 6 with fail
      rw [← hw1, ← hp]
      clear hw1 hp c0 c1 c2 c3 c4 c5 HS
      by_cases h50 : 50 < n
      · have h50i : (50 : Int) < (n : Int) := by omega
        go_wp2_with fail
        go_roundg (30 - (k + 1))
        case measure => omega
        case rel => exact ⟨k + 1, s, by omega, by omega, rfl, by congr 1, rfl, HS1.out⟩
      · have h50i : ¬ (50 : Int) < (n : Int) := by omega
        go_upto_region 23 with fail
        obtain ⟨R, hR⟩ : ∃ R, R = wrap64 ((IntKind.u64.wrap kd).tmod 9) := ⟨_, rfl⟩
        rw [← hR]
        clear hR d0
        rename_i KT hT KC hC
        have HT : ∀ (t2 t8 t9 t10 t11 t12 t13 t14 t15 t16 t17 t18 t19 t20 t21 t22 t23 t24 t25 t26 t27 t28 t29 t30 t31 t32 t33 t34 t35 t36 t37 t38 t39 t40 t41 t42 t43 t44 t45 t46 t47 t48 t49 t50 t51 t52 t53 t54 t55 t56 t57 t58 t59 t60 t61 t62 t63 t64 t65 t66 t67 t68 t69 t70 t71 t72 t73 t74 t75 t76 t77 t78 t79 t80 t81 t82 t83 t84 t85 t86 t87 t88 t89 t90 t91 t92 t93 t94 t95 t96 t97 t98 t99 t100 t101 t102 t103 t104 t105 t106 t107 t108 t109 t110 t111 t112 t113 t114 t115 t116 t117 t118 t119 t120 t121 t122 t123 t124 t125 t126 t127 t128 t129 t130 t131 t132 t133 t134 t135 t136 t137 t138 t139 t140 t141 t142 t143 t144 t145 t146 t147 t148 t149 t150 t151 t152 t153 t154 t155 t156 t157 t158 t159 t160 t161 t162 t163 t164 t165 t166 t167 t168 t169 t170 t171 t172 t173 t174 t175 t176 t177 t178 t179 t180 t181 t182 t183 t184 t185 t186 t187 t188 t189 t190 t191 t192 t193 t194 t195 t196 t197 X E : Value) (w' : World), SwEnd W w' s X E → KT { tmps := List.toArray (.slice (some ⟨b, o, none⟩) k0 c :: undef :: t2 :: .pointer s :: .int .i64 k :: .pointer (some ⟨p, 0, none⟩) :: X :: E :: t8 :: t9 :: t10 :: t11 :: t12 :: t13 :: t14 :: t15 :: t16 :: t17 :: t18 :: t19 :: t20 :: t21 :: t22 :: t23 :: t24 :: t25 :: t26 :: t27 :: t28 :: t29 :: t30 :: t31 :: t32 :: t33 :: t34 :: t35 :: t36 :: t37 :: t38 :: t39 :: t40 :: t41 :: t42 :: t43 :: t44 :: t45 :: t46 :: t47 :: t48 :: t49 :: t50 :: t51 :: t52 :: t53 :: t54 :: t55 :: t56 :: t57 :: t58 :: t59 :: t60 :: t61 :: t62 :: t63 :: t64 :: t65 :: t66 :: t67 :: t68 :: t69 :: t70 :: t71 :: t72 :: t73 :: t74 :: t75 :: t76 :: t77 :: t78 :: t79 :: t80 :: t81 :: t82 :: t83 :: t84 :: t85 :: t86 :: t87 :: t88 :: t89 :: t90 :: t91 :: t92 :: t93 :: t94 :: t95 :: t96 :: t97 :: t98 :: t99 :: t100 :: t101 :: t102 :: t103 :: t104 :: t105 :: t106 :: t107 :: t108 :: t109 :: t110 :: t111 :: t112 :: t113 :: t114 :: t115 :: t116 :: t117 :: t118 :: t119 :: t120 :: t121 :: t122 :: t123 :: t124 :: t125 :: t126 :: t127 :: t128 :: t129 :: t130 :: t131 :: t132 :: t133 :: t134 :: t135 :: t136 :: t137 :: t138 :: t139 :: t140 :: t141 :: t142 :: t143 :: t144 :: t145 :: t146 :: t147 :: t148 :: t149 :: t150 :: t151 :: t152 :: t153 :: t154 :: t155 :: t156 :: t157 :: t158 :: t159 :: t160 :: t161 :: t162 :: t163 :: t164 :: t165 :: t166 :: t167 :: t168 :: t169 :: t170 :: t171 :: t172 :: t173 :: t174 :: t175 :: t176 :: t177 :: t178 :: t179 :: t180 :: t181 :: t182 :: t183 :: t184 :: t185 :: t186 :: t187 :: t188 :: t189 :: t190 :: t191 :: t192 :: t193 :: t194 :: t195 :: t196 :: t197 :: undef :: ([] : List Value)), defers := [] } w' := by
          clear hC d5
          intro t2 t8 t9 t10 t11 t12 t13 t14 t15 t16 t17 t18 t19 t20 t21 t22 t23 t24 t25 t26 t27 t28 t29 t30 t31 t32 t33 t34 t35 t36 t37 t38 t39 t40 t41 t42 t43 t44 t45 t46 t47 t48 t49 t50 t51 t52 t53 t54 t55 t56 t57 t58 t59 t60 t61 t62 t63 t64 t65 t66 t67 t68 t69 t70 t71 t72 t73 t74 t75 t76 t77 t78 t79 t80 t81 t82 t83 t84 t85 t86 t87 t88 t89 t90 t91 t92 t93 t94 t95 t96 t97 t98 t99 t100 t101 t102 t103 t104 t105 t106 t107 t108 t109 t110 t111 t112 t113 t114 t115 t116 t117 t118 t119 t120 t121 t122 t123 t124 t125 t126 t127 t128 t129 t130 t131 t132 t133 t134 t135 t136 t137 t138 t139 t140 t141 t142 t143 t144 t145 t146 t147 t148 t149 t150 t151 t152 t153 t154 t155 t156 t157 t158 t159 t160 t161 t162 t163 t164 t165 t166 t167 t168 t169 t170 t171 t172 t173 t174 t175 t176 t177 t178 t179 t180 t181 t182 t183 t184 t185 t186 t187 t188 t189 t190 t191 t192 t193 t194 t195 t196 t197 X E wx hsw
          have HSW := Lib.hid hsw
          clear hsw
          refine hT _ _ ?_
          clear hT
          go_step
          go_cut [3] from 22 to 197 (fun v w' => ∃ s', v = .pointer s' ∧ Hid (SetAt W w' s'))
          case first =>
            obtain ⟨hs0, ⟨rfl, s', rfl, hs'⟩ | ⟨kk, rfl⟩⟩ := HSW.out
            · have HSS := Lib.hid hs'
              clear hs0 hs'
              go_wp2_with fail
              go_meet
              case rel => exact ⟨s', rfl, HSS.out⟩
            · have HSS := Lib.hid hs0
              clear hs0
              go_wp2_with fail
              go_meet
              case rel => exact ⟨s, rfl, HSS.out⟩
          case rest =>
            obtain ⟨s', rfl, HSS⟩ := hcut
            clear HSW
            obtain ⟨w2, hw2⟩ : ∃ w2, w2 = wc := ⟨_, rfl⟩
            rw [← hw2] at HSS ⊢
            clear hw2
            obtain ⟨hlow, ll, hrs, hgood⟩ := HSS.out
            have HLOW := Lib.hid hlow
            have HRS := Lib.hid hrs
            have HGD := Lib.hid hgood
            have HCO := Lib.hid (counts_any s' ll w2 hrs hgood.few (fun z hz => (hgood.ok z hz).num))
            clear hlow hrs hgood HSS
            go_wp2_with fail
            refine HCO.out.mono ?_
            rintro e w3 ⟨A3, B3, c3, d3, K, rfl, hK, _, hrB, hb3⟩
            have HK := Lib.hid hK
            have HRB := Lib.hid hrB
            have HLOW3 := Lib.hid (HLOW.out.trans (hb3.mono HLOW.out.size))
            have HRS3 := Lib.hid (HRS.out.below hb3)
            obtain ⟨N, hN⟩ : ∃ N, N = K.length := ⟨_, rfl⟩
            rw [← hN]
            have HNK := Lib.hid hN
            have hall : (allN ll).length ≤ 262144 := by
              have h1 := allN_le ll
              have h2 := HGD.out.few
              omega
            have hKl : N ≤ 262144 := by
              rw [hN]
              have h1 := sum_count hK.1 (allN ll) (fun y hy => (hK.2.1 y).2 ⟨all_wf HGD.out.ok y hy, hy⟩)
              have h2 : K.length ≤ (K.map fun i => (allN ll).count i).sum := by
                have : ∀ (M : List Int), (∀ i ∈ M, i ∈ allN ll) → M.length ≤ (M.map fun i => (allN ll).count i).sum := fun M hM => by
                  induction M with
                  | nil => simp
                  | cons a M ih =>
                    have h3 := ih (fun i hi => hM i (List.mem_cons_of_mem _ hi))
                    have h4 : 1 ≤ (allN ll).count a := List.count_pos_iff.2 (hM a List.mem_cons_self)
                    rw [List.map_cons, List.sum_cons, List.length_cons]
                    omega
                exact this K (fun i hi => ((hK.2.1 i).1 hi).2)
              omega
            clear hK hrB hb3 hN HCO HRS HLOW
            go_upto_region 35 with fail
            go_loopg [17, 15] N (fun gg i v wq => ∃ j : Nat, j ≤ N ∧ gg = N - j ∧ i = .int .i64 j ∧ v = .int .i64 (cntS (allN ll) K j) ∧ Hid (wq = w3))
            case atStart => exact ⟨0, by omega, by omega, rfl, rfl, rfl⟩
            case round =>
              obtain ⟨j, hj, hgj, rfl, rfl, HW⟩ := hrel
              obtain rfl := HW.out
              by_cases hjl : j < N
              · have hji : (j : Int) < (N : Int) := by omega
                have hwj : IntKind.i64.wrap ((j : Int) + 1) = (j : Int) + 1 := IntWalk.i64_in _ (by omega)
                obtain ⟨y, hy⟩ : ∃ y, K[j]? = some y := ⟨_, List.getElem?_eq_getElem (by rw [← HNK.out]; omega)⟩
                obtain ⟨C, hC⟩ : ∃ C, C = (((allN ll).count y : Nat) : Int) := ⟨_, rfl⟩
                obtain ⟨U, hU⟩ : ∃ U, U = cntS (allN ll) K j := ⟨_, rfl⟩
                have hnear := cntS_near (allN ll) K j
                have hmul : (j : Int) * ((allN ll).length : Int) ≤ 262144 * 262144 := Int.mul_le_mul (by omega) (by omega) (by omega) (by omega)
                have hCl : (allN ll).count y ≤ (allN ll).length := List.count_le_length
                obtain ⟨b5, o5, rfl, g0⟩ := HRB.out j (.int .i64 C) (by
                  unfold zs
                  rw [List.getElem?_map, List.getElem?_map, hy, hC]; rfl)
                have HNX := Lib.hid (show cntS (allN ll) K (j + 1) = U + C by rw [cntS_succ hy, hU, hC])
                rw [← hU] at hnear ⊢
                have hw6 : IntKind.i64.wrap (U + C) = U + C := IntWalk.i64_in _ (by omega)
                clear hy hC hU hnear hmul hCl
                go_wp2_with fail
                go_roundg (N - (j + 1))
                case measure => omega
                case rel => exact ⟨j + 1, by omega, rfl, by congr 1, by rw [HNX.out], rfl⟩
              · have hje : j = N := by omega
                subst hje
                have hji : ¬ (j : Int) < (j : Int) := by omega
                obtain ⟨U, hU⟩ : ∃ U, U = cntS (allN ll) K j := ⟨_, rfl⟩
                have HUU := Lib.hid (show U = usedL ll by rw [hU, HNK.out]; exact cnt_all HGD.out HK.out)
                rw [← hU]
                have HNA := Lib.hid (vnames_any s' ll wr HRS3.out (by have := HGD.out.few; omega))
                clear hU hjl HRB HK HW
                go_wp2_with fail
                refine HNA.out.mono ?_
                rintro e w7 ⟨A7, c7, rfl, hr7, hb7⟩
                have HNM := Lib.hid (show NmAt W w7 s' ll A7 from ⟨HRS3.out.below hb7, HLOW3.out.trans (hb7.mono HLOW3.out.size), hr7⟩)
                obtain ⟨M, hM⟩ : ∃ M, M = ll.length := ⟨_, rfl⟩
                rw [← hM]
                have HMM := Lib.hid hM
                have hM64 : M ≤ 64 := by rw [hM]; exact HGD.out.few
                clear hr7 hb7 hM HNA HRS3 HLOW3
                go_upto_region 40 with fail
                go_loopg [19, 16] M (fun gg i v wq => ∃ j : Nat, j ≤ M ∧ gg = M - j ∧ i = .int .i64 j ∧ v = .int .i64 (useS ll j) ∧ Hid (NmAt W wq s' ll A7))
                case atStart => exact ⟨0, by omega, by omega, rfl, rfl, HNM.out⟩
                case round =>
                  obtain ⟨q, hq, hgq, rfl, rfl, HQ⟩ := hrel
                  clear HNM
                  by_cases hql : q < M
                  · have hqi : (q : Int) < (M : Int) := by omega
                    have hwq : IntKind.i64.wrap ((q : Int) + 1) = (q : Int) + 1 := IntWalk.i64_in _ (by omega)
                    obtain ⟨x, hx⟩ : ∃ x, ll[q]? = some x := ⟨_, List.getElem?_eq_getElem (by rw [← HMM.out]; omega)⟩
                    obtain ⟨b6, o6, rfl, g0⟩ := HQ.out.nms q (.string ⟨x.name.toArray⟩) (by unfold nmsV; rw [List.getElem?_map, hx]; rfl)
                    have HIN := Lib.hid (info_any s' ll x.name wr HQ.out.set HGD.out.up (by have := HGD.out.few; omega))
                    obtain ⟨V, hV⟩ : ∃ V, V = useS ll q := ⟨_, rfl⟩
                    have hnear := useS_near HGD.out q
                    have hle := (HGD.out.ok x (List.mem_of_getElem? hx)).le
                    have HNX := Lib.hid (show useS ll (q + 1) = V + x.used by rw [useS_succ hx, hV])
                    have HX := Lib.hid hx
                    rw [← hV] at hnear ⊢
                    have hw6 : IntKind.i64.wrap (V + x.used) = V + x.used := IntWalk.i64_in _ (by omega)
                    have hub : ¬ x.blocks < x.used := by omega
                    clear hV hnear hx hle
                    go_wp2_with fail
                    refine HIN.out.mono ?_
                    rintro e w9 ⟨hb9, ⟨i9, x9, hx9, hxn9, _, rfl⟩ | ⟨hno, rfl⟩⟩
                    rotate_left
                    · exact absurd rfl (hno x (List.mem_of_getElem? HX.out))
                    have hxe : x9 = x := up_one HGD.out.up (List.mem_of_getElem? hx9) (List.mem_of_getElem? HX.out) hxn9
                    subst hxe
                    have HQ9 := Lib.hid ((HQ.out.cl hb9).cl ((Below.refl w9.heap.size w9).alloc (Nat.le_refl _) (.cells #[.string ⟨x9.name.toArray⟩, .int .i64 x9.blocks, .int .i64 x9.quota, .int .i64 x9.used, .bool x9.frozen] 66)))
                    clear hb9 hx9 hxn9 HIN g0
                    go_wp2_with fail
                    go_roundg (M - (q + 1))
                    case measure => omega
                    case rel => exact ⟨q + 1, by omega, rfl, by congr 1, by rw [HNX.out], HQ9.out⟩
                  · have hqe : q = M := by omega
                    subst hqe
                    have hqi : ¬ (q : Int) < (q : Int) := by omega
                    have hUV : useS ll q = U := by
                      rw [HUU.out, HMM.out]
                      unfold useS usedL
                      rw [List.take_of_length_le (Nat.le_refl _)]
                    rw [hUV]
                    have HFS := Lib.hid (show SetAt W wr s' from ⟨HQ.out.low, ll, HQ.out.set, HGD.out⟩)
                    clear hUV hql HQ
                    go_wp2_with fail
                    go_roundg (30 - (k + 1))
                    case measure => omega
                    case rel => exact ⟨k + 1, s', by omega, by omega, rfl, by congr 1, rfl, HFS.out⟩
        have HTT := Lib.hid HT
        clear HT hT
        have d1 : w1.cell? ⟨p, 1, none⟩ = some (.int .i64 xa) := block_cell HP.out
        have d2 : w1.cell? ⟨p, 2, none⟩ = some (.int .i64 xb) := block_cell HP.out
        have d3 : w1.cell? ⟨p, 3, none⟩ = some (.string ⟨nm.toArray⟩) := block_cell HP.out
        have d4 : w1.cell? ⟨p, 4, none⟩ = some (.string ⟨fm.toArray⟩) := block_cell HP.out
        obtain ⟨hlow, ll, hrs, hgood⟩ := HS1.out
        have HLOW := Lib.hid hlow
        have HRS := Lib.hid hrs
        have HGD := Lib.hid hgood
        have hl9 : ll.length ≤ 900 := by have := hgood.few; omega
        clear hlow hrs hgood
        by_cases hR0 : R = 0
        · subst hR0
          have HM := Lib.hid (vmake_any s ll nm xa xb w1 HRS.out HGD.out.up hl9)
          go_wp2_with fail
          refine HM.out.mono ?_
          rintro e w2 ⟨hb2, ⟨⟨kk, rfl⟩, _⟩ | ⟨hov, i, b2, hc, hh, h64, rfl, hs2⟩⟩
          · have HE := Lib.hid (show SwEnd W w2 s (.pointer none) (.iface 93 (.int .i64 kk)) from ⟨HS1.out.cl hb2, Or.inr ⟨kk, rfl⟩⟩)
            clear hb2 HM d1 d2 d3 d4 d5
            go_wp2_with fail
            apply HTT.out
            exact HE.out
          · have HE := Lib.hid (show SwEnd W w2 s (.pointer (some ⟨b2, 0, none⟩)) .nilIface from ⟨HS1.out.cl hb2, Or.inl ⟨rfl, _, rfl, HLOW.out.trans (hb2.mono HLOW.out.size), _, hs2, good_put HGD.out (v := mkV nm xa xb) hc (ok_mk hov) (Or.inr h64)⟩⟩)
            clear hb2 hs2 hc hh h64 hov HM d1 d2 d3 d4 d5
            go_wp2_with fail
            apply HTT.out
            exact HE.out
        · have hn0 : (R == 0) = false := by simpa using hR0
          by_cases hR1 : R = 1
          · subst hR1
            have HM := Lib.hid (vdel_any s ll nm w1 HRS.out HGD.out.up hl9)
            go_wp2_with fail
            refine HM.out.mono ?_
            rintro e w2 ⟨hb2, ⟨kk, rfl⟩ | ⟨i, s2, u2', hi, rfl, hs2⟩⟩
            · have HE := Lib.hid (show SwEnd W w2 s (.pointer none) (.iface 93 (.int .i64 kk)) from ⟨HS1.out.cl hb2, Or.inr ⟨kk, rfl⟩⟩)
              clear hb2 HM d1 d2 d3 d4 d5
              go_wp2_with fail
              apply HTT.out
              exact HE.out
            · have HE := Lib.hid (show SwEnd W w2 s (.pointer s2) .nilIface from ⟨HS1.out.cl hb2, Or.inl ⟨rfl, _, rfl, HLOW.out.trans (hb2.mono HLOW.out.size), _, hs2, good_del HGD.out i⟩⟩)
              clear hb2 hs2 hi HM d1 d2 d3 d4 d5
              go_wp2_with fail
              apply HTT.out
              exact HE.out
          · have hn1 : (R == 1) = false := by simpa using hR1
            by_cases hR23 : R = 2 ∨ R = 3
            · have HM := Lib.hid (vcopy_any s ll fm nm false w1 HRS.out HGD.out.up hl9)
              rcases hR23 with rfl | rfl
              all_goals
                go_wp2_with fail
                refine HM.out.mono ?_
                rintro e w2 ⟨hb2, ⟨⟨kk, rfl⟩, _⟩ | ⟨x, i, b2, u2', hx, _, hc, hh, h64, rfl, hs2⟩⟩
                · have HE := Lib.hid (show SwEnd W w2 s (.pointer none) (.iface 93 (.int .i64 kk)) from ⟨HS1.out.cl hb2, Or.inr ⟨kk, rfl⟩⟩)
                  clear hb2 HM d1 d2 d3 d4 d5
                  go_wp2_with fail
                  apply HTT.out
                  exact HE.out
                · have HE := Lib.hid (show SwEnd W w2 s (.pointer (some ⟨b2, 0, none⟩)) .nilIface from ⟨HS1.out.cl hb2, Or.inl ⟨rfl, _, rfl, HLOW.out.trans (hb2.mono HLOW.out.size), _, hs2, good_put HGD.out (v := cpV x nm false) hc (ok_cp (HGD.out.ok x hx) _ _) (Or.inr h64)⟩⟩)
                  clear hb2 hs2 hc hh h64 hx HM d1 d2 d3 d4 d5
                  go_wp2_with fail
                  apply HTT.out
                  exact HE.out
            · have hn2 : (R == 2) = false := by simp; omega
              have hn3 : (R == 3) = false := by simp; omega
              clear hR23 hR0 hR1
              have HGT := Lib.hid (gets_any s ll nm xa (n : Int) w1 HRS.out HGD.out.up hl9 (fun y hy => ⟨(HGD.out.bnd y hy).1, (HGD.out.bnd y hy).2.1⟩))
              go_wp2_with fail
              refine HGT.out.mono ?_
              rintro e w2 ⟨hb2, hpost⟩
              obtain ⟨wv, E, he, hE⟩ : ∃ (wv E : Value), e = .returned (.tuple #[wv, E]) ∧ ((E = .nilIface ∧ ∃ i x A c, ll[i]? = some x ∧ x.name = nm ∧ inR x xa n ∧ wv = .slice A n c ∧ RdA w2 A (zs (getN x.f xa n))) ∨ ((∃ kk : Int, E = .iface 93 (.int .i64 kk)) ∧ wv = .slice none 0 0 ∧ ∀ x ∈ ll, x.name = nm → ¬ inR x xa n)) := by
                rcases hpost with ⟨i, x, A, c, N, hx, hxt, _, hin, hN, rfl, hr⟩ | ⟨kk, rfl, hno⟩
                · obtain rfl : n = N := by omega
                  exact ⟨_, _, rfl, Or.inl ⟨rfl, i, x, A, c, hx, hxt, hin, rfl, hr⟩⟩
                · exact ⟨_, _, rfl, Or.inr ⟨⟨kk, rfl⟩, rfl, hno⟩⟩
              subst he
              have HE := Lib.hid hE
              have e0 := (hb2.block _ (block_lt HP.out)).trans HP.out
              have HS2 := Lib.hid (HS1.out.cl hb2)
              have HRS2 := Lib.hid (HRS.out.below hb2)
              have HLOW2 := Lib.hid (HLOW.out.trans (hb2.mono HLOW.out.size))
              have f1 : w2.cell? ⟨p, 1, none⟩ = some (.int .i64 xa) := block_cell e0
              have f3 : w2.cell? ⟨p, 3, none⟩ = some (.string ⟨nm.toArray⟩) := block_cell e0
              have f5 : w2.cell? ⟨p, 5, none⟩ = some (.slice LA ys.length Lc) := block_cell e0
              rw [← HYN.out] at f5
              have HPT := Lib.hid (vput_any s ll nm xa ys LA Lc w2 HRS2.out HGD.out.up hl9 HGD.out.bnd (HOX.out.rd.below HLOW2.out) HOX.out.len)
              rw [← HYN.out] at HPT
              clear hpost hE hb2 e0 d1 d2 d3 d4 d5 HGT
              go_upto_region 11 with fail
              go_wp2_with fail
              refine HPT.out.mono ?_
              rintro e w3 ⟨hb3, ⟨⟨kk, rfl⟩, _⟩ | ⟨hnb, i, x, b4, A4, B4, c4, hx, hxt, hc, hin, rfl, hrB, hs3⟩⟩
              · have HE3 := Lib.hid (show SwEnd W w3 s (.pointer none) (.iface 93 (.int .i64 kk)) from ⟨HS2.out.cl hb3, Or.inr ⟨kk, rfl⟩⟩)
                obtain ⟨wA, wn, wc', hwv⟩ : ∃ wA wn wc', wv = .slice wA wn wc' := by
                  rcases HE.out with ⟨_, _, _, A, c, _, _, _, rfl, _⟩ | ⟨_, rfl, _⟩
                  · exact ⟨_, _, _, rfl⟩
                  · exact ⟨_, _, _, rfl⟩
                subst hwv
                clear hb3 HPT f1 f3 f5 HE
                go_upto_region 15 with fail
                go_loopg [12] 1 (fun gg jv wq => gg = 1 ∧ jv = .int .i64 0 ∧ Hid (wq = w3))
                case atStart => exact ⟨rfl, rfl, rfl⟩
                case round =>
                  obtain ⟨rfl, rfl, HWQ⟩ := hrel
                  obtain rfl := HWQ.out
                  by_cases hw0 : (0 : Int) < (wn : Int)
                  · go_wp2_with fail
                    apply HTT.out
                    exact HE3.out
                  · go_wp2_with fail
                    apply HTT.out
                    exact HE3.out
              · obtain ⟨E2, wA, wc', hEn, hwv, hrA⟩ : ∃ (E2 : E = .nilIface) (wA : Option Addr) (wc' : Nat), True ∧ wv = .slice wA n wc' ∧ RdA w2 wA (zs (getN x.f xa n)) := by
                  rcases HE.out with ⟨h1, _, y, A, c, hy, hyt, _, rfl, hr⟩ | ⟨_, _, hno⟩
                  · have hyx : y = x := up_one HGD.out.up (List.mem_of_getElem? hy) (List.mem_of_getElem? hx) (hyt.trans hxt.symm)
                    subst hyx
                    exact ⟨h1, A, c, trivial, rfl, hr⟩
                  · exact absurd (by rw [HYN.out]; exact hin) (hno x (List.mem_of_getElem? hx) hxt)
                subst E2
                subst hwv
                have HPL := Lib.hid (show PutL W w3 s (some ⟨b4, 0, none⟩) wA B4 (getN x.f xa n) (goneN x.f xa n) from
                  ⟨HS2.out.cl hb3, ⟨HLOW2.out.trans (hb3.mono HLOW2.out.size), _, hs3, good_put HGD.out (v := putX x xa ys A4) (by show Cut ll x.name i; rw [hxt]; exact hc) (ok_put (HGD.out.ok x (List.mem_of_getElem? hx)) hin hnb A4) (Or.inl (by show hasAt ll i x.name = true; unfold hasAt; rw [hx]; simp))⟩,
                  hrA.below hb3, by rw [HYN.out]; exact hrB⟩)
                obtain ⟨G, hG⟩ : ∃ G, G = (goneN x.f xa n).length := ⟨_, rfl⟩
                rw [← HYN.out, ← hG]
                have HGG := Lib.hid hG
                have hGn : G ≤ n := by rw [hG]; exact gone_len x.f xa n
                clear hb3 HPT f1 f3 f5 HE hEn hrA hnb hx hxt hc hin hrB hs3 hG
                go_upto_region 15 with fail
                go_loopg [12, 11] n (fun gg jv kv wq => ∃ j : Nat, j ≤ n ∧ gg = n - j ∧ jv = .int .i64 j ∧ kv = .int .i64 ((goneN x.f xa j).length : Nat) ∧ Hid (PutL W wq s (some ⟨b4, 0, none⟩) wA B4 (getN x.f xa n) (goneN x.f xa n)))
                case atStart => exact ⟨0, by omega, by omega, rfl, rfl, HPL.out⟩
                case round =>
                  obtain ⟨j, hj, hgj, rfl, rfl, HL⟩ := hrel
                  clear HPL
                  by_cases hjn : j < n
                  · have hji : (j : Int) < (n : Int) := by omega
                    have hwj : IntKind.i64.wrap ((j : Int) + 1) = (j : Int) + 1 := IntWalk.i64_in _ (by omega)
                    obtain ⟨O, hO⟩ : ∃ O, O = getF x.f (xa + (j : Int)) := ⟨_, rfl⟩
                    obtain ⟨ba, oa, rfl, g0⟩ := HL.out.ra j (.int .i64 O) (zs_at (by rw [hO]; exact getN_at x.f xa hjn))
                    obtain ⟨Gj, hGj⟩ : ∃ Gj, Gj = (goneN x.f xa j).length := ⟨_, rfl⟩
                    have hGjl : Gj ≤ j := by rw [hGj]; exact gone_len x.f xa j
                    by_cases hO0 : O = 0
                    · have HNX := Lib.hid (show (goneN x.f xa (j + 1)).length = Gj by rw [gone_no (by rw [← hO]; exact hO0), hGj])
                      subst hO0
                      rw [← hGj]
                      clear hO hGj
                      go_wp2_with fail
                      go_roundg (n - (j + 1))
                      case measure => omega
                      case rel => exact ⟨j + 1, by omega, rfl, by congr 1, by rw [HNX.out], HL.out⟩
                    · have hne : getF x.f (xa + (j : Int)) ≠ 0 := by rw [← hO]; exact hO0
                      have HNX := Lib.hid (show (goneN x.f xa (j + 1)).length = Gj + 1 by rw [gone_yes hne, List.length_append, hGj]; rfl)
                      obtain ⟨ga1, ga2⟩ := gone_at hjn hne
                      rw [← hGj, ← hO] at ga1
                      rw [← hGj, ← HGG.out] at ga2
                      obtain ⟨bb, ob, rfl, g1⟩ := HL.out.rb Gj (.int .i64 O) (zs_at ga1)
                      have hOb : (O == 0) = false := by simpa using hO0
                      have hGi : ¬ (G : Int) ≤ (Gj : Int) := by omega
                      have hGi2 : (Gj : Int) < (G : Int) := by omega
                      have hwg : IntKind.i64.wrap ((Gj : Int) + 1) = (Gj : Int) + 1 := IntWalk.i64_in _ (by omega)
                      rw [← hGj]
                      clear hO hGj hne ga1 ga2 hO0
                      go_upto_region 18 with fail
                      go_quiet (fail)
                      have HL2 := Lib.hid (HL.out.cl (below_drewN (Below.refl _ _) nq))
                      generalize wr.drewN nq = wz at *
                      clear g0 g1
                      go_wp2_with fail
                      go_roundg (n - (j + 1))
                      case measure => omega
                      case rel => exact ⟨j + 1, by omega, rfl, by congr 1, by rw [HNX.out]; congr 1, HL2.out⟩
                  · have hje : j = n := by omega
                    subst hje
                    have hji : ¬ (j : Int) < (j : Int) := by omega
                    rw [← HGG.out]
                    have HE3 := Lib.hid (show SwEnd W wr s (.pointer (some ⟨b4, 0, none⟩)) .nilIface from ⟨HL.out.s0, Or.inl ⟨rfl, _, rfl, HL.out.s1⟩⟩)
                    clear hjn HL
                    go_wp2_with fail
                    apply HTT.out
                    exact HE3.out
    · have hor : (k0 : Int) ≤ (k : Int) ∨ ((k : Int) < (k0 : Int) ∧ (30 : Int) ≤ (k : Int)) := by omega
      clear hgo
      have HLW := Lib.hid HS.out.1
      rcases hor with h1 | ⟨h1, h2⟩
      all_goals
        first
        | (have h1' : ¬ (k : Int) < (k0 : Int) := by omega
           clear h1)
        | (have h2' : ¬ (k : Int) < 30 := by omega
           clear h2)
        go_wp2_with fail
        refine (vsure_any wr).mono ?_
        rintro e w2 ⟨rfl, hb2⟩
        have HB2 := Lib.hid (HLW.out.trans (hb2.mono HLW.out.size))
        clear hb2
        go_wp2_with fail
        go_ret
        exact ⟨rfl, HB2.out⟩
end Go.Proofs.Ytnnadhfpkplncaa
