/- Texts of the proof of VolumeAlone, part 9 of 9. Conditions stand ahead of each. -/
import Derived.Test.YtnnadhfpkplncaaZVolumeAlone8
import Derived.Deep.QuietTactic
import Derived.BigQuiet
import Derived.Test.YtnnadhfpkplncaaZVolumeAlone7
import Derived.Test.YtnnadhfpkplncaaZVolumeAlone3
import Derived.ChangeSlices

/- 'VolumeAlone': what is put into a volume changes no other one, and no set that there was ahead; a frozen one never changes. Condition: the acts read. -/
namespace Go.Proofs.Ytnnadhfpkplncaa
open Go.RowKit

theorem diffL_same (f : Nat → Int) : diffL f f = [] := by
  unfold diffL
  exact List.filter_eq_nil_iff.2 fun a _ => by simp
set_option maxRecDepth 100000 in
set_option maxHeartbeats 25600000 in
theorem valone_walk (v : Value) (W : World) (hin : ActsV W v) : Calls Try.prog 9 #[v] W (BoolPost true W) := by
  obtain ⟨B, c, l, rfl, hlc, hll, hrd, hok⟩ := hin
  have HRD := Lib.hid hrd
  have HOK := Lib.hid hok
  obtain ⟨k0, hk0⟩ : ∃ k0, k0 = l.length := ⟨_, rfl⟩
  rw [← hk0] at hlc hll ⊢
  have HN := Lib.hid hk0
  clear hrd hok hk0
  obtain ⟨iP, hiP, hp0, hp1, hp2⟩ := info_parts infoTSETPv
  have HIP := Lib.hid (And.intro hiP (And.intro hp0 (And.intro hp1 hp2)))
  obtain ⟨iS, hiS, hs0, hs1, hs2⟩ := info_parts infoTSTRv
  have HIS := Lib.hid (And.intro hiS (And.intro hs0 (And.intro hs1 hs2)))
  clear hiP hp0 hp1 hp2 hiS hs0 hs1 hs2
  have HM := Lib.hid (vmake_any none [] [97] 16 16 W ⟨fun x hx => (by cases hx), Or.inl ⟨rfl, rfl⟩⟩ List.Pairwise.nil (by simp))
  go_enter Try.func9, Try.ntmps9
  go_wp2_with fail
  refine HM.out.mono ?_
  rintro e w1 ⟨hb1, ⟨_, hno⟩ | ⟨_, i, b1, hc, _, _, rfl, hs1⟩⟩
  · exact absurd ⟨Or.inl rfl, ⟨by decide, by decide, by decide, by decide⟩, fun x hx => (by cases hx), by simp⟩ hno
  obtain rfl := cut_nil hc
  rw [put_nil] at hs1
  have HA0 := Lib.hid (show AloneAt W w1 (some ⟨b1, 0, none⟩) (.slice none 0 0) (.slice none 0 0) [] from ⟨_, hb1, hs1, good_put (v := mkV [97] 16 16) good_nil (i := 0) hc (ok_mk ⟨⟨by decide, by decide, by decide, by decide⟩, by decide⟩) (Or.inr (by simp)), World.ownsRow_nil _ _ _ _, World.ownsRow_nil _ _ _ _, fun o ho => by cases ho⟩)
  clear hb1 hs1 hc HM
  go_upto_region 8 with fail
  go_loopg [8, 4, 6, 7] 30 (fun gg i sv u v wr => ∃ (k : Nat) (s : Option Addr) (U V : Value) (Os : List OldS), k ≤ k0 ∧ k ≤ 30 ∧ gg = 30 - k ∧ i = .int .i64 k ∧ sv = .pointer s ∧ u = U ∧ v = V ∧ Hid (Os.length ≤ k) ∧ Hid (AloneAt W wr s U V Os))
  case atStart => exact ⟨0, _, _, _, [], by omega, by omega, rfl, rfl, rfl, rfl, rfl, Nat.le_refl _, HA0.out⟩
  case round =>
    obtain ⟨k, s, U, V, Os, hk, hk30, hgk, rfl, rfl, hU, hV, HOL, HS⟩ := hrel
    obtain rfl := hU.symm
    obtain rfl := hV.symm
    clear HA0
    by_cases hgo : k < k0 ∧ k < 30
    · obtain ⟨h1, h2⟩ := hgo
      have hki : (k : Int) < (k0 : Int) := by omega
      have hki2 : (k : Int) < 30 := by omega
      have hkw : IntKind.i64.wrap ((k : Int) + 1) = (k : Int) + 1 := IntWalk.i64_in _ (by omega)
      obtain ⟨x, hx⟩ : ∃ x, l[k]? = some x := ⟨_, List.getElem?_eq_getElem (by rw [← HN.out]; omega)⟩
      have HOX := Lib.hid (HOK.out x (List.mem_of_getElem? hx))
      have HLW := Lib.hid (show Below W.heap.size W wr from by obtain ⟨_, h⟩ := HS.out; exact h.low)
      obtain ⟨b, o, rfl, c0, c1, c2, c3, c4, c5⟩ := av_at (HRD.out.below HLW.out) hx
      obtain ⟨kd, xa, xb, nm, fm, LA, Lc, ys⟩ := x
      dsimp only at c0 c1 c2 c3 c4 c5
      clear hx
      obtain ⟨w1, hw1⟩ : ∃ w1, w1 = wr.alloc (.cells #[.int .i64 kd, .int .i64 xa, .int .i64 xb, .string ⟨nm.toArray⟩, .string ⟨fm.toArray⟩, .slice LA ys.length Lc] 51) := ⟨_, rfl⟩
      obtain ⟨p, hp⟩ : ∃ p, p = wr.heap.size := ⟨_, rfl⟩
      have hb1 : Below wr.heap.size wr w1 := by rw [hw1]; exact (Below.refl _ _).alloc (Nat.le_refl _) _
      have hx1 : w1.heap[p]? = some (.cells #[.int .i64 kd, .int .i64 xa, .int .i64 xb, .string ⟨nm.toArray⟩, .string ⟨fm.toArray⟩, .slice LA ys.length Lc] 51 (0, 0)) := by rw [hw1, hp]; exact alloc_new _ _
      have HP := Lib.hid hx1
      have HS1 := Lib.hid (HS.out.cl hb1)
      have HRL := Lib.hid ((HOX.out.rd.below (HLW.out)).below hb1)
      obtain ⟨n, hn⟩ : ∃ n, n = ys.length := ⟨_, rfl⟩
      have HYN := Lib.hid hn
      have hyl : n ≤ 140737488355328 := by rw [hn]; exact HOX.out.len
      have d0 : w1.cell? ⟨p, 0, none⟩ = some (.int .i64 kd) := block_cell hx1
      have d5 : w1.cell? ⟨p, 5, none⟩ = some (.slice LA ys.length Lc) := block_cell hx1
      rw [← hn] at d5 c5 hw1
      clear hb1 hx1 hn
      go_upto_region 11 with fail
      rw [← hw1, ← hp]
      clear hw1 hp c0 c1 c2 c3 c4 c5 HS
      by_cases h50 : 50 < n
      · have h50i : (50 : Int) < (n : Int) := by omega
        go_wp2_with fail
        go_roundg (30 - (k + 1))
        case measure => omega
        case rel => exact ⟨k + 1, s, _, _, Os, by omega, by omega, rfl, by congr 1, rfl, rfl, rfl, Nat.le_succ_of_le HOL.out, HS1.out⟩
      · have h50i : ¬ (50 : Int) < (n : Int) := by omega
        go_upto_region 26 with fail
        obtain ⟨R, hR⟩ : ∃ R, R = wrap64 ((IntKind.u64.wrap kd).tmod 9) := ⟨_, rfl⟩
        rw [← hR]
        have hRe := hR.symm
        clear hR
        rename_i KT hT KB hB KC hC
        have HT : ∀ (t2 t10 t11 t12 t13 t14 t15 t16 t17 t18 t19 t20 t21 t22 t23 t24 t33 t34 t35 t36 t37 t38 t39 t40 t41 t42 t43 t44 t45 t46 t47 t48 t49 t50 t51 t52 t53 t54 t55 t56 t57 t58 t59 t60 t61 t62 t63 t64 t65 t66 t67 t68 t69 t70 t71 t72 t73 t74 t75 t76 t77 t78 t79 t80 t81 t82 t83 t84 t85 t86 t87 t88 t89 t90 t91 t92 t93 t94 t95 t96 t97 t98 t99 t100 t101 t102 t103 t104 t105 t106 t107 t108 t109 t110 t111 t112 t113 t114 t115 t116 t117 t118 t119 t120 t121 t122 t123 t124 t125 t126 t127 t128 t129 t130 t131 t132 t133 t134 t135 t136 t137 t138 t139 t140 t141 t142 t143 t144 t145 t146 t147 t148 t149 t150 t151 t152 t153 t154 t155 t156 t157 : Value) (s' : Option Addr) (w' : World), AloneAt W w' s' U V Os → KT { tmps := List.toArray ((.slice (some ⟨b, o, none⟩) k0 c) :: undef :: t2 :: (.pointer none) :: (.pointer s') :: .nilIface :: U :: V :: (.int .i64 k) :: (.pointer (some ⟨p, 0, none⟩)) :: t10 :: t11 :: t12 :: t13 :: t14 :: t15 :: t16 :: t17 :: t18 :: t19 :: t20 :: t21 :: t22 :: t23 :: t24 :: undef :: (.tuple #[.pointer (some ⟨b1, 0, none⟩), .nilIface]) :: (.pointer none) :: (.tuple #[.pointer (some ⟨b1, 0, none⟩), .nilIface]) :: (.pointer (some ⟨b1, 0, none⟩)) :: .nilIface :: .nilIface :: (.bool false) :: t33 :: t34 :: t35 :: t36 :: t37 :: t38 :: t39 :: t40 :: t41 :: t42 :: t43 :: t44 :: t45 :: t46 :: t47 :: t48 :: t49 :: t50 :: t51 :: t52 :: t53 :: t54 :: t55 :: t56 :: t57 :: t58 :: t59 :: t60 :: t61 :: t62 :: t63 :: t64 :: t65 :: t66 :: t67 :: t68 :: t69 :: t70 :: t71 :: t72 :: t73 :: t74 :: t75 :: t76 :: t77 :: t78 :: t79 :: t80 :: t81 :: t82 :: t83 :: t84 :: t85 :: t86 :: t87 :: t88 :: t89 :: t90 :: t91 :: t92 :: t93 :: t94 :: t95 :: t96 :: t97 :: t98 :: t99 :: t100 :: t101 :: t102 :: t103 :: t104 :: t105 :: t106 :: t107 :: t108 :: t109 :: t110 :: t111 :: t112 :: t113 :: t114 :: t115 :: t116 :: t117 :: t118 :: t119 :: t120 :: t121 :: t122 :: t123 :: t124 :: t125 :: t126 :: t127 :: t128 :: t129 :: t130 :: t131 :: t132 :: t133 :: t134 :: t135 :: t136 :: t137 :: t138 :: t139 :: t140 :: t141 :: t142 :: t143 :: t144 :: t145 :: t146 :: t147 :: t148 :: t149 :: t150 :: t151 :: t152 :: t153 :: t154 :: t155 :: t156 :: t157 :: undef :: undef :: undef :: undef :: undef :: undef :: undef :: undef :: undef :: undef :: undef :: undef :: undef :: undef :: undef :: undef :: undef :: undef :: ([] : List Value)), defers := [] } w' := by
          clear hC hB d5 hRe d0
          intro t2 t10 t11 t12 t13 t14 t15 t16 t17 t18 t19 t20 t21 t22 t23 t24 t33 t34 t35 t36 t37 t38 t39 t40 t41 t42 t43 t44 t45 t46 t47 t48 t49 t50 t51 t52 t53 t54 t55 t56 t57 t58 t59 t60 t61 t62 t63 t64 t65 t66 t67 t68 t69 t70 t71 t72 t73 t74 t75 t76 t77 t78 t79 t80 t81 t82 t83 t84 t85 t86 t87 t88 t89 t90 t91 t92 t93 t94 t95 t96 t97 t98 t99 t100 t101 t102 t103 t104 t105 t106 t107 t108 t109 t110 t111 t112 t113 t114 t115 t116 t117 t118 t119 t120 t121 t122 t123 t124 t125 t126 t127 t128 t129 t130 t131 t132 t133 t134 t135 t136 t137 t138 t139 t140 t141 t142 t143 t144 t145 t146 t147 t148 t149 t150 t151 t152 t153 t154 t155 t156 t157 s' wx hsw
          have HSW := Lib.hid hsw
          clear hsw
          refine hT _ _ ?_
          clear hT
          obtain ⟨ll, hll⟩ := HSW.out
          have HL1 := Lib.hid (hll.cl ((Below.refl wx.heap.size wx).alloc (Nat.le_refl _) (.cells #[.pointer s'] 49)))
          clear hll HSW HP HS1 HRL HLW
          obtain ⟨m, hm⟩ : ∃ m, m = Os.length := ⟨_, rfl⟩
          have hmk : m ≤ k := by rw [hm]; exact HOL.out
          rw [← hm] at HL1
          have HMM := Lib.hid hm
          clear hm
          obtain ⟨hiP, hp0, hp1, hp2⟩ := HIP.out
          go_wp2_with (at_builtin; refine Hid.out ?_)
          unfold Hid
          refine app_one rfl (.tmp 148) (.tmp 150) 70 49 rfl iP _ 8 Try.underlying70 hiP hp0 hp1 hp2 rfl (by omega) W.heap.size _ m _ rfl HL1.out.o1 wx.heap.size (.pointer s') rfl (block_cell (alloc_new _ _)) rfl (by omega) HL1.out.low.size ?_
          intro v7 w7 ho7 hg7 _
          have HL7 := Lib.hid (HL1.out.grow1 hg7 ho7)
          have HEN := Lib.hid (encode_any s' ll w7 HL7.out.set HL7.out.good)
          clear ho7 hg7 hiP hp0 hp1 hp2 HL1
          go_wp2_with fail
          refine HEN.out.mono ?_
          rintro e w8 ⟨A8, c8, rfl, hr8, hb8⟩
          have hcv := enc_str ll A8 c8 w8 hr8
          have HL8 := Lib.hid ((HL7.out.cl hb8).cl ((Below.refl w8.heap.size w8).alloc (Nat.le_refl _) (.cells #[.string (encS ll)] 9)))
          obtain ⟨N8, hN8⟩ : ∃ N8, N8 = (encI ll).length + 4 := ⟨_, rfl⟩
          obtain ⟨E8, hE8⟩ : ∃ E8, E8 = encS ll := ⟨_, rfl⟩
          rw [← hN8] at hcv ⊢
          rw [← hE8] at hcv HL8
          have HEE := Lib.hid hE8
          obtain ⟨hiS, hs0, hs1, hs2⟩ := HIS.out
          clear hr8 hb8 HEN HL7 hN8 hE8
          go_wp2_with (at_builtin; refine Hid.out ?_)
          unfold Hid
          refine app_one rfl (.tmp 152) (.tmp 156) 63 9 rfl iS _ 16 Try.underlying63 hiS hs0 hs1 hs2 rfl (by omega) W.heap.size _ m _ rfl HL8.out.o2 w8.heap.size (.string E8) rfl (block_cell (alloc_new _ _)) rfl (by omega) HL8.out.low.size ?_
          intro v9 w9 ho9 hg9 _
          have HN9 := Lib.hid (show AloneAt W w9 s' v7 v9 (Os ++ [(s', ll)]) from by
            have h9 := HL8.out.grow2 hg9 ho9
            rw [HMM.out, HEE.out] at h9
            exact h9.next)
          clear ho9 hg9 hiS hs0 hs1 hs2 HL8 hcv
          go_wp2_with fail
          go_roundg (30 - (k + 1))
          case measure => omega
          case rel => exact ⟨k + 1, s', _, _, Os ++ [(s', ll)], by omega, by omega, rfl, by congr 1, rfl, rfl, rfl, (by show (Os ++ [(s', ll)]).length ≤ k + 1; rw [List.length_append]; exact Nat.succ_le_succ HOL.out), HN9.out⟩
        have HTT := Lib.hid HT
        clear HT hT
        have d1 : w1.cell? ⟨p, 1, none⟩ = some (.int .i64 xa) := block_cell HP.out
        have d3 : w1.cell? ⟨p, 3, none⟩ = some (.string ⟨nm.toArray⟩) := block_cell HP.out
        obtain ⟨ll, hll⟩ := HS1.out
        have HLL := Lib.hid hll
        have hl9 : ll.length ≤ 900 := by have := hll.good.few; omega
        clear hll
        by_cases hR23 : R = 2 ∨ R = 3
        · rcases hR23 with rfl | rfl
          all_goals
            have HM := Lib.hid (fun fr => vcopy_any s ll [97] nm fr w1 HLL.out.set HLL.out.good.up hl9)
            go_wp2_with fail
            refine (HM.out _).mono ?_
            rintro e w2 ⟨hb2, ⟨⟨kk, rfl⟩, _⟩ | ⟨x, i, b2, u2', hx, _, hc, hh, h64, rfl, hs2⟩⟩
            · have HE := Lib.hid (HS1.out.cl hb2)
              clear hb2 HM d0 d1 d3 d5 hRe
              go_wp2_with fail
              apply HTT.out
              exact HE.out
            · have HE := Lib.hid (show AloneAt W w2 (some ⟨b2, 0, none⟩) U V Os from ⟨_, (HLL.out.cl hb2).with hs2 (good_put HLL.out.good (v := cpV x nm _) hc (ok_cp (HLL.out.good.ok x hx.1) hx.2 _) (Or.inr h64))⟩)
              clear hb2 hs2 hc hh h64 hx HM d0 d1 d3 d5 hRe
              go_wp2_with fail
              apply HTT.out
              exact HE.out
        · have hn2 : (R == 2) = false := by simp; omega
          have hn3 : (R == 3) = false := by simp; omega
          obtain ⟨Z, hZ⟩ : ∃ Z, wrap64 ((IntKind.u64.wrap xa).tmod 16) = Z := ⟨_, rfl⟩
          have HPT := Lib.hid (vput_any s ll nm Z ys LA Lc w1 HLL.out.set HLL.out.good.up hl9 HLL.out.good.bnd HRL.out HOX.out.len)
          rw [← HYN.out] at HPT
          clear hR23
          go_wp2_with fail
          refine HPT.out.mono ?_
          rintro e w3 ⟨hb3, hpost⟩
          obtain ⟨X, G, E, he, hE⟩ : ∃ (X : Option Addr) (G E : Value), e = .returned (.tuple #[.pointer X, G, E]) ∧ ((E = .nilIface ∧ ∃ l', RdS w3 X l' ∧ Good l' ∧ SameBut nm ll l') ∨ ∃ kk : Int, E = .iface 93 (.int .i64 kk)) := by
            rcases hpost with ⟨⟨kk, rfl⟩, _⟩ | ⟨hnb, i, x, b4, A4, B4, c4, hx, hxt, hc, hin, rfl, _, hs3⟩
            · exact ⟨_, _, _, rfl, Or.inr ⟨kk, rfl⟩⟩
            · exact ⟨_, _, _, rfl, Or.inl ⟨rfl, _, hs3, good_put HLL.out.good (v := putX x Z ys A4) (by show Cut ll x.name i; rw [hxt]; exact hc) (ok_put (HLL.out.good.ok x (List.mem_of_getElem? hx)) hin.1 hnb A4) (Or.inl (by show hasAt ll i x.name = true; unfold hasAt; rw [hx]; simp)), same_put Z ys A4 hxt hin.2⟩⟩
          subst he
          have HE := Lib.hid hE
          have HL3 := Lib.hid (HLL.out.cl hb3)
          have HP3 := Lib.hid ((hb3.block _ (block_lt HP.out)).trans HP.out)
          clear hpost hE hb3 HPT d0 d1 d3 d5 hZ hRe hn2 hn3
          rcases HE.out with ⟨rfl, l', h1, h2, h3⟩ | ⟨kk, rfl⟩
          · have HSB := Lib.hid h3
            have HQ := Lib.hid (And.intro HL3.out.set (And.intro (HL3.out.with h1 h2) HP3.out))
            clear h1 h2 h3 HE HL3 HP3
            have hl9' : l'.length ≤ 64 := HQ.out.2.1.good.few
            have HNA := Lib.hid (vnames_any X l' w3 HQ.out.2.1.set (by omega))
            go_wp2_with fail
            refine HNA.out.mono ?_
            rintro e w7 ⟨A7, c7, rfl, hr7, hb7⟩
            have HPR := Lib.hid (show PairAt W w7 s X ll l' U V Os A7 from ⟨HQ.out.1.below hb7, HQ.out.2.1.cl hb7, hr7⟩)
            have HPP := Lib.hid ((hb7.block _ (block_lt HQ.out.2.2)).trans HQ.out.2.2)
            obtain ⟨M, hM⟩ : ∃ M, M = l'.length := ⟨_, rfl⟩
            rw [← hM] at hl9' ⊢
            have HMM := Lib.hid hM
            clear hM hr7 hb7 HNA HQ
            go_upto_region 19 with fail
            go_loopg [18] M (fun hh jv wq => ∃ q : Nat, q ≤ M ∧ hh = M - q ∧ jv = .int .i64 q ∧ Hid (PairAt W wq s X ll l' U V Os A7) ∧ Hid (wq.heap[p]? = some (.cells #[.int .i64 kd, .int .i64 xa, .int .i64 xb, .string ⟨nm.toArray⟩, .string ⟨fm.toArray⟩, .slice LA ys.length Lc] 51 (0, 0))))
            case atStart => exact ⟨0, by omega, by omega, rfl, HPR.out, HPP.out⟩
            case round =>
              obtain ⟨q, hq, hgq, rfl, HQQ, HQP⟩ := hrel
              clear HPR HPP
              by_cases hqM : q < M
              · have hqi : (q : Int) < (M : Int) := by omega
                have hwq : IntKind.i64.wrap ((q : Int) + 1) = (q : Int) + 1 := IntWalk.i64_in _ (by omega)
                obtain ⟨x, hx⟩ : ∃ x, l'[q]? = some x := ⟨_, List.getElem?_eq_getElem (by rw [← HMM.out]; exact hqM)⟩
                have HX := Lib.hid (List.mem_of_getElem? hx)
                have HNV := Lib.hid (show (nmsV l')[q]? = some (.string ⟨x.name.toArray⟩) by unfold nmsV; rw [List.getElem?_map, hx]; rfl)
                obtain ⟨nx, hnx⟩ : ∃ nx, nx = x.name := ⟨_, rfl⟩
                have HNX := Lib.hid hnx
                rw [← hnx] at HNV
                clear hnx hx
                obtain ⟨b6, o6, rfl, g0⟩ := HQQ.out.nms q _ HNV.out
                have HT1 := Lib.hid (vtree_any s ll nx wr HQQ.out.was HLL.out.good.up hl9)
                go_wp2_with fail
                refine HT1.out.mono ?_
                rintro e w8 ⟨hb8, A1, E1, rfl, ht1⟩
                have HQ8 := Lib.hid (HQQ.out.cl hb8)
                have HP8 := Lib.hid ((hb8.block _ (block_lt HQP.out)).trans HQP.out)
                have g1 := (World.cell?_of_block (hb8.block _ (cell_lt g0))).trans g0
                have HA1 := Lib.hid ht1
                have HT2 := Lib.hid (vtree_any X l' nx w8 HQ8.out.now.set HQ8.out.now.good.up (by have := HMM.out; omega))
                clear hb8 g0 ht1 HT1 HQQ HQP
                go_wp2_with fail
                refine HT2.out.mono ?_
                rintro e w9 ⟨hb9, A2, E2, rfl, ht2⟩
                have HQ9 := Lib.hid (HQ8.out.cl hb9)
                have HP9 := Lib.hid ((hb9.block _ (block_lt HP8.out)).trans HP8.out)
                have g2 := (World.cell?_of_block (hb9.block _ (cell_lt g1))).trans g1
                have HA2 := Lib.hid (show A2 = x.A from by
                  rcases ht2 with ⟨y, hy, hyn, e⟩ | ⟨hno, _⟩
                  · rw [e, up_one HQ9.out.now.good.up hy HX.out (hyn.trans HNX.out)]
                  · exact absurd HNX.out.symm (hno x HX.out))
                have HI := Lib.hid (info_any X l' nx w9 HQ9.out.now.set HQ9.out.now.good.up (by have := HMM.out; omega))
                clear hb9 g1 ht2 HT2 HQ8 HP8
                go_wp2_with fail
                refine HI.out.mono ?_
                rintro e w10 ⟨hb10, ⟨i9, x9, hx9, hxn9, _, rfl⟩ | ⟨hno, rfl⟩⟩
                rotate_left
                · exact absurd HNX.out.symm (hno x HX.out)
                have hxe : x9 = x := up_one HQ9.out.now.good.up (List.mem_of_getElem? hx9) HX.out (hxn9.trans HNX.out)
                subst hxe
                obtain ⟨w11, hw11⟩ : ∃ w11, w11 = w10.alloc (.cells #[.string ⟨x9.name.toArray⟩, .int .i64 x9.blocks, .int .i64 x9.quota, .int .i64 x9.used, .bool x9.frozen] 66) := ⟨_, rfl⟩
                obtain ⟨g, hg⟩ : ∃ g, g = w10.heap.size := ⟨_, rfl⟩
                have hb11 : Below w10.heap.size w10 w11 := by rw [hw11]; exact (Below.refl _ _).alloc (Nat.le_refl _) _
                have y4 : w11.cell? ⟨g, 4, none⟩ = some (.bool x9.frozen) := by rw [hw11, hg, block_cell (alloc_new _ _)]; rfl
                have hb12 : Below w9.heap.size w9 w11 := hb10.trans (hb11.mono hb10.size)
                have g3 := (World.cell?_of_block (hb12.block _ (cell_lt g2))).trans g2
                have HQ11 := Lib.hid (HQ9.out.cl hb12)
                have HP11 := Lib.hid ((hb12.block _ (block_lt HP9.out)).trans HP9.out)
                have z3 : w11.cell? ⟨p, 3, none⟩ = some (.string ⟨nm.toArray⟩) := block_cell HP11.out
                obtain ⟨fr, hfr⟩ : ∃ fr, fr = x9.frozen := ⟨_, rfl⟩
                rw [← hfr] at y4
                have HDF := Lib.hid (show (nx ≠ nm ∨ fr = true) → Calls Try.prog 21 #[.pointer A1, .pointer A2] w11.drew (DiffPost x9.f x9.f w11.drew) from fun hor => by
                  obtain ⟨y, hy, hyn, hyf⟩ := HSB.out x9 HX.out (by rw [← HNX.out, ← hfr]; exact hor)
                  obtain ⟨S, hS⟩ := HQ11.out.was.1 y hy
                  obtain ⟨T, hT⟩ := HQ11.out.now.set.1 x9 HX.out
                  have hA : A1 = y.A := by
                    rcases HA1.out with ⟨y2, hy2, hyn2, e⟩ | ⟨hno, _⟩
                    · rw [e, up_one HLL.out.good.up hy2 hy (hyn2.trans (HNX.out.trans hyn.symm))]
                    · exact absurd (hyn.trans HNX.out.symm) (hno y hy)
                  rw [hA, HA2.out]
                  rw [hyf] at hS
                  exact diff_any x9.f x9.f S T y.A x9.A w11.drew (RdR.below hS (Below.refl _ w11).drew) (RdR.below hT (Below.refl _ w11).drew))
                clear hb10 hb11 hb12 hx9 hxn9 g2 HI HQ9 HP9 HA1 HA2 hfr
                go_upto_region 24 with fail
                rw [← hw11, ← hg]
                clear hw11 hg
                refine wp_region_held_drew (S := fun w' => w'.cell? ⟨b6, o6 + q, none⟩ = some (.string ⟨nx.toArray⟩) ∧ w'.cell? ⟨p, 3, none⟩ = some (.string ⟨nm.toArray⟩) ∧ w'.cell? ⟨g, 4, none⟩ = some (.bool fr)) (by kernel_rfl) ⟨g3, z3, y4⟩ fun hS => ?_
                clear g3 z3 y4
                by_cases hnm : nx = nm
                · subst hnm
                  cases fr with
                  | true =>
                    have HDF := Lib.hid (HDF.out (Or.inr rfl))
                    refine takeR 0 (v := ?_) rfl (by kernel_rfl) (by kernel_rfl) (by kernel_rfl) (fun _ _ _ h => h) (Or.inl ⟨by rfl, ?_⟩) hS ?_
                    rotate_left; · (intro w hSw; obtain ⟨z0, z1, z2⟩ := hSw; go_simp; (try with_reducible rfl))
                    try simp only [Act.put, List.setIfInBounds_toArray, List.set_cons_zero, List.set_cons_succ]
                    refine takeR 1 (v := ?_) rfl (by kernel_rfl) (by kernel_rfl) (by kernel_rfl) (fun _ _ _ h => h) (Or.inl ⟨by rfl, ?_⟩) hS ?_
                    rotate_left; · (intro w hSw; obtain ⟨z0, z1, z2⟩ := hSw; go_simp; (try with_reducible rfl))
                    try simp only [Act.put, List.setIfInBounds_toArray, List.set_cons_zero, List.set_cons_succ]
                    refine takeR 2 (v := ?_) rfl (by kernel_rfl) (by kernel_rfl) (by kernel_rfl) (fun _ _ _ h => h) (Or.inl ⟨by rfl, ?_⟩) hS ?_
                    rotate_left; · (intro w hSw; obtain ⟨z0, z1, z2⟩ := hSw; go_simp; (try with_reducible rfl))
                    try simp only [Act.put, List.setIfInBounds_toArray, List.set_cons_zero, List.set_cons_succ]
                    refine takeR 3 (v := ?_) rfl (by kernel_rfl) (by kernel_rfl) (by kernel_rfl) (fun _ _ _ h => h) (Or.inl ⟨by rfl, ?_⟩) hS ?_
                    rotate_left; · (intro w hSw; obtain ⟨z0, z1, z2⟩ := hSw; go_simp; (try with_reducible rfl))
                    try simp only [Act.put, List.setIfInBounds_toArray, List.set_cons_zero, List.set_cons_succ]
                    refine takeR 4 (v := ?_) rfl (by kernel_rfl) (by kernel_rfl) (by kernel_rfl) (fun _ _ _ h => h) (Or.inl ⟨by rfl, ?_⟩) hS ?_
                    rotate_left; · (intro w hSw; obtain ⟨z0, z1, z2⟩ := hSw; go_simp; (try with_reducible rfl))
                    try simp only [Act.put, List.setIfInBounds_toArray, List.set_cons_zero, List.set_cons_succ]
                    refine takeR 5 (v := ?_) rfl (by kernel_rfl) (by kernel_rfl) (by kernel_rfl) (fun _ _ _ h => h) (Or.inl ⟨by rfl, ?_⟩) hS ?_
                    rotate_left; · (intro w hSw; obtain ⟨z0, z1, z2⟩ := hSw; go_simp; (try with_reducible rfl))
                    try simp only [Act.put, List.setIfInBounds_toArray, List.set_cons_zero, List.set_cons_succ]
                    refine takeR 6 (v := ?_) rfl (by kernel_rfl) (by kernel_rfl) (by kernel_rfl) (fun _ _ _ h => h) (Or.inl ⟨by rfl, ?_⟩) hS ?_
                    rotate_left; · (intro w hSw; obtain ⟨z0, z1, z2⟩ := hSw; go_simp; (try with_reducible rfl))
                    try simp only [Act.put, List.setIfInBounds_toArray, List.set_cons_zero, List.set_cons_succ]
                    refine takeR 7 (v := ?_) rfl (by kernel_rfl) (by kernel_rfl) (by kernel_rfl) (fun _ _ _ h => h) (Or.inl ⟨by rfl, ?_⟩) hS ?_
                    rotate_left; · (intro w hSw; obtain ⟨z0, z1, z2⟩ := hSw; go_simp; (try with_reducible rfl))
                    try simp only [Act.put, List.setIfInBounds_toArray, List.set_cons_zero, List.set_cons_succ]
                    refine takeR 8 (v := ?_) rfl (by kernel_rfl) (by kernel_rfl) (by kernel_rfl) (fun _ _ _ h => h) (Or.inl ⟨by rfl, ?_⟩) hS ?_
                    rotate_left; · (intro w hSw; obtain ⟨z0, z1, z2⟩ := hSw; go_simp; (try with_reducible rfl))
                    try simp only [Act.put, List.setIfInBounds_toArray, List.set_cons_zero, List.set_cons_succ]
                    refine takeR 9 (v := ?_) rfl (by kernel_rfl) (by kernel_rfl) (by kernel_rfl) (fun _ _ _ h => h) (Or.inl ⟨by rfl, ?_⟩) hS ?_
                    rotate_left; · (intro w hSw; obtain ⟨z0, z1, z2⟩ := hSw; go_simp; (try with_reducible rfl))
                    try simp only [Act.put, List.setIfInBounds_toArray, List.set_cons_zero, List.set_cons_succ]
                    refine takeR 10 (v := ?_) rfl (by kernel_rfl) (by kernel_rfl) (by kernel_rfl) (fun _ _ _ h => h) (Or.inl ⟨by rfl, ?_⟩) hS ?_
                    rotate_left; · (intro w hSw; obtain ⟨z0, z1, z2⟩ := hSw; go_simp; (try with_reducible rfl))
                    try simp only [Act.put, List.setIfInBounds_toArray, List.set_cons_zero, List.set_cons_succ]
                    refine takeR 11 (v := ?_) rfl (by kernel_rfl) (by kernel_rfl) (by kernel_rfl) (fun _ _ _ h => h) (Or.inl ⟨by rfl, ?_⟩) hS ?_
                    rotate_left; · (intro w hSw; obtain ⟨z0, z1, z2⟩ := hSw; go_simp; (try with_reducible rfl))
                    try simp only [Act.put, List.setIfInBounds_toArray, List.set_cons_zero, List.set_cons_succ]
                    refine takeR 12 (v := ?_) rfl (by kernel_rfl) (by kernel_rfl) (by kernel_rfl) (fun _ _ _ h => h) (Or.inl ⟨by rfl, ?_⟩) hS ?_
                    rotate_left; · (intro w hSw; obtain ⟨z0, z1, z2⟩ := hSw; go_simp; (try with_reducible rfl))
                    try simp only [Act.put, List.setIfInBounds_toArray, List.set_cons_zero, List.set_cons_succ]
                    refine takeR 13 (v := ?_) rfl (by kernel_rfl) (by kernel_rfl) (by kernel_rfl) (fun _ _ _ h => h) (Or.inl ⟨by rfl, ?_⟩) hS ?_
                    rotate_left; · (intro w hSw; obtain ⟨z0, z1, z2⟩ := hSw; go_simp; (try with_reducible rfl))
                    try simp only [Act.put, List.setIfInBounds_toArray, List.set_cons_zero, List.set_cons_succ]
                    refine oneR 14 (by kernel_rfl) rfl (fun K hK => ?_)
                    go_simp
                    refine HDF.out.mono ?_
                    rintro e w12 ⟨u, rfl, ho, hb12⟩
                    rw [diffL_same] at ho
                    obtain ⟨Ad, cd, rfl, _, _, _⟩ := own_rdA ho
                    simp only [List.length_nil]
                    have HQN := Lib.hid ((HQ11.out.cl (Below.refl _ w11).drew).cl hb12)
                    have HPN := Lib.hid ((Below.block hb12 p (block_lt HP11.out)).trans HP11.out)
                    refine hK.out _ _ ⟨(World.cell?_of_block (Below.block hb12 _ (cell_lt hS.1))).trans hS.1, (World.cell?_of_block (Below.block hb12 _ (cell_lt hS.2.1))).trans hS.2.1, (World.cell?_of_block (Below.block hb12 _ (cell_lt hS.2.2))).trans hS.2.2⟩ (fun hS => ?_)
                    clear hK K ho hb12 HDF
                    try simp only [Act.put, List.setIfInBounds_toArray, List.set_cons_zero, List.set_cons_succ]
                    refine takeR 15 (v := ?_) rfl (by kernel_rfl) (by kernel_rfl) (by kernel_rfl) (fun _ _ _ h => h) (Or.inl ⟨by rfl, ?_⟩) hS ?_
                    rotate_left; · (intro w hSw; obtain ⟨z0, z1, z2⟩ := hSw; go_simp; (try with_reducible rfl))
                    try simp only [Act.put, List.setIfInBounds_toArray, List.set_cons_zero, List.set_cons_succ]
                    refine takeR 16 (v := ?_) rfl (by kernel_rfl) (by kernel_rfl) (by kernel_rfl) (fun _ _ _ h => h) (Or.inl ⟨by rfl, ?_⟩) hS ?_
                    rotate_left; · (intro w hSw; obtain ⟨z0, z1, z2⟩ := hSw; go_simp; (try with_reducible rfl))
                    try simp only [Act.put, List.setIfInBounds_toArray, List.set_cons_zero, List.set_cons_succ]
                    refine takeR 17 (v := ?_) rfl (by kernel_rfl) (by kernel_rfl) (by kernel_rfl) (fun _ _ _ h => h) (Or.inl ⟨by rfl, ?_⟩) hS ?_
                    rotate_left; · (intro w hSw; obtain ⟨z0, z1, z2⟩ := hSw; go_simp; (try with_reducible rfl))
                    try simp only [Act.put, List.setIfInBounds_toArray, List.set_cons_zero, List.set_cons_succ]
                    refine doneR (by kernel_rfl) ?_
                    clear hS
                    go_wp2_with fail
                    go_roundg (M - (q + 1))
                    case measure => omega
                    case rel => exact ⟨q + 1, by omega, rfl, by congr 1, HQN.out, HPN.out⟩
                  | false =>
                    refine takeR 0 (v := ?_) rfl (by kernel_rfl) (by kernel_rfl) (by kernel_rfl) (fun _ _ _ h => h) (Or.inl ⟨by rfl, ?_⟩) hS ?_
                    rotate_left; · (intro w hSw; obtain ⟨z0, z1, z2⟩ := hSw; go_simp; (try with_reducible rfl))
                    try simp only [Act.put, List.setIfInBounds_toArray, List.set_cons_zero, List.set_cons_succ]
                    refine takeR 1 (v := ?_) rfl (by kernel_rfl) (by kernel_rfl) (by kernel_rfl) (fun _ _ _ h => h) (Or.inl ⟨by rfl, ?_⟩) hS ?_
                    rotate_left; · (intro w hSw; obtain ⟨z0, z1, z2⟩ := hSw; go_simp; (try with_reducible rfl))
                    try simp only [Act.put, List.setIfInBounds_toArray, List.set_cons_zero, List.set_cons_succ]
                    refine takeR 2 (v := ?_) rfl (by kernel_rfl) (by kernel_rfl) (by kernel_rfl) (fun _ _ _ h => h) (Or.inl ⟨by rfl, ?_⟩) hS ?_
                    rotate_left; · (intro w hSw; obtain ⟨z0, z1, z2⟩ := hSw; go_simp; (try with_reducible rfl))
                    try simp only [Act.put, List.setIfInBounds_toArray, List.set_cons_zero, List.set_cons_succ]
                    refine takeR 3 (v := ?_) rfl (by kernel_rfl) (by kernel_rfl) (by kernel_rfl) (fun _ _ _ h => h) (Or.inl ⟨by rfl, ?_⟩) hS ?_
                    rotate_left; · (intro w hSw; obtain ⟨z0, z1, z2⟩ := hSw; go_simp; (try with_reducible rfl))
                    try simp only [Act.put, List.setIfInBounds_toArray, List.set_cons_zero, List.set_cons_succ]
                    refine takeR 4 (v := ?_) rfl (by kernel_rfl) (by kernel_rfl) (by kernel_rfl) (fun _ _ _ h => h) (Or.inl ⟨by rfl, ?_⟩) hS ?_
                    rotate_left; · (intro w hSw; obtain ⟨z0, z1, z2⟩ := hSw; go_simp; (try with_reducible rfl))
                    try simp only [Act.put, List.setIfInBounds_toArray, List.set_cons_zero, List.set_cons_succ]
                    refine takeR 5 (v := ?_) rfl (by kernel_rfl) (by kernel_rfl) (by kernel_rfl) (fun _ _ _ h => h) (Or.inl ⟨by rfl, ?_⟩) hS ?_
                    rotate_left; · (intro w hSw; obtain ⟨z0, z1, z2⟩ := hSw; go_simp; (try with_reducible rfl))
                    try simp only [Act.put, List.setIfInBounds_toArray, List.set_cons_zero, List.set_cons_succ]
                    refine takeR 6 (v := ?_) rfl (by kernel_rfl) (by kernel_rfl) (by kernel_rfl) (fun _ _ _ h => h) (Or.inl ⟨by rfl, ?_⟩) hS ?_
                    rotate_left; · (intro w hSw; obtain ⟨z0, z1, z2⟩ := hSw; go_simp; (try with_reducible rfl))
                    try simp only [Act.put, List.setIfInBounds_toArray, List.set_cons_zero, List.set_cons_succ]
                    refine takeR 7 (v := ?_) rfl (by kernel_rfl) (by kernel_rfl) (by kernel_rfl) (fun _ _ _ h => h) (Or.inl ⟨by rfl, ?_⟩) hS ?_
                    rotate_left; · (intro w hSw; obtain ⟨z0, z1, z2⟩ := hSw; go_simp; (try with_reducible rfl))
                    try simp only [Act.put, List.setIfInBounds_toArray, List.set_cons_zero, List.set_cons_succ]
                    refine takeR 8 (v := ?_) rfl (by kernel_rfl) (by kernel_rfl) (by kernel_rfl) (fun _ _ _ h => h) (Or.inl ⟨by rfl, ?_⟩) hS ?_
                    rotate_left; · (intro w hSw; obtain ⟨z0, z1, z2⟩ := hSw; go_simp; (try with_reducible rfl))
                    try simp only [Act.put, List.setIfInBounds_toArray, List.set_cons_zero, List.set_cons_succ]
                    refine takeR 9 (v := ?_) rfl (by kernel_rfl) (by kernel_rfl) (by kernel_rfl) (fun _ _ _ h => h) (Or.inl ⟨by rfl, ?_⟩) hS ?_
                    rotate_left; · (intro w hSw; obtain ⟨z0, z1, z2⟩ := hSw; go_simp; (try with_reducible rfl))
                    try simp only [Act.put, List.setIfInBounds_toArray, List.set_cons_zero, List.set_cons_succ]
                    refine takeR 10 (v := ?_) rfl (by kernel_rfl) (by kernel_rfl) (by kernel_rfl) (fun _ _ _ h => h) (Or.inl ⟨by rfl, ?_⟩) hS ?_
                    rotate_left; · (intro w hSw; obtain ⟨z0, z1, z2⟩ := hSw; go_simp; (try with_reducible rfl))
                    try simp only [Act.put, List.setIfInBounds_toArray, List.set_cons_zero, List.set_cons_succ]
                    refine takeR 11 (v := ?_) rfl (by kernel_rfl) (by kernel_rfl) (by kernel_rfl) (fun _ _ _ h => h) (Or.inl ⟨by rfl, ?_⟩) hS ?_
                    rotate_left; · (intro w hSw; obtain ⟨z0, z1, z2⟩ := hSw; go_simp; (try with_reducible rfl))
                    try simp only [Act.put, List.setIfInBounds_toArray, List.set_cons_zero, List.set_cons_succ]
                    refine takeR 12 (v := undef) rfl (by kernel_rfl) (by kernel_rfl) (by kernel_rfl) (fun _ _ _ h => h) (Or.inr ⟨by rfl, rfl⟩) hS ?_
                    try simp only [Act.put, List.setIfInBounds_toArray, List.set_cons_zero, List.set_cons_succ]
                    refine takeR 13 (v := undef) rfl (by kernel_rfl) (by kernel_rfl) (by kernel_rfl) (fun _ _ _ h => h) (Or.inr ⟨by rfl, rfl⟩) hS ?_
                    try simp only [Act.put, List.setIfInBounds_toArray, List.set_cons_zero, List.set_cons_succ]
                    refine takeR 14 (v := undef) rfl (by kernel_rfl) (by kernel_rfl) (by kernel_rfl) (fun _ _ _ h => h) (Or.inr ⟨by rfl, rfl⟩) hS ?_
                    try simp only [Act.put, List.setIfInBounds_toArray, List.set_cons_zero, List.set_cons_succ]
                    refine takeR 15 (v := undef) rfl (by kernel_rfl) (by kernel_rfl) (by kernel_rfl) (fun _ _ _ h => h) (Or.inr ⟨by rfl, rfl⟩) hS ?_
                    try simp only [Act.put, List.setIfInBounds_toArray, List.set_cons_zero, List.set_cons_succ]
                    refine takeR 16 (v := undef) rfl (by kernel_rfl) (by kernel_rfl) (by kernel_rfl) (fun _ _ _ h => h) (Or.inr ⟨by rfl, rfl⟩) hS ?_
                    try simp only [Act.put, List.setIfInBounds_toArray, List.set_cons_zero, List.set_cons_succ]
                    refine takeR 17 (v := ?_) rfl (by kernel_rfl) (by kernel_rfl) (by kernel_rfl) (fun _ _ _ h => h) (Or.inl ⟨by rfl, ?_⟩) hS ?_
                    rotate_left; · (intro w hSw; obtain ⟨z0, z1, z2⟩ := hSw; go_simp; (try with_reducible rfl))
                    try simp only [Act.put, List.setIfInBounds_toArray, List.set_cons_zero, List.set_cons_succ]
                    refine doneR (by kernel_rfl) ?_
                    have HQN := Lib.hid (HQ11.out.cl (Below.refl _ w11).drew)
                    have HPN := Lib.hid (show w11.drew.heap[p]? = _ from HP11.out)
                    clear hS
                    go_wp2_with fail
                    go_roundg (M - (q + 1))
                    case measure => omega
                    case rel => exact ⟨q + 1, by omega, rfl, by congr 1, HQN.out, HPN.out⟩
                · have HDF := Lib.hid (HDF.out (Or.inl hnm))
                  have hneb : (nx == nm) = false := beq_false_of_ne hnm
                  refine takeR 0 (v := ?_) rfl (by kernel_rfl) (by kernel_rfl) (by kernel_rfl) (fun _ _ _ h => h) (Or.inl ⟨by rfl, ?_⟩) hS ?_
                  rotate_left; · (intro w hSw; obtain ⟨z0, z1, z2⟩ := hSw; go_simp; (try with_reducible rfl))
                  try simp only [Act.put, List.setIfInBounds_toArray, List.set_cons_zero, List.set_cons_succ]
                  refine takeR 1 (v := ?_) rfl (by kernel_rfl) (by kernel_rfl) (by kernel_rfl) (fun _ _ _ h => h) (Or.inl ⟨by rfl, ?_⟩) hS ?_
                  rotate_left; · (intro w hSw; obtain ⟨z0, z1, z2⟩ := hSw; go_simp; (try with_reducible rfl))
                  try simp only [Act.put, List.setIfInBounds_toArray, List.set_cons_zero, List.set_cons_succ]
                  refine takeR 2 (v := ?_) rfl (by kernel_rfl) (by kernel_rfl) (by kernel_rfl) (fun _ _ _ h => h) (Or.inl ⟨by rfl, ?_⟩) hS ?_
                  rotate_left; · (intro w hSw; obtain ⟨z0, z1, z2⟩ := hSw; go_simp; (try with_reducible rfl))
                  try simp only [Act.put, List.setIfInBounds_toArray, List.set_cons_zero, List.set_cons_succ]
                  refine takeR 3 (v := ?_) rfl (by kernel_rfl) (by kernel_rfl) (by kernel_rfl) (fun _ _ _ h => h) (Or.inl ⟨by rfl, ?_⟩) hS ?_
                  rotate_left; · (intro w hSw; obtain ⟨z0, z1, z2⟩ := hSw; go_simp; (try with_reducible rfl))
                  try simp only [Act.put, List.setIfInBounds_toArray, List.set_cons_zero, List.set_cons_succ]
                  refine takeR 4 (v := ?_) rfl (by kernel_rfl) (by kernel_rfl) (by kernel_rfl) (fun _ _ _ h => h) (Or.inl ⟨by rfl, ?_⟩) hS ?_
                  rotate_left; · (intro w hSw; obtain ⟨z0, z1, z2⟩ := hSw; go_simp; (try with_reducible rfl))
                  try simp only [Act.put, List.setIfInBounds_toArray, List.set_cons_zero, List.set_cons_succ]
                  refine takeR 5 (v := ?_) rfl (by kernel_rfl) (by kernel_rfl) (by kernel_rfl) (fun _ _ _ h => h) (Or.inl ⟨by rfl, ?_⟩) hS ?_
                  rotate_left; · (intro w hSw; obtain ⟨z0, z1, z2⟩ := hSw; go_simp; (try with_reducible rfl))
                  try simp only [Act.put, List.setIfInBounds_toArray, List.set_cons_zero, List.set_cons_succ]
                  refine takeR 6 (v := ?_) rfl (by kernel_rfl) (by kernel_rfl) (by kernel_rfl) (fun _ _ _ h => h) (Or.inl ⟨by rfl, ?_⟩) hS ?_
                  rotate_left; · (intro w hSw; obtain ⟨z0, z1, z2⟩ := hSw; go_simp; (try with_reducible rfl))
                  try simp only [Act.put, List.setIfInBounds_toArray, List.set_cons_zero, List.set_cons_succ]
                  refine takeR 7 (v := ?_) rfl (by kernel_rfl) (by kernel_rfl) (by kernel_rfl) (fun _ _ _ h => h) (Or.inl ⟨by rfl, ?_⟩) hS ?_
                  rotate_left; · (intro w hSw; obtain ⟨z0, z1, z2⟩ := hSw; go_simp; (try with_reducible rfl))
                  try simp only [Act.put, List.setIfInBounds_toArray, List.set_cons_zero, List.set_cons_succ]
                  refine takeR 8 (v := undef) rfl (by kernel_rfl) (by kernel_rfl) (by kernel_rfl) (fun _ _ _ h => h) (Or.inr ⟨by rfl, rfl⟩) hS ?_
                  try simp only [Act.put, List.setIfInBounds_toArray, List.set_cons_zero, List.set_cons_succ]
                  refine takeR 9 (v := undef) rfl (by kernel_rfl) (by kernel_rfl) (by kernel_rfl) (fun _ _ _ h => h) (Or.inr ⟨by rfl, rfl⟩) hS ?_
                  try simp only [Act.put, List.setIfInBounds_toArray, List.set_cons_zero, List.set_cons_succ]
                  refine takeR 10 (v := ?_) rfl (by kernel_rfl) (by kernel_rfl) (by kernel_rfl) (fun _ _ _ h => h) (Or.inl ⟨by rfl, ?_⟩) hS ?_
                  rotate_left; · (intro w hSw; obtain ⟨z0, z1, z2⟩ := hSw; go_simp; (try with_reducible rfl))
                  try simp only [Act.put, List.setIfInBounds_toArray, List.set_cons_zero, List.set_cons_succ]
                  refine takeR 11 (v := ?_) rfl (by kernel_rfl) (by kernel_rfl) (by kernel_rfl) (fun _ _ _ h => h) (Or.inl ⟨by rfl, ?_⟩) hS ?_
                  rotate_left; · (intro w hSw; obtain ⟨z0, z1, z2⟩ := hSw; go_simp; (try with_reducible rfl))
                  try simp only [Act.put, List.setIfInBounds_toArray, List.set_cons_zero, List.set_cons_succ]
                  refine takeR 12 (v := ?_) rfl (by kernel_rfl) (by kernel_rfl) (by kernel_rfl) (fun _ _ _ h => h) (Or.inl ⟨by rfl, ?_⟩) hS ?_
                  rotate_left; · (intro w hSw; obtain ⟨z0, z1, z2⟩ := hSw; go_simp; (try with_reducible rfl))
                  try simp only [Act.put, List.setIfInBounds_toArray, List.set_cons_zero, List.set_cons_succ]
                  refine takeR 13 (v := ?_) rfl (by kernel_rfl) (by kernel_rfl) (by kernel_rfl) (fun _ _ _ h => h) (Or.inl ⟨by rfl, ?_⟩) hS ?_
                  rotate_left; · (intro w hSw; obtain ⟨z0, z1, z2⟩ := hSw; go_simp; (try with_reducible rfl))
                  try simp only [Act.put, List.setIfInBounds_toArray, List.set_cons_zero, List.set_cons_succ]
                  refine oneR 14 (by kernel_rfl) rfl (fun K hK => ?_)
                  go_simp
                  refine HDF.out.mono ?_
                  rintro e w12 ⟨u, rfl, ho, hb12⟩
                  rw [diffL_same] at ho
                  obtain ⟨Ad, cd, rfl, _, _, _⟩ := own_rdA ho
                  simp only [List.length_nil]
                  have HQN := Lib.hid ((HQ11.out.cl (Below.refl _ w11).drew).cl hb12)
                  have HPN := Lib.hid ((Below.block hb12 p (block_lt HP11.out)).trans HP11.out)
                  refine hK.out _ _ ⟨(World.cell?_of_block (Below.block hb12 _ (cell_lt hS.1))).trans hS.1, (World.cell?_of_block (Below.block hb12 _ (cell_lt hS.2.1))).trans hS.2.1, (World.cell?_of_block (Below.block hb12 _ (cell_lt hS.2.2))).trans hS.2.2⟩ (fun hS => ?_)
                  clear hK K ho hb12 HDF
                  try simp only [Act.put, List.setIfInBounds_toArray, List.set_cons_zero, List.set_cons_succ]
                  refine takeR 15 (v := ?_) rfl (by kernel_rfl) (by kernel_rfl) (by kernel_rfl) (fun _ _ _ h => h) (Or.inl ⟨by rfl, ?_⟩) hS ?_
                  rotate_left; · (intro w hSw; obtain ⟨z0, z1, z2⟩ := hSw; go_simp; (try with_reducible rfl))
                  try simp only [Act.put, List.setIfInBounds_toArray, List.set_cons_zero, List.set_cons_succ]
                  refine takeR 16 (v := ?_) rfl (by kernel_rfl) (by kernel_rfl) (by kernel_rfl) (fun _ _ _ h => h) (Or.inl ⟨by rfl, ?_⟩) hS ?_
                  rotate_left; · (intro w hSw; obtain ⟨z0, z1, z2⟩ := hSw; go_simp; (try with_reducible rfl))
                  try simp only [Act.put, List.setIfInBounds_toArray, List.set_cons_zero, List.set_cons_succ]
                  refine takeR 17 (v := ?_) rfl (by kernel_rfl) (by kernel_rfl) (by kernel_rfl) (fun _ _ _ h => h) (Or.inl ⟨by rfl, ?_⟩) hS ?_
                  rotate_left; · (intro w hSw; obtain ⟨z0, z1, z2⟩ := hSw; go_simp; (try with_reducible rfl))
                  try simp only [Act.put, List.setIfInBounds_toArray, List.set_cons_zero, List.set_cons_succ]
                  refine doneR (by kernel_rfl) ?_
                  clear hS
                  go_wp2_with fail
                  go_roundg (M - (q + 1))
                  case measure => omega
                  case rel => exact ⟨q + 1, by omega, rfl, by congr 1, HQN.out, HPN.out⟩
              · have hqe : q = M := by omega
                subst hqe
                have hqi : ¬ (q : Int) < (q : Int) := by omega
                have HEE := Lib.hid (show AloneAt W wr X U V Os from ⟨l', HQQ.out.now⟩)
                clear hqM HQQ HQP
                go_wp2_with fail
                apply HTT.out
                exact HEE.out
          · have HSB := Lib.hid (same_refl nm ll)
            have HQ := Lib.hid (And.intro HL3.out.set (And.intro HL3.out HP3.out))
            clear HE HL3 HP3
            have hl9' : ll.length ≤ 64 := HQ.out.2.1.good.few
            have HNA := Lib.hid (vnames_any s ll w3 HQ.out.2.1.set (by omega))
            go_wp2_with fail
            refine HNA.out.mono ?_
            rintro e w7 ⟨A7, c7, rfl, hr7, hb7⟩
            have HPR := Lib.hid (show PairAt W w7 s s ll ll U V Os A7 from ⟨HQ.out.1.below hb7, HQ.out.2.1.cl hb7, hr7⟩)
            have HPP := Lib.hid ((hb7.block _ (block_lt HQ.out.2.2)).trans HQ.out.2.2)
            obtain ⟨M, hM⟩ : ∃ M, M = ll.length := ⟨_, rfl⟩
            rw [← hM] at hl9' ⊢
            have HMM := Lib.hid hM
            clear hM hr7 hb7 HNA HQ
            go_upto_region 19 with fail
            go_loopg [18] M (fun hh jv wq => ∃ q : Nat, q ≤ M ∧ hh = M - q ∧ jv = .int .i64 q ∧ Hid (PairAt W wq s s ll ll U V Os A7) ∧ Hid (wq.heap[p]? = some (.cells #[.int .i64 kd, .int .i64 xa, .int .i64 xb, .string ⟨nm.toArray⟩, .string ⟨fm.toArray⟩, .slice LA ys.length Lc] 51 (0, 0))))
            case atStart => exact ⟨0, by omega, by omega, rfl, HPR.out, HPP.out⟩
            case round =>
              obtain ⟨q, hq, hgq, rfl, HQQ, HQP⟩ := hrel
              clear HPR HPP
              by_cases hqM : q < M
              · have hqi : (q : Int) < (M : Int) := by omega
                have hwq : IntKind.i64.wrap ((q : Int) + 1) = (q : Int) + 1 := IntWalk.i64_in _ (by omega)
                obtain ⟨x, hx⟩ : ∃ x, ll[q]? = some x := ⟨_, List.getElem?_eq_getElem (by rw [← HMM.out]; exact hqM)⟩
                have HX := Lib.hid (List.mem_of_getElem? hx)
                have HNV := Lib.hid (show (nmsV ll)[q]? = some (.string ⟨x.name.toArray⟩) by unfold nmsV; rw [List.getElem?_map, hx]; rfl)
                obtain ⟨nx, hnx⟩ : ∃ nx, nx = x.name := ⟨_, rfl⟩
                have HNX := Lib.hid hnx
                rw [← hnx] at HNV
                clear hnx hx
                obtain ⟨b6, o6, rfl, g0⟩ := HQQ.out.nms q _ HNV.out
                have HT1 := Lib.hid (vtree_any s ll nx wr HQQ.out.was HLL.out.good.up hl9)
                go_wp2_with fail
                refine HT1.out.mono ?_
                rintro e w8 ⟨hb8, A1, E1, rfl, ht1⟩
                have HQ8 := Lib.hid (HQQ.out.cl hb8)
                have HP8 := Lib.hid ((hb8.block _ (block_lt HQP.out)).trans HQP.out)
                have g1 := (World.cell?_of_block (hb8.block _ (cell_lt g0))).trans g0
                have HA1 := Lib.hid ht1
                have HT2 := Lib.hid (vtree_any s ll nx w8 HQ8.out.now.set HQ8.out.now.good.up (by have := HMM.out; omega))
                clear hb8 g0 ht1 HT1 HQQ HQP
                go_wp2_with fail
                refine HT2.out.mono ?_
                rintro e w9 ⟨hb9, A2, E2, rfl, ht2⟩
                have HQ9 := Lib.hid (HQ8.out.cl hb9)
                have HP9 := Lib.hid ((hb9.block _ (block_lt HP8.out)).trans HP8.out)
                have g2 := (World.cell?_of_block (hb9.block _ (cell_lt g1))).trans g1
                have HA2 := Lib.hid (show A2 = x.A from by
                  rcases ht2 with ⟨y, hy, hyn, e⟩ | ⟨hno, _⟩
                  · rw [e, up_one HQ9.out.now.good.up hy HX.out (hyn.trans HNX.out)]
                  · exact absurd HNX.out.symm (hno x HX.out))
                have HI := Lib.hid (info_any s ll nx w9 HQ9.out.now.set HQ9.out.now.good.up (by have := HMM.out; omega))
                clear hb9 g1 ht2 HT2 HQ8 HP8
                go_wp2_with fail
                refine HI.out.mono ?_
                rintro e w10 ⟨hb10, ⟨i9, x9, hx9, hxn9, _, rfl⟩ | ⟨hno, rfl⟩⟩
                rotate_left
                · exact absurd HNX.out.symm (hno x HX.out)
                have hxe : x9 = x := up_one HQ9.out.now.good.up (List.mem_of_getElem? hx9) HX.out (hxn9.trans HNX.out)
                subst hxe
                obtain ⟨w11, hw11⟩ : ∃ w11, w11 = w10.alloc (.cells #[.string ⟨x9.name.toArray⟩, .int .i64 x9.blocks, .int .i64 x9.quota, .int .i64 x9.used, .bool x9.frozen] 66) := ⟨_, rfl⟩
                obtain ⟨g, hg⟩ : ∃ g, g = w10.heap.size := ⟨_, rfl⟩
                have hb11 : Below w10.heap.size w10 w11 := by rw [hw11]; exact (Below.refl _ _).alloc (Nat.le_refl _) _
                have y4 : w11.cell? ⟨g, 4, none⟩ = some (.bool x9.frozen) := by rw [hw11, hg, block_cell (alloc_new _ _)]; rfl
                have hb12 : Below w9.heap.size w9 w11 := hb10.trans (hb11.mono hb10.size)
                have g3 := (World.cell?_of_block (hb12.block _ (cell_lt g2))).trans g2
                have HQ11 := Lib.hid (HQ9.out.cl hb12)
                have HP11 := Lib.hid ((hb12.block _ (block_lt HP9.out)).trans HP9.out)
                have z3 : w11.cell? ⟨p, 3, none⟩ = some (.string ⟨nm.toArray⟩) := block_cell HP11.out
                obtain ⟨fr, hfr⟩ : ∃ fr, fr = x9.frozen := ⟨_, rfl⟩
                rw [← hfr] at y4
                have HDF := Lib.hid (show (nx ≠ nm ∨ fr = true) → Calls Try.prog 21 #[.pointer A1, .pointer A2] w11.drew (DiffPost x9.f x9.f w11.drew) from fun hor => by
                  obtain ⟨y, hy, hyn, hyf⟩ := HSB.out x9 HX.out (by rw [← HNX.out, ← hfr]; exact hor)
                  obtain ⟨S, hS⟩ := HQ11.out.was.1 y hy
                  obtain ⟨T, hT⟩ := HQ11.out.now.set.1 x9 HX.out
                  have hA : A1 = y.A := by
                    rcases HA1.out with ⟨y2, hy2, hyn2, e⟩ | ⟨hno, _⟩
                    · rw [e, up_one HLL.out.good.up hy2 hy (hyn2.trans (HNX.out.trans hyn.symm))]
                    · exact absurd (hyn.trans HNX.out.symm) (hno y hy)
                  rw [hA, HA2.out]
                  rw [hyf] at hS
                  exact diff_any x9.f x9.f S T y.A x9.A w11.drew (RdR.below hS (Below.refl _ w11).drew) (RdR.below hT (Below.refl _ w11).drew))
                clear hb10 hb11 hb12 hx9 hxn9 g2 HI HQ9 HP9 HA1 HA2 hfr
                go_upto_region 24 with fail
                rw [← hw11, ← hg]
                clear hw11 hg
                refine wp_region_held_drew (S := fun w' => w'.cell? ⟨b6, o6 + q, none⟩ = some (.string ⟨nx.toArray⟩) ∧ w'.cell? ⟨p, 3, none⟩ = some (.string ⟨nm.toArray⟩) ∧ w'.cell? ⟨g, 4, none⟩ = some (.bool fr)) (by kernel_rfl) ⟨g3, z3, y4⟩ fun hS => ?_
                clear g3 z3 y4
                by_cases hnm : nx = nm
                · subst hnm
                  cases fr with
                  | true =>
                    have HDF := Lib.hid (HDF.out (Or.inr rfl))
                    refine takeR 0 (v := ?_) rfl (by kernel_rfl) (by kernel_rfl) (by kernel_rfl) (fun _ _ _ h => h) (Or.inl ⟨by rfl, ?_⟩) hS ?_
                    rotate_left; · (intro w hSw; obtain ⟨z0, z1, z2⟩ := hSw; go_simp; (try with_reducible rfl))
                    try simp only [Act.put, List.setIfInBounds_toArray, List.set_cons_zero, List.set_cons_succ]
                    refine takeR 1 (v := ?_) rfl (by kernel_rfl) (by kernel_rfl) (by kernel_rfl) (fun _ _ _ h => h) (Or.inl ⟨by rfl, ?_⟩) hS ?_
                    rotate_left; · (intro w hSw; obtain ⟨z0, z1, z2⟩ := hSw; go_simp; (try with_reducible rfl))
                    try simp only [Act.put, List.setIfInBounds_toArray, List.set_cons_zero, List.set_cons_succ]
                    refine takeR 2 (v := ?_) rfl (by kernel_rfl) (by kernel_rfl) (by kernel_rfl) (fun _ _ _ h => h) (Or.inl ⟨by rfl, ?_⟩) hS ?_
                    rotate_left; · (intro w hSw; obtain ⟨z0, z1, z2⟩ := hSw; go_simp; (try with_reducible rfl))
                    try simp only [Act.put, List.setIfInBounds_toArray, List.set_cons_zero, List.set_cons_succ]
                    refine takeR 3 (v := ?_) rfl (by kernel_rfl) (by kernel_rfl) (by kernel_rfl) (fun _ _ _ h => h) (Or.inl ⟨by rfl, ?_⟩) hS ?_
                    rotate_left; · (intro w hSw; obtain ⟨z0, z1, z2⟩ := hSw; go_simp; (try with_reducible rfl))
                    try simp only [Act.put, List.setIfInBounds_toArray, List.set_cons_zero, List.set_cons_succ]
                    refine takeR 4 (v := ?_) rfl (by kernel_rfl) (by kernel_rfl) (by kernel_rfl) (fun _ _ _ h => h) (Or.inl ⟨by rfl, ?_⟩) hS ?_
                    rotate_left; · (intro w hSw; obtain ⟨z0, z1, z2⟩ := hSw; go_simp; (try with_reducible rfl))
                    try simp only [Act.put, List.setIfInBounds_toArray, List.set_cons_zero, List.set_cons_succ]
                    refine takeR 5 (v := ?_) rfl (by kernel_rfl) (by kernel_rfl) (by kernel_rfl) (fun _ _ _ h => h) (Or.inl ⟨by rfl, ?_⟩) hS ?_
                    rotate_left; · (intro w hSw; obtain ⟨z0, z1, z2⟩ := hSw; go_simp; (try with_reducible rfl))
                    try simp only [Act.put, List.setIfInBounds_toArray, List.set_cons_zero, List.set_cons_succ]
                    refine takeR 6 (v := ?_) rfl (by kernel_rfl) (by kernel_rfl) (by kernel_rfl) (fun _ _ _ h => h) (Or.inl ⟨by rfl, ?_⟩) hS ?_
                    rotate_left; · (intro w hSw; obtain ⟨z0, z1, z2⟩ := hSw; go_simp; (try with_reducible rfl))
                    try simp only [Act.put, List.setIfInBounds_toArray, List.set_cons_zero, List.set_cons_succ]
                    refine takeR 7 (v := ?_) rfl (by kernel_rfl) (by kernel_rfl) (by kernel_rfl) (fun _ _ _ h => h) (Or.inl ⟨by rfl, ?_⟩) hS ?_
                    rotate_left; · (intro w hSw; obtain ⟨z0, z1, z2⟩ := hSw; go_simp; (try with_reducible rfl))
                    try simp only [Act.put, List.setIfInBounds_toArray, List.set_cons_zero, List.set_cons_succ]
                    refine takeR 8 (v := ?_) rfl (by kernel_rfl) (by kernel_rfl) (by kernel_rfl) (fun _ _ _ h => h) (Or.inl ⟨by rfl, ?_⟩) hS ?_
                    rotate_left; · (intro w hSw; obtain ⟨z0, z1, z2⟩ := hSw; go_simp; (try with_reducible rfl))
                    try simp only [Act.put, List.setIfInBounds_toArray, List.set_cons_zero, List.set_cons_succ]
                    refine takeR 9 (v := ?_) rfl (by kernel_rfl) (by kernel_rfl) (by kernel_rfl) (fun _ _ _ h => h) (Or.inl ⟨by rfl, ?_⟩) hS ?_
                    rotate_left; · (intro w hSw; obtain ⟨z0, z1, z2⟩ := hSw; go_simp; (try with_reducible rfl))
                    try simp only [Act.put, List.setIfInBounds_toArray, List.set_cons_zero, List.set_cons_succ]
                    refine takeR 10 (v := ?_) rfl (by kernel_rfl) (by kernel_rfl) (by kernel_rfl) (fun _ _ _ h => h) (Or.inl ⟨by rfl, ?_⟩) hS ?_
                    rotate_left; · (intro w hSw; obtain ⟨z0, z1, z2⟩ := hSw; go_simp; (try with_reducible rfl))
                    try simp only [Act.put, List.setIfInBounds_toArray, List.set_cons_zero, List.set_cons_succ]
                    refine takeR 11 (v := ?_) rfl (by kernel_rfl) (by kernel_rfl) (by kernel_rfl) (fun _ _ _ h => h) (Or.inl ⟨by rfl, ?_⟩) hS ?_
                    rotate_left; · (intro w hSw; obtain ⟨z0, z1, z2⟩ := hSw; go_simp; (try with_reducible rfl))
                    try simp only [Act.put, List.setIfInBounds_toArray, List.set_cons_zero, List.set_cons_succ]
                    refine takeR 12 (v := ?_) rfl (by kernel_rfl) (by kernel_rfl) (by kernel_rfl) (fun _ _ _ h => h) (Or.inl ⟨by rfl, ?_⟩) hS ?_
                    rotate_left; · (intro w hSw; obtain ⟨z0, z1, z2⟩ := hSw; go_simp; (try with_reducible rfl))
                    try simp only [Act.put, List.setIfInBounds_toArray, List.set_cons_zero, List.set_cons_succ]
                    refine takeR 13 (v := ?_) rfl (by kernel_rfl) (by kernel_rfl) (by kernel_rfl) (fun _ _ _ h => h) (Or.inl ⟨by rfl, ?_⟩) hS ?_
                    rotate_left; · (intro w hSw; obtain ⟨z0, z1, z2⟩ := hSw; go_simp; (try with_reducible rfl))
                    try simp only [Act.put, List.setIfInBounds_toArray, List.set_cons_zero, List.set_cons_succ]
                    refine oneR 14 (by kernel_rfl) rfl (fun K hK => ?_)
                    go_simp
                    refine HDF.out.mono ?_
                    rintro e w12 ⟨u, rfl, ho, hb12⟩
                    rw [diffL_same] at ho
                    obtain ⟨Ad, cd, rfl, _, _, _⟩ := own_rdA ho
                    simp only [List.length_nil]
                    have HQN := Lib.hid ((HQ11.out.cl (Below.refl _ w11).drew).cl hb12)
                    have HPN := Lib.hid ((Below.block hb12 p (block_lt HP11.out)).trans HP11.out)
                    refine hK.out _ _ ⟨(World.cell?_of_block (Below.block hb12 _ (cell_lt hS.1))).trans hS.1, (World.cell?_of_block (Below.block hb12 _ (cell_lt hS.2.1))).trans hS.2.1, (World.cell?_of_block (Below.block hb12 _ (cell_lt hS.2.2))).trans hS.2.2⟩ (fun hS => ?_)
                    clear hK K ho hb12 HDF
                    try simp only [Act.put, List.setIfInBounds_toArray, List.set_cons_zero, List.set_cons_succ]
                    refine takeR 15 (v := ?_) rfl (by kernel_rfl) (by kernel_rfl) (by kernel_rfl) (fun _ _ _ h => h) (Or.inl ⟨by rfl, ?_⟩) hS ?_
                    rotate_left; · (intro w hSw; obtain ⟨z0, z1, z2⟩ := hSw; go_simp; (try with_reducible rfl))
                    try simp only [Act.put, List.setIfInBounds_toArray, List.set_cons_zero, List.set_cons_succ]
                    refine takeR 16 (v := ?_) rfl (by kernel_rfl) (by kernel_rfl) (by kernel_rfl) (fun _ _ _ h => h) (Or.inl ⟨by rfl, ?_⟩) hS ?_
                    rotate_left; · (intro w hSw; obtain ⟨z0, z1, z2⟩ := hSw; go_simp; (try with_reducible rfl))
                    try simp only [Act.put, List.setIfInBounds_toArray, List.set_cons_zero, List.set_cons_succ]
                    refine takeR 17 (v := ?_) rfl (by kernel_rfl) (by kernel_rfl) (by kernel_rfl) (fun _ _ _ h => h) (Or.inl ⟨by rfl, ?_⟩) hS ?_
                    rotate_left; · (intro w hSw; obtain ⟨z0, z1, z2⟩ := hSw; go_simp; (try with_reducible rfl))
                    try simp only [Act.put, List.setIfInBounds_toArray, List.set_cons_zero, List.set_cons_succ]
                    refine doneR (by kernel_rfl) ?_
                    clear hS
                    go_wp2_with fail
                    go_roundg (M - (q + 1))
                    case measure => omega
                    case rel => exact ⟨q + 1, by omega, rfl, by congr 1, HQN.out, HPN.out⟩
                  | false =>
                    refine takeR 0 (v := ?_) rfl (by kernel_rfl) (by kernel_rfl) (by kernel_rfl) (fun _ _ _ h => h) (Or.inl ⟨by rfl, ?_⟩) hS ?_
                    rotate_left; · (intro w hSw; obtain ⟨z0, z1, z2⟩ := hSw; go_simp; (try with_reducible rfl))
                    try simp only [Act.put, List.setIfInBounds_toArray, List.set_cons_zero, List.set_cons_succ]
                    refine takeR 1 (v := ?_) rfl (by kernel_rfl) (by kernel_rfl) (by kernel_rfl) (fun _ _ _ h => h) (Or.inl ⟨by rfl, ?_⟩) hS ?_
                    rotate_left; · (intro w hSw; obtain ⟨z0, z1, z2⟩ := hSw; go_simp; (try with_reducible rfl))
                    try simp only [Act.put, List.setIfInBounds_toArray, List.set_cons_zero, List.set_cons_succ]
                    refine takeR 2 (v := ?_) rfl (by kernel_rfl) (by kernel_rfl) (by kernel_rfl) (fun _ _ _ h => h) (Or.inl ⟨by rfl, ?_⟩) hS ?_
                    rotate_left; · (intro w hSw; obtain ⟨z0, z1, z2⟩ := hSw; go_simp; (try with_reducible rfl))
                    try simp only [Act.put, List.setIfInBounds_toArray, List.set_cons_zero, List.set_cons_succ]
                    refine takeR 3 (v := ?_) rfl (by kernel_rfl) (by kernel_rfl) (by kernel_rfl) (fun _ _ _ h => h) (Or.inl ⟨by rfl, ?_⟩) hS ?_
                    rotate_left; · (intro w hSw; obtain ⟨z0, z1, z2⟩ := hSw; go_simp; (try with_reducible rfl))
                    try simp only [Act.put, List.setIfInBounds_toArray, List.set_cons_zero, List.set_cons_succ]
                    refine takeR 4 (v := ?_) rfl (by kernel_rfl) (by kernel_rfl) (by kernel_rfl) (fun _ _ _ h => h) (Or.inl ⟨by rfl, ?_⟩) hS ?_
                    rotate_left; · (intro w hSw; obtain ⟨z0, z1, z2⟩ := hSw; go_simp; (try with_reducible rfl))
                    try simp only [Act.put, List.setIfInBounds_toArray, List.set_cons_zero, List.set_cons_succ]
                    refine takeR 5 (v := ?_) rfl (by kernel_rfl) (by kernel_rfl) (by kernel_rfl) (fun _ _ _ h => h) (Or.inl ⟨by rfl, ?_⟩) hS ?_
                    rotate_left; · (intro w hSw; obtain ⟨z0, z1, z2⟩ := hSw; go_simp; (try with_reducible rfl))
                    try simp only [Act.put, List.setIfInBounds_toArray, List.set_cons_zero, List.set_cons_succ]
                    refine takeR 6 (v := ?_) rfl (by kernel_rfl) (by kernel_rfl) (by kernel_rfl) (fun _ _ _ h => h) (Or.inl ⟨by rfl, ?_⟩) hS ?_
                    rotate_left; · (intro w hSw; obtain ⟨z0, z1, z2⟩ := hSw; go_simp; (try with_reducible rfl))
                    try simp only [Act.put, List.setIfInBounds_toArray, List.set_cons_zero, List.set_cons_succ]
                    refine takeR 7 (v := ?_) rfl (by kernel_rfl) (by kernel_rfl) (by kernel_rfl) (fun _ _ _ h => h) (Or.inl ⟨by rfl, ?_⟩) hS ?_
                    rotate_left; · (intro w hSw; obtain ⟨z0, z1, z2⟩ := hSw; go_simp; (try with_reducible rfl))
                    try simp only [Act.put, List.setIfInBounds_toArray, List.set_cons_zero, List.set_cons_succ]
                    refine takeR 8 (v := ?_) rfl (by kernel_rfl) (by kernel_rfl) (by kernel_rfl) (fun _ _ _ h => h) (Or.inl ⟨by rfl, ?_⟩) hS ?_
                    rotate_left; · (intro w hSw; obtain ⟨z0, z1, z2⟩ := hSw; go_simp; (try with_reducible rfl))
                    try simp only [Act.put, List.setIfInBounds_toArray, List.set_cons_zero, List.set_cons_succ]
                    refine takeR 9 (v := ?_) rfl (by kernel_rfl) (by kernel_rfl) (by kernel_rfl) (fun _ _ _ h => h) (Or.inl ⟨by rfl, ?_⟩) hS ?_
                    rotate_left; · (intro w hSw; obtain ⟨z0, z1, z2⟩ := hSw; go_simp; (try with_reducible rfl))
                    try simp only [Act.put, List.setIfInBounds_toArray, List.set_cons_zero, List.set_cons_succ]
                    refine takeR 10 (v := ?_) rfl (by kernel_rfl) (by kernel_rfl) (by kernel_rfl) (fun _ _ _ h => h) (Or.inl ⟨by rfl, ?_⟩) hS ?_
                    rotate_left; · (intro w hSw; obtain ⟨z0, z1, z2⟩ := hSw; go_simp; (try with_reducible rfl))
                    try simp only [Act.put, List.setIfInBounds_toArray, List.set_cons_zero, List.set_cons_succ]
                    refine takeR 11 (v := ?_) rfl (by kernel_rfl) (by kernel_rfl) (by kernel_rfl) (fun _ _ _ h => h) (Or.inl ⟨by rfl, ?_⟩) hS ?_
                    rotate_left; · (intro w hSw; obtain ⟨z0, z1, z2⟩ := hSw; go_simp; (try with_reducible rfl))
                    try simp only [Act.put, List.setIfInBounds_toArray, List.set_cons_zero, List.set_cons_succ]
                    refine takeR 12 (v := undef) rfl (by kernel_rfl) (by kernel_rfl) (by kernel_rfl) (fun _ _ _ h => h) (Or.inr ⟨by rfl, rfl⟩) hS ?_
                    try simp only [Act.put, List.setIfInBounds_toArray, List.set_cons_zero, List.set_cons_succ]
                    refine takeR 13 (v := undef) rfl (by kernel_rfl) (by kernel_rfl) (by kernel_rfl) (fun _ _ _ h => h) (Or.inr ⟨by rfl, rfl⟩) hS ?_
                    try simp only [Act.put, List.setIfInBounds_toArray, List.set_cons_zero, List.set_cons_succ]
                    refine takeR 14 (v := undef) rfl (by kernel_rfl) (by kernel_rfl) (by kernel_rfl) (fun _ _ _ h => h) (Or.inr ⟨by rfl, rfl⟩) hS ?_
                    try simp only [Act.put, List.setIfInBounds_toArray, List.set_cons_zero, List.set_cons_succ]
                    refine takeR 15 (v := undef) rfl (by kernel_rfl) (by kernel_rfl) (by kernel_rfl) (fun _ _ _ h => h) (Or.inr ⟨by rfl, rfl⟩) hS ?_
                    try simp only [Act.put, List.setIfInBounds_toArray, List.set_cons_zero, List.set_cons_succ]
                    refine takeR 16 (v := undef) rfl (by kernel_rfl) (by kernel_rfl) (by kernel_rfl) (fun _ _ _ h => h) (Or.inr ⟨by rfl, rfl⟩) hS ?_
                    try simp only [Act.put, List.setIfInBounds_toArray, List.set_cons_zero, List.set_cons_succ]
                    refine takeR 17 (v := ?_) rfl (by kernel_rfl) (by kernel_rfl) (by kernel_rfl) (fun _ _ _ h => h) (Or.inl ⟨by rfl, ?_⟩) hS ?_
                    rotate_left; · (intro w hSw; obtain ⟨z0, z1, z2⟩ := hSw; go_simp; (try with_reducible rfl))
                    try simp only [Act.put, List.setIfInBounds_toArray, List.set_cons_zero, List.set_cons_succ]
                    refine doneR (by kernel_rfl) ?_
                    have HQN := Lib.hid (HQ11.out.cl (Below.refl _ w11).drew)
                    have HPN := Lib.hid (show w11.drew.heap[p]? = _ from HP11.out)
                    clear hS
                    go_wp2_with fail
                    go_roundg (M - (q + 1))
                    case measure => omega
                    case rel => exact ⟨q + 1, by omega, rfl, by congr 1, HQN.out, HPN.out⟩
                · have HDF := Lib.hid (HDF.out (Or.inl hnm))
                  have hneb : (nx == nm) = false := beq_false_of_ne hnm
                  refine takeR 0 (v := ?_) rfl (by kernel_rfl) (by kernel_rfl) (by kernel_rfl) (fun _ _ _ h => h) (Or.inl ⟨by rfl, ?_⟩) hS ?_
                  rotate_left; · (intro w hSw; obtain ⟨z0, z1, z2⟩ := hSw; go_simp; (try with_reducible rfl))
                  try simp only [Act.put, List.setIfInBounds_toArray, List.set_cons_zero, List.set_cons_succ]
                  refine takeR 1 (v := ?_) rfl (by kernel_rfl) (by kernel_rfl) (by kernel_rfl) (fun _ _ _ h => h) (Or.inl ⟨by rfl, ?_⟩) hS ?_
                  rotate_left; · (intro w hSw; obtain ⟨z0, z1, z2⟩ := hSw; go_simp; (try with_reducible rfl))
                  try simp only [Act.put, List.setIfInBounds_toArray, List.set_cons_zero, List.set_cons_succ]
                  refine takeR 2 (v := ?_) rfl (by kernel_rfl) (by kernel_rfl) (by kernel_rfl) (fun _ _ _ h => h) (Or.inl ⟨by rfl, ?_⟩) hS ?_
                  rotate_left; · (intro w hSw; obtain ⟨z0, z1, z2⟩ := hSw; go_simp; (try with_reducible rfl))
                  try simp only [Act.put, List.setIfInBounds_toArray, List.set_cons_zero, List.set_cons_succ]
                  refine takeR 3 (v := ?_) rfl (by kernel_rfl) (by kernel_rfl) (by kernel_rfl) (fun _ _ _ h => h) (Or.inl ⟨by rfl, ?_⟩) hS ?_
                  rotate_left; · (intro w hSw; obtain ⟨z0, z1, z2⟩ := hSw; go_simp; (try with_reducible rfl))
                  try simp only [Act.put, List.setIfInBounds_toArray, List.set_cons_zero, List.set_cons_succ]
                  refine takeR 4 (v := ?_) rfl (by kernel_rfl) (by kernel_rfl) (by kernel_rfl) (fun _ _ _ h => h) (Or.inl ⟨by rfl, ?_⟩) hS ?_
                  rotate_left; · (intro w hSw; obtain ⟨z0, z1, z2⟩ := hSw; go_simp; (try with_reducible rfl))
                  try simp only [Act.put, List.setIfInBounds_toArray, List.set_cons_zero, List.set_cons_succ]
                  refine takeR 5 (v := ?_) rfl (by kernel_rfl) (by kernel_rfl) (by kernel_rfl) (fun _ _ _ h => h) (Or.inl ⟨by rfl, ?_⟩) hS ?_
                  rotate_left; · (intro w hSw; obtain ⟨z0, z1, z2⟩ := hSw; go_simp; (try with_reducible rfl))
                  try simp only [Act.put, List.setIfInBounds_toArray, List.set_cons_zero, List.set_cons_succ]
                  refine takeR 6 (v := ?_) rfl (by kernel_rfl) (by kernel_rfl) (by kernel_rfl) (fun _ _ _ h => h) (Or.inl ⟨by rfl, ?_⟩) hS ?_
                  rotate_left; · (intro w hSw; obtain ⟨z0, z1, z2⟩ := hSw; go_simp; (try with_reducible rfl))
                  try simp only [Act.put, List.setIfInBounds_toArray, List.set_cons_zero, List.set_cons_succ]
                  refine takeR 7 (v := ?_) rfl (by kernel_rfl) (by kernel_rfl) (by kernel_rfl) (fun _ _ _ h => h) (Or.inl ⟨by rfl, ?_⟩) hS ?_
                  rotate_left; · (intro w hSw; obtain ⟨z0, z1, z2⟩ := hSw; go_simp; (try with_reducible rfl))
                  try simp only [Act.put, List.setIfInBounds_toArray, List.set_cons_zero, List.set_cons_succ]
                  refine takeR 8 (v := undef) rfl (by kernel_rfl) (by kernel_rfl) (by kernel_rfl) (fun _ _ _ h => h) (Or.inr ⟨by rfl, rfl⟩) hS ?_
                  try simp only [Act.put, List.setIfInBounds_toArray, List.set_cons_zero, List.set_cons_succ]
                  refine takeR 9 (v := undef) rfl (by kernel_rfl) (by kernel_rfl) (by kernel_rfl) (fun _ _ _ h => h) (Or.inr ⟨by rfl, rfl⟩) hS ?_
                  try simp only [Act.put, List.setIfInBounds_toArray, List.set_cons_zero, List.set_cons_succ]
                  refine takeR 10 (v := ?_) rfl (by kernel_rfl) (by kernel_rfl) (by kernel_rfl) (fun _ _ _ h => h) (Or.inl ⟨by rfl, ?_⟩) hS ?_
                  rotate_left; · (intro w hSw; obtain ⟨z0, z1, z2⟩ := hSw; go_simp; (try with_reducible rfl))
                  try simp only [Act.put, List.setIfInBounds_toArray, List.set_cons_zero, List.set_cons_succ]
                  refine takeR 11 (v := ?_) rfl (by kernel_rfl) (by kernel_rfl) (by kernel_rfl) (fun _ _ _ h => h) (Or.inl ⟨by rfl, ?_⟩) hS ?_
                  rotate_left; · (intro w hSw; obtain ⟨z0, z1, z2⟩ := hSw; go_simp; (try with_reducible rfl))
                  try simp only [Act.put, List.setIfInBounds_toArray, List.set_cons_zero, List.set_cons_succ]
                  refine takeR 12 (v := ?_) rfl (by kernel_rfl) (by kernel_rfl) (by kernel_rfl) (fun _ _ _ h => h) (Or.inl ⟨by rfl, ?_⟩) hS ?_
                  rotate_left; · (intro w hSw; obtain ⟨z0, z1, z2⟩ := hSw; go_simp; (try with_reducible rfl))
                  try simp only [Act.put, List.setIfInBounds_toArray, List.set_cons_zero, List.set_cons_succ]
                  refine takeR 13 (v := ?_) rfl (by kernel_rfl) (by kernel_rfl) (by kernel_rfl) (fun _ _ _ h => h) (Or.inl ⟨by rfl, ?_⟩) hS ?_
                  rotate_left; · (intro w hSw; obtain ⟨z0, z1, z2⟩ := hSw; go_simp; (try with_reducible rfl))
                  try simp only [Act.put, List.setIfInBounds_toArray, List.set_cons_zero, List.set_cons_succ]
                  refine oneR 14 (by kernel_rfl) rfl (fun K hK => ?_)
                  go_simp
                  refine HDF.out.mono ?_
                  rintro e w12 ⟨u, rfl, ho, hb12⟩
                  rw [diffL_same] at ho
                  obtain ⟨Ad, cd, rfl, _, _, _⟩ := own_rdA ho
                  simp only [List.length_nil]
                  have HQN := Lib.hid ((HQ11.out.cl (Below.refl _ w11).drew).cl hb12)
                  have HPN := Lib.hid ((Below.block hb12 p (block_lt HP11.out)).trans HP11.out)
                  refine hK.out _ _ ⟨(World.cell?_of_block (Below.block hb12 _ (cell_lt hS.1))).trans hS.1, (World.cell?_of_block (Below.block hb12 _ (cell_lt hS.2.1))).trans hS.2.1, (World.cell?_of_block (Below.block hb12 _ (cell_lt hS.2.2))).trans hS.2.2⟩ (fun hS => ?_)
                  clear hK K ho hb12 HDF
                  try simp only [Act.put, List.setIfInBounds_toArray, List.set_cons_zero, List.set_cons_succ]
                  refine takeR 15 (v := ?_) rfl (by kernel_rfl) (by kernel_rfl) (by kernel_rfl) (fun _ _ _ h => h) (Or.inl ⟨by rfl, ?_⟩) hS ?_
                  rotate_left; · (intro w hSw; obtain ⟨z0, z1, z2⟩ := hSw; go_simp; (try with_reducible rfl))
                  try simp only [Act.put, List.setIfInBounds_toArray, List.set_cons_zero, List.set_cons_succ]
                  refine takeR 16 (v := ?_) rfl (by kernel_rfl) (by kernel_rfl) (by kernel_rfl) (fun _ _ _ h => h) (Or.inl ⟨by rfl, ?_⟩) hS ?_
                  rotate_left; · (intro w hSw; obtain ⟨z0, z1, z2⟩ := hSw; go_simp; (try with_reducible rfl))
                  try simp only [Act.put, List.setIfInBounds_toArray, List.set_cons_zero, List.set_cons_succ]
                  refine takeR 17 (v := ?_) rfl (by kernel_rfl) (by kernel_rfl) (by kernel_rfl) (fun _ _ _ h => h) (Or.inl ⟨by rfl, ?_⟩) hS ?_
                  rotate_left; · (intro w hSw; obtain ⟨z0, z1, z2⟩ := hSw; go_simp; (try with_reducible rfl))
                  try simp only [Act.put, List.setIfInBounds_toArray, List.set_cons_zero, List.set_cons_succ]
                  refine doneR (by kernel_rfl) ?_
                  clear hS
                  go_wp2_with fail
                  go_roundg (M - (q + 1))
                  case measure => omega
                  case rel => exact ⟨q + 1, by omega, rfl, by congr 1, HQN.out, HPN.out⟩
              · have hqe : q = M := by omega
                subst hqe
                have hqi : ¬ (q : Int) < (q : Int) := by omega
                have HEE := Lib.hid (show AloneAt W wr s U V Os from ⟨ll, HQQ.out.now⟩)
                clear hqM HQQ HQP
                go_wp2_with fail
                apply HTT.out
                exact HEE.out
    · obtain ⟨lx, hlx⟩ := HS.out
      have HLX := Lib.hid hlx
      obtain ⟨A1, c1, rfl, _, hr1, _⟩ := own_rdA hlx.o1
      obtain ⟨A2, c2, rfl, _, hr2, _⟩ := own_rdA hlx.o2
      have HR1 := Lib.hid hr1
      have HR2 := Lib.hid hr2
      obtain ⟨M, hM⟩ : ∃ M, M = Os.length := ⟨_, rfl⟩
      rw [← hM]
      have hM30 : M ≤ 30 := by rw [hM]; exact Nat.le_trans HOL.out hk30
      have HMM := Lib.hid hM
      have hex : ¬ (k : Int) < (k0 : Int) ∨ ((k : Int) < (k0 : Int) ∧ ¬ (k : Int) < 30) := by omega
      have HW0 := Lib.hid (show Below wr.heap.size wr wr from Below.refl _ _)
      clear hgo hM hr1 hr2 hlx HS
      obtain ⟨w0, rfl⟩ : ∃ w0 : World, w0 = wr := ⟨wr, rfl⟩
      rcases hex with h1 | ⟨h1, h2⟩
      all_goals
        go_upto_region 34 with fail
        go_loopg [25] M (fun hh jv wq => ∃ q : Nat, q ≤ M ∧ hh = M - q ∧ jv = .int .i64 q ∧ Hid (Below w0.heap.size w0 wq))
        case atStart => exact ⟨0, by omega, by omega, rfl, HW0.out⟩
        case round =>
          obtain ⟨q, hq, hgq, rfl, HB⟩ := hrel
          by_cases hqM : q < M
          · have hqi : (q : Int) < (M : Int) := by omega
            have hwq : IntKind.i64.wrap ((q : Int) + 1) = (q : Int) + 1 := IntWalk.i64_in _ (by omega)
            obtain ⟨⟨os, ol⟩, ho⟩ : ∃ o, Os[q]? = some o := ⟨_, List.getElem?_eq_getElem (by rw [← HMM.out]; exact hqM)⟩
            obtain ⟨b6, o6, rfl, g0⟩ := HR1.out q (.pointer os) (by unfold ptrO; rw [List.getElem?_map, ho]; rfl)
            obtain ⟨b7, o7, rfl, g1⟩ := HR2.out q (.string (encS ol)) (by unfold txtO; rw [List.getElem?_map, ho]; rfl)
            have HOO := Lib.hid (HLX.out.olds _ (List.mem_of_getElem? ho))
            have g0 := (World.cell?_of_block (HB.out.block _ (cell_lt g0))).trans g0
            have g1 := (World.cell?_of_block (HB.out.block _ (cell_lt g1))).trans g1
            have HEN := Lib.hid (encode_any os ol wr.drew ((HOO.out.1.below HB.out).below (Below.refl _ wr).drew) HOO.out.2)
            clear ho
            go_upto_region 36 with fail
            refine wp_region_held_drew (S := fun w' => w'.cell? ⟨b6, o6 + q, none⟩ = some (.pointer os) ∧ w'.cell? ⟨b7, o7 + q, none⟩ = some (.string (encS ol))) (by kernel_rfl) ⟨g0, g1⟩ fun hS => ?_
            clear g0 g1
            refine takeR 0 (v := ?_) rfl (by kernel_rfl) (by kernel_rfl) (by kernel_rfl) (fun _ _ _ h => h) (Or.inl ⟨by rfl, ?_⟩) hS ?_
            rotate_left; · (intro w hSw; obtain ⟨z0, z1⟩ := hSw; go_simp; (try with_reducible rfl))
            try simp only [Act.put, List.setIfInBounds_toArray, List.set_cons_zero, List.set_cons_succ]
            refine takeR 1 (v := ?_) rfl (by kernel_rfl) (by kernel_rfl) (by kernel_rfl) (fun _ _ _ h => h) (Or.inl ⟨by rfl, ?_⟩) hS ?_
            rotate_left; · (intro w hSw; obtain ⟨z0, z1⟩ := hSw; go_simp; (try with_reducible rfl))
            try simp only [Act.put, List.setIfInBounds_toArray, List.set_cons_zero, List.set_cons_succ]
            refine takeR 2 (v := ?_) rfl (by kernel_rfl) (by kernel_rfl) (by kernel_rfl) (fun _ _ _ h => h) (Or.inl ⟨by rfl, ?_⟩) hS ?_
            rotate_left; · (intro w hSw; obtain ⟨z0, z1⟩ := hSw; go_simp; (try with_reducible rfl))
            try simp only [Act.put, List.setIfInBounds_toArray, List.set_cons_zero, List.set_cons_succ]
            refine takeR 3 (v := ?_) rfl (by kernel_rfl) (by kernel_rfl) (by kernel_rfl) (fun _ _ _ h => h) (Or.inl ⟨by rfl, ?_⟩) hS ?_
            rotate_left; · (intro w hSw; obtain ⟨z0, z1⟩ := hSw; go_simp; (try with_reducible rfl))
            try simp only [Act.put, List.setIfInBounds_toArray, List.set_cons_zero, List.set_cons_succ]
            refine takeR 6 (v := ?_) rfl (by kernel_rfl) (by kernel_rfl) (by kernel_rfl) (fun _ _ _ h => h) (Or.inl ⟨by rfl, ?_⟩) hS ?_
            rotate_left; · (intro w hSw; obtain ⟨z0, z1⟩ := hSw; go_simp; (try with_reducible rfl))
            try simp only [Act.put, List.setIfInBounds_toArray, List.set_cons_zero, List.set_cons_succ]
            refine takeR 7 (v := ?_) rfl (by kernel_rfl) (by kernel_rfl) (by kernel_rfl) (fun _ _ _ h => h) (Or.inl ⟨by rfl, ?_⟩) hS ?_
            rotate_left; · (intro w hSw; obtain ⟨z0, z1⟩ := hSw; go_simp; (try with_reducible rfl))
            try simp only [Act.put, List.setIfInBounds_toArray, List.set_cons_zero, List.set_cons_succ]
            refine takeR 8 (v := ?_) rfl (by kernel_rfl) (by kernel_rfl) (by kernel_rfl) (fun _ _ _ h => h) (Or.inl ⟨by rfl, ?_⟩) hS ?_
            rotate_left; · (intro w hSw; obtain ⟨z0, z1⟩ := hSw; go_simp; (try with_reducible rfl))
            try simp only [Act.put, List.setIfInBounds_toArray, List.set_cons_zero, List.set_cons_succ]
            refine takeR 9 (v := ?_) rfl (by kernel_rfl) (by kernel_rfl) (by kernel_rfl) (fun _ _ _ h => h) (Or.inl ⟨by rfl, ?_⟩) hS ?_
            rotate_left; · (intro w hSw; obtain ⟨z0, z1⟩ := hSw; go_simp; (try with_reducible rfl))
            try simp only [Act.put, List.setIfInBounds_toArray, List.set_cons_zero, List.set_cons_succ]
            refine oneR 4 (by kernel_rfl) rfl (fun K hK => ?_)
            go_simp
            refine HEN.out.mono ?_
            rintro e w8 ⟨A8, c8, rfl, hr8, hb8⟩
            have hcv := enc_str ol A8 c8 w8 hr8
            have HB8 := Lib.hid ((HB.out.drew).trans (hb8.mono (by have := HB.out.size; exact this)))
            refine hK.out _ _ ⟨(World.cell?_of_block (Below.block hb8 _ (cell_lt hS.1))).trans hS.1, (World.cell?_of_block (Below.block hb8 _ (cell_lt hS.2))).trans hS.2⟩ (fun hS => ?_)
            clear hK K hr8 hb8 HEN
            try simp only [Act.put, List.setIfInBounds_toArray, List.set_cons_zero, List.set_cons_succ]
            refine oneR 5 (by kernel_rfl) rfl (fun K hK => ?_)
            go_simp
            refine hK.out _ _ hS (fun hS => ?_)
            clear hK K hcv
            try simp only [Act.put, List.setIfInBounds_toArray, List.set_cons_zero, List.set_cons_succ]
            refine takeR 10 (v := ?_) rfl (by kernel_rfl) (by kernel_rfl) (by kernel_rfl) (fun _ _ _ h => h) (Or.inl ⟨by rfl, ?_⟩) hS ?_
            rotate_left; · (intro w hSw; obtain ⟨z0, z1⟩ := hSw; go_simp; (try with_reducible rfl))
            try simp only [Act.put, List.setIfInBounds_toArray, List.set_cons_zero, List.set_cons_succ]
            refine doneR (by kernel_rfl) ?_
            clear hS
            go_wp2_with fail
            go_roundg (M - (q + 1))
            case measure => omega
            case rel => exact ⟨q + 1, by omega, rfl, by congr 1, HB8.out⟩
          · have hqe : q = M := by omega
            subst hqe
            have hqi : ¬ (q : Int) < (q : Int) := by omega
            have HLW := Lib.hid (HLX.out.low)
            clear hqM
            go_wp2_with fail
            refine (vsure_any wr).mono ?_
            rintro e w2 ⟨rfl, hb2⟩
            have HB2 := Lib.hid ((HLW.out.trans (HB.out.mono HLW.out.size)).trans (hb2.mono (Nat.le_trans HLW.out.size HB.out.size)))
            clear hb2
            go_wp2_with fail
            go_ret
            exact ⟨rfl, HB2.out⟩
end Go.Proofs.Ytnnadhfpkplncaa


/- A list of acts of law 20 out of what the parameter reads as. No condition of its own. -/
namespace Go.Proofs.Ytnnadhfpkplncaa
open Go.RowKit Go.ChangeShapes Go.WideShapes Go.Deep

theorem weights_all {H : Type} {P : Program} {e : TypeId} {d : DataW H} {y : Nat} : ∀ {l : List (DataW H)}, d ∈ l → y ∈ d.weights P e → y ∈ DataW.weightsAll P e l
  | a :: l, h, hy => by
    rw [DataW.weightsAll, List.mem_append]
    rcases List.mem_cons.1 h with rfl | h
    · exact Or.inl hy
    · exact Or.inr (weights_all h hy)
theorem weights_slice {H : Type} {P : Program} {t e : TypeId} {d : DataW H} {y : Nat} {l s : List (DataW H)} (ht : P.underlying t = some (.slice e)) (h : d ∈ l ∨ d ∈ s) (hy : y ∈ d.weights P e) : y ∈ DataW.weights P t (.slice l s) := by
  rw [DataW.weights, ht]
  refine List.mem_cons_of_mem _ (List.mem_append.2 ?_)
  exact h.imp (fun h => weights_all h hy) (fun h => weights_all h hy)
theorem slice_mem {H : Type} {D : Nat → DataW H} {len m i : Nat} (hi : i < m) : D i ∈ (List.range len).map D ∨ D i ∈ (List.range (m - len)).map fun j => D (len + j) := by
  rcases Nat.lt_or_ge i len with h | h
  · exact Or.inl (List.mem_map.2 ⟨i, List.mem_range.2 h, rfl⟩)
  · exact Or.inr (List.mem_map.2 ⟨i - len, List.mem_range.2 (by omega), by congr 1; omega⟩)
theorem cInt20 : Try.prog.cellsOf 3 = 1 := by kernel_rfl
theorem bInt20 : Try.prog.bytesOf 3 = 8 := by kernel_rfl
theorem bAct20 : Try.prog.bytesOf 51 = 80 := by kernel_rfl
theorem weights_sixth {H : Type} {P : Program} {t q e : TypeId} {f0 f1 f2 f3 f4 f5 : Field} {ys : List (DataW H × List MemPlace)} {y5 : DataW H × List MemPlace} {l s : List (DataW H)} (ht : P.underlying t = some (.struct #[f0, f1, f2, f3, f4, f5])) (hq : f5.type = q) (hs : P.underlying q = some (.slice e)) (h5 : ys[5]? = some y5) (he : y5.1 = .slice l s)
    (hl : ys.length = 6) : (l.length + s.length) * P.bytesOf e ∈ DataW.weights P t (.agg (ys.map (·.1))) := by
  subst hq
  match ys, hl with
  | [a, b, c, d, e', f], _ =>
    simp only [List.getElem?_cons_succ, List.getElem?_cons_zero, Option.some.injEq] at h5
    subst h5
    simp [DataW.weights, ht, DataW.weightsEach, he, hs]
theorem lits_len {H : Type} {k : IntKind} {zs : List Int} : (lits (H := H) k zs).length = zs.length := by simp [lits]
set_option maxRecDepth 100000 in
theorem open_nums20 {H : Type} {enc : TypeId × Value → H} {W : World} {u : Value} {n : Nat} {y : DataW H × List MemPlace} (h : DataW.trod enc Try.prog W 0 (fun _ => true) true n 32 [u] = some y) :
    ∃ (A : Option Addr) (c : Nat) (ys : List Int), u = .slice A ys.length c ∧ RdA W A (zs ys) ∧ (ys = [] ∨ ∃ l s, y.1 = .slice l s ∧ ys.length ≤ l.length + s.length) := by
  rcases open_ints Try.underlying32 Try.underlying3 cInt20 h with ⟨hcs, _⟩ | ⟨a, len, cap, z0, hcs, _, hl, hm, hzl, hx, hcell, hwz⟩
  · simp only [List.cons.injEq, and_true] at hcs
    exact ⟨none, 0, [], hcs, fun i u hi => by simp [zs] at hi, Or.inl rfl⟩
  · simp only [List.cons.injEq, and_true] at hcs
    simp only [if_true] at hzl
    have hlen : (z0.take len).length = len := by rw [List.length_take]; omega
    refine ⟨some a, cap, z0.take len, by rw [hlen]; exact hcs, fun i u hu => ?_, Or.inr ⟨_, _, by rw [hx], by rw [lits_len, lits_len, hlen, List.length_drop]; omega⟩⟩
    unfold zs at hu
    rw [List.getElem?_map] at hu
    have hil : i < len := by
      rcases Nat.lt_or_ge i len with h | h
      · exact h
      · rw [List.getElem?_eq_none (by rw [hlen]; exact h)] at hu; cases hu
    obtain ⟨b, o, rfl, _⟩ := cell_spot (by simpa using hcell 0 (by omega))
    have h1 := hcell i (by omega)
    rw [add_plain] at h1
    refine ⟨b, o, rfl, ?_⟩
    rw [h1, ← hu, List.getElem?_take, if_pos hil, List.getD_eq_getElem?_getD, List.getElem?_eq_getElem (by omega)]
    rfl
set_option maxRecDepth 100000 in
/-- A list of acts. -/
theorem open_actsv {H : Type} {enc : TypeId × Value → H} {W : World} {v : Value} {d : DataW H} {p : List MemPlace} {ts : List TypeId} {ds : List (DataW H)} {b0 : Nat} {j : Nat} (hv : Value.okWide Try.prog W .any b0 48 v) (h : DataW.Trod enc Try.prog W 0 (fun _ => true) true 48 v d p)
    (hz : (DataW.weightsEach Try.prog ts ds).all (· ≤ reachBytes) = true) (ht : ts[j]? = some 48) (hd : ds[j]? = some d) : ActsV W v := by
  obtain ⟨a0, len, cap, rfl⟩ := okWide_slice Try.underlying48 hv
  obtain ⟨fuel, hf⟩ := h
  rcases open_slice_fields Try.underlying48 Try.underlying51 (by kernel_rfl) (by kernel_rfl) hf with ⟨hcs, _⟩ | ⟨a, len1, cap1, m, D, Pl, hcs, _, hl, hm, hmm, hx, hi⟩
  · simp [Value.cells] at hcs
    obtain ⟨rfl, rfl, rfl⟩ := hcs
    exact ⟨none, 0, [], rfl, Nat.le_refl _, by simp, fun i u hi => by simp [avs] at hi, fun x hx => by cases hx⟩
  · simp [Value.cells] at hcs
    obtain ⟨rfl, rfl, rfl⟩ := hcs
    simp only [if_true] at hmm
    subst hmm
    simp only [Prod.mk.injEq] at hx
    obtain ⟨rfl, rfl⟩ := hx
    have hbnd := sized_slice hz ht hd Try.underlying48
    rw [bAct20] at hbnd
    simp only [List.length_map, List.length_range, reachBytes] at hbnd
    have key : ∀ i, i < m → ∃ x : ActV, W.cell? (a.add (i * 6 + 0)) = some (.int .i64 x.kind) ∧ W.cell? (a.add (i * 6 + 1)) = some (.int .i64 x.a) ∧ W.cell? (a.add (i * 6 + 2)) = some (.int .i64 x.b) ∧ W.cell? (a.add (i * 6 + 3)) = some (.string ⟨x.name.toArray⟩) ∧ W.cell? (a.add (i * 6 + 4)) = some (.string ⟨x.from_.toArray⟩) ∧ W.cell? (a.add (i * 6 + 5)) = some (.slice x.A x.ys.length x.c) ∧ OkActV W x := fun i him => by
      obtain ⟨ys, n, hDi, _, hyl, hf⟩ := hi i him
      obtain ⟨u0, y0, c0, _, t0⟩ := hf 0 _ rfl
      obtain ⟨u1, y1, c1, _, t1⟩ := hf 1 _ rfl
      obtain ⟨u2, y2, c2, _, t2⟩ := hf 2 _ rfl
      obtain ⟨u3, y3, c3, _, t3⟩ := hf 3 _ rfl
      obtain ⟨u4, y4, c4, _, t4⟩ := hf 4 _ rfl
      obtain ⟨u5, y5, c5, hy5, t5⟩ := hf 5 _ rfl
      obtain ⟨z0, e0, _⟩ := DataW.trod_int Try.underlying3 t0
      obtain ⟨z1, e1, _⟩ := DataW.trod_int Try.underlying3 t1
      obtain ⟨z2, e2, _⟩ := DataW.trod_int Try.underlying3 t2
      obtain ⟨s3, e3, _, _⟩ := DataW.trod_string Try.underlying9 t3
      obtain ⟨s4, e4, _, _⟩ := DataW.trod_string Try.underlying9 t4
      obtain ⟨A, c, ns, rfl, hr, hsz⟩ := open_nums20 t5
      simp only [List.cons.injEq, and_true] at e0 e1 e2 e3 e4
      subst e0 e1 e2 e3 e4
      refine ⟨⟨z0, z1, z2, s3.data.toList, s4.data.toList, A, c, ns⟩, c0, c1, c2, c3, c4, c5, hr, ?_⟩
      show ns.length ≤ _
      rcases hsz with rfl | ⟨l, s, hy, hle⟩
      · simp
      · have hmem : (l.length + s.length) * Try.prog.bytesOf 3 ∈ DataW.weights Try.prog 48 (.slice ((List.range len).map D) ((List.range (m - len)).map fun j => D (len + j))) := by
          have h1 : (l.length + s.length) * Try.prog.bytesOf 3 ∈ (D i).weights Try.prog 51 := by
            rw [hDi]
            exact weights_sixth Try.underlying51 rfl Try.underlying32 hy5 hy hyl
          exact weights_slice Try.underlying48 (slice_mem him) h1
        have hbd := of_decide_eq_true (List.all_eq_true.1 hz _ (DataW.weights_mem_each ht hd _ hmem))
        rw [bInt20] at hbd
        unfold reachBytes at hbd
        omega
    obtain ⟨X, hX⟩ : ∃ X : Nat → ActV, ∀ i, i < m → W.cell? (a.add (i * 6 + 0)) = some (.int .i64 (X i).kind) ∧ W.cell? (a.add (i * 6 + 1)) = some (.int .i64 (X i).a) ∧ W.cell? (a.add (i * 6 + 2)) = some (.int .i64 (X i).b) ∧ W.cell? (a.add (i * 6 + 3)) = some (.string ⟨(X i).name.toArray⟩) ∧ W.cell? (a.add (i * 6 + 4)) = some (.string ⟨(X i).from_.toArray⟩) ∧ W.cell? (a.add (i * 6 + 5)) = some (.slice (X i).A (X i).ys.length (X i).c) ∧ OkActV W (X i) := by
      refine ⟨fun i => if h : i < m then Classical.choose (key i h) else ⟨0, 0, 0, [], [], none, 0, []⟩, fun i h => ?_⟩
      simp only [dif_pos h]
      exact Classical.choose_spec (key i h)
    refine ⟨some a, m, (List.range len).map X, by simp, by simpa using hl, by simp; omega, fun i u hu => ?_, fun x hx => ?_⟩
    · obtain ⟨x, h1, h2⟩ := avs_get hu
      rw [List.getElem?_map] at h1
      have hlt : i / 6 < len := by
        rcases Nat.lt_or_ge (i / 6) len with h | h
        · exact h
        · rw [List.getElem?_eq_none (by simpa using h)] at h1; cases h1
      rw [List.getElem?_range hlt] at h1
      simp only [Option.map_some, Option.some.injEq] at h1
      subst h1
      obtain ⟨b, o, rfl, _⟩ := cell_spot (by simpa using (hX 0 (by omega)).1)
      have hc := hX (i / 6) (by omega)
      rw [add_plain, add_plain, add_plain, add_plain, add_plain, add_plain] at hc
      refine ⟨b, o, rfl, ?_⟩
      have e4 : i % 6 = 0 ∨ i % 6 = 1 ∨ i % 6 = 2 ∨ i % 6 = 3 ∨ i % 6 = 4 ∨ i % 6 = 5 := by omega
      rcases e4 with e | e | e | e | e | e <;> rw [e] at h2 <;> simp only [avcells, List.getElem?_cons_zero, List.getElem?_cons_succ, Option.some.injEq] at h2 <;> subst h2
      · rw [← hc.1]; congr 2; omega
      · rw [← hc.2.1]; congr 2; omega
      · rw [← hc.2.2.1]; congr 2; omega
      · rw [← hc.2.2.2.1]; congr 2; omega
      · rw [← hc.2.2.2.2.1]; congr 2; omega
      · rw [← hc.2.2.2.2.2.1]; congr 2; omega
    · obtain ⟨i, hi, rfl⟩ := List.mem_map.1 hx
      exact (hX i (by have := List.mem_range.1 hi; omega)).2.2.2.2.2.2
end Go.Proofs.Ytnnadhfpkplncaa

