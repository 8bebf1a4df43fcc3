/- The law's helpers: a text is too long, texts of one's own, text by text, an error's number. Condition: the texts read; of the error: the library's handle of the type 'error'. -/
import Derived.Test.YtdeopklgdemnfaaDoorRsRDecw
import Derived.Test.YtdeopklgdemnfaaDoorErrAs
import Derived.Test.YtdeopklgdemnfaaDoorRsLists
namespace Go.Proofs.YtdeopklgdemnfaaDoor
open Go.RowKit Gf Rs

set_option maxHeartbeats 800000 in
theorem num8_nil (w : World) : Calls Tryd.prog 32 #[.nilIface] w fun e w' => e = .returned (.int .i64 0) ∧ Below w.heap.size w w' := by
  go_enter Tryd.func32, Tryd.ntmps32
  go_wp2
  go_ret
  exact ⟨rfl, (Below.refl _ _).alloc (Nat.le_refl _) _⟩
set_option maxHeartbeats 800000 in
theorem num8_hit (x : Int) (w : World) (hg : Handle w) : Calls Tryd.prog 32 #[.iface 99 (.int .i64 x)] w fun e w' => e = .returned (.int .i64 x) ∧ Below w.heap.size w w' := by
  have hlt := hg.lt
  have hgA : (w.alloc (.cells #[.int .i64 0] 99)).cell? ⟨0, 0, none⟩ = _ := (World.cell?_alloc_lt _ _ ⟨0, 0, none⟩ hlt).trans hg
  have htA : (w.alloc (.cells #[.int .i64 0] 99)).cell? ⟨w.heap.size, 0, none⟩ = some (.int .i64 0) := by simp
  have hfA : (w.alloc (.cells #[.int .i64 0] 99)).frozen? ⟨w.heap.size, 0, none⟩ = false := by simp
  go_enter Tryd.func32, Tryd.ntmps32
  go_wp2_with (go_at_call 52; refine (as_hit _ _ (.int .i64 0) _ hgA htA hfA).mono ?_; rintro e w' ⟨rfl, rfl⟩)
  go_ret
  exact ⟨rfl, (((((Below.refl _ _).alloc (Nat.le_refl _) _).alloc (by simp) _).alloc (by simp; omega) _).alloc (by simp; omega) _).alloc (by simp; omega) _⟩
/-- The number of an error of the program's. -/
theorem num8_S (n : Int) (w : World) (hg : Handle w) : Calls Tryd.prog 32 #[errV n] w fun e w' => e = .returned (.int .i64 n) ∧ Below w.heap.size w w' := by
  unfold errV
  by_cases h : n = 0
  · rw [if_pos h, h]; exact num8_nil w
  · rw [if_neg h]; exact num8_hit n w hg
def LongPost (ls : List (List F)) (w : World) (e : Ending) (w' : World) : Prop := ∃ b, e = .returned (.bool b) ∧ w = w' ∧ (b = false → ls.length ≤ 65 ∧ (catF ls.length ls).length ≤ 4000)
set_option maxRecDepth 100000 in
set_option maxHeartbeats 800000 in
theorem long_any (fb : Nat) (A : Option Addr) (c : Nat) (ls : List (List F)) (hq : ls.length ≤ 9223372036854775807) (hl : ∀ (i : Nat) (l : List F), ls[i]? = some l → l.length ≤ 140737488355328) (w : World) (h : RdM fb w A ls) :
    Calls Tryd.prog 38 #[.slice A ls.length c] w (LongPost ls w) := by
  have HL := Lib.hid hl
  clear hl
  go_enter Tryd.func38, Tryd.ntmps38
  go_wp2
  go_loop [3, 4] (fun n i => ∃ j m : Nat, j ≤ ls.length ∧ j ≤ 65 ∧ i = .int .i64 j ∧ n = .int .i64 m ∧ m ≤ 4000 ∧ Hid (m = (catF j ls).length)) (fun _ i => ls.length - (intOf i).toNat)
  case atStart => exact ⟨0, 0, by omega, by omega, rfl, rfl, by omega, rfl⟩
  case round =>
    obtain ⟨j, m, hj, hj65, rfl, rfl, hm, hcat⟩ := hrel
    by_cases hlt : j < ls.length
    · obtain ⟨b2, o2, A3, c3, rfl, hb2, hc2, hl3, h3⟩ := h.at hlt
      have hlj := HL.out j _ (List.getElem?_eq_getElem hlt)
      have hcs := cat_snoc hlt
      have hc3 : m + ls[j].length = (catF (j + 1) ls).length := by rw [hcs, List.length_append, ← hcat.out]
      have HC := Lib.hid hc3
      clear hcs hc3 h3
      generalize ls[j].length = L at *
      by_cases h64 : 64 < j
      · go_wp2
        go_ret
        exact ⟨true, rfl, rfl, fun h => by cases h⟩
      · by_cases h4 : 4000 < m + L
        · have h4i : (4000 : Int) < (m : Int) + (L : Int) := by omega
          go_wp2
          go_ret
          exact ⟨true, rfl, rfl, fun h => by cases h⟩
        · have h4i : ¬ (4000 : Int) < (m : Int) + (L : Int) := by omega
          go_wp2
          exact ⟨⟨j + 1, m + L, by omega, by omega, by go_num, by go_num, by omega, HC.out⟩, by simp [intOf]; omega⟩
    · have hje : j = ls.length := by omega
      have hfin : ls.length ≤ 65 ∧ (catF ls.length ls).length ≤ 4000 := by
        rw [← hje]
        exact ⟨by omega, by rw [← hcat.out]; exact hm⟩
      have HF := Lib.hid hfin
      clear hje hfin
      go_wp2
      go_ret
      exact ⟨false, rfl, rfl, fun _ => HF.out⟩
theorem cat_part {ls : List (List F)} {i : Nat} {l : List F} (h : ls[i]? = some l) : l.length ≤ (catF ls.length ls).length := by
  obtain ⟨hi, rfl⟩ := List.getElem?_eq_some_iff.1 h
  have h1 := cat_le (ls := ls) (show i + 1 ≤ ls.length from hi)
  rw [cat_snoc hi, List.length_append] at h1
  omega
set_option maxRecDepth 100000 in
set_option maxHeartbeats 800000 in
theorem twins_any (fb : Nat) (A : Option Addr) (c : Nat) (ls : List (List F)) (hq : ls.length ≤ 1048576) (hl : ∀ (i : Nat) (l : List F), ls[i]? = some l → l.length ≤ 1048576) (w : World) (h : RdM fb w A ls) :
    Calls Tryd.prog 40 #[.slice A ls.length c] w fun e w' => ∃ v, e = .returned v ∧ OutR w.heap.size w' v ls ∧ Below w.heap.size w w' := by
  obtain ⟨iB, hiB, hzB0, hzB1, hzB2⟩ := infoTB
  have HL := Lib.hid hl
  clear hl
  go_enter Tryd.func40, Tryd.ntmps40
  go_wp2
  go_loopw [3, 4, 5] (fun v i _ wr => ∃ j : Nat, j ≤ ls.length ∧ i = .int .i64 j ∧ Below w.heap.size w wr ∧ OutR w.heap.size wr v (ls.take j)) (fun _ i _ _ => ls.length - (intOf i).toNat)
  case atStart => exact ⟨0, by omega, rfl, Below.refl _ _, OutR.nil _ _⟩
  case round =>
    obtain ⟨j, hj, rfl, hb, hov⟩ := hrel
    generalize hDp : ls.take j = D at hov
    have HDP := Lib.hid hDp
    clear hDp
    obtain ⟨A8, c8, rfl⟩ := hov.shape
    by_cases hlt : j < ls.length
    · obtain ⟨b2, o2, A4, c4, rfl, hb2, hc2, hl4, h4⟩ := (h.below hb).at hlt
      have hlj := HL.out j _ (List.getElem?_eq_getElem hlt)
      have hsn : ls.take (j + 1) = D ++ [ls[j]] := by rw [← HDP.out]; exact List.take_succ_eq_append_getElem hlt
      have HSN := Lib.hid hsn
      have hlen3 : D.length ≤ 1048576 := by rw [← HDP.out, List.length_take]; omega
      clear hsn
      generalize ls[j] = l at *
      have hsz := hb.size
      go_wp2_with (at_builtin; refine Hid.out ?_)
      unfold Hid
      refine wpList_append_rd rfl _ _ 54 rfl wr.heap.size 5 iB (.int .u8 0) 1 Tryd.underlying54 hiB hzB0 hzB1 hzB2 rfl (.slice none 0 0) 0 [] rfl (World.ownsRow_nil _ _ _ _) fb A4 l.length c4 (l.map B) rfl (by simp) h4 B_one (by unfold maxLen; omega) (by omega) (Nat.le_refl _) ?_
      intro v1 w1 hown1 hgrow1
      have hb1 := hb.grown hgrow1 hsz (fun k e => by simp [Value.ownBlock] at e)
      have hbo : Below wr.heap.size wr w1 := (Below.refl _ _).grown hgrow1 (Nat.le_refl _) (fun k e => by simp [Value.ownBlock] at e)
      rw [Nat.zero_add, List.nil_append] at hown1
      have ho1 : OwnB wr.heap.size w1 v1 l := hown1
      obtain ⟨A5, c5, rfl⟩ := ho1.shape
      have hov1 := hov.below hbo
      have hs1 := hbo.size
      clear hgrow1 hc2 h4 hown1 hov hb
      go_wp2_with (at_builtin; refine Hid.out ?_)
      unfold Hid
      refine app_row rfl _ _ rfl w.heap.size _ _ rfl (hov1.below ((Below.refl _ _).alloc (Nat.le_refl _) _)) w1.heap.size _ _ rfl (by simp) ((ho1.base hsz).below ((Below.refl _ _).alloc (Nat.le_refl _) _)) hlen3 (by simp; omega) ?_
      intro v5 w5 hov5 hgrow5
      rw [← HSN.out] at hov5
      have hb5 := (hb1.alloc (by omega) _).grown hgrow5 (by simp; omega) (fun k e => (hov1.lt k e).1)
      clear hgrow5 hov1 hb1 ho1 hbo
      go_wp2
      exact ⟨⟨j + 1, by omega, by go_num, hb5, hov5⟩, by simp [intOf]; omega⟩
    · have hDe : D = ls := by rw [← HDP.out]; exact List.take_of_length_le (by omega)
      rw [hDe] at hov ⊢
      clear hDe
      go_wp2
      go_ret
      exact ⟨_, rfl, hov, hb⟩
end Go.Proofs.YtdeopklgdemnfaaDoor
