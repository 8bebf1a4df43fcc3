/- The reference's Free. Condition: the list reads. -/
import Derived.Test.YtnnadhfpkplncaaDoorLkHolders
namespace Go.Proofs.YtnnadhfpkplncaaDoor
open Go.RowKit Go.Maps

def freeL (r : List Held) (who : Int) : List Held := r.filter fun h => decide (h.1 ≠ who)
set_option maxRecDepth 100000 in
set_option maxHeartbeats 3200000 in
theorem rfree_any (r : List Held) (v : Value) (who : Int) (w : World) (h : OwnH w v r) (hr : r.length ≤ 1000) :
    Calls Tryd.prog 20 #[v, .int .i64 who] w fun e w' => ∃ v', e = .returned v' ∧ OwnH w' v' (freeL r who) ∧ Below w.heap.size w w' := by
  obtain ⟨A, c, rfl, hc, hrd, _⟩ := h.read
  obtain ⟨n, hn⟩ : ∃ n, n = r.length := ⟨_, rfl⟩
  rw [← hn] at hc hr ⊢
  have HR := Lib.hid hrd
  have HN := Lib.hid hn
  obtain ⟨iI, hiI, hz0, hz1, hz2⟩ := info_parts infoTHELD
  clear hrd h hn
  go_enter Tryd.func20, Tryd.ntmps20
  go_wp2
  go_loopw [5, 6] (fun o i wr => ∃ (k : Nat) (v1 : Value), k ≤ n ∧ i = .int .i64 k ∧ o = v1 ∧ Hid (∃ n1, n1 ≤ k ∧ n1 = (freeL (r.take k) who).length ∧ wr.ownsRow w.heap.size 50 3 v1 n1 (hits3 (freeL (r.take k) who))) ∧ Hid (Below w.heap.size w wr)) (fun _ i _ => n - (intOf i).toNat)
  case atStart => exact ⟨0, _, by omega, rfl, rfl, ⟨0, Nat.le_refl _, rfl, World.ownsRow_nil _ _ _ _⟩, Below.refl _ _⟩
  case round =>
    obtain ⟨k, v1, hk, rfl, hv, HH, HB⟩ := hrel
    obtain rfl := hv.symm
    by_cases hgo : k < n
    · obtain ⟨n1, hn1, hnl, hrow⟩ := HH.out
      obtain ⟨x, hx⟩ : ∃ x, r[k]? = some x := ⟨_, List.getElem?_eq_getElem (by rw [← HN.out]; omega)⟩
      obtain ⟨b, o, rfl, c1, c2, c3⟩ := held_at (HR.out.below HB.out) hx
      have hki : (k : Int) < (n : Int) := by omega
      have hw1 : IntKind.i64.wrap ((k : Int) + 1) = (k : Int) + 1 := IntWalk.i64_in _ (by omega)
      have HTK := Lib.hid (show r.take (k + 1) = r.take k ++ [x] by
        obtain ⟨hlt, rfl⟩ := List.getElem?_eq_some_iff.1 hx
        exact List.take_succ_eq_append_getElem hlt)
      have HROW := Lib.hid hrow
      have HNL := Lib.hid hnl
      obtain ⟨x1, x2, x3⟩ := x
      clear hx hrow hnl
      by_cases hxw : x1 = who
      · have hxb : (x1 != who) = false := by simpa using hxw
        have HE := Lib.hid (show freeL (r.take (k + 1)) who = freeL (r.take k) who by rw [HTK.out]; unfold freeL; rw [List.filter_append]; simp [hxw])
        clear hxw
        go_wp2
        exact ⟨⟨k + 1, v1, by omega, by congr 1, rfl, ⟨n1, by omega, by rw [HE.out]; exact HNL.out, by rw [HE.out]; exact HROW.out⟩, HB⟩, by simp [intOf]; omega⟩
      · have hxb : (x1 != who) = true := by simpa using hxw
        have HE := Lib.hid (show freeL (r.take (k + 1)) who = freeL (r.take k) who ++ [(x1, x2, x3)] by rw [HTK.out]; unfold freeL; rw [List.filter_append]; simp [hxw])
        clear hxw
        go_wp2_with (at_builtin; refine Hid.out ?_)
        unfold Hid
        refine wpList_append_own _ rfl (.tmp 20) (.tmp 25) 27 rfl w.heap.size 50 iI _ 3 32 Tryd.underlying27 hiI hz0 hz1 hz2 rfl (by decide) _ n1 _ rfl (own_keepC HROW.out (Keep.of ((Below.refl _ _).alloc (Nat.le_refl _) _) (Nat.le_refl _))) _ 1 1 (hcells (x1, x2, x3)) rfl rfl (held_new _ _) (held_one _) (by unfold maxLen; omega) (by omega) (by have := HB.out.size; rw [World.size_alloc]; omega) ?_
        intro v6 w6 hrow6 hg6 _
        have HB6 := Lib.hid ((HB.out.alloc HB.out.size _).grown hg6 (by have := HB.out.size; rw [World.size_alloc]; omega) (fun q e => own_ge HROW.out e))
        have HE6 := Lib.hid (show ∃ n1, n1 ≤ k + 1 ∧ n1 = (freeL (r.take (k + 1)) who).length ∧ w6.ownsRow w.heap.size 50 3 v6 n1 (hits3 (freeL (r.take (k + 1)) who)) from ⟨n1 + 1, by omega, by rw [HE.out, List.length_append, ← HNL.out]; rfl, by rw [HE.out, hits3_append]; exact hrow6⟩)
        clear hrow6 hg6
        go_wp2
        exact ⟨⟨k + 1, v6, by omega, by congr 1, rfl, HE6.out, HB6⟩, by simp [intOf]; omega⟩
    · have hke : k = n := by omega
      subst hke
      have hki : ¬ (k : Int) < (k : Int) := by omega
      obtain ⟨n1, hn1, hnl, hrow⟩ := HH.out
      have ht : r.take k = r := List.take_of_length_le (by rw [← HN.out]; omega)
      rw [ht] at hnl hrow
      have HE := Lib.hid (show OwnH wr v1 (freeL r who) from own_lower (by rw [← hnl]; exact hrow) (Nat.zero_le _))
      clear hk hgo ht hnl hrow hn1 HH
      go_wp2
      go_ret
      exact ⟨_, rfl, HE.out, HB.out⟩
end Go.Proofs.YtnnadhfpkplncaaDoor
