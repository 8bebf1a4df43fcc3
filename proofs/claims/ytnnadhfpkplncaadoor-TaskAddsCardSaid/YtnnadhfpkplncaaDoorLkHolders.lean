/- Holders. Condition: the table reads. -/
import Derived.Test.YtnnadhfpkplncaaDoorLkHold
namespace Go.Proofs.YtnnadhfpkplncaaDoor
open Go.RowKit Go.Maps

set_option maxRecDepth 100000 in
set_option maxHeartbeats 3200000 in
theorem holders_any {L N t : Nat} {F : Int → List UInt8 → Int} (nm : List UInt8) (w : World) (h : Tab L N w t F) (hn : okS nm) (hN : N ≤ 100000) : Calls Tryd.prog 17 #[.pointer (some ⟨t, 0, none⟩), .string ⟨nm.toArray⟩] w (HoldersPost F nm w) := by
  obtain ⟨m, B, h, _⟩ := h
  have hc : w.cell? ⟨t, 0, none⟩ = some (.map (some m)) := block_cell h.cell
  have HT := Lib.hid h
  obtain ⟨n, D, hown, hnN, hat⟩ := h.map
  have hsz := hown.size_le
  have HS := Lib.hid ((callsIn_wide (n := 5)).1 (Tryd.sortedI m n D elemM w hown (by unfold maxLen; omega) (by omega)))
  have HK := Lib.hid ((callsIn_wide (n := 5)).1 (Tryd.keysI (some m) w))
  have HSP := Lib.hid (intKeys_spec hown)
  have HAT := Lib.hid hat
  obtain ⟨iI, hiI, hz0, hz1, hz2⟩ := info_parts infoTINT
  clear h hat hown
  go_enter Tryd.func17, Tryd.ntmps17
  go_wp2_with fail
  refine HK.out.mono ?_
  rintro e w1 ⟨rfl, rfl⟩
  go_wp2_with fail
  refine HS.out.mono ?_
  rintro e w2 ⟨v, ss, rfl, hS, hrow0, _, hb⟩
  obtain ⟨s1, s2⟩ := sortedI_spec ss
  have s3 := s1.trans hS
  have hrow : w2.ownsRow _ 3 1 v ss.length (zs (ss.mergeSort fun x y => decide (x ≤ y))) := hrow0
  obtain ⟨K, hK⟩ : ∃ K, K = ss.mergeSort fun x y => decide (x ≤ y) := ⟨_, rfl⟩
  rw [← hK] at s2 s3 hrow
  have hlenK : ss.length = K.length := by rw [hK, List.length_mergeSort]
  rw [hlenK] at hrow
  have hKn : K.length ≤ 100000 := by
    have h1 := s3.length_eq
    have : (intKeys D).length = Maps.size D := by cases D <;> simp [intKeys, Maps.size]
    omega
  obtain ⟨X, cX, rfl, hcX, hrX⟩ := own_rdA hrow
  have HB2 := Lib.hid (((Below.refl _ w).alloc (Nat.le_refl _) _).trans (hb.mono (by rw [World.size_alloc]; omega)))
  have HRX := Lib.hid hrX
  have HKS := Lib.hid (show K.Nodup ∧ (∀ i, i ∈ K ↔ wfI i ∧ Maps.has D (.int .i64 i) = true) ∧ K.Pairwise fun x y => x ≤ y from ⟨s3.nodup_iff.2 HSP.out.1, fun i => by rw [s3.mem_iff, HSP.out.2 i], s2⟩)
  obtain ⟨nk, hnk⟩ : ∃ nk, nk = K.length := ⟨_, rfl⟩
  rw [← hnk] at hKn hcX ⊢
  have HNK := Lib.hid hnk
  clear hS hrow0 hrow hb s1 s2 s3 hK hlenK hrX hnk HS HK
  go_wp2_with fail
  go_loopw [5, 7, 18] (fun o _ i wr => ∃ (k : Nat) (v1 : Value), k ≤ nk ∧ i = .int .i64 k ∧ o = v1 ∧ Hid (∃ n1, n1 ≤ k ∧ ∃ H, H = (K.take k).filter (fun i => decide (F i nm ≠ 0)) ∧ wr.ownsRow w2.heap.size 3 1 v1 n1 (zs H)) ∧ Hid (Below w2.heap.size w2 wr)) (fun _ _ i _ => nk - (intOf i).toNat)
  case atStart => exact ⟨0, _, by omega, rfl, rfl, ⟨0, Nat.le_refl _, [], by simp, World.ownsRow_nil _ _ _ _⟩, Below.refl _ _⟩
  case round =>
    obtain ⟨k, v1, hk, rfl, hv, HH, HB⟩ := hrel
    obtain rfl := hv.symm
    by_cases hgo : k < nk
    · obtain ⟨n1, hn1, H, hH, hrow⟩ := HH.out
      obtain ⟨i, hi⟩ : ∃ i, K[k]? = some i := ⟨_, List.getElem?_eq_getElem (by rw [← HNK.out]; omega)⟩
      have hwi := ((HKS.out.2.1 i).1 (List.mem_of_getElem? hi)).1
      have HT2 := Lib.hid (HT.out.below (HB2.out.trans (HB.out.mono HB2.out.size)))
      have hc2 : wr.cell? ⟨t, 0, none⟩ = some (.map (some m)) := block_cell HT2.out.cell
      have hl1 := look_out HT2.out hwi
      have hl2 := look_both HT2.out (i := i) hn
      obtain ⟨bw, hbw⟩ : ∃ b, b = B i := ⟨_, rfl⟩
      rw [← hbw] at hl1 hl2
      obtain ⟨q, hq⟩ : ∃ q, q = F i nm := ⟨_, rfl⟩
      rw [← hq] at hl2
      have HQ := Lib.hid hq
      obtain ⟨b, o, rfl, d1⟩ := (HRX.out.below HB.out) k (.int .i64 i) (by unfold zs; rw [List.getElem?_map, hi]; rfl)
      have hki : (k : Int) < (nk : Int) := by omega
      have hw1 : IntKind.i64.wrap ((k : Int) + 1) = (k : Int) + 1 := IntWalk.i64_in _ (by omega)
      have HHH := Lib.hid hH
      have HROW := Lib.hid hrow
      have HTK := Lib.hid (show K.take (k + 1) = K.take k ++ [i] by
        obtain ⟨hlt, rfl⟩ := List.getElem?_eq_some_iff.1 hi
        exact List.take_succ_eq_append_getElem hlt)
      clear hbw hq hi hH hrow
      by_cases hq0 : q = 0
      · have hqb : (q != 0) = false := by simp [hq0]
        have HE := Lib.hid (show ∃ n1, n1 ≤ k + 1 ∧ ∃ H, H = (K.take (k + 1)).filter (fun i => decide (F i nm ≠ 0)) ∧ wr.ownsRow w2.heap.size 3 1 v1 n1 (zs H) from ⟨n1, by omega, H, by rw [HTK.out, List.filter_append, ← HHH.out]; simp [← HQ.out, hq0], HROW.out⟩)
        clear hq0
        go_wp2
        exact ⟨⟨k + 1, v1, by omega, by congr 1, rfl, HE.out, HB⟩, by simp [intOf]; omega⟩
      · have hqb : (q != 0) = true := by simp [hq0]
        have HQ0 := Lib.hid hq0
        clear hq0
        go_wp2_with (at_builtin; refine Hid.out ?_)
        unfold Hid
        refine wpList_append_own _ rfl (.tmp 31) (.tmp 33) 37 rfl w2.heap.size 3 iI (.int .i64 0) 1 8 Tryd.underlying37 hiI hz0 hz1 hz2 rfl (by decide) _ n1 (zs H) rfl (own_keepC HROW.out (Keep.of ((Below.refl _ _).alloc (Nat.le_refl _) _) (Nat.le_refl _))) _ 1 1 [.int .i64 i] rfl rfl (one_new _ _) (fun u hu => by rw [List.mem_singleton.1 hu]; rfl) (by unfold maxLen; omega) (by omega) (by have := HB.out.size; rw [World.size_alloc]; omega) ?_
        intro v6 w6 hrow6 hg6 _
        have HB6 := Lib.hid ((HB.out.alloc HB.out.size _).grown hg6 (by have := HB.out.size; rw [World.size_alloc]; omega) (fun q e => own_ge HROW.out e))
        have HE := Lib.hid (show ∃ n1, n1 ≤ k + 1 ∧ ∃ H, H = (K.take (k + 1)).filter (fun i => decide (F i nm ≠ 0)) ∧ w6.ownsRow w2.heap.size 3 1 v6 n1 (zs H) from ⟨n1 + 1, by omega, H ++ [i], by rw [HTK.out, List.filter_append, ← HHH.out]; simp [← HQ.out, HQ0.out], by unfold zs; rw [List.map_append]; exact hrow6⟩)
        clear hrow6 hg6
        go_wp2
        exact ⟨⟨k + 1, v6, by omega, by congr 1, rfl, HE.out, HB6⟩, by simp [intOf]; omega⟩
    · have hke : k = nk := by omega
      subst hke
      have hki : ¬ (k : Int) < (k : Int) := by omega
      obtain ⟨n1, hn1, H, hH, hrow⟩ := HH.out
      have ht : K.take k = K := List.take_of_length_le (by rw [← HNK.out]; omega)
      rw [ht] at hH
      have hlen : n1 = H.length := by have := hrow.1; simpa [zs] using this.symm
      have HE := Lib.hid (show HoldersPost F nm w (.returned v1) wr from ⟨v1, H, rfl, own_lower (by rw [← hlen]; exact hrow) HB2.out.size, by
        rw [hH]
        refine ⟨HKS.out.1.filter _, fun i => ?_, HKS.out.2.2.filter _⟩
        rw [List.mem_filter, HKS.out.2.1 i]
        simp only [decide_eq_true_eq]
        refine ⟨fun ⟨⟨a, _⟩, c⟩ => ⟨a, c⟩, fun ⟨a, c⟩ => ⟨⟨a, ?_⟩, c⟩⟩
        rw [(HAT.out i a).2]
        cases hB : B i with
        | none => exact absurd (HT.out.free i hB nm) c
        | some b => rfl, HB2.out.trans (HB.out.mono HB2.out.size)⟩)
      clear hk hgo ht hH hrow hlen hn1 HH
      go_wp2
      go_ret
      exact HE.out
end Go.Proofs.YtnnadhfpkplncaaDoor
