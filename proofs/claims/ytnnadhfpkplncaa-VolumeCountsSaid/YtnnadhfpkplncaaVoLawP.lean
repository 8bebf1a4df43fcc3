/- What stands of a set throughout, in plain words; the sum of all counts. No condition. -/
import Derived.Test.YtnnadhfpkplncaaVoCounts
import Derived.Deep.QuietTactic
import Derived.BigQuiet
namespace Go.Proofs.Ytnnadhfpkplncaa
open Go.RowKit

set_option maxRecDepth 100000 in
set_option maxHeartbeats 1600000 in
theorem vints_any (A B : Option Addr) (c d : Nat) (xs ys : List Int) (w : World) (hA : RdA w A (zs xs)) (hB : RdA w B (zs ys)) (hx : xs.length ≤ 9223372036854775807) :
    Calls Try.prog 58 #[.slice A xs.length c, .slice B ys.length d] w (BoolPost (decide (xs = ys)) w) := by
  by_cases hl : xs.length = ys.length
  · have HL := Lib.hid hl
    rw [← hl]
    clear hl
    go_enter Try.func58, Try.ntmps58
    go_wp2
    go_loopw [5] (fun i wr => ∃ j : Nat, j ≤ xs.length ∧ i = .int .i64 j ∧ Below w.heap.size w wr ∧ Hid (xs.take j = ys.take j)) (fun i _ => xs.length - (intOf i).toNat)
    case atStart => exact ⟨0, by omega, rfl, Below.refl _ _, rfl⟩
    case round =>
      obtain ⟨j, hj, rfl, hb, hall⟩ := hrel
      by_cases hlt : j < xs.length
      · obtain ⟨x, hxj⟩ : ∃ x, xs[j]? = some x := ⟨_, List.getElem?_eq_getElem hlt⟩
        obtain ⟨y, hyj⟩ : ∃ y, ys[j]? = some y := ⟨_, List.getElem?_eq_getElem (by rw [← HL.out]; exact hlt)⟩
        obtain ⟨b1, o1, rfl, hc1⟩ := (hA.below hb) j _ (zs_at hxj)
        obtain ⟨b2, o2, rfl, hc2⟩ := (hB.below hb) j _ (zs_at hyj)
        have hji : (j : Int) < (xs.length : Int) := by omega
        have HX := Lib.hid hxj
        have HY := Lib.hid hyj
        have HB := Lib.hid hb
        clear hxj hyj hb hA hB
        by_cases hxy : x = y
        · subst hxy
          go_wp2
          go_quiet (fail)
          go_wp2
          refine ⟨⟨j + 1, by omega, by go_num, below_drewN HB.out _, ?_⟩, by simp [intOf]; omega⟩
          show xs.take (j + 1) = ys.take (j + 1)
          rw [List.take_add_one, List.take_add_one, HX.out, HY.out, hall.out]
        · have hne : (x != y) = true := by simp [hxy]
          have hd : decide (xs = ys) = false := decide_eq_false fun e => hxy (by
            have h1 := HX.out
            rw [e, HY.out] at h1
            exact (Option.some.inj h1).symm)
          have HD := Lib.hid hd
          clear hd hxy
          go_wp2
          go_quiet (fail)
          go_wp2
          go_ret
          exact ⟨by rw [HD.out]; rfl, below_drewN HB.out _⟩
      · have hd : decide (xs = ys) = true := decide_eq_true (by
          have h1 := hall.out
          rwa [List.take_of_length_le (by omega), List.take_of_length_le (by rw [← HL.out]; omega)] at h1)
        have HD := Lib.hid hd
        have HB := Lib.hid hb
        clear hd hb
        go_wp2
        go_ret
        exact ⟨by rw [HD.out]; rfl, HB.out⟩
  · have hd : decide (xs = ys) = false := decide_eq_false fun e => hl (by rw [e])
    have hne : ((xs.length : Int) != (ys.length : Int)) = true := by simp; omega
    have HD := Lib.hid hd
    clear hd hl
    go_enter Try.func58, Try.ntmps58
    go_wp2
    go_ret
    exact ⟨by rw [HD.out]; rfl, Below.refl _ _⟩

structure OkVol (x : Vol) : Prop where
  bl : 1 ≤ x.blocks ∧ x.blocks ≤ 4096
  us : x.used = (cntV x.f : Int)
  far : ∀ a : Nat, x.blocks ≤ (a : Int) → x.f a = 0
  num : ∀ a, 0 ≤ x.f a ∧ x.f a ≤ 1099511627776
structure Good (l : List Vol) : Prop where
  up : Up l
  few : l.length ≤ 64
  ok : ∀ x ∈ l, OkVol x
theorem cntV_le (f : Nat → Int) : cntV f ≤ 4096 := nums_le f
theorem cntV_bl {f : Nat → Int} {n : Nat} (hn : n ≤ 4096) (h : ∀ a : Nat, n ≤ a → f a = 0) : cntV f ≤ n := by
  rw [cntV_eq]
  have e : List.range 4096 = List.range n ++ (List.range (4096 - n)).map (n + ·) := by
    rw [← List.range_add]
    congr 1
    omega
  rw [e, List.filter_append, List.length_append]
  have h1 := List.length_filter_le (fun a => decide (f a ≠ 0)) (List.range n)
  have h2 : ((List.range (4096 - n)).map (n + ·)).filter (fun a => decide (f a ≠ 0)) = [] := by
    refine List.filter_eq_nil_iff.2 fun a ha => ?_
    obtain ⟨b, _, rfl⟩ := List.mem_map.1 ha
    rw [h _ (Nat.le_add_right n b)]
    simp
  rw [h2]
  simp at h1 ⊢
  omega
theorem OkVol.le {x : Vol} (h : OkVol x) : 0 ≤ x.used ∧ x.used ≤ 4096 ∧ x.used ≤ x.blocks := by
  have h1 := cntV_le x.f
  obtain ⟨n, hn⟩ := Int.eq_ofNat_of_zero_le (show (0 : Int) ≤ x.blocks by have := h.bl.1; omega)
  have hb := h.bl.2
  have h2 := cntV_bl (f := x.f) (n := n) (by omega) (fun a ha => h.far a (by rw [hn]; omega))
  rw [h.us, hn]
  omega
theorem Good.bnd {l : List Vol} (h : Good l) : ∀ x ∈ l, 0 ≤ x.blocks ∧ x.blocks ≤ 4096 ∧ 0 ≤ x.used ∧ x.used ≤ 4096 := fun x hx => by
  have h1 := (h.ok x hx).bl
  have h2 := (h.ok x hx).le
  omega
theorem good_nil : Good [] := ⟨List.Pairwise.nil, by simp, fun x hx => by cases hx⟩
theorem good_put {l : List Vol} (h : Good l) {i : Nat} {v : Vol} (hc : Cut l v.name i) (hv : OkVol v) (hl : hasAt l i v.name = true ∨ l.length < 64) : Good (putV l i v) := by
  refine ⟨up_put h.up hc, ?_, fun x hx => ?_⟩
  · rw [put_len hc.le]
    have := h.few
    split
    · exact this
    · rename_i hh
      rcases hl with hl | hl
      · exact absurd hl hh
      · omega
  · rcases put_mem hx with rfl | hx
    · exact hv
    · exact h.ok x hx
theorem cntV_zero : cntV (fun _ => 0) = 0 := by
  rw [cntV_eq]
  simp
theorem ok_mk {t : List UInt8} {bl qu : Int} (h : okV bl qu) : OkVol (mkV t bl qu) :=
  ⟨⟨h.1, h.2.1⟩, by show (0 : Int) = ((cntV (fun _ => 0) : Nat) : Int); rw [cntV_zero]; rfl, fun _ _ => rfl, fun _ => ⟨by show (0 : Int) ≤ 0; omega, by show (0 : Int) ≤ 1099511627776; omega⟩⟩
theorem ok_cp {x : Vol} (h : OkVol x) (t : List UInt8) (fr : Bool) : OkVol (cpV x t fr) := ⟨h.bl, h.us, h.far, h.num⟩
theorem badN_no {y : Int} (h : badN y = false) : 0 ≤ y ∧ y ≤ 1099511627776 := by
  unfold badN at h
  simp at h
  omega
theorem fK_num (f : Nat → Int) (z : Int) (xs : List Int) (hf : ∀ a, 0 ≤ f a ∧ f a ≤ 1099511627776) (hx : ∀ y ∈ xs, badN y = false) : ∀ (k : Nat) (a : Nat), 0 ≤ fK f z xs k a ∧ fK f z xs k a ≤ 1099511627776
  | 0, a => hf a
  | k + 1, a => by
    have ih := fK_num f z xs hf hx k a
    unfold fK setF
    split
    · unfold updF
      split
      · rw [List.getD_eq_getElem?_getD]
        cases hk : xs[k]? with
        | none => simp
        | some y => exact badN_no (hx y (List.mem_of_getElem? hk))
      · exact ih
    · exact ih
theorem ok_put {x : Vol} (h : OkVol x) {z : Int} {xs : List Int} (hin : inR x z xs.length) (hx : ∀ y ∈ xs, badN y = false) (A : Option Addr) : OkVol (putX x z xs A) := by
  obtain ⟨h1, h2, h3, h4⟩ := hin
  have hb := h.bl.2
  refine ⟨h.bl, ?_, fun a ha => ?_, fun a => fK_num x.f z xs h.num hx _ a⟩
  · show uK x.used x.f z xs xs.length = ((cntV (fK x.f z xs xs.length) : Nat) : Int)
    rw [cnt_fK x.used x.f z xs h1 xs.length (by omega), h.us]
    omega
  · exact fK_far x.f z x.blocks xs h1 h.far xs.length (by omega) a ha
theorem good_del {l : List Vol} (h : Good l) (i : Nat) : Good (l.eraseIdx i) :=
  ⟨List.Pairwise.sublist (List.eraseIdx_sublist l i) h.up, Nat.le_trans (List.length_eraseIdx_le l i) h.few, fun x hx => h.ok x (List.mem_of_mem_eraseIdx hx)⟩
theorem sum_zero {l : List Nat} (h : ∀ x ∈ l, x = 0) : l.sum = 0 := by
  induction l with
  | nil => rfl
  | cons a l ih => rw [List.sum_cons, h a List.mem_cons_self, ih (fun x hx => h x (List.mem_cons_of_mem _ hx))]
theorem sum_one {K : List Int} (hk : K.Nodup) {y : Int} (hy : y ∈ K) : (K.map fun i => if y = i then (1 : Nat) else 0).sum = 1 := by
  induction K with
  | nil => cases hy
  | cons a K ih =>
    obtain ⟨h1, h2⟩ := List.nodup_cons.1 hk
    rw [List.map_cons, List.sum_cons]
    by_cases e : y = a
    · subst e
      have : (K.map fun i => if y = i then (1 : Nat) else 0).sum = 0 := by
        refine sum_zero fun x hx => ?_
        obtain ⟨i, hi, rfl⟩ := List.mem_map.1 hx
        rw [if_neg (fun e : y = i => h1 (e ▸ hi))]
      rw [this, if_pos rfl]
    · rw [if_neg e, ih h2 (by rcases List.mem_cons.1 hy with h | h; exact absurd h e; exact h)]
theorem sum_add {α : Type} (K : List α) (f g : α → Nat) : (K.map fun i => f i + g i).sum = (K.map f).sum + (K.map g).sum := by
  induction K with
  | nil => rfl
  | cons a K ih => simp only [List.map_cons, List.sum_cons, ih]; omega
theorem sum_count {K : List Int} (hk : K.Nodup) : ∀ L : List Int, (∀ y ∈ L, y ∈ K) → (K.map fun i => L.count i).sum = L.length
  | [], _ => by
    refine sum_zero fun x hx => ?_
    obtain ⟨i, _, rfl⟩ := List.mem_map.1 hx
    simp
  | y :: L, h => by
    have ih := sum_count hk L (fun z hz => h z (List.mem_cons_of_mem _ hz))
    have e : (fun i => (y :: L).count i) = fun i => L.count i + (if y = i then 1 else 0) := by
      funext i
      rw [List.count_cons]
      simp
    rw [e, sum_add, ih, sum_one hk (h y List.mem_cons_self)]
    rfl
def usedL (l : List Vol) : Int := (l.map Vol.used).sum
theorem all_used {l : List Vol} (h : ∀ x ∈ l, OkVol x) : ((allN l).length : Int) = usedL l := by
  induction l with
  | nil => rfl
  | cons x l ih =>
    have e : allN (x :: l) = numsL x.f ++ allN l := rfl
    have e2 : usedL (x :: l) = x.used + usedL l := by unfold usedL; rw [List.map_cons, List.sum_cons]
    rw [e, List.length_append, e2, (h x List.mem_cons_self).us, ← ih (fun y hy => h y (List.mem_cons_of_mem _ hy))]
    show ((numsL x.f).length + (allN l).length : Int) = (((numsL x.f).length : Nat) : Int) + _
    rfl
theorem all_wf {l : List Vol} (h : ∀ x ∈ l, OkVol x) : ∀ y ∈ allN l, wfI y := fun y hy => by
  obtain ⟨x, hx, hy⟩ := List.mem_flatMap.1 hy
  exact nums_wf (h x hx).num hy
def cntS (L K : List Int) (k : Nat) : Int := ((K.take k).map fun i => ((L.count i : Nat) : Int)).sum
theorem sum_cast (K : List Int) (f : Int → Nat) : (K.map fun i => ((f i : Nat) : Int)).sum = (((K.map f).sum : Nat) : Int) := by
  induction K with
  | nil => rfl
  | cons a K ih => rw [List.map_cons, List.sum_cons, ih, List.map_cons, List.sum_cons]; omega
theorem cnt_all {l : List Vol} {K : List Int} (h : Good l) (hk : KeysOf (allN l) K) : cntS (allN l) K K.length = usedL l := by
  unfold cntS
  rw [List.take_of_length_le (Nat.le_refl _), sum_cast, sum_count hk.1 (allN l) (fun y hy => (hk.2.1 y).2 ⟨all_wf h.ok y hy, hy⟩)]
  exact all_used h.ok
def useS (l : List Vol) (k : Nat) : Int := ((l.take k).map Vol.used).sum
theorem useS_succ {l : List Vol} {k : Nat} {x : Vol} (h : l[k]? = some x) : useS l (k + 1) = useS l k + x.used := by
  obtain ⟨h1, rfl⟩ := List.getElem?_eq_some_iff.1 h
  unfold useS
  rw [List.take_succ_eq_append_getElem h1, List.map_append, List.sum_append]
  simp
theorem cntS_succ {L K : List Int} {k : Nat} {y : Int} (h : K[k]? = some y) : cntS L K (k + 1) = cntS L K k + ((L.count y : Nat) : Int) := by
  obtain ⟨h1, rfl⟩ := List.getElem?_eq_some_iff.1 h
  unfold cntS
  rw [List.take_succ_eq_append_getElem h1, List.map_append, List.sum_append]
  simp
theorem useS_near {l : List Vol} (h : Good l) : ∀ k : Nat, 0 ≤ useS l k ∧ useS l k ≤ (k : Int) * 4096
  | 0 => by simp [useS]
  | k + 1 => by
    have ih := useS_near h k
    rcases Nat.lt_or_ge k l.length with hk | hk
    · have hx : l[k]? = some l[k] := List.getElem?_eq_getElem hk
      rw [useS_succ hx]
      have := (h.ok _ (List.mem_of_getElem? hx)).le
      omega
    · have : useS l (k + 1) = useS l k := by unfold useS; rw [List.take_of_length_le (by omega), List.take_of_length_le hk]
      rw [this]
      omega
theorem cntS_near (L K : List Int) : ∀ k : Nat, 0 ≤ cntS L K k ∧ cntS L K k ≤ (k : Int) * (L.length : Int)
  | 0 => by simp [cntS]
  | k + 1 => by
    have ih := cntS_near L K k
    rcases Nat.lt_or_ge k K.length with hk | hk
    · have hx : K[k]? = some K[k] := List.getElem?_eq_getElem hk
      rw [cntS_succ hx]
      have h1 : L.count K[k] ≤ L.length := List.count_le_length
      rw [show (((k + 1 : Nat) : Int)) * (L.length : Int) = (k : Int) * (L.length : Int) + (L.length : Int) by rw [Int.natCast_add, Int.add_mul]; simp]
      omega
    · have : cntS L K (k + 1) = cntS L K k := by unfold cntS; rw [List.take_of_length_le (by omega), List.take_of_length_le hk]
      rw [this, show (((k + 1 : Nat) : Int)) * (L.length : Int) = (k : Int) * (L.length : Int) + (L.length : Int) by rw [Int.natCast_add, Int.add_mul]; simp]
      omega
end Go.Proofs.Ytnnadhfpkplncaa
