/- The places at which two trees differ, up to their order. Condition: the trees read. -/
import Derived.Test.YtnnadhfpkplncaaRxSort
namespace Go.Proofs.Ytnnadhfpkplncaa
open Go.RowKit Go.Shelf
attribute [local go_sem] Oper.semAt_some

/-- Does a place of the first tree differ in the second one? -/
def dif (f g : Nat → Int) (x : Nat) : Bool := decide (getF g (x : Int) ≠ f x)
/-- The list so far, and both trees' boxes. -/
def DIn (w : World) (A B : Option Addr) (L : List Nat) (W : World) : Prop :=
  ∃ v, Boxed W (w.heap.size + 1 + 1) 32 v ∧ W.ownsRow w.heap.size 3 1 v L.length (L.map fun x : Nat => .int .i64 (x : Int)) ∧ Boxed W w.heap.size 23 (.pointer A) ∧ Boxed W (w.heap.size + 1) 23 (.pointer B) ∧ Below w.heap.size w W
theorem DIn.own {w : World} {A B : Option Addr} {α : Type} {L : α → List Nat} {M : Nat} (hM : w.heap.size ≤ M) : OwnFrom M (fun s W => DIn w A B (L s) W) := fun s X Y row hs hg hr => by
  obtain ⟨v, h1, h2, h3, h4, h5⟩ := hs
  have hr' : ∀ r, row = some r → ∃ o : Obj, X.heap[r]? = some o ∧ o.isCells = false := fun r e => (hr r e).2
  exact ⟨v, box_kept h1 hg hr', row_kept h2 hg hr', box_kept h3 hg hr', box_kept h4 hg hr', h5.grown hg h5.size fun k e => Nat.le_trans hM (hr k e).1⟩
/-- Has a place of the second tree no number in the first one? -/
def gone (f : Nat → Int) (x : Nat) : Bool := decide (getF f (x : Int) = 0)
theorem keeps_at {β : Type} {D M : Nat} {o : Obj} (h : D < M) : OwnFrom M (fun (_ : β) W => W.heap[D]? = some o) := fun _ X Y row hs hg hr =>
  (hg.block D (block_lt hs) (fun e => by have := (hr D e.symm).1; omega)).trans hs
theorem box_below {W W' : World} {B : Nat} {T : TypeId} {u : Value} (h : Boxed W B T u) (k : Below W.heap.size W W') : Boxed W' B T u := (k.block B h.lt).trans h
theorem row_below {W W' : World} {base m : Nat} {E : TypeId} {u : Value} {ys : List Value} (h : W.ownsRow base E 1 u m ys) (k : Below W.heap.size W W') : W'.ownsRow base E 1 u m ys := by
  refine ⟨h.1, ?_⟩
  rcases h.2 with h2 | ⟨g, c, cur, e, hb, hg, r⟩
  · exact Or.inl h2
  · exact Or.inr ⟨g, c, cur, e, hb, (k.block g (block_lt hg)).trans hg, r⟩
theorem keeps_below {W W' : World} (k : Below W.heap.size W W') : KeepsOthers W W' := ⟨k.size, fun i _ ho _ => (k.block i (block_lt ho)).trans ho⟩
theorem DIn.below {w W W' : World} {A B : Option Addr} {L : List Nat} (h : DIn w A B L W) (k : Below W.heap.size W W') : DIn w A B L W' := by
  obtain ⟨v, h1, h2, h3, h4, h5⟩ := h
  exact ⟨v, box_below h1 k, row_below h2 k, box_below h3 k, box_below h4 k, h5.trans (k.mono h5.size)⟩
/-- What Diff hands back. -/
def DiffPost (f g : Nat → Int) (w : World) (e : Ending) (w' : World) : Prop :=
  ∃ u, e = .returned u ∧ w'.ownsRow w.heap.size 3 1 u (diffL f g).length ((diffL f g).map fun x : Nat => .int .i64 (x : Int)) ∧ Below w.heap.size w w'
set_option maxRecDepth 100000 in
set_option maxHeartbeats 1600000 in
theorem diff_any (f g : Nat → Int) (S T : Nat → Nat → Option Nat) (A B : Option Addr) (w : World) (h : RdR f S w A) (h2 : RdR g T w B) :
    Calls Try.prog 21 #[.pointer A, .pointer B] w (DiffPost f g w) := by
  have HS := Lib.hid (each_all f S A w h)
  have HT := Lib.hid (each_all g T B w h2)
  have HR := Lib.hid h
  have HR2 := Lib.hid h2
  have hle := items_le f
  have hle2 := items_le g
  obtain ⟨i0, hi, hz0, hz1, hz2⟩ := info_parts infoTINT
  clear h h2
  refine (callsIn_wide (n := 3)).1 ?_
  refine callsIn_of_wp_marks Try.func21 rfl trivial ?_ rfl
  simp only [Try.ntmps21, List.size_toArray, List.length_cons, List.length_nil, Nat.reduceAdd, Nat.reduceSub, Array.replicate_succ, Array.replicate_zero, List.push_toArray, List.append_toArray, List.nil_append, List.cons_append]
  gi_wp2
  have hB0 : Below w.heap.size w (((w.alloc (.cells #[.pointer A] 23)).alloc (.cells #[.pointer B] 23)).alloc (.cells #[.slice none 0 0] 32)) := (((Below.refl _ w).alloc (Nat.le_refl _) _).alloc (by simp) _).alloc (by simp; omega) _
  have hD0 : DIn w A B [] (((w.alloc (.cells #[.pointer A] 23)).alloc (.cells #[.pointer B] 23)).alloc (.cells #[.slice none 0 0] 32)) := by
    have b1 := Boxed.new (w.alloc (.cells #[.pointer A] 23)) 23 (.pointer B)
    have b2 := Boxed.new ((w.alloc (.cells #[.pointer A] 23)).alloc (.cells #[.pointer B] 23)) 32 (.slice none 0 0)
    rw [World.size_alloc] at b1
    rw [World.size_alloc, World.size_alloc] at b2
    exact ⟨.slice none 0 0, b2, World.ownsRow_nil _ _ _ _, ((Boxed.new w _ _).alloc _).alloc _, b1.alloc _, hB0⟩
  refine range_all 40 #[.pointer A] rfl (enters_of Try.func40 (by kernel_rfl) rfl) HS.out hB0 (fun _ => rfl)
    (fun pre W => DIn w A B (pre.filter (dif f g)) W) (DIn.own (by simp; omega)) hD0
    (fun x => { tmps := #[.pointer A, .pointer B, .pointer (some ⟨w.heap.size, 0, none⟩), .pointer (some ⟨w.heap.size + 1, 0, none⟩), .slice none 0 0, .pointer (some ⟨w.heap.size + 1 + 1, 0, none⟩), .int .i64 x, .int .i64 (f x), undef, .pointer A, .func (.func 40) #[.pointer A] #[], .int .i64 x, .int .i64 (f x), undef, undef, undef, undef, undef, undef, undef, undef, undef, undef, undef, undef, undef, undef, undef, undef, undef, undef, undef, undef, undef, undef, undef, undef], defers := [] }) ?assign ?body ?done
  case assign =>
    intro l x W K hK
    unfold yArgs
    gi_wp2
    simpa using hK
  case body =>
    rintro l pre x W hD hlen _
    have hD2 := hD
    obtain ⟨v, h1, h3, h4, h5, h6⟩ := hD
    have hwW : w.heap.size ≤ W.heap.size := h6.size
    obtain ⟨q, hq⟩ : ∃ q, q = getF g x := ⟨_, rfl⟩
    obtain ⟨p, hp⟩ : ∃ p, p = f x := ⟨_, rfl⟩
    have HG := Lib.hid (CallsIn.inRound l ((callsIn_wide (n := 3 - 1 - 1 - 1)).2 (get_any g T B x W (HR2.out.below h6))))
    have c5 := h5.cell
    rw [← hq] at HG
    have HD := Lib.hid hD2
    have HQ := Lib.hid hq
    have HP := Lib.hid hp
    rw [← hp]
    have hpl := List.length_filter_le (dif f g) pre
    have HF := Lib.hid (show (pre ++ [x]).filter (dif f g) = pre.filter (dif f g) ++ if q = p then [] else [x] by
      rw [List.filter_append, hq, hp]
      by_cases h : getF g x = f x <;> simp [dif, h])
    obtain ⟨L, hL⟩ : ∃ L, L = pre.filter (dif f g) := ⟨_, rfl⟩
    rw [← hL] at hpl HF HD
    have HL := Lib.hid hL
    clear h1 h3 h4 h5 h6 hD2 hq hp hL
    gi_wp2_with fail
    refine ⟨trivial, HG.out.mono ?_⟩
    rintro e W2 ⟨rfl, hb2⟩
    have hD2 := HD.out.below hb2
    have HB2 := Lib.hid hb2
    clear HG hb2 HD
    by_cases hne : q = p
    · have hnb : (q != p) = false := by simp [hne]
      have HN := Lib.hid hne
      have HD2 := Lib.hid hD2
      clear hne hD2
      gi_wp2
      refine ⟨(keeps_below HB2.out).from _, HB2.out.mono hwW, ?_⟩
      have := HF.out
      rw [if_pos HN.out, List.append_nil] at this
      show DIn w A B ((pre ++ [x]).filter (dif f g)) W2
      rw [this]
      exact HD2.out
    · have hnb : (q != p) = true := by simp [hne]
      have HN := Lib.hid hne
      obtain ⟨v, h1, h3, h4, h5, h6⟩ := hD2
      have hc := h1.cell
      have H1 := Lib.hid h1
      have H3 := Lib.hid h3
      have H4 := Lib.hid h4
      have H5 := Lib.hid h5
      have H6 := Lib.hid h6
      clear h1 h3 h4 h5 h6 hne
      gi_wp2_with (gi_at_builtin; refine wpListIn_append_own _ rfl _ _ 32 rfl w.heap.size 3 i0 (.int .i64 0) 1 8 Try.underlying32 hi hz0 hz1 hz2 rfl (by decide) _ _ _ rfl (H3.out.alloc _) ⟨W2.heap.size, 0, none⟩ 1 1 [.int .i64 (x : Int)] rfl rfl (cell_one_new _ _ _) (by simp [Value.oneCell']) (by unfold maxLen; omega) (by omega) (by have := H6.out.size; simp; omega) ?_; intro v' w1 hown' hgrow _; obtain ⟨g', cap', rfl⟩ := ownsRow_succ hown'; obtain ⟨hv1, hv2, hr2, hk2, hb2⟩ := H1.out.appended (by decide) H3.out H6.out.size (by omega) hown' hgrow; have hc1 := hv1.cell; have hf1 := hv1.frozen)
      refine ⟨((keeps_below HB2.out).trans hk2).from _, (HB2.out.mono hwW).trans hb2, ?_⟩
      have := HF.out
      rw [if_neg HN.out] at this
      show DIn w A B ((pre ++ [x]).filter (dif f g)) _
      rw [this]
      refine ⟨_, hv2, ?_, ?_, ?_, H6.out.trans hb2⟩
      · rw [List.length_append, List.map_append]; exact hr2
      · exact ((H4.out.alloc _).kept hgrow (H4.out.not_row (by decide) H3.out)).other (by omega) _
      · exact ((H5.out.alloc _).kept hgrow (H5.out.not_row (by decide) H3.out)).other (by omega) _
  case done =>
    rintro D W hD hin hK
    obtain ⟨L0, hL0⟩ : ∃ L0, L0 = (itemsL f 2 0).filter (dif f g) := ⟨_, rfl⟩
    rw [← hL0] at hin
    have hl0 : L0.length ≤ 4096 := by rw [hL0]; exact Nat.le_trans (List.length_filter_le _ _) hle
    have HL0 := Lib.hid hL0
    have hDlt : D < W.heap.size := block_lt hK
    obtain ⟨v, h1, h3, h4, h5, h6⟩ := id hin
    have c5 := h5.cell
    have HI := Lib.hid hin
    have HK := Lib.hid hK
    have HB := Lib.hid h6
    clear h1 h3 h4 h5 h6 hin hK hL0
    gi_wp2
    refine range_all 40 #[.pointer B] rfl (enters_of Try.func40 (by kernel_rfl) rfl) HT.out HB.out (fun _ => rfl)
      (fun pre W' => DIn w A B (L0 ++ pre.filter (gone f)) W' ∧ W'.heap[D]? = some (.deferred (some []))) (OwnFrom.and (DIn.own HB.out.size) (keeps_at hDlt)) ⟨by simpa using HI.out, HK.out⟩
      (fun x => { tmps := #[.pointer A, .pointer B, .pointer (some ⟨w.heap.size, 0, none⟩), .pointer (some ⟨w.heap.size + 1, 0, none⟩), .slice none 0 0, .pointer (some ⟨w.heap.size + 1 + 1, 0, none⟩), undef, undef, .int .i64 x, .pointer A, .func (.func 40) #[.pointer A] #[], undef, undef, undef, undef, undef, undef, undef, undef, undef, undef, undef, .pointer B, .func (.func 40) #[.pointer B] #[], .int .i64 x, .int .i64 (g x), undef, undef, undef, undef, undef, undef, undef, undef, undef, undef, undef], defers := [] }) ?assign2 ?body2 ?done2
    case assign2 =>
      intro l x W K hK
      unfold yArgs
      gi_wp2
      simpa using hK
    case body2 =>
      rintro l pre x W ⟨hD, hDK⟩ hlen _
      have hD2 := hD
      obtain ⟨v, h1, h3, h4, h5, h6⟩ := hD
      have hwW : w.heap.size ≤ W.heap.size := h6.size
      obtain ⟨q, hq⟩ : ∃ q, q = getF f x := ⟨_, rfl⟩
      have HG := Lib.hid (CallsIn.inRound l ((callsIn_wide (n := 3 - 1 - 1 - 1)).2 (get_any f S A x W (HR.out.below h6))))
      have c5 := h4.cell
      rw [← hq] at HG
      have HD := Lib.hid hD2
      have HQ := Lib.hid hq
      have hpl := List.length_filter_le (gone f) pre
      have HF := Lib.hid (show (pre ++ [x]).filter (gone f) = pre.filter (gone f) ++ if q = 0 then [x] else [] by
        rw [List.filter_append, hq]
        by_cases h : getF f x = 0 <;> simp [gone, h])
      obtain ⟨L, hL⟩ : ∃ L, L = pre.filter (gone f) := ⟨_, rfl⟩
      rw [← hL] at hpl HF HD
      have HL := Lib.hid hL
      have HK2 := Lib.hid hDK
      clear hDK
      have hl0L : (L0 ++ L).length ≤ 8192 := by rw [List.length_append]; omega
      obtain ⟨M, hM⟩ : ∃ M, M = L0 ++ L := ⟨_, rfl⟩
      rw [← hM] at HD hl0L
      have HM := Lib.hid hM
      clear hM
      clear h1 h3 h4 h5 h6 hD2 hq hL
      gi_wp2_with fail
      refine ⟨trivial, HG.out.mono ?_⟩
      rintro e W2 ⟨rfl, hb2⟩
      have hD2 := HD.out.below hb2
      have HB2 := Lib.hid hb2
      clear HG hb2 HD
      by_cases hne : q = 0
      · subst hne
        obtain ⟨v, h1, h3, h4, h5, h6⟩ := hD2
        have hc := h1.cell
        have H1 := Lib.hid h1
        have H3 := Lib.hid h3
        have H4 := Lib.hid h4
        have H5 := Lib.hid h5
        have H6 := Lib.hid h6
        clear h1 h3 h4 h5 h6
        gi_wp2_with (gi_at_builtin; refine wpListIn_append_own _ rfl _ _ 32 rfl w.heap.size 3 i0 (.int .i64 0) 1 8 Try.underlying32 hi hz0 hz1 hz2 rfl (by decide) _ _ _ rfl (H3.out.alloc _) ⟨W2.heap.size, 0, none⟩ 1 1 [.int .i64 (x : Int)] rfl rfl (cell_one_new _ _ _) (by simp [Value.oneCell']) (by unfold maxLen; omega) (by omega) (by have := H6.out.size; simp; omega) ?_; intro v' w1 hown' hgrow _; obtain ⟨g', cap', rfl⟩ := ownsRow_succ hown'; obtain ⟨hv1, hv2, hr2, hk2, hb2⟩ := H1.out.appended (by decide) H3.out H6.out.size (by omega) hown' hgrow; have hc1 := hv1.cell; have hf1 := hv1.frozen)
        refine ⟨((keeps_below HB2.out).trans hk2).from _, (HB2.out.mono hwW).trans hb2, ?_⟩
        have := HF.out
        rw [if_pos trivial] at this
        refine And.intro ?_ (((keeps_below HB2.out).trans hk2).same D _ HK2.out rfl)
        show DIn w A B (L0 ++ (pre ++ [x]).filter (gone f)) _
        rw [this, ← List.append_assoc, ← HM.out]
        refine ⟨_, hv2, ?_, ?_, ?_, H6.out.trans hb2⟩
        · rw [List.length_append, List.map_append]; exact hr2
        · exact ((H4.out.alloc _).kept hgrow (H4.out.not_row (by decide) H3.out)).other (by omega) _
        · exact ((H5.out.alloc _).kept hgrow (H5.out.not_row (by decide) H3.out)).other (by omega) _
      · have hnb : (q == 0) = false := by simp [hne]
        have HN := Lib.hid hne
        have HD2 := Lib.hid hD2
        clear hne hD2
        gi_wp2
        refine ⟨(keeps_below HB2.out).from _, HB2.out.mono hwW, ?_⟩
        have := HF.out
        rw [if_neg HN.out, List.append_nil] at this
        refine And.intro ?_ ((HB2.out.block D (block_lt HK2.out)).trans HK2.out)
        show DIn w A B (L0 ++ (pre ++ [x]).filter (gone f)) W2
        rw [this, ← HM.out]
        exact HD2.out
    case done2 =>
      rintro D2 W2 hD2 ⟨hin2, hDK⟩ hK2
      obtain ⟨L1, hL1⟩ : ∃ L1, L1 = L0 ++ (itemsL g 2 0).filter (gone f) := ⟨_, rfl⟩
      rw [← hL1] at hin2
      obtain ⟨v, h1, h3, h4, h5, h6⟩ := hin2
      have c1 := h1.cell
      have hl1 : L1.length ≤ 8192 := by
        have a1 := List.length_filter_le (gone f) (itemsL g 2 0)
        rw [hL1, List.length_append]
        omega
      have hsort := sort_any w.heap.size v (ints L1) W2 (by rw [ints_map]; simpa [ints] using h3) (by unfold ints; rw [List.length_map]; omega)
      have HS := Lib.hid ((callsIn_wide (n := 2)).2 hsort)
      have H1 := Lib.hid h1
      have H3 := Lib.hid h3
      have HB2 := Lib.hid h6
      have HK1 := Lib.hid hDK
      have HK2 := Lib.hid hK2
      have HL1 := Lib.hid hL1
      clear h1 h3 h4 h5 h6 hDK hK2 hL1
      gi_wp2_with fail
      refine ⟨trivial, HS.out.mono ?_⟩
      rintro e W3 ⟨rfl, hown, hgr⟩
      have hDlt3 : D < W2.heap.size := block_lt HK1.out
      have hnr : ∀ k o, W2.heap[k]? = some o → o.isCells = false → v.ownBlock ≠ some k := fun k o ho hc e => by
        obtain ⟨cs, hcs⟩ := own_plain H3.out e
        rw [hcs] at ho
        cases ho
        cases hc
      have HK1' := Lib.hid ((hgr.block D (block_lt HK1.out) (fun e => hnr D _ HK1.out rfl e.symm)).trans HK1.out)
      have HK2' := Lib.hid ((hgr.block D2 (block_lt HK2.out) (fun e => hnr D2 _ HK2.out rfl e.symm)).trans HK2.out)
      have hbox := H1.out.kept hgr (H1.out.not_row (by decide) H3.out)
      have c3 := hbox.cell
      have HB3 := Lib.hid (HB2.out.grown hgr HB2.out.size (fun k e => (H3.out.lt k e).1))
      have HO := Lib.hid hown
      clear hown hgr hnr hbox c1
      gi_wp2
      refine ⟨by simp, .inl ⟨_, _, rfl, run_takeDeferred HK2'.out, ?_⟩⟩
      have hne : D ≠ D2 := by omega
      have HK3 : (W3.putObj D2 (.deferred none)).heap[D]? = some (.deferred (some [])) := (World.putObj_heap_other hne).trans HK1'.out
      refine ⟨by simp, .inl ⟨_, _, rfl, run_takeDeferred HK3, ?_⟩⟩
      have hd1 : w.heap.size ≤ D := by simp at hD; omega
      have hd2 : w.heap.size ≤ D2 := by have := HB.out.size; omega
      have hlist := diff_list f g
      have hL1 : L1 = (itemsL f 2 0).filter (fun x : Nat => decide (getF g (x : Int) ≠ f x)) ++ (itemsL g 2 0).filter (fun x : Nat => decide (getF f (x : Int) = 0)) := by rw [HL1.out, HL0.out]; rfl
      rw [← hL1] at hlist
      have hown := HO.out
      have hlen : (ints L1).length = (diffL f g).length := by
        have := congrArg List.length hlist
        rw [List.length_mergeSort] at this
        rw [this]; simp [ints]
      rw [hlist, ints_map, hlen] at hown
      exact ⟨_, results_tmp rfl _ _ _, v, rfl, ownsRow_putObj (ownsRow_putObj hown _ HK2'.out rfl) _ HK3 rfl, (HB3.out.trans (belowK_b (w := w) (Nat.le_refl _) W3 D2 _ _ hd2 HK2'.out rfl rfl)).trans (belowK_b (w := w) (Nat.le_refl _) _ D _ _ hd1 HK3 rfl rfl)⟩
end Go.Proofs.Ytnnadhfpkplncaa
