/- Texts of the proof of VolumeAlone, part 8 of 9. Conditions stand ahead of each. -/
import Derived.Test.YtnnadhfpkplncaaZVolumeAlone7
import Derived.Deep.RegionHeld
import Derived.Laws.BytesArg

/- A set of volumes as bytes: Encode. Condition: the set reads and is good. -/
namespace Go.Proofs.Ytnnadhfpkplncaa
open Go.RowKit

def isB (v : Value) : Prop := ∃ n : Int, v = .int .u8 n
def toI : Value → Int
  | .int _ n => n
  | _ => 0
theorem bytesV_toI {bs : List Value} (h : ∀ v ∈ bs, isB v) : bytesV (bs.map toI) = bs := by
  unfold bytesV
  rw [List.map_map]
  conv => rhs; rw [← List.map_id bs]
  refine List.map_congr_left fun v hv => ?_
  obtain ⟨n, rfl⟩ := h v hv
  rfl
theorem uintB_isB (n : Int) : ∀ v ∈ uintB n, isB v := fun v hv => by
  unfold uintB uintT at hv
  rcases List.mem_cons.1 hv with rfl | hv
  · exact ⟨_, rfl⟩
  · obtain ⟨j, _, rfl⟩ := List.mem_map.1 hv
    exact ⟨_, rfl⟩
theorem textB_isB (t : List UInt8) : ∀ v ∈ textB t, isB v := fun v hv => by
  rcases List.mem_append.1 hv with hv | hv
  · exact uintB_isB _ v hv
  · obtain ⟨j, _, rfl⟩ := List.mem_map.1 hv
    exact ⟨_, rfl⟩
def headV (x : Vol) : List Value := textB x.name ++ uintB x.blocks ++ uintB x.quota ++ [.int .u8 (if x.frozen then 1 else 0)] ++ uintB x.used
def itB (f : Nat → Int) (L : List Nat) : List Value := L.flatMap fun a : Nat => uintB (a : Int) ++ uintB (f a)
def volB (x : Vol) : List Value := headV x ++ itB x.f (itemsL x.f 2 0)
def volsB (l : List Vol) : List Value := l.flatMap volB
def encB (l : List Vol) : List Value := uintB (l.length : Int) ++ volsB l
theorem headV_isB (x : Vol) : ∀ v ∈ headV x, isB v := fun v hv => by
  unfold headV at hv
  simp only [List.mem_append, List.mem_singleton] at hv
  rcases hv with (((hv | hv) | hv) | rfl) | hv
  · exact textB_isB _ v hv
  · exact uintB_isB _ v hv
  · exact uintB_isB _ v hv
  · exact ⟨_, rfl⟩
  · exact uintB_isB _ v hv
theorem itB_isB (f : Nat → Int) (L : List Nat) : ∀ v ∈ itB f L, isB v := fun v hv => by
  obtain ⟨a, _, hv⟩ := List.mem_flatMap.1 hv
  rcases List.mem_append.1 hv with hv | hv
  · exact uintB_isB _ v hv
  · exact uintB_isB _ v hv
theorem encB_isB (l : List Vol) : ∀ v ∈ encB l, isB v := fun v hv => by
  rcases List.mem_append.1 hv with hv | hv
  · exact uintB_isB _ v hv
  · obtain ⟨x, _, hv⟩ := List.mem_flatMap.1 hv
    rcases List.mem_append.1 hv with hv | hv
    · exact headV_isB x v hv
    · exact itB_isB _ _ v hv
theorem uintB_le {n : Int} (h : 0 ≤ n ∧ n ≤ 1099511627776) : (uintB n).length ≤ 6 := by
  rw [uintB_len]
  have := behK_le h
  omega
theorem textB_le {t : List UInt8} (h : t.length ≤ 32) : (textB t).length ≤ 38 := by
  unfold textB chars
  rw [List.length_append, List.length_map]
  have := uintB_le (n := (t.length : Int)) (by omega)
  omega
theorem itB_le {f : Nat → Int} (hf : ∀ a, 0 ≤ f a ∧ f a ≤ 1099511627776) : ∀ L : List Nat, (∀ a ∈ L, a < 4096) → (itB f L).length ≤ L.length * 12
  | [], _ => by simp [itB]
  | a :: L, h => by
    have ih := itB_le hf L fun b hb => h b (List.mem_cons_of_mem _ hb)
    have e : itB f (a :: L) = (uintB (a : Int) ++ uintB (f a)) ++ itB f L := rfl
    have h1 := uintB_le (n := (a : Int)) (by have := h a List.mem_cons_self; omega)
    have h2 := uintB_le (hf a)
    rw [e, List.length_append, List.length_append, List.length_cons]
    omega
theorem items_lt {f : Nat → Int} : ∀ a ∈ itemsL f 2 0, a < 4096 := fun a ha => by
  rw [items_eq] at ha
  exact List.mem_range.1 (List.mem_filter.1 ha).1
theorem volB_le {x : Vol} (h : OkVol x) : (volB x).length ≤ 50000 ∧ (headV x).length ≤ 100 := by
  have h0 := h.bl
  have h1 := textB_le h.nm
  have h2 := uintB_le (n := x.blocks) (by omega)
  have h3 := uintB_le (n := x.quota) (by have := h.qt; omega)
  have h4 := uintB_le (n := x.used) (by have := h.le; omega)
  have h5 := itB_le h.num (itemsL x.f 2 0) items_lt
  have h6 := items_le x.f
  have h7 : (headV x).length ≤ 100 := by
    unfold headV
    simp only [List.length_append, List.length_singleton]
    omega
  refine ⟨?_, h7⟩
  unfold volB
  rw [List.length_append]
  omega
theorem volsB_le : ∀ l : List Vol, (∀ x ∈ l, OkVol x) → (volsB l).length ≤ l.length * 50000
  | [], _ => by simp [volsB]
  | x :: l, h => by
    have ih := volsB_le l fun y hy => h y (List.mem_cons_of_mem _ hy)
    have e : volsB (x :: l) = volB x ++ volsB l := rfl
    have := (volB_le (h x List.mem_cons_self)).1
    rw [e, List.length_append, List.length_cons]
    omega
theorem volsB_take {l : List Vol} {k : Nat} {x : Vol} (h : l[k]? = some x) : volsB (l.take (k + 1)) = volsB (l.take k) ++ volB x := by
  obtain ⟨h1, rfl⟩ := List.getElem?_eq_some_iff.1 h
  unfold volsB
  rw [List.take_succ_eq_append_getElem h1, List.flatMap_append]
  simp
theorem itB_take {f : Nat → Int} {L : List Nat} {k : Nat} {z : Nat} (h : L[k]? = some z) : itB f (L.take (k + 1)) = itB f (L.take k) ++ (uintB (z : Int) ++ uintB (f z)) := by
  obtain ⟨h1, rfl⟩ := List.getElem?_eq_some_iff.1 h
  unfold itB
  rw [List.take_succ_eq_append_getElem h1, List.flatMap_append]
  simp
/-- All bytes of a set, sealed. -/
def encI (l : List Vol) : List Int := (encB l).map toI
def encV (l : List Vol) : List Value := sealV (encI l)
theorem KeepW.own {L : Nat} {w w' : World} {B n s : Nat} {E : TypeId} {v : Value} {xs : List Value} (k : KeepW L w w') (h : w.ownsRow B E s v n xs) (h1 : E ≠ 5) (h2 : E ≠ 134) : w'.ownsRow B E s v n xs := by
  refine ⟨h.1, ?_⟩
  rcases h.2 with h3 | ⟨g, c, cur, e, hb, hg, r⟩
  · exact Or.inl h3
  · exact Or.inr ⟨g, c, cur, e, hb, k.oth _ _ _ h1 h2 hg, r⟩
/-- What stands between two rounds. -/
structure EncAt (W : World) (L p : Nat) (bs : List Value) (w : World) : Prop where
  low : Below L W w
  wr : WrAt L w p bs
structure ItAt (W : World) (L p : Nat) (bs : List Value) (u1 u2 : Value) (m : Nat) (xs ys : List Value) (w : World) : Prop where
  low : Below L W w
  wr : WrAt L w p bs
  o1 : w.ownsRow L 3 1 u1 m xs
  o2 : w.ownsRow L 3 1 u2 m ys
theorem WrAt.lt {L p : Nat} {bs : List Value} {w : World} (h : WrAt L w p bs) : L ≤ w.heap.size := by
  obtain ⟨v, hp, _⟩ := h.at_
  exact Nat.le_trans h.lo (Nat.le_of_lt (block_lt hp))
def EncPost (l : List Vol) (w : World) (e : Ending) (w' : World) : Prop := ∃ A c, e = .returned (.slice A ((encI l).length + 4) c) ∧ RdA w' A (encV l) ∧ Below w.heap.size w w'
set_option maxRecDepth 100000 in
set_option maxHeartbeats 6400000 in
theorem encode_any (s : Option Addr) (l : List Vol) (w : World) (h : RdS w s l) (hg : Good l) : Calls Try.prog 34 #[.pointer s] w (EncPost l w) := by
  obtain ⟨A, c, hrv, hall⟩ := vall_fix s l w h
  have HRV := Lib.hid hrv
  have HALL := Lib.hid hall
  have HTR := Lib.hid h.1
  have HOK := Lib.hid hg.ok
  have hfew := hg.few
  have HP0 := Lib.hid (pnew_any w)
  obtain ⟨n, hn⟩ : ∃ n, n = l.length := ⟨_, rfl⟩
  rw [← hn] at HALL hfew
  have HN := Lib.hid hn
  obtain ⟨L, hL⟩ : ∃ L, L = w.heap.size := ⟨_, rfl⟩
  unfold EncPost
  rw [← hL] at HALL HP0 ⊢
  have HL := Lib.hid hL
  have HSZ := Lib.hid (show ∀ w', Below L w w' → L ≤ w'.heap.size from fun w' h => Nat.le_trans (Nat.le_of_eq hL) h.size)
  obtain ⟨p, hp⟩ : ∃ p, p = L := ⟨_, rfl⟩
  have HTB := Lib.hid (show ∀ k, (volsB (l.take k)).length ≤ 3200000 from fun k => by
    have h1 := volsB_le (l.take k) fun x hx => HOK.out x (List.mem_of_mem_take hx)
    have h2 : (l.take k).length ≤ 64 := by rw [List.length_take]; omega
    omega)
  clear h hg hrv hall hn hL
  go_enter Try.func34, Try.ntmps34
  go_wp2_with fail
  refine HP0.out.mono ?_
  rintro e w1 ⟨rfl, hw1, hb1⟩
  have HW1 := Lib.hid hw1
  have HB1 := Lib.hid hb1
  clear hw1 hb1
  go_wp2_with fail
  refine (HALL.out w1 HB1.out).mono ?_
  rintro e w' ⟨rfl, rfl⟩
  have HU := Lib.hid (uint_any (n : Int) (by omega) L L [] w' HW1.out (by simp))
  go_wp2_with fail
  refine HU.out.mono ?_
  rintro e w2 ⟨rfl, hw2, hk2⟩
  rw [List.nil_append] at hw2
  have HB2 := Lib.hid (HB1.out.trans hk2.low)
  rw [← hp]
  have HW2 := Lib.hid (show EncAt w L p (uintB (n : Int) ++ volsB (l.take 0)) w2 from ⟨HB2.out, by rw [hp, show l.take 0 = [] from rfl, show volsB [] = [] from rfl, List.append_nil]; exact hw2⟩)
  have HUL := Lib.hid (uintB_le (n := (n : Int)) (by omega))
  clear hw2 hk2 HU HW1 hp HP0
  go_wp2_with fail
  refine (HALL.out w2 HB2.out).mono ?_
  rintro e w' ⟨rfl, rfl⟩
  go_upto_region 3 with fail
  go_loopg [19] n (fun gg iv wr => ∃ k : Nat, k ≤ n ∧ gg = n - k ∧ iv = .int .i64 k ∧ Hid (EncAt w L p (uintB (n : Int) ++ volsB (l.take k)) wr))
  case atStart => exact ⟨0, by omega, by omega, rfl, HW2.out⟩
  case round =>
    obtain ⟨k, hk, hgk, rfl, HE⟩ := hrel
    clear HW2
    by_cases hlt : k < n
    · have hki : (k : Int) < (n : Int) := by omega
      have hwk : IntKind.i64.wrap ((k : Int) + 1) = (k : Int) + 1 := IntWalk.i64_in _ (by omega)
      obtain ⟨x, hx⟩ : ∃ x, l[k]? = some x := ⟨_, List.getElem?_eq_getElem (by rw [← HN.out]; exact hlt)⟩
      have HLB := Lib.hid HE.out.wr.lt
      obtain ⟨b, o, rfl, c0, c1, c2, c3, c4, c5⟩ := (HRV.out.below (by rw [← HL.out]; exact HE.out.low)).at hx
      have hok := HOK.out x (List.mem_of_getElem? hx)
      have HNX := Lib.hid (volsB_take hx)
      have HX := Lib.hid (And.intro hx hok)
      have HVL := Lib.hid (volB_le hok)
      have hbl := hok.bl
      have hus := hok.le
      have hqt := hok.qt
      have hnm := hok.nm
      obtain ⟨S, hS0⟩ := HTR.out x (List.mem_of_getElem? hx)
      obtain ⟨bs, hbs⟩ : ∃ bs, bs = uintB (n : Int) ++ volsB (l.take k) := ⟨_, rfl⟩
      have hbl7 : bs.length ≤ 4000000 := by
        rw [hbs, List.length_append]
        have h1 := HTB.out k
        have h2 := HUL.out
        omega
      have HEB := Lib.hid (show EncAt w L p bs wr by rw [hbs]; exact HE.out)
      have HBS := Lib.hid (show uintB (n : Int) ++ volsB (l.take (k + 1)) = bs ++ volB x by rw [HNX.out, hbs, List.append_assoc])
      clear hbs HNX HE hok hx
      have HLE := Lib.hid (show (bs ++ textB x.name).length ≤ 800000000 ∧ (bs ++ textB x.name ++ uintB x.blocks).length ≤ 800000000 ∧ (bs ++ textB x.name ++ uintB x.blocks ++ uintB x.quota).length ≤ 900000000 ∧ (bs ++ textB x.name ++ uintB x.blocks ++ uintB x.quota ++ [Value.int .u8 (if x.frozen then 1 else 0)]).length ≤ 800000000 from by
        have h1 := HVL.out.2
        unfold headV at h1
        simp only [List.length_append, List.length_singleton] at h1 ⊢
        omega)
      have HHD := Lib.hid (show bs ++ textB x.name ++ uintB x.blocks ++ uintB x.quota ++ [.int .u8 (if x.frozen then 1 else 0)] ++ uintB x.used = bs ++ headV x by unfold headV; simp only [List.append_assoc])
      obtain ⟨xn, xb, xq, xu, xf, xA, xg⟩ := x
      dsimp only at c0 c1 c2 c3 c4 c5 hbl hus hqt hnm hS0 HLE HHD
      have hwb : IntKind.u64.wrap xb = xb := IntWalk.u64_in _ (by omega)
      have hwq : IntKind.u64.wrap xq = xq := IntWalk.u64_in _ (by omega)
      have hwu : IntKind.u64.wrap xu = xu := IntWalk.u64_in _ (by omega)
      obtain ⟨wb, hwb2⟩ : ∃ wb, wb = wr.alloc (.cells #[.string ⟨xn.toArray⟩, .int .i64 xb, .int .i64 xq, .int .i64 xu, .bool xf, .pointer xA] 92) := ⟨_, rfl⟩
      obtain ⟨q, hq⟩ : ∃ q, q = wr.heap.size := ⟨_, rfl⟩
      have hbb : Below wr.heap.size wr wb := by rw [hwb2]; exact (Below.refl _ _).alloc (Nat.le_refl _) _
      have HQ := Lib.hid (show wb.heap[q]? = some (.cells #[.string ⟨xn.toArray⟩, .int .i64 xb, .int .i64 xq, .int .i64 xu, .bool xf, .pointer xA] 92 (0, 0)) by rw [hwb2, hq]; exact alloc_new _ _)
      have HWB := Lib.hid (show WrAt L wb.drew p bs from (HEB.out.wr.below hbb).below (Below.refl _ wb).drew)
      have HBB := Lib.hid (HEB.out.low.trans (hbb.mono HLB.out))
      clear hbb
      go_upto_region 5 with fail
      rw [← hwb2, ← hq]
      clear hwb2 hq c0 c1 c2 c3 c4 c5
      refine wp_region_held_drew (S := fun w' => w'.heap[q]? = some (.cells #[.string ⟨xn.toArray⟩, .int .i64 xb, .int .i64 xq, .int .i64 xu, .bool xf, .pointer xA] 92 (0, 0))) (by kernel_rfl) HQ.out fun hS => ?_
      refine takeR 0 (v := ?_) rfl (by kernel_rfl) (by kernel_rfl) (by kernel_rfl) (fun _ _ _ h => h) (Or.inl ⟨by rfl, ?_⟩) hS ?_
      rotate_left; · (intro w hSw; have s0 : w.cell? ⟨q, 0, none⟩ = some (.string ⟨xn.toArray⟩) := block_cell hSw; have s1 : w.cell? ⟨q, 1, none⟩ = some (.int .i64 xb) := block_cell hSw; have s2 : w.cell? ⟨q, 2, none⟩ = some (.int .i64 xq) := block_cell hSw; have s3 : w.cell? ⟨q, 3, none⟩ = some (.int .i64 xu) := block_cell hSw; have s4 : w.cell? ⟨q, 4, none⟩ = some (.bool xf) := block_cell hSw; clear hSw; go_simp; (try with_reducible rfl))
      try simp only [Act.put, List.setIfInBounds_toArray, List.set_cons_zero, List.set_cons_succ]
      refine takeR 1 (v := ?_) rfl (by kernel_rfl) (by kernel_rfl) (by kernel_rfl) (fun _ _ _ h => h) (Or.inl ⟨by rfl, ?_⟩) hS ?_
      rotate_left; · (intro w hSw; have s0 : w.cell? ⟨q, 0, none⟩ = some (.string ⟨xn.toArray⟩) := block_cell hSw; have s1 : w.cell? ⟨q, 1, none⟩ = some (.int .i64 xb) := block_cell hSw; have s2 : w.cell? ⟨q, 2, none⟩ = some (.int .i64 xq) := block_cell hSw; have s3 : w.cell? ⟨q, 3, none⟩ = some (.int .i64 xu) := block_cell hSw; have s4 : w.cell? ⟨q, 4, none⟩ = some (.bool xf) := block_cell hSw; clear hSw; go_simp; (try with_reducible rfl))
      try simp only [Act.put, List.setIfInBounds_toArray, List.set_cons_zero, List.set_cons_succ]
      refine takeR 2 (v := ?_) rfl (by kernel_rfl) (by kernel_rfl) (by kernel_rfl) (fun _ _ _ h => h) (Or.inl ⟨by rfl, ?_⟩) hS ?_
      rotate_left; · (intro w hSw; have s0 : w.cell? ⟨q, 0, none⟩ = some (.string ⟨xn.toArray⟩) := block_cell hSw; have s1 : w.cell? ⟨q, 1, none⟩ = some (.int .i64 xb) := block_cell hSw; have s2 : w.cell? ⟨q, 2, none⟩ = some (.int .i64 xq) := block_cell hSw; have s3 : w.cell? ⟨q, 3, none⟩ = some (.int .i64 xu) := block_cell hSw; have s4 : w.cell? ⟨q, 4, none⟩ = some (.bool xf) := block_cell hSw; clear hSw; go_simp; (try with_reducible rfl))
      try simp only [Act.put, List.setIfInBounds_toArray, List.set_cons_zero, List.set_cons_succ]
      refine takeR 3 (v := ?_) rfl (by kernel_rfl) (by kernel_rfl) (by kernel_rfl) (fun _ _ _ h => h) (Or.inl ⟨by rfl, ?_⟩) hS ?_
      rotate_left; · (intro w hSw; have s0 : w.cell? ⟨q, 0, none⟩ = some (.string ⟨xn.toArray⟩) := block_cell hSw; have s1 : w.cell? ⟨q, 1, none⟩ = some (.int .i64 xb) := block_cell hSw; have s2 : w.cell? ⟨q, 2, none⟩ = some (.int .i64 xq) := block_cell hSw; have s3 : w.cell? ⟨q, 3, none⟩ = some (.int .i64 xu) := block_cell hSw; have s4 : w.cell? ⟨q, 4, none⟩ = some (.bool xf) := block_cell hSw; clear hSw; go_simp; (try with_reducible rfl))
      try simp only [Act.put, List.setIfInBounds_toArray, List.set_cons_zero, List.set_cons_succ]
      refine takeR 5 (v := ?_) rfl (by kernel_rfl) (by kernel_rfl) (by kernel_rfl) (fun _ _ _ h => h) (Or.inl ⟨by rfl, ?_⟩) hS ?_
      rotate_left; · (intro w hSw; have s0 : w.cell? ⟨q, 0, none⟩ = some (.string ⟨xn.toArray⟩) := block_cell hSw; have s1 : w.cell? ⟨q, 1, none⟩ = some (.int .i64 xb) := block_cell hSw; have s2 : w.cell? ⟨q, 2, none⟩ = some (.int .i64 xq) := block_cell hSw; have s3 : w.cell? ⟨q, 3, none⟩ = some (.int .i64 xu) := block_cell hSw; have s4 : w.cell? ⟨q, 4, none⟩ = some (.bool xf) := block_cell hSw; clear hSw; go_simp; (try with_reducible rfl))
      try simp only [Act.put, List.setIfInBounds_toArray, List.set_cons_zero, List.set_cons_succ]
      refine takeR 6 (v := ?_) rfl (by kernel_rfl) (by kernel_rfl) (by kernel_rfl) (fun _ _ _ h => h) (Or.inl ⟨by rfl, ?_⟩) hS ?_
      rotate_left; · (intro w hSw; have s0 : w.cell? ⟨q, 0, none⟩ = some (.string ⟨xn.toArray⟩) := block_cell hSw; have s1 : w.cell? ⟨q, 1, none⟩ = some (.int .i64 xb) := block_cell hSw; have s2 : w.cell? ⟨q, 2, none⟩ = some (.int .i64 xq) := block_cell hSw; have s3 : w.cell? ⟨q, 3, none⟩ = some (.int .i64 xu) := block_cell hSw; have s4 : w.cell? ⟨q, 4, none⟩ = some (.bool xf) := block_cell hSw; clear hSw; go_simp; (try with_reducible rfl))
      try simp only [Act.put, List.setIfInBounds_toArray, List.set_cons_zero, List.set_cons_succ]
      refine takeR 7 (v := ?_) rfl (by kernel_rfl) (by kernel_rfl) (by kernel_rfl) (fun _ _ _ h => h) (Or.inl ⟨by rfl, ?_⟩) hS ?_
      rotate_left; · (intro w hSw; have s0 : w.cell? ⟨q, 0, none⟩ = some (.string ⟨xn.toArray⟩) := block_cell hSw; have s1 : w.cell? ⟨q, 1, none⟩ = some (.int .i64 xb) := block_cell hSw; have s2 : w.cell? ⟨q, 2, none⟩ = some (.int .i64 xq) := block_cell hSw; have s3 : w.cell? ⟨q, 3, none⟩ = some (.int .i64 xu) := block_cell hSw; have s4 : w.cell? ⟨q, 4, none⟩ = some (.bool xf) := block_cell hSw; clear hSw; go_simp; (try with_reducible rfl))
      try simp only [Act.put, List.setIfInBounds_toArray, List.set_cons_zero, List.set_cons_succ]
      refine takeR 8 (v := ?_) rfl (by kernel_rfl) (by kernel_rfl) (by kernel_rfl) (fun _ _ _ h => h) (Or.inl ⟨by rfl, ?_⟩) hS ?_
      rotate_left; · (intro w hSw; have s0 : w.cell? ⟨q, 0, none⟩ = some (.string ⟨xn.toArray⟩) := block_cell hSw; have s1 : w.cell? ⟨q, 1, none⟩ = some (.int .i64 xb) := block_cell hSw; have s2 : w.cell? ⟨q, 2, none⟩ = some (.int .i64 xq) := block_cell hSw; have s3 : w.cell? ⟨q, 3, none⟩ = some (.int .i64 xu) := block_cell hSw; have s4 : w.cell? ⟨q, 4, none⟩ = some (.bool xf) := block_cell hSw; clear hSw; go_simp; (try with_reducible rfl))
      try simp only [Act.put, List.setIfInBounds_toArray, List.set_cons_zero, List.set_cons_succ]
      refine takeR 10 (v := ?_) rfl (by kernel_rfl) (by kernel_rfl) (by kernel_rfl) (fun _ _ _ h => h) (Or.inl ⟨by rfl, ?_⟩) hS ?_
      rotate_left; · (intro w hSw; have s0 : w.cell? ⟨q, 0, none⟩ = some (.string ⟨xn.toArray⟩) := block_cell hSw; have s1 : w.cell? ⟨q, 1, none⟩ = some (.int .i64 xb) := block_cell hSw; have s2 : w.cell? ⟨q, 2, none⟩ = some (.int .i64 xq) := block_cell hSw; have s3 : w.cell? ⟨q, 3, none⟩ = some (.int .i64 xu) := block_cell hSw; have s4 : w.cell? ⟨q, 4, none⟩ = some (.bool xf) := block_cell hSw; clear hSw; go_simp; (try with_reducible rfl))
      try simp only [Act.put, List.setIfInBounds_toArray, List.set_cons_zero, List.set_cons_succ]
      refine takeR 11 (v := ?_) rfl (by kernel_rfl) (by kernel_rfl) (by kernel_rfl) (fun _ _ _ h => h) (Or.inl ⟨by rfl, ?_⟩) hS ?_
      rotate_left; · (intro w hSw; have s0 : w.cell? ⟨q, 0, none⟩ = some (.string ⟨xn.toArray⟩) := block_cell hSw; have s1 : w.cell? ⟨q, 1, none⟩ = some (.int .i64 xb) := block_cell hSw; have s2 : w.cell? ⟨q, 2, none⟩ = some (.int .i64 xq) := block_cell hSw; have s3 : w.cell? ⟨q, 3, none⟩ = some (.int .i64 xu) := block_cell hSw; have s4 : w.cell? ⟨q, 4, none⟩ = some (.bool xf) := block_cell hSw; clear hSw; go_simp; (try with_reducible rfl))
      try simp only [Act.put, List.setIfInBounds_toArray, List.set_cons_zero, List.set_cons_succ]
      refine takeR 12 (v := ?_) rfl (by kernel_rfl) (by kernel_rfl) (by kernel_rfl) (fun _ _ _ h => h) (Or.inl ⟨by rfl, ?_⟩) hS ?_
      rotate_left; · (intro w hSw; have s0 : w.cell? ⟨q, 0, none⟩ = some (.string ⟨xn.toArray⟩) := block_cell hSw; have s1 : w.cell? ⟨q, 1, none⟩ = some (.int .i64 xb) := block_cell hSw; have s2 : w.cell? ⟨q, 2, none⟩ = some (.int .i64 xq) := block_cell hSw; have s3 : w.cell? ⟨q, 3, none⟩ = some (.int .i64 xu) := block_cell hSw; have s4 : w.cell? ⟨q, 4, none⟩ = some (.bool xf) := block_cell hSw; clear hSw; go_simp; (try with_reducible rfl))
      try simp only [Act.put, List.setIfInBounds_toArray, List.set_cons_zero, List.set_cons_succ]
      refine takeR 13 (v := ?_) rfl (by kernel_rfl) (by kernel_rfl) (by kernel_rfl) (fun _ _ _ h => h) (Or.inl ⟨by rfl, ?_⟩) hS ?_
      rotate_left; · (intro w hSw; have s0 : w.cell? ⟨q, 0, none⟩ = some (.string ⟨xn.toArray⟩) := block_cell hSw; have s1 : w.cell? ⟨q, 1, none⟩ = some (.int .i64 xb) := block_cell hSw; have s2 : w.cell? ⟨q, 2, none⟩ = some (.int .i64 xq) := block_cell hSw; have s3 : w.cell? ⟨q, 3, none⟩ = some (.int .i64 xu) := block_cell hSw; have s4 : w.cell? ⟨q, 4, none⟩ = some (.bool xf) := block_cell hSw; clear hSw; go_simp; (try with_reducible rfl))
      try simp only [Act.put, List.setIfInBounds_toArray, List.set_cons_zero, List.set_cons_succ]
      refine takeR 15 (v := ?_) rfl (by kernel_rfl) (by kernel_rfl) (by kernel_rfl) (fun _ _ _ h => h) (Or.inl ⟨by rfl, ?_⟩) hS ?_
      rotate_left; · (intro w hSw; have s0 : w.cell? ⟨q, 0, none⟩ = some (.string ⟨xn.toArray⟩) := block_cell hSw; have s1 : w.cell? ⟨q, 1, none⟩ = some (.int .i64 xb) := block_cell hSw; have s2 : w.cell? ⟨q, 2, none⟩ = some (.int .i64 xq) := block_cell hSw; have s3 : w.cell? ⟨q, 3, none⟩ = some (.int .i64 xu) := block_cell hSw; have s4 : w.cell? ⟨q, 4, none⟩ = some (.bool xf) := block_cell hSw; clear hSw; go_simp; (try with_reducible rfl))
      try simp only [Act.put, List.setIfInBounds_toArray, List.set_cons_zero, List.set_cons_succ]
      refine takeR 16 (v := ?_) rfl (by kernel_rfl) (by kernel_rfl) (by kernel_rfl) (fun _ _ _ h => h) (Or.inl ⟨by rfl, ?_⟩) hS ?_
      rotate_left; · (intro w hSw; have s0 : w.cell? ⟨q, 0, none⟩ = some (.string ⟨xn.toArray⟩) := block_cell hSw; have s1 : w.cell? ⟨q, 1, none⟩ = some (.int .i64 xb) := block_cell hSw; have s2 : w.cell? ⟨q, 2, none⟩ = some (.int .i64 xq) := block_cell hSw; have s3 : w.cell? ⟨q, 3, none⟩ = some (.int .i64 xu) := block_cell hSw; have s4 : w.cell? ⟨q, 4, none⟩ = some (.bool xf) := block_cell hSw; clear hSw; go_simp; (try with_reducible rfl))
      try simp only [Act.put, List.setIfInBounds_toArray, List.set_cons_zero, List.set_cons_succ]
      refine takeR 17 (v := ?_) rfl (by kernel_rfl) (by kernel_rfl) (by kernel_rfl) (fun _ _ _ h => h) (Or.inl ⟨by rfl, ?_⟩) hS ?_
      rotate_left; · (intro w hSw; have s0 : w.cell? ⟨q, 0, none⟩ = some (.string ⟨xn.toArray⟩) := block_cell hSw; have s1 : w.cell? ⟨q, 1, none⟩ = some (.int .i64 xb) := block_cell hSw; have s2 : w.cell? ⟨q, 2, none⟩ = some (.int .i64 xq) := block_cell hSw; have s3 : w.cell? ⟨q, 3, none⟩ = some (.int .i64 xu) := block_cell hSw; have s4 : w.cell? ⟨q, 4, none⟩ = some (.bool xf) := block_cell hSw; clear hSw; go_simp; (try with_reducible rfl))
      try simp only [Act.put, List.setIfInBounds_toArray, List.set_cons_zero, List.set_cons_succ]
      refine takeR 19 (v := ?_) rfl (by kernel_rfl) (by kernel_rfl) (by kernel_rfl) (fun _ _ _ h => h) (Or.inl ⟨by rfl, ?_⟩) hS ?_
      rotate_left; · (intro w hSw; have s0 : w.cell? ⟨q, 0, none⟩ = some (.string ⟨xn.toArray⟩) := block_cell hSw; have s1 : w.cell? ⟨q, 1, none⟩ = some (.int .i64 xb) := block_cell hSw; have s2 : w.cell? ⟨q, 2, none⟩ = some (.int .i64 xq) := block_cell hSw; have s3 : w.cell? ⟨q, 3, none⟩ = some (.int .i64 xu) := block_cell hSw; have s4 : w.cell? ⟨q, 4, none⟩ = some (.bool xf) := block_cell hSw; clear hSw; go_simp; (try with_reducible rfl))
      try simp only [Act.put, List.setIfInBounds_toArray, List.set_cons_zero, List.set_cons_succ]
      refine takeR 20 (v := ?_) rfl (by kernel_rfl) (by kernel_rfl) (by kernel_rfl) (fun _ _ _ h => h) (Or.inl ⟨by rfl, ?_⟩) hS ?_
      rotate_left; · (intro w hSw; have s0 : w.cell? ⟨q, 0, none⟩ = some (.string ⟨xn.toArray⟩) := block_cell hSw; have s1 : w.cell? ⟨q, 1, none⟩ = some (.int .i64 xb) := block_cell hSw; have s2 : w.cell? ⟨q, 2, none⟩ = some (.int .i64 xq) := block_cell hSw; have s3 : w.cell? ⟨q, 3, none⟩ = some (.int .i64 xu) := block_cell hSw; have s4 : w.cell? ⟨q, 4, none⟩ = some (.bool xf) := block_cell hSw; clear hSw; go_simp; (try with_reducible rfl))
      try simp only [Act.put, List.setIfInBounds_toArray, List.set_cons_zero, List.set_cons_succ]
      refine takeR 21 (v := ?_) rfl (by kernel_rfl) (by kernel_rfl) (by kernel_rfl) (fun _ _ _ h => h) (Or.inl ⟨by rfl, ?_⟩) hS ?_
      rotate_left; · (intro w hSw; have s0 : w.cell? ⟨q, 0, none⟩ = some (.string ⟨xn.toArray⟩) := block_cell hSw; have s1 : w.cell? ⟨q, 1, none⟩ = some (.int .i64 xb) := block_cell hSw; have s2 : w.cell? ⟨q, 2, none⟩ = some (.int .i64 xq) := block_cell hSw; have s3 : w.cell? ⟨q, 3, none⟩ = some (.int .i64 xu) := block_cell hSw; have s4 : w.cell? ⟨q, 4, none⟩ = some (.bool xf) := block_cell hSw; clear hSw; go_simp; (try with_reducible rfl))
      try simp only [Act.put, List.setIfInBounds_toArray, List.set_cons_zero, List.set_cons_succ]
      refine takeR 22 (v := ?_) rfl (by kernel_rfl) (by kernel_rfl) (by kernel_rfl) (fun _ _ _ h => h) (Or.inl ⟨by rfl, ?_⟩) hS ?_
      rotate_left; · (intro w hSw; have s0 : w.cell? ⟨q, 0, none⟩ = some (.string ⟨xn.toArray⟩) := block_cell hSw; have s1 : w.cell? ⟨q, 1, none⟩ = some (.int .i64 xb) := block_cell hSw; have s2 : w.cell? ⟨q, 2, none⟩ = some (.int .i64 xq) := block_cell hSw; have s3 : w.cell? ⟨q, 3, none⟩ = some (.int .i64 xu) := block_cell hSw; have s4 : w.cell? ⟨q, 4, none⟩ = some (.bool xf) := block_cell hSw; clear hSw; go_simp; (try with_reducible rfl))
      try simp only [Act.put, List.setIfInBounds_toArray, List.set_cons_zero, List.set_cons_succ]
      refine oneR 4 (by kernel_rfl) rfl (fun K hK => ?_)
      go_simp
      refine (text_any xn (by omega) L p bs _ HWB.out (by omega)).mono ?_
      rintro e wa1 ⟨rfl, hw, hk⟩
      have HWA1 := Lib.hid hw
      have HKA1 := Lib.hid (hk)
      clear hw hk hS
      refine hK.out _ _ (HKA1.out.oth q _ 92 (by decide) (by decide) HQ.out) (fun hS => ?_)
      clear hK K
      try simp only [Act.put, List.setIfInBounds_toArray, List.set_cons_zero, List.set_cons_succ]
      refine oneR 9 (by kernel_rfl) rfl (fun K hK => ?_)
      go_simp
      refine (uint_any xb (by omega) L p _ _ HWA1.out HLE.out.1).mono ?_
      rintro e wa2 ⟨rfl, hw, hk⟩
      have HWA2 := Lib.hid hw
      have HKA2 := Lib.hid (HKA1.out.trans hk)
      clear hw hk hS
      refine hK.out _ _ (HKA2.out.oth q _ 92 (by decide) (by decide) HQ.out) (fun hS => ?_)
      clear hK K
      try simp only [Act.put, List.setIfInBounds_toArray, List.set_cons_zero, List.set_cons_succ]
      refine oneR 14 (by kernel_rfl) rfl (fun K hK => ?_)
      go_simp
      refine (uint_any xq (by omega) L p _ _ HWA2.out HLE.out.2.1).mono ?_
      rintro e wa3 ⟨rfl, hw, hk⟩
      have HWA3 := Lib.hid hw
      have HKA3 := Lib.hid (HKA2.out.trans hk)
      clear hw hk hS
      refine hK.out _ _ (HKA3.out.oth q _ 92 (by decide) (by decide) HQ.out) (fun hS => ?_)
      clear hK K
      try simp only [Act.put, List.setIfInBounds_toArray, List.set_cons_zero, List.set_cons_succ]
      refine oneR 18 (by kernel_rfl) rfl (fun K hK => ?_)
      go_simp
      refine (pbool_any xf _ HWA3.out HLE.out.2.2.1).mono ?_
      rintro e wa4 ⟨rfl, hw, hk⟩
      have HWA4 := Lib.hid hw
      have HKA4 := Lib.hid (HKA3.out.trans hk)
      clear hw hk hS
      refine hK.out _ _ (HKA4.out.oth q _ 92 (by decide) (by decide) HQ.out) (fun hS => ?_)
      clear hK K
      try simp only [Act.put, List.setIfInBounds_toArray, List.set_cons_zero, List.set_cons_succ]
      refine oneR 23 (by kernel_rfl) rfl (fun K hK => ?_)
      go_simp
      refine (uint_any xu (by omega) L p _ _ HWA4.out HLE.out.2.2.2).mono ?_
      rintro e wa5 ⟨rfl, hw, hk⟩
      have HWA5 := Lib.hid hw
      have HKA5 := Lib.hid (HKA4.out.trans hk)
      clear hw hk hS
      refine hK.out _ _ (HKA5.out.oth q _ 92 (by decide) (by decide) HQ.out) (fun hS => ?_)
      clear hK K
      try simp only [Act.put, List.setIfInBounds_toArray, List.set_cons_zero, List.set_cons_succ]
      refine doneR (by kernel_rfl) ?_
      clear hS HWA1 HWA2 HWA3 HWA4 HKA1 HKA2 HKA3 HKA4
      have HQ5 := Lib.hid (HKA5.out.oth q _ 92 (by decide) (by decide) HQ.out)
      have d5 : wa5.cell? ⟨q, 5, none⟩ = some (.pointer xA) := block_cell HQ5.out
      have HB5 := Lib.hid ((HBB.out.trans (((Below.refl _ wb).drew).mono (HSZ.out _ HBB.out))).trans HKA5.out.low)
      have HW5 := Lib.hid (show WrAt L wa5 p (bs ++ headV ⟨xn, xb, xq, xu, xf, xA, xg⟩) by rw [← HHD.out]; exact HWA5.out)
      have HAL := Lib.hid (all_any xg S xA wa5 (RdR.below hS0 (by rw [← HL.out]; exact HB5.out)))
      clear HWA5 HKA5 HQ HBB HWB hS0 HEB
      go_wp2_with fail
      refine HAL.out.mono ?_
      rintro e w6 ⟨u1, u2, rfl, ho1, ho2, hb6⟩
      obtain ⟨m, hm⟩ : ∃ m, m = (itemsL xg 2 0).length := ⟨_, rfl⟩
      have hm4 : m ≤ 4096 := by rw [hm]; exact items_le xg
      rw [← hm] at ho1 ho2
      have HM := Lib.hid hm
      obtain ⟨Ap, cp, rfl, _, _, _⟩ := own_rdA ho1
      obtain ⟨An, cn, rfl, _, _, _⟩ := own_rdA ho2
      have HIT := Lib.hid (show ItAt w L p (bs ++ headV ⟨xn, xb, xq, xu, xf, xA, xg⟩ ++ itB xg ((itemsL xg 2 0).take 0)) (.slice Ap m cp) (.slice An m cn) m ((itemsL xg 2 0).map fun x : Nat => .int .i64 (x : Int)) ((itemsL xg 2 0).map fun x => .int .i64 (xg x)) w6 from
        ⟨HB5.out.trans (hb6.mono (HSZ.out _ HB5.out)), by rw [show (itemsL xg 2 0).take 0 = [] from rfl, show itB xg [] = [] from rfl, List.append_nil]; exact HW5.out.below hb6, own_lower ho1 (HSZ.out _ HB5.out), own_lower ho2 (HSZ.out _ HB5.out)⟩)
      clear hm ho1 ho2 hb6 HAL d5 HQ5 HW5 HB5
      go_upto_region 8 with fail
      go_loopg [55] m (fun hh jv wq => ∃ j : Nat, j ≤ m ∧ hh = m - j ∧ jv = .int .i64 j ∧ Hid (ItAt w L p (bs ++ headV ⟨xn, xb, xq, xu, xf, xA, xg⟩ ++ itB xg ((itemsL xg 2 0).take j)) (.slice Ap m cp) (.slice An m cn) m ((itemsL xg 2 0).map fun x : Nat => .int .i64 (x : Int)) ((itemsL xg 2 0).map fun x => .int .i64 (xg x)) wq))
      case atStart => exact ⟨0, by omega, by omega, rfl, HIT.out⟩
      case round =>
        obtain ⟨j, hj, hgj, rfl, HJ⟩ := hrel
        clear HIT
        by_cases hjm : j < m
        · have hji : (j : Int) < (m : Int) := by omega
          have hwj : IntKind.i64.wrap ((j : Int) + 1) = (j : Int) + 1 := IntWalk.i64_in _ (by omega)
          obtain ⟨z, hz⟩ : ∃ z, (itemsL xg 2 0)[j]? = some z := ⟨_, List.getElem?_eq_getElem (by rw [← HM.out]; exact hjm)⟩
          have hz4 : z < 4096 := items_lt z (List.mem_of_getElem? hz)
          have hyn := HX.out.2.num z
          dsimp only at hyn
          have HNJ := Lib.hid (itB_take (f := xg) hz)
          have hzp : ((itemsL xg 2 0).map fun x : Nat => Value.int .i64 (x : Int))[j]? = some (.int .i64 (z : Int)) := by rw [List.getElem?_map, hz]; rfl
          have hzn : ((itemsL xg 2 0).map fun x => Value.int .i64 (xg x))[j]? = some (.int .i64 (xg z)) := by rw [List.getElem?_map, hz]; rfl
          obtain ⟨y, hy⟩ : ∃ y, y = xg z := ⟨_, rfl⟩
          rw [← hy] at hyn HNJ hzn
          clear hy hz
          obtain ⟨A1, c1, e1, _, r1, _⟩ := own_rdA HJ.out.o1
          obtain ⟨A2, c2, e2, _, r2, _⟩ := own_rdA HJ.out.o2
          cases e1
          cases e2
          obtain ⟨b1, o1, rfl, d1⟩ := r1 j _ hzp
          obtain ⟨b2, o2, rfl, d2⟩ := r2 j _ hzn
          have HKN := Lib.hid (show ∀ w', KeepW L wr.drew w' → w'.cell? ⟨b2, o2 + j, none⟩ = some (.int .i64 y) from fun w' k => by
            obtain ⟨A3, c3, e3, _, r3, _⟩ := own_rdA (k.own (own_belowV HJ.out.o2 (Below.refl _ wr).drew) (by decide) (by decide))
            cases e3
            obtain ⟨b4, o4, e4, d4⟩ := r3 j _ hzn
            cases e4
            exact d4)
          have HWJ := Lib.hid (HJ.out.wr.below (Below.refl _ wr).drew)
          have hwz : IntKind.u64.wrap (z : Int) = (z : Int) := IntWalk.u64_in _ (by omega)
          have hwy : IntKind.u64.wrap y = y := IntWalk.u64_in _ (by omega)
          obtain ⟨bj, hbj⟩ : ∃ bj, bj = bs ++ headV ⟨xn, xb, xq, xu, xf, xA, xg⟩ ++ itB xg ((itemsL xg 2 0).take j) := ⟨_, rfl⟩
          have HBJ := Lib.hid (show bs ++ headV ⟨xn, xb, xq, xu, xf, xA, xg⟩ ++ itB xg ((itemsL xg 2 0).take (j + 1)) = bj ++ uintB (z : Int) ++ uintB y by rw [HNJ.out, hbj]; simp only [List.append_assoc])
          have hbjl : bj.length ≤ 5000000 := by
            have h1 := HVL.out.2
            have h2 := itB_le HX.out.2.num ((itemsL xg 2 0).take j) fun a ha => items_lt a (List.mem_of_mem_take ha)
            have h3 : ((itemsL xg 2 0).take j).length ≤ 4096 := by rw [List.length_take]; omega
            rw [hbj, List.length_append, List.length_append]
            dsimp only at h2
            omega
          rw [← hbj] at HWJ
          have HLJ := Lib.hid (show bj.length ≤ 800000000 ∧ (bj ++ uintB (z : Int)).length ≤ 800000000 from ⟨by omega, by
            have h1 := uintB_le (n := (z : Int)) (by omega)
            rw [List.length_append]
            omega⟩)
          clear hbj HNJ hzp hzn r1 r2 hbjl
          go_upto_region 10 with fail
          refine wp_region_held_drew (S := fun w' => w'.cell? ⟨b2, o2 + j, none⟩ = some (.int .i64 y)) (by kernel_rfl) d2 fun hS => ?_
          clear d1 d2
          refine takeR 0 (v := ?_) rfl (by kernel_rfl) (by kernel_rfl) (by kernel_rfl) (fun _ _ _ h => h) (Or.inl ⟨by rfl, ?_⟩) hS ?_
          rotate_left; · (intro w hSw; go_simp; (try with_reducible rfl))
          try simp only [Act.put, List.setIfInBounds_toArray, List.set_cons_zero, List.set_cons_succ]
          refine takeR 1 (v := ?_) rfl (by kernel_rfl) (by kernel_rfl) (by kernel_rfl) (fun _ _ _ h => h) (Or.inl ⟨by rfl, ?_⟩) hS ?_
          rotate_left; · (intro w hSw; go_simp; (try with_reducible rfl))
          try simp only [Act.put, List.setIfInBounds_toArray, List.set_cons_zero, List.set_cons_succ]
          refine takeR 2 (v := ?_) rfl (by kernel_rfl) (by kernel_rfl) (by kernel_rfl) (fun _ _ _ h => h) (Or.inl ⟨by rfl, ?_⟩) hS ?_
          rotate_left; · (intro w hSw; go_simp; (try with_reducible rfl))
          try simp only [Act.put, List.setIfInBounds_toArray, List.set_cons_zero, List.set_cons_succ]
          refine takeR 4 (v := ?_) rfl (by kernel_rfl) (by kernel_rfl) (by kernel_rfl) (fun _ _ _ h => h) (Or.inl ⟨by rfl, ?_⟩) hS ?_
          rotate_left; · (intro w hSw; go_simp; (try with_reducible rfl))
          try simp only [Act.put, List.setIfInBounds_toArray, List.set_cons_zero, List.set_cons_succ]
          refine takeR 5 (v := ?_) rfl (by kernel_rfl) (by kernel_rfl) (by kernel_rfl) (fun _ _ _ h => h) (Or.inl ⟨by rfl, ?_⟩) hS ?_
          rotate_left; · (intro w hSw; go_simp; (try with_reducible rfl))
          try simp only [Act.put, List.setIfInBounds_toArray, List.set_cons_zero, List.set_cons_succ]
          refine takeR 6 (v := ?_) rfl (by kernel_rfl) (by kernel_rfl) (by kernel_rfl) (fun _ _ _ h => h) (Or.inl ⟨by rfl, ?_⟩) hS ?_
          rotate_left; · (intro w hSw; go_simp; (try with_reducible rfl))
          try simp only [Act.put, List.setIfInBounds_toArray, List.set_cons_zero, List.set_cons_succ]
          refine takeR 7 (v := ?_) rfl (by kernel_rfl) (by kernel_rfl) (by kernel_rfl) (fun _ _ _ h => h) (Or.inl ⟨by rfl, ?_⟩) hS ?_
          rotate_left; · (intro w hSw; go_simp; (try with_reducible rfl))
          try simp only [Act.put, List.setIfInBounds_toArray, List.set_cons_zero, List.set_cons_succ]
          refine takeR 8 (v := ?_) rfl (by kernel_rfl) (by kernel_rfl) (by kernel_rfl) (fun _ _ _ h => h) (Or.inl ⟨by rfl, ?_⟩) hS ?_
          rotate_left; · (intro w hSw; go_simp; (try with_reducible rfl))
          try simp only [Act.put, List.setIfInBounds_toArray, List.set_cons_zero, List.set_cons_succ]
          refine oneR 3 (by kernel_rfl) rfl (fun K hK => ?_)
          go_simp
          refine (uint_any (z : Int) (by omega) L p _ _ HWJ.out HLJ.out.1).mono ?_
          rintro e wb1 ⟨rfl, hw, hk⟩
          have HWB1 := Lib.hid hw
          have HKB1 := Lib.hid (hk)
          clear hw hk hS
          refine hK.out _ _ (HKN.out _ HKB1.out) (fun hS => ?_)
          clear hK K
          try simp only [Act.put, List.setIfInBounds_toArray, List.set_cons_zero, List.set_cons_succ]
          refine oneR 9 (by kernel_rfl) rfl (fun K hK => ?_)
          go_simp
          refine (uint_any y (by omega) L p _ _ HWB1.out HLJ.out.2).mono ?_
          rintro e wb2 ⟨rfl, hw, hk⟩
          have HWB2 := Lib.hid hw
          have HKB2 := Lib.hid (HKB1.out.trans hk)
          clear hw hk hS
          refine hK.out _ _ (HKN.out _ HKB2.out) (fun hS => ?_)
          clear hK K
          try simp only [Act.put, List.setIfInBounds_toArray, List.set_cons_zero, List.set_cons_succ]
          refine doneR (by kernel_rfl) ?_
          have HJN := Lib.hid (show ItAt w L p (bs ++ headV ⟨xn, xb, xq, xu, xf, xA, xg⟩ ++ itB xg ((itemsL xg 2 0).take (j + 1))) (.slice (some ⟨b1, o1, none⟩) m cp) (.slice (some ⟨b2, o2, none⟩) m cn) m ((itemsL xg 2 0).map fun x : Nat => .int .i64 (x : Int)) ((itemsL xg 2 0).map fun x => .int .i64 (xg x)) wb2 from
            ⟨(HJ.out.low.trans ((Below.refl _ wr).drew.mono (HSZ.out _ HJ.out.low))).trans HKB2.out.low, by rw [HBJ.out]; exact HWB2.out, HKB2.out.own (own_belowV HJ.out.o1 (Below.refl _ wr).drew) (by decide) (by decide), HKB2.out.own (own_belowV HJ.out.o2 (Below.refl _ wr).drew) (by decide) (by decide)⟩)
          clear hS HWB1 HWB2 HKB1 HKB2 HWJ HBJ HLJ HKN HJ
          go_wp2_with fail
          go_roundg (m - (j + 1))
          case measure => omega
          case rel => exact ⟨j + 1, by omega, rfl, by congr 1, HJN.out⟩
        · have hje : j = m := by omega
          subst hje
          have hji : ¬ (j : Int) < (j : Int) := by omega
          have HEN := Lib.hid (show EncAt w L p (uintB (n : Int) ++ volsB (l.take (k + 1))) wr from ⟨HJ.out.low, by
            rw [HBS.out]
            have h1 := HJ.out.wr
            rw [HM.out, List.take_of_length_le (Nat.le_refl _), List.append_assoc] at h1
            exact h1⟩)
          clear hjm HJ HBS
          go_wp2_with fail
          go_roundg (n - (k + 1))
          case measure => omega
          case rel => exact ⟨k + 1, by omega, rfl, by congr 1, HEN.out⟩
    · have hke : k = n := by omega
      subst hke
      have hki : ¬ (k : Int) < (k : Int) := by omega
      have hEB : uintB (k : Int) ++ volsB (l.take k) = encB l := by
        rw [HN.out, List.take_of_length_le (Nat.le_refl _)]
        rfl
      have hlow := HE.out.low
      have hwr := HE.out.wr
      rw [hEB] at hwr
      have HENC := Lib.hid (bytesV_toI (encB_isB l))
      have hel : (encB l).length ≤ 4000000 := by
        rw [← hEB, List.length_append]
        have h1 := HTB.out k
        have h2 := HUL.out
        omega
      have hne : encB l ≠ [] := fun e => by
        have : (uintB (l.length : Int)).length = 0 := by
          have h1 := congrArg List.length e
          unfold encB at h1
          rw [List.length_append] at h1
          simp only [List.length_nil] at h1
          omega
        rw [uintB_len] at this
        omega
      have HD := Lib.hid (done_any L p (encB l) wr hwr (fun u hu => by obtain ⟨v, rfl⟩ := encB_isB l u hu; rfl) hne (by omega))
      have HLOW := Lib.hid hlow
      have HEL := Lib.hid (And.intro hel hne)
      clear hlow hwr hEB hel hne HE hlt
      go_wp2_with fail
      refine HD.out.mono ?_
      rintro e w7 ⟨v7, rfl, ho7, hb7⟩
      obtain ⟨A7, c7, rfl, hr7⟩ := own_rdByte ho7
      have HILEN := Lib.hid (show (encI l).length = (encB l).length by simp [encI])
      have HSL := Lib.hid (seal_any A7 c7 (encI l) w7 (by
        show RdA w7 A7 (bytesV ((encB l).map toI))
        rw [HENC.out]
        exact hr7) (fun e => HEL.out.2 (List.map_eq_nil_iff.1 e)) (by rw [HILEN.out]; have := HEL.out.1; omega))
      have HB7 := Lib.hid (HLOW.out.trans (hb7.mono (HSZ.out _ HLOW.out)))
      rw [HILEN.out] at HSL
      obtain ⟨N, hN⟩ : ∃ N, N = (encB l).length := ⟨_, rfl⟩
      rw [← hN] at HSL ⊢
      clear hN ho7 hr7 hb7 HD
      go_wp2_with fail
      refine HSL.out.mono ?_
      unfold SealPost
      rintro e w8 ⟨v8, rfl, ho8, hb8⟩
      obtain ⟨A8, c8, rfl, hr8⟩ := own_rdByte ho8
      have HR8 := Lib.hid (And.intro hr8 (HB7.out.trans (hb8.mono (HSZ.out _ HB7.out))))
      obtain ⟨M, hM⟩ : ∃ M, M = (encI l).length + 4 := ⟨_, rfl⟩
      rw [← hM]
      have HM := Lib.hid hM
      clear hM ho8 hr8 hb8
      go_wp2_with fail
      go_ret
      exact ⟨A8, c8, by rw [HM.out]; rfl, HR8.out⟩
end Go.Proofs.Ytnnadhfpkplncaa


/- A volume's tree; a set's bytes as a text; what stands of the law's sets. Condition: the set reads, its names go up. -/
namespace Go.Proofs.Ytnnadhfpkplncaa
open Go.RowKit

def TreePost (l : List Vol) (t : List UInt8) (w : World) (e : Ending) (w' : World) : Prop := Below w.heap.size w w' ∧ ∃ (A : Option Addr) (E : Value), e = .returned (.tuple #[.pointer A, E]) ∧ ((∃ x ∈ l, x.name = t ∧ A = x.A) ∨ ((∀ x ∈ l, x.name ≠ t) ∧ A = none))
set_option maxRecDepth 100000 in
set_option maxHeartbeats 1600000 in
theorem vtree_any (s : Option Addr) (l : List Vol) (t : List UInt8) (w : World) (h : RdS w s l) (hu : Up l) (hl : l.length ≤ 900) : Calls Try.prog 33 #[.pointer s, .string ⟨t.toArray⟩] w (TreePost l t w) := by
  have HG := Lib.hid (vget_any s l t w h hu (by omega))
  clear h hu
  go_enter Try.func33, Try.ntmps33
  go_wp2_with fail
  refine HG.out.mono ?_
  rintro e w2 ⟨hb2, hpost⟩
  obtain ⟨x, E, he, hE⟩ : ∃ (x : Vol) (E : Value), e = .returned (.tuple #[.agg #[.string ⟨x.name.toArray⟩, .int .i64 x.blocks, .int .i64 x.quota, .int .i64 x.used, .bool x.frozen, .pointer x.A], E]) ∧ ((∃ y ∈ l, y.name = t ∧ x.A = y.A) ∨ ((∀ y ∈ l, y.name ≠ t) ∧ x.A = none)) := by
    rcases hpost with ⟨i, x, hx, hxt, _, rfl⟩ | ⟨hno, rfl⟩
    · exact ⟨x, _, rfl, Or.inl ⟨x, List.mem_of_getElem? hx, hxt, rfl⟩⟩
    · exact ⟨⟨[], 0, 0, 0, false, none, fun _ => 0⟩, _, rfl, Or.inr ⟨hno, rfl⟩⟩
  subst he
  obtain ⟨xn, xb, xq, xu, xf, xA, xg⟩ := x
  have HE := Lib.hid hE
  have HB := Lib.hid (Below.alloc hb2 hb2.size (.cells #[.string ⟨xn.toArray⟩, .int .i64 xb, .int .i64 xq, .int .i64 xu, .bool xf, .pointer xA] 92))
  clear hpost hE hb2 HG
  go_wp2_with fail
  go_ret2
  exact ⟨HB.out, xA, E, rfl, HE.out⟩
theorem lastV_isB (S : Int) : ∀ v ∈ lastV S, isB v := fun v hv => by
  obtain ⟨x0, x1, x2, x3, h⟩ := lastC_four S
  unfold lastV at hv
  rw [h] at hv
  simp only [List.mem_cons, List.not_mem_nil, or_false] at hv
  rcases hv with rfl | rfl | rfl | rfl <;> exact ⟨_, rfl⟩
theorem encV_isB (l : List Vol) : ∀ v ∈ encV l, isB v := fun v hv => by
  rcases List.mem_append.1 hv with hv | hv
  · obtain ⟨n, _, rfl⟩ := List.mem_map.1 hv
    exact ⟨_, rfl⟩
  · exact lastV_isB _ v hv
def encJ (l : List Vol) : List Int := (encV l).map toI
theorem encV_len (l : List Vol) : (encV l).length = (encI l).length + 4 := by
  obtain ⟨x0, x1, x2, x3, h⟩ := lastC_four (moreS 1 (encI l) % 4294967296)
  unfold encV sealV lastV
  rw [List.length_append, bytesV_len, h]
  rfl
/-- A set's bytes as a text. -/
def encS (l : List Vol) : ByteArray := strOfNums (encJ l)
theorem enc_str (l : List Vol) (A : Option Addr) (c : Nat) (w : World) (h : RdA w A (encV l)) : (convert 73 9 (.slice A ((encI l).length + 4) c)).run Try.prog w = .ok (.string (encS l)) w := by
  have hl := encV_len l
  obtain ⟨u, hu⟩ : ∃ u, (encV l)[0]? = some u := ⟨_, List.getElem?_eq_getElem (by omega)⟩
  obtain ⟨b, o, rfl, _⟩ := h 0 u hu
  refine run_convert_bytes_arg w 73 5 Try.underlying73 Try.underlying5 b o _ c (encJ l) (by simp [encJ, hl]) (fun i hi => ?_) 9 Try.underlying9
  obtain ⟨v, hv⟩ : ∃ v, (encV l)[i]? = some v := ⟨_, List.getElem?_eq_getElem (by omega)⟩
  obtain ⟨b2, o2, e, hc⟩ := h i v hv
  cases e
  rw [hc]
  obtain ⟨n, rfl⟩ := encV_isB l v (List.mem_of_getElem? hv)
  unfold encJ
  rw [List.getD_eq_getElem?_getD, List.getElem?_map, hv]
  rfl
theorem RdV.keepT {T : TypeId} {w w' : World} {A : Option Addr} {l : List Vol} {c : Nat} (h : RdV w A l c) (k : KeepT T w w') (h1 : 92 ≠ T) : RdV w' A l c := by
  have o := own_keepT h.own k h1
  obtain ⟨A', c', e, h2, h3, _⟩ := own_rdA o
  cases e
  exact ⟨h3, h.cap, h.nil, o⟩
theorem RdS.keepT {T : TypeId} {w w' : World} {s : Option Addr} {l : List Vol} (h : RdS w s l) (k : KeepT T w w') (h1 : 92 ≠ T) (h2 : 104 ≠ T) (h3 : 87 ≠ T) (h4 : 80 ≠ T) : RdS w' s l := by
  refine ⟨fun x hx => ?_, ?_⟩
  · obtain ⟨S, hS⟩ := h.1 x hx
    exact ⟨S, hS.keepT k h3 h4⟩
  · rcases h.2 with h | ⟨b, A, c, e, hb, hr⟩
    · exact Or.inl h
    · exact Or.inr ⟨b, A, c, e, k.2 _ _ _ h2 hb, hr.keepT k h1⟩
theorem infoTSETPv : (Try.prog.info? 49).map (fun i => (i.zero, i.size, i.bytes)) = some (some (.pointer none), 1, 8) := by kernel_rfl
abbrev OldS := Option Addr × List Vol
def ptrO (Os : List OldS) : List Value := Os.map fun o => .pointer o.1
def txtO (Os : List OldS) : List Value := Os.map fun o => .string (encS o.2)
/-- The sets that there were, their texts, the set at hand. -/
structure AloneL (W w : World) (s : Option Addr) (l : List Vol) (u v : Value) (n m : Nat) (P T : List Value) (Os : List OldS) : Prop where
  low : Below W.heap.size W w
  set : RdS w s l
  good : Good l
  o1 : w.ownsRow W.heap.size 49 1 u n P
  o2 : w.ownsRow W.heap.size 9 1 v m T
  olds : ∀ o ∈ Os, RdS w o.1 o.2 ∧ Good o.2
theorem AloneL.cl {W w w' : World} {s : Option Addr} {l : List Vol} {u v : Value} {n m : Nat} {P T : List Value} {Os : List OldS} (h : AloneL W w s l u v n m P T Os) (k : Below w.heap.size w w') : AloneL W w' s l u v n m P T Os :=
  ⟨h.low.trans (k.mono h.low.size), h.set.below k, h.good, own_belowV h.o1 k, own_belowV h.o2 k, fun o ho => ⟨(h.olds o ho).1.below k, (h.olds o ho).2⟩⟩
theorem AloneL.grow1 {W w w' : World} {s : Option Addr} {l : List Vol} {u v u' : Value} {n m n' : Nat} {P T P' : List Value} {Os : List OldS} (h : AloneL W w s l u v n m P T Os) (g : w.grownBy w' u.ownBlock) (o : w'.ownsRow W.heap.size 49 1 u' n' P') : AloneL W w' s l u' v n' m P' T Os := by
  have k : KeepT 49 w w' := KeepT.app h.o1 g
  exact ⟨below_grown h.low g h.low.size (fun q e => own_geV h.o1 e), h.set.keepT k (by decide) (by decide) (by decide) (by decide), h.good, o, own_keepT h.o2 k (by decide), fun o ho => ⟨(h.olds o ho).1.keepT k (by decide) (by decide) (by decide) (by decide), (h.olds o ho).2⟩⟩
theorem AloneL.grow2 {W w w' : World} {s : Option Addr} {l : List Vol} {u v v' : Value} {n m m' : Nat} {P T T' : List Value} {Os : List OldS} (h : AloneL W w s l u v n m P T Os) (g : w.grownBy w' v.ownBlock) (o : w'.ownsRow W.heap.size 9 1 v' m' T') : AloneL W w' s l u v' n m' P T' Os := by
  have k : KeepT 9 w w' := KeepT.app h.o2 g
  exact ⟨below_grown h.low g h.low.size (fun q e => own_geV h.o2 e), h.set.keepT k (by decide) (by decide) (by decide) (by decide), h.good, own_keepT h.o1 k (by decide), o, fun o ho => ⟨(h.olds o ho).1.keepT k (by decide) (by decide) (by decide) (by decide), (h.olds o ho).2⟩⟩
theorem AloneL.with {W w : World} {s s' : Option Addr} {l l' : List Vol} {u v : Value} {n m : Nat} {P T : List Value} {Os : List OldS} (h : AloneL W w s l u v n m P T Os) (hs : RdS w s' l') (hg : Good l') : AloneL W w s' l' u v n m P T Os := ⟨h.low, hs, hg, h.o1, h.o2, h.olds⟩
/-- At the head of a round. -/
def AloneAt (W w : World) (s : Option Addr) (u v : Value) (Os : List OldS) : Prop := ∃ l, AloneL W w s l u v Os.length Os.length (ptrO Os) (txtO Os) Os
theorem AloneL.next {W w : World} {s : Option Addr} {l : List Vol} {u v : Value} {Os : List OldS} (h : AloneL W w s l u v (Os.length + 1) (Os.length + 1) (ptrO Os ++ [.pointer s]) (txtO Os ++ [.string (encS l)]) Os) : AloneAt W w s u v (Os ++ [(s, l)]) := by
  refine ⟨l, h.low, h.set, h.good, ?_, ?_, fun o ho => ?_⟩
  · have := h.o1
    simpa [ptrO] using this
  · have := h.o2
    simpa [txtO] using this
  · rcases List.mem_append.1 ho with ho | ho
    · exact h.olds o ho
    · obtain rfl := List.mem_singleton.1 ho
      exact ⟨h.set, h.good⟩
theorem AloneAt.cl {W w w' : World} {s : Option Addr} {u v : Value} {Os : List OldS} (h : AloneAt W w s u v Os) (k : Below w.heap.size w w') : AloneAt W w' s u v Os := by
  obtain ⟨l, h⟩ := h
  exact ⟨l, h.cl k⟩
/-- Behind a put: what is not the volume that was written, or is frozen, is as it was. -/
def SameBut (nm : List UInt8) (l l' : List Vol) : Prop := ∀ x' ∈ l', (x'.name ≠ nm ∨ x'.frozen = true) → ∃ x ∈ l, x.name = x'.name ∧ x.f = x'.f
theorem same_refl (nm : List UInt8) (l : List Vol) : SameBut nm l l := fun x hx _ => ⟨x, hx, rfl, rfl⟩
theorem same_put {l : List Vol} {nm : List UInt8} {x : Vol} {i : Nat} (z : Int) (xs : List Int) (A : Option Addr) (hn : x.name = nm) (hf : x.frozen = false) : SameBut nm l (putV l i (putX x z xs A)) := fun x' hx' h => by
  rcases put_mem hx' with rfl | hx'
  · rcases h with h | h
    · exact absurd hn h
    · have : x.frozen = true := h
      rw [hf] at this
      cases this
  · exact ⟨x', hx', rfl, rfl⟩
/-- Within the names' loop: the set ahead of the put, the set behind it. -/
structure PairAt (W w : World) (s s' : Option Addr) (l l' : List Vol) (u v : Value) (Os : List OldS) (A : Option Addr) : Prop where
  was : RdS w s l
  now : AloneL W w s' l' u v Os.length Os.length (ptrO Os) (txtO Os) Os
  nms : RdA w A (nmsV l')
theorem PairAt.cl {W w w' : World} {s s' : Option Addr} {l l' : List Vol} {u v : Value} {Os : List OldS} {A : Option Addr} (h : PairAt W w s s' l l' u v Os A) (k : Below w.heap.size w w') : PairAt W w' s s' l l' u v Os A := ⟨h.was.below k, h.now.cl k, h.nms.below k⟩
end Go.Proofs.Ytnnadhfpkplncaa

