/- What must come whatever the input is. Condition: the handle of 'error'. -/
import Derived.Test.YtnnadhfpkplncaaDoorLkOpen
namespace Go.Proofs.YtnnadhfpkplncaaDoor
open Go.RowKit Go.Maps

theorem Tab.lower {L L' N t : Nat} {w : World} {F : Int → List UInt8 → Int} (h : Tab L N w t F) (hl : L' ≤ L) : Tab L' N w t F := by
  obtain ⟨m, B, h, hne⟩ := h
  exact ⟨m, B, ⟨h.cell, h.map, h.free, h.held, ⟨Nat.le_trans hl h.lo.1, fun i b e => Nat.le_trans hl (h.lo.2 i b e)⟩, h.inj⟩, hne⟩
theorem Handle.keep {L : Nat} {w w' : World} (h : Handle w) (k : Keep L w w') : Handle w' := cell_keep k h
def BoolPost (b : Bool) (w : World) (e : Ending) (w' : World) : Prop := e = .returned (.bool b) ∧ Below w.heap.size w w'
/-- Take, and the list beside it. -/
theorem take_both {L N t : Nat} {F : Int → List UInt8 → Int} {r : List Held} (who : Int) (nm : List UInt8) (all : Bool) (w : World) (h : Tab L N w t F) (ha : Agr F r) (hw : wfI who) (hn : okS nm) (hL : L ≤ w.heap.size) (hN : N ≤ 100000) :
    Calls Tryd.prog 9 #[.pointer (some ⟨t, 0, none⟩), .int .i64 who, .string ⟨nm.toArray⟩, .bool all] w fun e w' =>
      e = .returned (errV (refMay r who nm all)) ∧ (∃ F', Tab L (N + 3) w' t F' ∧ Agr F' (rtakeL r who nm all)) ∧ Keep L w w' :=
  (take_any who nm all w h hw hn hL hN).mono fun e w' ⟨n, he, hm, ht, hk⟩ => ⟨by rw [he, may_ref ha hm], ⟨_, ht, take_agr ha hm hw hn⟩, hk⟩
theorem may_both {L N t : Nat} {F : Int → List UInt8 → Int} {r : List Held} (who : Int) (nm : List UInt8) (all : Bool) (w : World) (h : Tab L N w t F) (ha : Agr F r) (hw : wfI who) (hn : okS nm) :
    Calls Tryd.prog 11 #[.pointer (some ⟨t, 0, none⟩), .int .i64 who, .string ⟨nm.toArray⟩, .bool all] w fun e w' => e = .returned (errV (refMay r who nm all)) ∧ Below w.heap.size w w' := by
  obtain ⟨m, B, h, _⟩ := h
  exact (may_any who nm all w h hw hn).mono fun e w' ⟨n, he, hm, hb⟩ => ⟨by rw [he, may_ref ha hm], hb⟩
set_option maxRecDepth 100000 in
set_option maxHeartbeats 1600000 in
theorem sure_any (w : World) (hg : Handle w) : Calls Tryd.prog 14 #[] w (BoolPost true w) := by
  have HG := Lib.hid hg
  clear hg
  go_enter Tryd.func14, Tryd.ntmps14
  go_wp2_with fail
  refine (new_any w).mono ?_
  rintro e w1 ⟨t, rfl, ht, hlt, hb1⟩
  have HT := Lib.hid ht
  have HB1 := Lib.hid hb1
  have HK1 := Lib.hid (Keep.of hb1 (Nat.le_refl _))
  clear ht hb1
  go_wp2_with fail
  refine (take_both 1 [97] false w1 HT.out Agr.nil (by unfold wfI; decide) (by unfold okS maxLen; decide) HB1.out.size (by omega)).mono ?_
  rintro e w2 ⟨rfl, ⟨F2, ht2, ha2⟩, hk2⟩
  have e1 : refMay [] 1 [97] false = 0 := by decide
  have e2 : rtakeL [] 1 [97] false = [(1, [97], false)] := by decide
  rw [e1]
  rw [e2] at ha2
  have HT2 := Lib.hid ht2
  have HA2 := Lib.hid ha2
  have HK2 := Lib.hid (HK1.out.trans hk2)
  clear ht2 ha2 hk2 e1 e2
  rw [show errV 0 = .nilIface from rfl]
  go_wp2_with fail
  refine (take_both 2 [97] false w2 HT2.out HA2.out (by unfold wfI; decide) (by unfold okS maxLen; decide) HK2.out.bl.size (by omega)).mono ?_
  rintro e w3 ⟨rfl, ⟨F3, ht3, ha3⟩, hk3⟩
  have e1 : refMay [(1, [97], false)] 2 [97] false = 0 := by decide
  have e2 : rtakeL [(1, [97], false)] 2 [97] false = [(1, [97], false), (2, [97], false)] := by decide
  rw [e1]
  rw [e2] at ha3
  have HT3 := Lib.hid ht3
  have HA3 := Lib.hid ha3
  have HK3 := Lib.hid (HK2.out.trans hk3)
  clear ht3 ha3 hk3 e1 e2
  rw [show errV 0 = .nilIface from rfl]
  go_wp2_with fail
  refine (take_both 3 [97] true w3 HT3.out HA3.out (by unfold wfI; decide) (by unfold okS maxLen; decide) HK3.out.bl.size (by omega)).mono ?_
  rintro e w4 ⟨rfl, ⟨F4, ht4, ha4⟩, hk4⟩
  have e1 : refMay [(1, [97], false), (2, [97], false)] 3 [97] true = 40 := by decide
  rw [e1]
  have HK4 := Lib.hid (HK3.out.trans hk4)
  have HN := Lib.hid (numk_any 40 w4 (HG.out.keep HK4.out))
  rw [show errV 40 = .iface 78 (.int .i64 40) from rfl] at HN ⊢
  clear ht4 ha4 hk4 e1
  go_wp2_with fail
  refine HN.out.mono ?_
  rintro e w5 ⟨rfl, hb5⟩
  have HB5 := Lib.hid (HK4.out.bl.trans (hb5.mono HK4.out.bl.size))
  clear hb5
  go_wp2_with fail
  go_ret
  exact ⟨rfl, HB5.out⟩
end Go.Proofs.YtnnadhfpkplncaaDoor
