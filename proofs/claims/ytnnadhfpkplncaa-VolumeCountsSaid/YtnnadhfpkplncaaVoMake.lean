/- A name that can be; room for one more; a volume made. Condition: the set reads, its names go up. -/
import Derived.Test.YtnnadhfpkplncaaVoWith
namespace Go.Proofs.Ytnnadhfpkplncaa
open Go.RowKit

def okN (t : List UInt8) : Prop := t = [97] ∨ t = [98]
def oddR (c : Nat) : Bool := decide ((c : Int) < 33) || decide ((126 : Int) < (c : Int))
theorem named1_any (x : Nat) (w : World) : Calls Try.prog 73 #[.int .i32 x] w fun e w' => e = .returned (.bool (oddR x)) ∧ w' = w := by
  unfold oddR
  by_cases h1 : (x : Int) < 33
  · have hd : decide ((x : Int) < 33) = true := decide_eq_true h1
    rw [hd]
    go_enter Try.func73, Try.ntmps73
    go_wp2
    go_ret
    exact ⟨rfl, rfl⟩
  · have hd : decide ((x : Int) < 33) = false := decide_eq_false h1
    rw [hd]
    by_cases h2 : (126 : Int) < (x : Int)
    · have hd2 : decide ((126 : Int) < (x : Int)) = true := decide_eq_true h2
      rw [hd2]
      go_enter Try.func73, Try.ntmps73
      go_wp2
      go_ret
      exact ⟨rfl, rfl⟩
    · have hd2 : decide ((126 : Int) < (x : Int)) = false := decide_eq_false h2
      rw [hd2]
      go_enter Try.func73, Try.ntmps73
      go_wp2
      go_ret
      exact ⟨rfl, rfl⟩
theorem sidx_any (t : List UInt8) (w : World) : Calls Try.prog 72 #[.string ⟨t.toArray⟩, .func (.func 73) #[] #[]] w fun e w' => e = .returned (.int .i64 (Lib.idxFunc oddR true ⟨t.toArray⟩)) ∧ Below w.heap.size w w' :=
  Any.strings_IndexFunc (P := Try.prog) Try.laysGw15 73 #[] (enters_of Try.func73 (by kernel_rfl) rfl) oddR ⟨t.toArray⟩ w fun W x _ => (named1_any x W).mono fun e w' ⟨h1, h2⟩ => ⟨h1, 0, h2⟩
def NamedPost (t : List UInt8) (w : World) (e : Ending) (w' : World) : Prop := ∃ b, e = .returned (.bool b) ∧ (okN t → b = true) ∧ Below w.heap.size w w'
set_option maxHeartbeats 800000 in
theorem named_any (t : List UInt8) (w : World) : Calls Try.prog 50 #[.string ⟨t.toArray⟩] w (NamedPost t w) := by
  have HI := Lib.hid (sidx_any t w)
  have HOK := Lib.hid (show okN t → t.length = 1 ∧ Lib.idxFunc oddR true ⟨t.toArray⟩ < 0 from fun h => by
    rcases h with rfl | rfl
    · exact ⟨rfl, by decide +kernel⟩
    · exact ⟨rfl, by decide +kernel⟩)
  obtain ⟨I, hI⟩ : ∃ I, I = Lib.idxFunc oddR true ⟨t.toArray⟩ := ⟨_, rfl⟩
  rw [← hI] at HI HOK
  clear hI
  by_cases h1 : (t.length : Int) < 1
  · go_enter Try.func50, Try.ntmps50
    go_wp2_with fail
    refine HI.out.mono ?_
    rintro e w1 ⟨rfl, hb⟩
    have HB := Lib.hid hb
    clear hb
    go_wp2_with fail
    go_ret
    exact ⟨false, rfl, fun h => by have := (HOK.out h).1; omega, HB.out⟩
  · by_cases h2 : (32 : Int) < (t.length : Int)
    · go_enter Try.func50, Try.ntmps50
      go_wp2_with fail
      refine HI.out.mono ?_
      rintro e w1 ⟨rfl, hb⟩
      have HB := Lib.hid hb
      clear hb
      go_wp2_with fail
      go_ret
      exact ⟨false, rfl, fun h => by have := (HOK.out h).1; omega, HB.out⟩
    · go_enter Try.func50, Try.ntmps50
      go_wp2_with fail
      refine HI.out.mono ?_
      rintro e w1 ⟨rfl, hb⟩
      have HB := Lib.hid hb
      clear hb
      go_wp2_with fail
      go_ret
      exact ⟨decide (I < 0), rfl, fun h => decide_eq_true (HOK.out h).2, HB.out⟩
def okV (bl qu : Int) : Prop := 1 ≤ bl ∧ bl ≤ 4096 ∧ 0 ≤ qu ∧ qu ≤ bl
def RightPost (t : List UInt8) (bl qu : Int) (w : World) (e : Ending) (w' : World) : Prop := ∃ b, e = .returned (.bool b) ∧ (b = true → okV bl qu) ∧ (okN t → okV bl qu → b = true) ∧ Below w.heap.size w w'
set_option maxHeartbeats 1600000 in
theorem right_any (t : List UInt8) (bl qu us : Int) (fr : Bool) (w : World) : Calls Try.prog 42 #[.agg #[.string ⟨t.toArray⟩, .int .i64 bl, .int .i64 qu, .int .i64 us, .bool fr]] w (RightPost t bl qu w) := by
  obtain ⟨w1, hw1⟩ : ∃ w1, w1 = w.alloc (.cells #[.string ⟨t.toArray⟩, .int .i64 bl, .int .i64 qu, .int .i64 us, .bool fr] 66) := ⟨_, rfl⟩
  obtain ⟨p, hp⟩ : ∃ p, p = w.heap.size := ⟨_, rfl⟩
  have hb1 : Below w.heap.size w w1 := by rw [hw1]; exact (Below.refl _ _).alloc (Nat.le_refl _) _
  have hx1 : w1.heap[p]? = some (.cells #[.string ⟨t.toArray⟩, .int .i64 bl, .int .i64 qu, .int .i64 us, .bool fr] 66 (0, 0)) := by rw [hw1, hp]; exact alloc_new _ _
  have HB1 := Lib.hid hb1
  have HX1 := Lib.hid hx1
  clear hb1 hx1
  go_enter Try.func42, Try.ntmps42
  go_wp2_with fail
  rw [← hw1, ← hp]
  clear hw1 hp
  refine (named_any t w1).mono ?_
  rintro e w2 ⟨nb, rfl, hn, hb2⟩
  have HN := Lib.hid hn
  have hx2 := (hb2.block _ (block_lt HX1.out)).trans HX1.out
  have HB2 := Lib.hid (HB1.out.trans (hb2.mono HB1.out.size))
  have y1 : w2.cell? ⟨p, 1, none⟩ = some (.int .i64 bl) := block_cell hx2
  have y2 : w2.cell? ⟨p, 2, none⟩ = some (.int .i64 qu) := block_cell hx2
  clear hn hb2 hx2 HX1 HB1
  cases nb with
  | false =>
    go_wp2_with fail
    go_ret
    exact ⟨false, rfl, (fun h => by cases h), fun h _ => HN.out h, HB2.out⟩
  | true =>
    by_cases h1 : bl < 1
    · go_wp2_with fail
      go_ret
      exact ⟨false, rfl, (fun h => by cases h), fun _ h => absurd h.1 (by omega), HB2.out⟩
    · by_cases h2 : 4096 < bl
      · go_wp2_with fail
        go_ret
        exact ⟨false, rfl, (fun h => by cases h), fun _ h => absurd h.2.1 (by omega), HB2.out⟩
      · by_cases h3 : qu < 0
        · go_wp2_with fail
          go_ret
          exact ⟨false, rfl, (fun h => by cases h), fun _ h => absurd h.2.2.1 (by omega), HB2.out⟩
        · have HOK := Lib.hid (show 1 ≤ bl ∧ bl ≤ 4096 ∧ 0 ≤ qu from ⟨by omega, by omega, by omega⟩)
          go_wp2_with fail
          go_ret
          exact ⟨decide (qu ≤ bl), rfl, (fun h => ⟨HOK.out.1, HOK.out.2.1, HOK.out.2.2, of_decide_eq_true h⟩), fun _ h => decide_eq_true h.2.2.2, HB2.out⟩
def RoomPost (l : List Vol) (t : List UInt8) (w : World) (e : Ending) (w' : World) : Prop := Below w.heap.size w w' ∧ ∃ i, Cut l t i ∧
  ((hasAt l i t = true ∧ e = .returned (.iface 93 (.int .i64 9))) ∨ (hasAt l i t = false ∧ 64 ≤ l.length ∧ e = .returned (.iface 93 (.int .i64 10))) ∨ (hasAt l i t = false ∧ l.length < 64 ∧ e = .returned .nilIface))
set_option maxHeartbeats 1600000 in
theorem room_any (s : Option Addr) (l : List Vol) (t : List UInt8) (w : World) (h : RdS w s l) (hu : Up l) (hl : l.length ≤ 1000) : Calls Try.prog 43 #[.pointer s, .string ⟨t.toArray⟩] w (RoomPost l t w) := by
  have HF := Lib.hid (vfind_any s l t w h hu hl)
  have HS := Lib.hid h
  clear h hu
  go_enter Try.func43, Try.ntmps43
  go_wp2_with fail
  refine HF.out.mono ?_
  rintro e w1 ⟨i, hc, rfl, hb1⟩
  have HC := Lib.hid hc
  have HB1 := Lib.hid hb1
  clear hc hb1 HF
  cases hh : hasAt l i t with
  | true =>
    have HH := Lib.hid hh
    clear hh
    go_wp2_with fail
    go_ret
    exact ⟨HB1.out, i, HC.out, Or.inl ⟨HH.out, rfl⟩⟩
  | false =>
    have HH := Lib.hid hh
    have HA := Lib.hid (vall_any s l w1 (HS.out.below HB1.out))
    obtain ⟨n, hn⟩ : ∃ n, n = l.length := ⟨_, rfl⟩
    rw [← hn] at HA
    have HN := Lib.hid hn
    clear hh hn
    by_cases h1 : 64 ≤ n
    · have h1i : ¬ ((n : Int) < 64) := by omega
      go_wp2_with fail
      refine HA.out.mono ?_
      rintro e w2 ⟨A, c, rfl, hr, rfl⟩
      clear hr
      go_wp2_with fail
      go_ret
      exact ⟨HB1.out, i, HC.out, Or.inr (Or.inl ⟨HH.out, by have := HN.out; omega, rfl⟩)⟩
    · have h1i : ((n : Int) < 64) := by omega
      go_wp2_with fail
      refine HA.out.mono ?_
      rintro e w2 ⟨A, c, rfl, hr, rfl⟩
      clear hr
      go_wp2_with fail
      go_ret
      exact ⟨HB1.out, i, HC.out, Or.inr (Or.inr ⟨HH.out, by have := HN.out; omega, rfl⟩)⟩
/-- A volume as it is made. -/
def mkV (t : List UInt8) (bl qu : Int) : Vol := ⟨t, bl, qu, 0, false, none, fun _ => 0⟩
def MakePost (l : List Vol) (t : List UInt8) (bl qu : Int) (w : World) (e : Ending) (w' : World) : Prop := Below w.heap.size w w' ∧
  (((∃ k, e = .returned (.tuple #[.pointer none, .iface 93 (.int .i64 k)])) ∧ ¬ (okN t ∧ okV bl qu ∧ (∀ x ∈ l, x.name ≠ t) ∧ l.length < 64)) ∨
  (okV bl qu ∧ ∃ i b, Cut l t i ∧ hasAt l i t = false ∧ l.length < 64 ∧ e = .returned (.tuple #[.pointer (some ⟨b, 0, none⟩), .nilIface]) ∧ RdS w' (some ⟨b, 0, none⟩) (putV l i (mkV t bl qu))))
theorem hasAt_mem {l : List Vol} {i : Nat} {t : List UInt8} (h : hasAt l i t = true) : ¬ ∀ x ∈ l, x.name ≠ t := fun c => by
  obtain ⟨x, hx, e⟩ := hasAt_some h
  exact c x (List.mem_of_getElem? hx) e
set_option maxRecDepth 100000 in
set_option maxHeartbeats 1600000 in
theorem vmake_any (s : Option Addr) (l : List Vol) (t : List UInt8) (bl qu : Int) (w : World) (h : RdS w s l) (hu : Up l) (hl : l.length ≤ 900) : Calls Try.prog 24 #[.pointer s, .string ⟨t.toArray⟩, .int .i64 bl, .int .i64 qu] w (MakePost l t bl qu w) := by
  obtain ⟨w1, hw1⟩ : ∃ w1, w1 = w.alloc (.cells #[.string ⟨t.toArray⟩, .int .i64 bl, .int .i64 qu, .int .i64 0, .bool false, .pointer none] 92) := ⟨_, rfl⟩
  obtain ⟨p, hp⟩ : ∃ p, p = w.heap.size := ⟨_, rfl⟩
  have hb1 : Below w.heap.size w w1 := by rw [hw1]; exact (Below.refl _ _).alloc (Nat.le_refl _) _
  have hx1 : w1.heap[p]? = some (.cells #[.string ⟨t.toArray⟩, .int .i64 bl, .int .i64 qu, .int .i64 0, .bool false, .pointer none] 92 (0, 0)) := by rw [hw1, hp]; exact alloc_new _ _
  have HS := Lib.hid h
  have HU := Lib.hid hu
  have HB1 := Lib.hid hb1
  have HX1 := Lib.hid hx1
  have y0 : w1.cell? ⟨p, 0, none⟩ = some (.string ⟨t.toArray⟩) := block_cell hx1
  have y1 : w1.cell? ⟨p, 1, none⟩ = some (.int .i64 bl) := block_cell hx1
  have y2 : w1.cell? ⟨p, 2, none⟩ = some (.int .i64 qu) := block_cell hx1
  have y3 : w1.cell? ⟨p, 3, none⟩ = some (.int .i64 0) := block_cell hx1
  have y4 : w1.cell? ⟨p, 4, none⟩ = some (.bool false) := block_cell hx1
  clear hb1 hx1 h hu
  go_enter Try.func24, Try.ntmps24
  go_upto_region 2 with fail
  rw [← hw1, ← hp]
  clear hw1 hp
  go_wp2_with fail
  refine (right_any t bl qu 0 false w1).mono ?_
  rintro e w2 ⟨rb, rfl, hr1, hr2, hb2⟩
  have HR := Lib.hid (And.intro hr1 hr2)
  have HX2 := Lib.hid ((hb2.block _ (block_lt HX1.out)).trans HX1.out)
  have HB2 := Lib.hid (HB1.out.trans (hb2.mono HB1.out.size))
  clear hr1 hr2 hb2 y0 y1 y2 y3 y4 HX1 HB1
  cases rb with
  | false =>
    go_wp2_with fail
    go_ret2
    exact ⟨HB2.out, Or.inl ⟨⟨1, rfl⟩, fun h => by
      have := HR.out.2 h.1 h.2.1
      cases this⟩⟩
  | true =>
    have HRM := Lib.hid (room_any s l t w2 (HS.out.below HB2.out) HU.out (by omega))
    go_wp2_with fail
    refine HRM.out.mono ?_
    rintro e w3 ⟨hb3, i, hc, ⟨hh, rfl⟩ | ⟨hh, h64, rfl⟩ | ⟨hh, h64, rfl⟩⟩
    · have HN := Lib.hid (hasAt_mem hh)
      have HB3 := Lib.hid (HB2.out.trans (hb3.mono HB2.out.size))
      clear hb3 hc hh
      go_wp2_with fail
      go_ret2
      exact ⟨HB3.out, Or.inl ⟨⟨_, rfl⟩, fun h => HN.out h.2.2.1⟩⟩
    · have H64 := Lib.hid h64
      have HB3 := Lib.hid (HB2.out.trans (hb3.mono HB2.out.size))
      clear hb3 hc hh h64
      go_wp2_with fail
      go_ret2
      exact ⟨HB3.out, Or.inl ⟨⟨_, rfl⟩, fun h => by
        have h1 := h.2.2.2
        have h2 := H64.out
        omega⟩⟩
    · have HH := Lib.hid (And.intro hh h64)
      have HC0 := Lib.hid hc
      have HX3 := Lib.hid ((hb3.block _ (block_lt HX2.out)).trans HX2.out)
      have HB3 := Lib.hid (HB2.out.trans (hb3.mono HB2.out.size))
      clear hb3 hc hh h64
      have HW := Lib.hid (vwith_any s l (mkV t bl qu) w3 (HS.out.below HB3.out) HU.out (by omega) ⟨_, rdR_nil w3⟩)
      have y0 : w3.cell? ⟨p, 0, none⟩ = some (.string ⟨t.toArray⟩) := block_cell HX3.out
      have y1 : w3.cell? ⟨p, 1, none⟩ = some (.int .i64 bl) := block_cell HX3.out
      have y2 : w3.cell? ⟨p, 2, none⟩ = some (.int .i64 qu) := block_cell HX3.out
      have y3 : w3.cell? ⟨p, 3, none⟩ = some (.int .i64 0) := block_cell HX3.out
      have y4 : w3.cell? ⟨p, 4, none⟩ = some (.bool false) := block_cell HX3.out
      have y5 : w3.cell? ⟨p, 5, none⟩ = some (.pointer none) := block_cell HX3.out
      go_wp2_with fail
      refine HW.out.mono ?_
      rintro e w4 ⟨j, b, hc, rfl, hs4, hb4⟩
      have HC := Lib.hid hc
      have HS4 := Lib.hid hs4
      have HB4 := Lib.hid (HB3.out.trans (hb4.mono HB3.out.size))
      clear hc hs4 hb4 y0 y1 y2 y3 y4 y5
      go_wp2_with fail
      go_ret2
      have hij := HC0.out.one HC.out
      exact ⟨HB4.out, Or.inr ⟨HR.out.1 trivial, j, b, HC.out, by rw [← hij]; exact HH.out.1, HH.out.2, rfl, HS4.out⟩⟩
end Go.Proofs.Ytnnadhfpkplncaa
