/- The walk of the law on powers. Condition: the library's handle of the type 'error' reads as the program lays it. -/
import Derived.Test.YtdeopklgdemnfaaDoorGfErr
namespace Go.Proofs.YtdeopklgdemnfaaDoor
open Go.RowKit Gf

theorem tmod_1000 (n : Int) : -1000 < n.tmod 1000 ∧ n.tmod 1000 < 1000 := by
  rcases Int.lt_or_le n 0 with h | h
  · have e : n.tmod 1000 = -((-n) % 1000) := by
      rw [← Int.tmod_eq_emod_of_nonneg (a := -n) (by omega), Int.neg_tmod, Int.neg_neg]
    omega
  · rw [Int.tmod_eq_emod_of_nonneg h]; omega
theorem pw_sum (p q : Int) : gm (pw (p % 255).toNat) (pw (q % 255).toNat) = pw ((p + q) % 255).toNat := by
  rw [gm_pos (pw_bd _).1 (pw_bd _).1, lg_pw', lg_pw']
  exact pw_congr (by omega)
theorem gp_pos {a : Nat} (h : 0 < a) (n : Int) : gp a n = pw (lg a * (n % 255).toNat) := by
  unfold gp
  by_cases hn : n = 0
  · subst hn; rfl
  · rw [if_neg hn, if_neg (by omega)]
theorem gp_sum {a : Nat} (h : 0 < a) (p q : Int) : gm (gp a p) (gp a q) = gp a (p + q) := by
  rw [gp_pos h, gp_pos h, gp_pos h, gm_pos (pw_bd _).1 (pw_bd _).1, lg_pw', lg_pw']
  apply pw_congr
  have e : ((p + q) % 255).toNat = ((p % 255).toNat + (q % 255).toNat) % 255 := by omega
  rw [e, ← Nat.add_mod, Nat.mul_mod_mod, Nat.mul_add]
theorem gp_lt (a : Nat) (n : Int) : gp a n < 256 := by
  unfold gp; split
  · omega
  · split
    · omega
    · exact (pw_bd _).2
theorem gp_255 {a : Nat} (h : 0 < a) (k : Int) : gp a (255 * k) = 1 := by
  rw [gp_pos h, show (255 * k) % 255 = 0 by omega]; rfl

theorem nine (n : Int) : ∃ k : Int, 0 ≤ k ∧ k < 9 ∧ wrap64 (255 * wrap64 ((IntKind.u64.wrap n).tmod 9)) = 255 * k := by
  have e : 0 ≤ IntKind.u64.wrap n := by rw [IntKind.wrap_u64]; omega
  rw [Int.tmod_eq_emod_of_nonneg e]
  refine ⟨IntKind.u64.wrap n % 9, by omega, by omega, ?_⟩
  unfold wrap64
  omega
theorem pw_lgv {X : Nat} (h : 0 < X) (hX : X < 256) : pw (lgv X % 255).toNat = X := by
  have hl := lg_spec X h hX
  unfold lgv; rw [if_neg (by omega)]
  rw [show ((lg X : Int) % 255).toNat = lg X by omega, hl.2]
set_option maxRecDepth 100000 in
set_option maxHeartbeats 1600000 in
theorem powers_nat (X : Nat) (n m : Int) (hX : X < 256) (W : World) (hH : Handle W) :
    Calls Tryd.prog 4 #[.int .u8 (X : Int), .int .i64 n, .int .i64 m] W (FieldEnd W) := by
  have h := FW.new W
  have hb := hH.lt
  obtain ⟨hp1, hp2⟩ := tmod_1000 n
  obtain ⟨hq1, hq2⟩ := tmod_1000 m
  have b1 := pw_bd (n.tmod 1000 % 255).toNat
  have b2 := pw_bd (m.tmod 1000 % 255).toNat
  go_enter Tryd.func4, Tryd.ntmps4
  go_wp2_with (go_at_call 14; refine (new_any _).mono ?_; rintro e w1 ⟨rfl, rfl⟩)
  refine (expE _ _ _ (n.tmod 1000 + m.tmod 1000) _ rfl h).mono ?_; rintro e v ⟨rfl, h⟩; go_wp2_with fail
  refine (expE _ _ _ (n.tmod 1000) _ rfl h).mono ?_; rintro e v ⟨rfl, h⟩; go_wp2_with fail
  refine (expE _ _ _ (m.tmod 1000) _ rfl h).mono ?_; rintro e v ⟨rfl, h⟩; go_wp2_with fail
  refine (mulE _ _ _ (pw (n.tmod 1000 % 255).toNat) (pw (m.tmod 1000 % 255).toNat) _ (pw_sum _ _) (by omega) (by omega) (by omega) (by omega) h).mono ?_; rintro e v ⟨rfl, h⟩; go_wp2_with fail
  obtain ⟨k, hk0, hk9, hk⟩ := nine n
  rw [hk]
  clear hk
  rcases Nat.eq_zero_or_pos X with h0 | h0
  · subst h0
    refine (powE _ _ _ 0 (255 * k) _ rfl hX h).mono ?_; rintro e v ⟨rfl, h⟩; go_wp2_with fail
    all_goals
      refine (logE _ _ _ 0 hX h).mono ?_; rintro e v ⟨rfl, h⟩; go_wp2_with fail
      refine (numE 0 _ _ _ hH hb h).mono ?_; rintro e v ⟨rfl, h⟩
      rw [show rinvErr 0 = 14 from rfl, show lgv 0 = 0 from rfl]
      go_wp2_with fail
      refine (sureE _ _ _ h).mono ?_; rintro e v ⟨rfl, h⟩; go_wp2_with fail
      go_ret
      exact ⟨rfl, h⟩
  · have hab : ((X : Int) == 0) = false := by simp; omega
    refine (powE _ _ _ X (255 * k) 1 (gp_255 h0 k) hX h).mono ?_; rintro e v ⟨rfl, h⟩; go_wp2_with fail
    refine (logE _ _ _ X hX h).mono ?_; rintro e v ⟨rfl, h⟩
    have hl := lg_spec X h0 hX
    have hl2 : 0 ≤ lgv X ∧ lgv X < 255 := by unfold lgv; rw [if_neg (by omega)]; omega
    obtain ⟨hl3, hl4⟩ := hl2
    have g1 := gp_lt X (n.tmod 1000)
    have g2 := gp_lt X (m.tmod 1000)
    clear hl
    rw [show invErr (X : Int) = .nilIface by unfold invErr; rw [if_neg (by omega)]]
    go_wp2_with fail
    refine (expE _ _ _ (lgv X) X (pw_lgv h0 hX) h).mono ?_; rintro e v ⟨rfl, h⟩; go_wp2_with fail
    refine (powE _ _ _ X (n.tmod 1000 + m.tmod 1000) _ rfl hX h).mono ?_; rintro e v ⟨rfl, h⟩; go_wp2_with fail
    refine (powE _ _ _ X (n.tmod 1000) _ rfl hX h).mono ?_; rintro e v ⟨rfl, h⟩; go_wp2_with fail
    refine (powE _ _ _ X (m.tmod 1000) _ rfl hX h).mono ?_; rintro e v ⟨rfl, h⟩; go_wp2_with fail
    refine (mulE _ _ _ (gp X (n.tmod 1000)) (gp X (m.tmod 1000)) _ (gp_sum h0 _ _) (by omega) (by omega) (by omega) (by omega) h).mono ?_; rintro e v ⟨rfl, h⟩; go_wp2_with fail
    refine (sureE _ _ _ h).mono ?_; rintro e v ⟨rfl, h⟩; go_wp2_with fail
    go_ret
    exact ⟨rfl, h⟩
end Go.Proofs.YtdeopklgdemnfaaDoor
