/- Plain arithmetic of the field of 256 numbers: the powers of 2, logarithms, products, inverses. No Go in it. -/
namespace Go.Proofs.Ytdeopklgdemnfaa.Gf

/-- Twice a number. -/
def dbl (x : Nat) : Nat := if 255 < 2 * x then (2 * x) ^^^ 285 else 2 * x
/-- The powers of 2. -/
def pw : Nat → Nat
  | 0 => 1
  | n + 1 => dbl (pw n)

/-- All below n. -/
def allB : Nat → (Nat → Bool) → Bool
  | 0, _ => true
  | n + 1, p => p n && allB n p
theorem allB_iff {n : Nat} {p : Nat → Bool} : allB n p = true ↔ ∀ i, i < n → p i = true := by
  induction n with
  | zero => simp [allB]
  | succ n ih =>
    simp only [allB, Bool.and_eq_true, ih]
    constructor
    · rintro ⟨h1, h2⟩ i hi
      rcases Nat.lt_succ_iff_lt_or_eq.1 hi with h | rfl
      · exact h2 i h
      · exact h1
    · intro h
      exact ⟨h n (by omega), fun i hi => h i (by omega)⟩

/-- The table of powers as one number: byte i is the i-th power. -/
def pwTab : Nat → Nat → Nat → Nat
  | 0, _, acc => acc
  | n + 1, x, acc => pwTab n (dbl x) (acc * 256 + x)
/-- The logarithm, by search from above. -/
def lgFrom : Nat → Nat → Nat → Nat → Nat
  | 0, _, _, _ => 0
  | n + 1, k, x, a => if x = a then k else lgFrom n (k + 1) (dbl x) a
def lg (a : Nat) : Nat := lgFrom 255 0 1 a

theorem lgFrom_pw (n : Nat) : ∀ k a, (∃ i, i < n ∧ pw (k + i) = a) → k ≤ lgFrom n k (pw k) a ∧ lgFrom n k (pw k) a < k + n ∧ pw (lgFrom n k (pw k) a) = a := by
  induction n with
  | zero => rintro k a ⟨i, hi, _⟩; omega
  | succ n ih =>
    rintro k a ⟨i, hi, h⟩
    unfold lgFrom
    by_cases hk : pw k = a
    · rw [if_pos hk]; exact ⟨Nat.le_refl _, by omega, hk⟩
    · rw [if_neg hk]
      have := ih (k + 1) a ⟨i - 1, by
        rcases Nat.eq_zero_or_pos i with rfl | hp
        · exact absurd (by simpa using h) hk
        · omega, by
        rcases Nat.eq_zero_or_pos i with rfl | hp
        · exact absurd (by simpa using h) hk
        · rw [show k + 1 + (i - 1) = k + i by omega]; exact h⟩
      have e : dbl (pw k) = pw (k + 1) := rfl
      rw [e]
      omega

def pwIn (n : Nat) (x : Nat) (a : Nat) : Bool := match n with
  | 0 => false
  | n + 1 => Nat.beq x a || pwIn n (dbl x) a
theorem pwIn_iff (n : Nat) : ∀ k a, pwIn n (pw k) a = true → ∃ i, i < n ∧ pw (k + i) = a := by
  induction n with
  | zero => intro k a h; simp [pwIn] at h
  | succ n ih =>
    intro k a h
    simp only [pwIn, Bool.or_eq_true] at h
    rcases h with h | h
    · exact ⟨0, by omega, by simpa using Nat.eq_of_beq_eq_true h⟩
    · obtain ⟨i, hi, e⟩ := ih (k + 1) a h
      exact ⟨i + 1, by omega, by rw [← e]; congr 1; omega⟩
theorem all_powers : allB 256 (fun a => Nat.beq a 0 || pwIn 255 1 a) = true := by decide +kernel
theorem lg_spec (a : Nat) (h0 : 0 < a) (h : a < 256) : lg a < 255 ∧ pw (lg a) = a := by
  have h1 := allB_iff.1 all_powers a h
  simp only [Bool.or_eq_true] at h1
  have h2 : pwIn 255 1 a = true := by
    rcases h1 with h1 | h1
    · have := Nat.eq_of_beq_eq_true h1; omega
    · exact h1
  have := lgFrom_pw 255 0 a (by simpa using pwIn_iff 255 0 a h2)
  unfold lg
  have e : pw 0 = 1 := rfl
  rw [e] at this
  omega
theorem pw_255 : pw 255 = 1 := by decide +kernel
theorem pw_add_255 (n : Nat) : pw (n + 255) = pw n := by
  induction n with
  | zero => exact pw_255
  | succ n ih => exact congrArg dbl ih
theorem pw_mod (n : Nat) : pw n = pw (n % 255) := by
  have : ∀ k m, pw (m + 255 * k) = pw m := by
    intro k
    induction k with
    | zero => intro m; rfl
    | succ k ih => intro m; rw [show m + 255 * (k + 1) = (m + 255 * k) + 255 by omega, pw_add_255, ih]
  conv => lhs; rw [← Nat.mod_add_div n 255]
  exact this _ _
theorem pw_pos_lt_small : allB 255 (fun i => Nat.ble 1 (pw i) && Nat.ble (pw i) 255) = true := by decide +kernel
theorem pw_bd (n : Nat) : 1 ≤ pw n ∧ pw n < 256 := by
  rw [pw_mod]
  have h := allB_iff.1 pw_pos_lt_small (n % 255) (Nat.mod_lt _ (by omega))
  simp only [Bool.and_eq_true, Nat.ble_eq] at h
  omega
/-- The powers below 255 are unlike one another. -/
theorem lg_pw_small : allB 255 (fun i => Nat.beq (lg (pw i)) i) = true := by decide +kernel
theorem lg_pw (i : Nat) (h : i < 255) : lg (pw i) = i := Nat.eq_of_beq_eq_true (allB_iff.1 lg_pw_small i h)
theorem pw_inj {i j : Nat} (hi : i < 255) (hj : j < 255) (h : pw i = pw j) : i = j := by
  rw [← lg_pw i hi, ← lg_pw j hj, h]

/-- The product, by the tables. -/
def gm (a b : Nat) : Nat := if a = 0 ∨ b = 0 then 0 else pw (lg a + lg b)
/-- What makes one of a number. -/
def gi (a : Nat) : Nat := if a = 0 then 0 else pw (255 - lg a)
theorem gm_lt (a b : Nat) : gm a b < 256 := by
  unfold gm; split
  · omega
  · exact (pw_bd _).2
theorem gi_lt (a : Nat) : gi a < 256 := by
  unfold gi; split
  · omega
  · exact (pw_bd _).2
theorem gm_zero_left (b : Nat) : gm 0 b = 0 := by simp [gm]
theorem gm_zero_right (a : Nat) : gm a 0 = 0 := by simp [gm]
theorem gm_pos {a b : Nat} (ha : 0 < a) (hb : 0 < b) : gm a b = pw (lg a + lg b) := by
  unfold gm; rw [if_neg (by omega)]
theorem gm_ne_zero {a b : Nat} (ha : 0 < a) (hb : 0 < b) : 0 < gm a b := by
  rw [gm_pos ha hb]; exact (pw_bd _).1
theorem gm_comm (a b : Nat) : gm a b = gm b a := by
  unfold gm; rw [Nat.add_comm (lg a)]; congr 1; exact propext ⟨Or.symm, Or.symm⟩
theorem lg_pw' (n : Nat) : lg (pw n) = n % 255 := by rw [pw_mod, lg_pw _ (Nat.mod_lt _ (by omega))]
theorem pw_congr {m n : Nat} (h : m % 255 = n % 255) : pw m = pw n := by rw [pw_mod m, pw_mod n, h]
theorem gm_assoc (a b c : Nat) : gm a (gm b c) = gm (gm a b) c := by
  rcases Nat.eq_zero_or_pos a with rfl | ha
  · simp [gm_zero_left]
  rcases Nat.eq_zero_or_pos b with rfl | hb
  · simp [gm_zero_left, gm_zero_right]
  rcases Nat.eq_zero_or_pos c with rfl | hc
  · simp [gm_zero_right]
  rw [gm_pos ha (gm_ne_zero hb hc), gm_pos (gm_ne_zero ha hb) hc, gm_pos ha hb, gm_pos hb hc, lg_pw', lg_pw']
  apply pw_congr; omega
theorem lg_one : lg 1 = 0 := by decide +kernel
theorem gm_one (a : Nat) (h : a < 256) : gm a 1 = a := by
  rcases Nat.eq_zero_or_pos a with rfl | ha
  · rfl
  rw [gm_pos ha (by omega), lg_one]
  exact (lg_spec a ha h).2
theorem one_gm (a : Nat) (h : a < 256) : gm 1 a = a := by rw [gm_comm, gm_one a h]
theorem gi_pos {a : Nat} (ha : 0 < a) : gi a = pw (255 - lg a) := by unfold gi; rw [if_neg (by omega)]
theorem gi_ne_zero {a : Nat} (ha : 0 < a) : 0 < gi a := by rw [gi_pos ha]; exact (pw_bd _).1
theorem gm_gi {a : Nat} (ha : 0 < a) (h : a < 256) : gm a (gi a) = 1 := by
  have hl := (lg_spec a ha h).1
  rw [gm_pos ha (gi_ne_zero ha), gi_pos ha, lg_pw']
  show _ = pw 0
  apply pw_congr; omega
theorem gi_gi {a : Nat} (ha : 0 < a) (h : a < 256) : gi (gi a) = a := by
  have hl := lg_spec a ha h
  rw [gi_pos (gi_ne_zero ha), gi_pos ha, lg_pw']
  conv => rhs; rw [← hl.2]
  apply pw_congr; omega

/-! ### The product bit by bit -/
/-- The n-th double of a number. -/
def dbls (a : Nat) : Nat → Nat
  | 0 => a
  | n + 1 => dbl (dbls a n)
/-- The sum over the first n bits. -/
def bm (a b : Nat) : Nat → Nat
  | 0 => 0
  | n + 1 => if b / 2 ^ n % 2 = 1 then bm a b n ^^^ dbls a n else bm a b n
def bmAll (a : Nat) (b : Nat) : Nat := bm a b 8
theorem gm_bm_all : allB 256 (fun a => allB 256 fun b => Nat.beq (gm a b) (bm a b 8)) = true := by decide +kernel
theorem gm_bm {a b : Nat} (ha : a < 256) (hb : b < 256) : gm a b = bm a b 8 := by
  have h := allB_iff.1 gm_bm_all a ha
  exact Nat.eq_of_beq_eq_true (allB_iff.1 h b hb)
theorem bit_xor (b c n : Nat) : (b ^^^ c) / 2 ^ n % 2 = (b / 2 ^ n % 2 + c / 2 ^ n % 2) % 2 := by
  have h : (b ^^^ c).testBit n = (b.testBit n ^^ c.testBit n) := Nat.testBit_xor b c n
  simp only [Nat.testBit_eq_decide_div_mod_eq] at h
  rcases Nat.mod_two_eq_zero_or_one (b / 2 ^ n) with h1 | h1 <;> rcases Nat.mod_two_eq_zero_or_one (c / 2 ^ n) with h2 | h2 <;>
    rcases Nat.mod_two_eq_zero_or_one ((b ^^^ c) / 2 ^ n) with h3 | h3 <;> simp_all
theorem xor4 (p q d : Nat) : (p ^^^ d) ^^^ (q ^^^ d) = p ^^^ q := by
  rw [Nat.xor_assoc, ← Nat.xor_assoc d q d, Nat.xor_comm d q, Nat.xor_assoc q d d, Nat.xor_self, Nat.xor_zero]
theorem bm_xor (a b c n : Nat) : bm a (b ^^^ c) n = bm a b n ^^^ bm a c n := by
  induction n with
  | zero => simp [bm]
  | succ n ih =>
    simp only [bm, bit_xor, ih]
    rcases Nat.mod_two_eq_zero_or_one (b / 2 ^ n) with h1 | h1 <;> rcases Nat.mod_two_eq_zero_or_one (c / 2 ^ n) with h2 | h2 <;> simp only [h1, h2]
    · simp
    · simp [Nat.xor_assoc]
    · simp [Nat.xor_assoc, Nat.xor_comm (dbls a n)]
    · simp [xor4]
theorem xor_lt {b c : Nat} (hb : b < 256) (hc : c < 256) : b ^^^ c < 256 := Nat.xor_lt_two_pow (n := 8) hb hc
theorem gm_xor {a b c : Nat} (ha : a < 256) (hb : b < 256) (hc : c < 256) : gm a (b ^^^ c) = gm a b ^^^ gm a c := by
  rw [gm_bm ha (xor_lt hb hc), gm_bm ha hb, gm_bm ha hc, bm_xor]
theorem dbl_lt {x : Nat} (h : x < 256) : dbl x < 256 := by
  unfold dbl
  split
  · have h1 : (2 * x) ^^^ 285 < 512 := Nat.xor_lt_two_pow (n := 9) (by omega) (by omega)
    have h2 : ((2 * x) ^^^ 285).testBit 8 = false := by
      have e : (2 * x).testBit 8 = true := by
        rw [Nat.testBit_eq_decide_div_mod_eq]; simp; omega
      rw [Nat.testBit_xor, e]; decide
    rw [Nat.testBit_eq_decide_div_mod_eq] at h2
    simp at h2
    omega
  · omega
theorem dbls_lt {a : Nat} (h : a < 256) (n : Nat) : dbls a n < 256 := by
  induction n with
  | zero => exact h
  | succ n ih => exact dbl_lt ih
theorem bm_lt {a : Nat} (b : Nat) (h : a < 256) (n : Nat) : bm a b n < 256 := by
  induction n with
  | zero => simp [bm]
  | succ n ih =>
    unfold bm; split
    · exact xor_lt ih (dbls_lt h n)
    · exact ih
end Go.Proofs.Ytdeopklgdemnfaa.Gf
