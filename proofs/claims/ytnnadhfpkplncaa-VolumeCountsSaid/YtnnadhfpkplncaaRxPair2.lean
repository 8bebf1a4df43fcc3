/- Two lists grow by one each in one statement: the region, whatever order is drawn. Condition: the statement's ten operations. -/
import Derived.Test.YtnnadhfpkplncaaRxPair
namespace Go.Proofs.Ytnnadhfpkplncaa
open Go.RowKit

/-- The ten operations. -/
structure PairOps (ops : Array Oper) : Prop where
  ready : ∀ p q r s p' q' r' s' z z' : Bool, ((!s || (p && r)) && (!r || q) && (!s' || (p' && r' && s)) && (!r' || q') && (!z || s') && (!z' || z)) = true →
    Region.ready .any ops #[p, q, r, s, p', q', r', s', z, z'] = (if p then [] else [0]) ++ (if q then [] else [1]) ++ (if q && !r then [2] else []) ++ (if p && r && !s then [3] else []) ++ (if p' then [] else [4]) ++ (if q' then [] else [5]) ++ (if q' && !r' then [6] else []) ++ (if p' && r' && s && !s' then [7] else []) ++ (if s' && !z then [8] else []) ++ (if z && !z' then [9] else [])
  o0 : ∃ o, ops[0]? = some o ∧ o.guard = none ∧ o.op = .load 32 (.tmp 4) ∧ o.dst = some 12
  o1 : ∃ o, ops[1]? = some o ∧ o.guard = none ∧ o.op = .move (.tmp 6) ∧ o.dst = some 13
  o2 : ∃ o, ops[2]? = some o ∧ o.guard = none ∧ o.op = .buildSlice 32 1 #[(0, .tmp 13)] ∧ o.dst = some 14
  o3 : ∃ o, ops[3]? = some o ∧ o.guard = none ∧ o.op = .call { callee := .builtin .append, args := #[.tmp 12, .tmp 14], argTypes := #[32, 32] } ∧ o.dst = some 15
  o4 : ∃ o, ops[4]? = some o ∧ o.guard = none ∧ o.op = .load 32 (.tmp 5) ∧ o.dst = some 16
  o5 : ∃ o, ops[5]? = some o ∧ o.guard = none ∧ o.op = .move (.tmp 7) ∧ o.dst = some 17
  o6 : ∃ o, ops[6]? = some o ∧ o.guard = none ∧ o.op = .buildSlice 32 1 #[(0, .tmp 17)] ∧ o.dst = some 18
  o7 : ∃ o, ops[7]? = some o ∧ o.guard = none ∧ o.op = .call { callee := .builtin .append, args := #[.tmp 16, .tmp 18], argTypes := #[32, 32] } ∧ o.dst = some 19
  o8 : ∃ o, ops[8]? = some o ∧ o.guard = none ∧ o.op = .store 32 (.tmp 4) (.tmp 15) ∧ o.dst = none
  o9 : ∃ o, ops[9]? = some o ∧ o.guard = none ∧ o.op = .store 32 (.tmp 5) (.tmp 19) ∧ o.dst = none
theorem infoTINT : (Try.prog.info? 3).map (fun i => (i.zero, i.size, i.bytes)) = some (some (.int .i64 0), 1, 8) := by kernel_rfl
theorem infoTINTS : (Try.prog.info? 32).map (·.size) = some 1 := by kernel_rfl
theorem build_int (y : Int) (w : World) : (Instr.buildSlice 32 1 #[(0, .int .i64 y)]).run Try.prog w = .ok (.slice (some ⟨w.heap.size, 0, none⟩) 1 1) (w.alloc (.cells #[.int .i64 y] 3)) := by
  kernel_rfl
/-- Both lists on their way. -/
structure PInv (n₀ B0 base : Nat) (W : World) (B1 B2 : Nat) (v1 v2 : Value) (n1 n2 : Nat) (xs1 xs2 : List Value) (y1 y2 : Int) (fuel : Nat) (p q r s p' q' r' s' z z' : Bool) (K K' : Nat → Prop) (a : Act) (w : World) : Prop where
  fu : fuel = (!p).toNat + (!q).toNat + (!r).toNat + (!s).toNat + (!p').toNat + (!q').toNat + (!r').toNat + (!s').toNat + (!z).toNat + (!z').toNat
  sz : 20 ≤ a.tmps.size
  c1 : Ch base 3 32 4 6 12 13 14 15 B1 v1 n1 xs1 (.int .i64 y1) p q r s z K a w
  c2 : Ch base 3 32 5 7 16 17 18 19 B2 v2 n2 xs2 (.int .i64 y2) p' q' r' s' z' K' a w
  ap : ∀ k, K k → ¬ K' k
  ks : KeepsFrom B0 W w
  bl : Below n₀ W w
  o4 : s' = true → s = true
  o5 : z = true → s' = true
  o6 : z' = true → z = true
def PI (n₀ B0 base : Nat) (W : World) (B1 B2 : Nat) (v1 v2 : Value) (n1 n2 : Nat) (xs1 xs2 : List Value) (y1 y2 : Int) (fuel : Nat) (listed : Array Bool) (a : Act) (w : World) : Prop :=
  ∃ p q r s p' q' r' s' z z' K K', listed = #[p, q, r, s, p', q', r', s', z, z'] ∧ PInv n₀ B0 base W B1 B2 v1 v2 n1 n2 xs1 xs2 y1 y2 fuel p q r s p' q' r' s' z z' K K' a w
section
variable {n₀ B0 base : Nat} {W : World} {B1 B2 : Nat} {v1 v2 : Value} {n1 n2 : Nat} {xs1 xs2 : List Value} {y1 y2 : Int}
theorem keeps_step {w w' : World} {row : Option Nat} {K : Nat → Prop} (hg : w.grownBy w' row) (hr : ∀ k, row = some k → K k ∧ ∃ cs t, w.heap[k]? = some (.cells cs t (0, 0))) : KeepsFrom B0 w w' :=
  (KeepsOthers.of_grownBy hg fun j o e ho => by
    obtain ⟨_, cs, t, h⟩ := hr j e
    rw [h] at ho
    cases ho
    rfl).from B0
theorem put_size {a : Act} {d : Option Nat} {u : Value} : (a.put d u).tmps.size = a.tmps.size := by
  cases d <;> simp [Act.put]
theorem step1 {l m : Nat} {ops : Array Oper} {Q : Exit → Act → World → Prop} {i : Nat} {o : Oper} (hi : ops[i]? = some o) (hg : o.guard = none) (hd : ∀ c, o.op ≠ .defer c) (hn : n₀ ≤ base)
    {fuel : Nat} {p q r s p' q' r' s' z z' : Bool} {K K' : Nat → Prop} {a : Act} {w : World} (h : PInv n₀ B0 base W B1 B2 v1 v2 n1 n2 xs1 xs2 y1 y2 (fuel + 1) p q r s p' q' r' s' z z' K K' a w)
    (listed : Array Bool) (P Q' R S Z : Bool) (hdst : ∀ d, o.dst = some d → 12 ≤ d ∧ d ≤ 15) (hs : StepsTo Try.prog o a w K fun K1 a' w' => Ch base 3 32 4 6 12 13 14 15 B1 v1 n1 xs1 (.int .i64 y1) P Q' R S Z K1 a' w')
    (hl : listed.setIfInBounds i true = #[P, Q', R, S, p', q', r', s', Z, z']) (hf : fuel = (!P).toNat + (!Q').toNat + (!R).toNat + (!S).toNat + (!p').toNat + (!q').toNat + (!r').toNat + (!s').toNat + (!Z).toNat + (!z').toNat)
    (o4 : s' = true → S = true) (o5 : Z = true → s' = true) (o6 : z' = true → Z = true) :
    wpOpIn (Fence.wide.inRound l) m Try.prog ops Q i (PI n₀ B0 base W B1 B2 v1 v2 n1 n2 xs1 xs2 y1 y2 fuel (listed.setIfInBounds i true)) a w := by
  obtain ⟨u, w', row, K1, hdo, hgr, hrow, hK1, hc⟩ := hs
  refine hdo.round hi hg hd ?_
  have hlt2 := h.c2.hKlt
  refine ⟨P, Q', R, S, p', q', r', s', Z, z', K1, K', hl, hf, by rw [put_size]; exact h.sz, hc, h.c2.keep (fun t ht => ?_) hgr (fun k e => h.ap k (hrow k e).1), fun k hk hk' => ?_, h.ks.trans (keeps_step hgr hrow), h.bl.grown hgr (Nat.le_trans hn (Nat.le_trans (h.c1.hKlt B1 h.c1.hKB).1 (Nat.le_of_lt (h.c1.hKlt B1 h.c1.hKB).2))) (fun k e => Nat.le_trans hn (h.c1.hKlt k (hrow k e).1).1), o4, o5, o6⟩
  · cases hod : o.dst with
    | none => rfl
    | some d =>
      have h12 := hdst d hod
      rcases ht with rfl | rfl | rfl | rfl | rfl | rfl <;> exact eval_ne (fun e => by subst e; exact absurd h12 (by decide))
  · rcases hK1 k hk with e | e
    · exact h.ap k e hk'
    · have := (hlt2 k hk').2; omega
theorem step2 {l m : Nat} {ops : Array Oper} {Q : Exit → Act → World → Prop} {i : Nat} {o : Oper} (hi : ops[i]? = some o) (hg : o.guard = none) (hd : ∀ c, o.op ≠ .defer c) (hn : n₀ ≤ base)
    {fuel : Nat} {p q r s p' q' r' s' z z' : Bool} {K K' : Nat → Prop} {a : Act} {w : World} (h : PInv n₀ B0 base W B1 B2 v1 v2 n1 n2 xs1 xs2 y1 y2 (fuel + 1) p q r s p' q' r' s' z z' K K' a w)
    (listed : Array Bool) (P Q' R S Z : Bool) (hdst : ∀ d, o.dst = some d → 16 ≤ d) (hs : StepsTo Try.prog o a w K' fun K1 a' w' => Ch base 3 32 5 7 16 17 18 19 B2 v2 n2 xs2 (.int .i64 y2) P Q' R S Z K1 a' w')
    (hl : listed.setIfInBounds i true = #[p, q, r, s, P, Q', R, S, z, Z]) (hf : fuel = (!p).toNat + (!q).toNat + (!r).toNat + (!s).toNat + (!P).toNat + (!Q').toNat + (!R).toNat + (!S).toNat + (!z).toNat + (!Z).toNat)
    (o4 : S = true → s = true) (o5 : z = true → S = true) (o6 : Z = true → z = true) :
    wpOpIn (Fence.wide.inRound l) m Try.prog ops Q i (PI n₀ B0 base W B1 B2 v1 v2 n1 n2 xs1 xs2 y1 y2 fuel (listed.setIfInBounds i true)) a w := by
  obtain ⟨u, w', row, K1, hdo, hgr, hrow, hK1, hc⟩ := hs
  refine hdo.round hi hg hd ?_
  have hlt1 := h.c1.hKlt
  refine ⟨p, q, r, s, P, Q', R, S, z, Z, K, K1, hl, hf, by rw [put_size]; exact h.sz, h.c1.keep (fun t ht => ?_) hgr (fun k e hk => h.ap k hk (hrow k e).1), hc, fun k hk hk' => ?_, h.ks.trans (keeps_step hgr hrow), h.bl.grown hgr (Nat.le_trans hn (Nat.le_trans (h.c1.hKlt B1 h.c1.hKB).1 (Nat.le_of_lt (h.c1.hKlt B1 h.c1.hKB).2))) (fun k e => Nat.le_trans hn (h.c2.hKlt k (hrow k e).1).1), o4, o5, o6⟩
  · cases hod : o.dst with
    | none => rfl
    | some d =>
      have h12 := hdst d hod
      rcases ht with rfl | rfl | rfl | rfl | rfl | rfl <;> exact eval_ne (fun e => by subst e; exact absurd h12 (by decide))
  · rcases hK1 k hk' with e | e
    · exact h.ap k hk e
    · have := (hlt1 k hk).2; omega
theorem aggTINTS (w : World) : (isAgg 32).run Try.prog w = .ok false w := by
  unfold isAgg
  rw [Sem.run_bind, run_underlying Try.underlying32 w]
  rfl
theorem mem_ite1 {b : Bool} {i k : Nat} (h : i ∈ if b = true then [] else [k]) : b = false ∧ i = k := by
  cases b with
  | true => simp at h
  | false => simpa using h
theorem mem_ite2 {b : Bool} {i k : Nat} (h : i ∈ if b = true then [k] else []) : b = true ∧ i = k := by
  cases b with
  | false => simp at h
  | true => simpa using h
theorem pinv_cons {fuel : Nat} {p q r s p' q' r' s' z z' : Bool} {K K' : Nat → Prop} {a : Act} {w : World} (hI : PInv n₀ B0 base W B1 B2 v1 v2 n1 n2 xs1 xs2 y1 y2 fuel p q r s p' q' r' s' z z' K K' a w) :
    ((!s || (p && r)) && (!r || q) && (!s' || (p' && r' && s)) && (!r' || q') && (!z || s') && (!z' || z)) = true := by
  have a1 := hI.c1.o1
  have a2 := hI.c1.o2
  have b1 := hI.c2.o1
  have b2 := hI.c2.o2
  have d1 := hI.o4
  have d2 := hI.o5
  have d3 := hI.o6
  clear hI
  cases s <;> cases r <;> cases s' <;> cases r' <;> cases z <;> cases z' <;> simp_all
theorem pair_region {l m id : Nat} {ops : Array Oper} (hops : PairOps ops) (hsize : ops.size = 10) {Q : Exit → Act → World → Prop} {a : Act} (hs : 20 ≤ a.tmps.size) (hn : n₀ ≤ base)
    (h1 : Boxed W B1 32 v1) (h2 : Boxed W B2 32 v2) (r1 : W.ownsRow base 3 1 v1 n1 xs1) (r2 : W.ownsRow base 3 1 v2 n2 xs2) (hap : ∀ k, v1.ownBlock = some k → v2.ownBlock ≠ some k) (hB12 : B1 ≠ B2) (hb1 : base ≤ B1) (hb2 : base ≤ B2)
    (e4 : a.eval (.tmp 4) = .pointer (some ⟨B1, 0, none⟩)) (e5 : a.eval (.tmp 5) = .pointer (some ⟨B2, 0, none⟩)) (e6 : a.eval (.tmp 6) = .int .i64 y1) (e7 : a.eval (.tmp 7) = .int .i64 y2) (hn1 : n1 ≤ 1048576) (hn2 : n2 ≤ 1048576)
    (hQ : ∀ a' w' u1 u2, Boxed w' B1 32 u1 → Boxed w' B2 32 u2 → w'.ownsRow base 3 1 u1 (n1 + 1) (xs1 ++ [.int .i64 y1]) → w'.ownsRow base 3 1 u2 (n2 + 1) (xs2 ++ [.int .i64 y2]) → (∀ k, u1.ownBlock = some k → u2.ownBlock ≠ some k) → KeepsFrom B0 W w' → Below n₀ W w' → Q .normal a' w') :
    (Code.region id ops true).wpIn (Fence.wide.inRound l) m Try.prog Q a W := by
  obtain ⟨iB, t1, t2, t3, t4⟩ := info_parts infoTINT
  refine wpIn_region_any (by kernel_rfl) ?_
  rw [hsize]
  refine any_inv (PI n₀ B0 base W B1 B2 v1 v2 n1 n2 xs1 xs2 y1 y2) ?_ ?_ ?_ 10 _ _ _ ?_
  · rintro fuel _ a w i ⟨p, q, r, s, p', q', r', s', z, z', K, K', rfl, hI⟩ hi
    rw [hops.ready _ _ _ _ _ _ _ _ _ _ (pinv_cons hI)] at hi
    have hsza := hI.sz
    have hsz : base ≤ w.heap.size := Nat.le_trans (hI.c1.hKlt B1 hI.c1.hKB).1 (Nat.le_of_lt (hI.c1.hKlt B1 hI.c1.hKB).2)
    simp only [List.mem_append] at hi
    rcases hi with ((((((((hi | hi) | hi) | hi) | hi) | hi) | hi) | hi) | hi) | hi
    · obtain ⟨rfl, rfl⟩ := mem_ite1 hi
      obtain ⟨o, hoi, hg, hop, hod⟩ := hops.o0
      exact step1 hoi hg (by rw [hop]; intro c e; cases e) hn hI _ true q r s z (by rw [hod]; intro d e; cases e; decide) (hI.c1.load hop hod (by omega) aggTINTS (by decide)) rfl (by have := hI.fu; simp only [Bool.not_true, Bool.not_false, Bool.toNat_true, Bool.toNat_false] at this ⊢; omega) hI.o4 hI.o5 hI.o6
    · obtain ⟨rfl, rfl⟩ := mem_ite1 hi
      obtain ⟨o, hoi, hg, hop, hod⟩ := hops.o1
      exact step1 hoi hg (by rw [hop]; intro c e; cases e) hn hI _ p true r s z (by rw [hod]; intro d e; cases e; decide) (hI.c1.move hop hod (by omega) (by decide)) rfl (by have := hI.fu; simp only [Bool.not_true, Bool.not_false, Bool.toNat_true, Bool.toNat_false] at this ⊢; omega) hI.o4 hI.o5 hI.o6
    · obtain ⟨hb, rfl⟩ := mem_ite2 hi
      simp only [Bool.and_eq_true, Bool.not_eq_true'] at hb
      obtain ⟨rfl, rfl⟩ := hb
      obtain ⟨o, hoi, hg, hop, hod⟩ := hops.o2
      exact step1 hoi hg (by rw [hop]; intro c e; cases e) hn hI _ p true true s z (by rw [hod]; intro d e; cases e; decide) (hI.c1.build hop hod (by omega) (build_int y1 w) hsz (by decide)) rfl (by have := hI.fu; simp only [Bool.not_true, Bool.not_false, Bool.toNat_true, Bool.toNat_false] at this ⊢; omega) hI.o4 hI.o5 hI.o6
    · obtain ⟨hb, rfl⟩ := mem_ite2 hi
      simp only [Bool.and_eq_true, Bool.not_eq_true'] at hb
      obtain ⟨⟨rfl, rfl⟩, rfl⟩ := hb
      obtain ⟨o, hoi, hg, hop, hod⟩ := hops.o3
      exact step1 hoi hg (by rw [hop]; intro c e; cases e) hn hI _ true q true true z (by rw [hod]; intro d e; cases e; decide) (hI.c1.app hop hod (by omega) iB _ Try.underlying32 t1 t2 t3 t4 rfl rfl hn1 hsz (by decide) (by decide)) rfl (by have := hI.fu; simp only [Bool.not_true, Bool.not_false, Bool.toNat_true, Bool.toNat_false] at this ⊢; omega) (fun _ => rfl) hI.o5 hI.o6
    · obtain ⟨rfl, rfl⟩ := mem_ite1 hi
      obtain ⟨o, hoi, hg, hop, hod⟩ := hops.o4
      exact step2 hoi hg (by rw [hop]; intro c e; cases e) hn hI _ true q' r' s' z' (by rw [hod]; intro d e; cases e; decide) (hI.c2.load hop hod (by omega) aggTINTS (by decide)) rfl (by have := hI.fu; simp only [Bool.not_true, Bool.not_false, Bool.toNat_true, Bool.toNat_false] at this ⊢; omega) hI.o4 hI.o5 hI.o6
    · obtain ⟨rfl, rfl⟩ := mem_ite1 hi
      obtain ⟨o, hoi, hg, hop, hod⟩ := hops.o5
      exact step2 hoi hg (by rw [hop]; intro c e; cases e) hn hI _ p' true r' s' z' (by rw [hod]; intro d e; cases e; decide) (hI.c2.move hop hod (by omega) (by decide)) rfl (by have := hI.fu; simp only [Bool.not_true, Bool.not_false, Bool.toNat_true, Bool.toNat_false] at this ⊢; omega) hI.o4 hI.o5 hI.o6
    · obtain ⟨hb, rfl⟩ := mem_ite2 hi
      simp only [Bool.and_eq_true, Bool.not_eq_true'] at hb
      obtain ⟨rfl, rfl⟩ := hb
      obtain ⟨o, hoi, hg, hop, hod⟩ := hops.o6
      exact step2 hoi hg (by rw [hop]; intro c e; cases e) hn hI _ p' true true s' z' (by rw [hod]; intro d e; cases e; decide) (hI.c2.build hop hod (by omega) (build_int y2 w) hsz (by decide)) rfl (by have := hI.fu; simp only [Bool.not_true, Bool.not_false, Bool.toNat_true, Bool.toNat_false] at this ⊢; omega) hI.o4 hI.o5 hI.o6
    · obtain ⟨hb, rfl⟩ := mem_ite2 hi
      simp only [Bool.and_eq_true, Bool.not_eq_true'] at hb
      obtain ⟨⟨⟨rfl, rfl⟩, rfl⟩, rfl⟩ := hb
      obtain ⟨o, hoi, hg, hop, hod⟩ := hops.o7
      exact step2 hoi hg (by rw [hop]; intro c e; cases e) hn hI _ true q' true true z' (by rw [hod]; intro d e; cases e; decide) (hI.c2.app hop hod (by omega) iB _ Try.underlying32 t1 t2 t3 t4 rfl rfl hn2 hsz (by decide) (by decide)) rfl (by have := hI.fu; simp only [Bool.not_true, Bool.not_false, Bool.toNat_true, Bool.toNat_false] at this ⊢; omega) (fun _ => rfl) (fun _ => rfl) hI.o6
    · obtain ⟨hb, rfl⟩ := mem_ite2 hi
      simp only [Bool.and_eq_true, Bool.not_eq_true'] at hb
      obtain ⟨rfl, rfl⟩ := hb
      obtain rfl := hI.o4 rfl
      obtain ⟨o, hoi, hg, hop, hod⟩ := hops.o8
      exact step1 hoi hg (by rw [hop]; intro c e; cases e) hn hI _ p q r true true (by rw [hod]; intro d e; cases e) (hI.c1.store hop hod infoTINTS (by decide)) rfl (by have := hI.fu; simp only [Bool.not_true, Bool.not_false, Bool.toNat_true, Bool.toNat_false] at this ⊢; omega) hI.o4 (fun _ => rfl) (fun _ => rfl)
    · obtain ⟨hb, rfl⟩ := mem_ite2 hi
      simp only [Bool.and_eq_true, Bool.not_eq_true'] at hb
      obtain ⟨rfl, rfl⟩ := hb
      obtain rfl := hI.o5 rfl
      obtain ⟨o, hoi, hg, hop, hod⟩ := hops.o9
      exact step2 hoi hg (by rw [hop]; intro c e; cases e) hn hI _ p' q' r' true true (by rw [hod]; intro d e; cases e) (hI.c2.store hop hod infoTINTS (by decide)) rfl (by have := hI.fu; simp only [Bool.not_true, Bool.not_false, Bool.toNat_true, Bool.toNat_false] at this ⊢; omega) hI.o4 hI.o5 (fun _ => rfl)
  · rintro fuel _ a w ⟨p, q, r, s, p', q', r', s', z, z', K, K', rfl, hI⟩ hr
    rw [hops.ready _ _ _ _ _ _ _ _ _ _ (pinv_cons hI)] at hr
    simp only [List.append_eq_nil_iff] at hr
    obtain ⟨⟨⟨⟨⟨⟨⟨⟨⟨g0, g1⟩, g2⟩, g3⟩, g4⟩, g5⟩, g6⟩, g7⟩, g8⟩, g9⟩ := hr
    cases p with | false => simp at g0 | true => ?_
    cases q with | false => simp at g1 | true => ?_
    cases r with | false => simp at g2 | true => ?_
    cases s with | false => simp at g3 | true => ?_
    cases p' with | false => simp at g4 | true => ?_
    cases q' with | false => simp at g5 | true => ?_
    cases r' with | false => simp at g6 | true => ?_
    cases s' with | false => simp at g7 | true => ?_
    cases z with | false => simp at g8 | true => ?_
    cases z' with | false => simp at g9 | true => ?_
    exact hQ a w _ _ (by simpa using hI.c1.hbox) (by simpa using hI.c2.hbox) (hI.c1.h4 rfl).1 (hI.c2.h4 rfl).1 (fun k e e' => hI.ap k ((hI.c1.h4 rfl).2 k e) ((hI.c2.h4 rfl).2 k e')) hI.ks hI.bl
  · rintro _ a w ⟨p, q, r, s, p', q', r', s', z, z', K, K', rfl, hI⟩
    rw [hops.ready _ _ _ _ _ _ _ _ _ _ (pinv_cons hI)]
    have hf := hI.fu
    cases p <;> cases q <;> cases r <;> cases s <;> simp only [Bool.not_true, Bool.not_false, Bool.toNat_true, Bool.toNat_false] at hf <;> first | omega | skip
    cases p' <;> cases q' <;> cases r' <;> cases s' <;> simp only [Bool.not_true, Bool.not_false, Bool.toNat_true, Bool.toNat_false] at hf <;> first | omega | skip
    cases z <;> cases z' <;> simp only [Bool.not_true, Bool.not_false, Bool.toNat_true, Bool.toNat_false] at hf <;> first | omega | rfl
  · have hW : (W.drew).heap = W.heap := rfl
    refine ⟨false, false, false, false, false, false, false, false, false, false, fun k => k = B1 ∨ v1.ownBlock = some k, fun k => k = B2 ∨ v2.ownBlock = some k, rfl, rfl, hs, ?_, ?_, ?_, KeepsOthers.drew W |>.from _, (Below.refl _ W).drew, fun e => (by cases e), fun e => (by cases e), fun e => (by cases e)⟩
    · exact ⟨e4, e6, fun e => (by cases e), fun e => (by cases e), fun e => (by cases e), fun _ => ⟨r1, fun k e => Or.inr e⟩, fun e => (by cases e), h1, Or.inl rfl, fun k hk => hk.elim (fun e => by subst e; exact ⟨hb1, h1.lt⟩) (fun e => r1.lt k e), fun e => (by cases e), fun e => (by cases e), fun e => (by cases e)⟩
    · exact ⟨e5, e7, fun e => (by cases e), fun e => (by cases e), fun e => (by cases e), fun _ => ⟨r2, fun k e => Or.inr e⟩, fun e => (by cases e), h2, Or.inl rfl, fun k hk => hk.elim (fun e => by subst e; exact ⟨hb2, h2.lt⟩) (fun e => r2.lt k e), fun e => (by cases e), fun e => (by cases e), fun e => (by cases e)⟩
    · rintro k (rfl | hk) (e | e)
      · exact hB12 e
      · exact h1.not_row (by decide) r2 e.symm
      · subst e; exact h2.not_row (by decide) r1 hk.symm
      · exact hap k hk e
end
end Go.Proofs.Ytnnadhfpkplncaa
