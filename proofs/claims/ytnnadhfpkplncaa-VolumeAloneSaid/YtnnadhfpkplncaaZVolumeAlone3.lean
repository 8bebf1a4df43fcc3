/- Texts of the proof of VolumeAlone, part 3 of 9. Conditions stand ahead of each. -/
import Derived.Test.YtnnadhfpkplncaaZVolumeAlone2
import Derived.Test.YtnnadhfpkplncaaZVolumeAlone1
import Derived.Sort.OwnSortedInts
import Derived.Deep.QuietTactic
import Derived.BigQuiet
import Derived.Deep.RegionHeld3
import Derived.Deep.Slices
import Derived.Deep.Fields
import Derived.ChangeSame
import Derived.SizedLaws

/- Two lists grow by one each in one statement: the region, whatever order is drawn. Condition: the statement's ten operations. -/
namespace Go.Proofs.Ytnnadhfpkplncaa
open Go.RowKit

/-- The ten operations. -/
structure PairOps (ops : Array Oper) : Prop where
  ready : ∀ p q r s p' q' r' s' z z' : Bool, ((!s || (p && r)) && (!r || q) && (!s' || (p' && r' && s)) && (!r' || q') && (!z || s') && (!z' || z)) = true →
    Region.ready .any ops #[p, q, r, s, p', q', r', s', z, z'] = (if p then [] else [0]) ++ (if q then [] else [1]) ++ (if q && !r then [2] else []) ++ (if p && r && !s then [3] else []) ++ (if p' then [] else [4]) ++ (if q' then [] else [5]) ++ (if q' && !r' then [6] else []) ++ (if p' && r' && s && !s' then [7] else []) ++ (if s' && !z then [8] else []) ++ (if z && !z' then [9] else [])
  o0 : ∃ o, ops[0]? = some o ∧ o.guard = none ∧ o.op = .load 32 (.tmp 4) ∧ o.dst = some 12
  o1 : ∃ o, ops[1]? = some o ∧ o.guard = none ∧ o.op = .move (.tmp 6) ∧ o.dst = some 13
  o2 : ∃ o, ops[2]? = some o ∧ o.guard = none ∧ o.op = .buildSlice 32 1 #[(0, .tmp 13)] ∧ o.dst = some 14
  o3 : ∃ o, ops[3]? = some o ∧ o.guard = none ∧ o.op = .call { callee := .builtin .append, args := #[.tmp 12, .tmp 14], argTypes := #[32, 32] } ∧ o.dst = some 15
  o4 : ∃ o, ops[4]? = some o ∧ o.guard = none ∧ o.op = .load 32 (.tmp 5) ∧ o.dst = some 16
  o5 : ∃ o, ops[5]? = some o ∧ o.guard = none ∧ o.op = .move (.tmp 7) ∧ o.dst = some 17
  o6 : ∃ o, ops[6]? = some o ∧ o.guard = none ∧ o.op = .buildSlice 32 1 #[(0, .tmp 17)] ∧ o.dst = some 18
  o7 : ∃ o, ops[7]? = some o ∧ o.guard = none ∧ o.op = .call { callee := .builtin .append, args := #[.tmp 16, .tmp 18], argTypes := #[32, 32] } ∧ o.dst = some 19
  o8 : ∃ o, ops[8]? = some o ∧ o.guard = none ∧ o.op = .store 32 (.tmp 4) (.tmp 15) ∧ o.dst = none
  o9 : ∃ o, ops[9]? = some o ∧ o.guard = none ∧ o.op = .store 32 (.tmp 5) (.tmp 19) ∧ o.dst = none
theorem infoTINT : (Try.prog.info? 3).map (fun i => (i.zero, i.size, i.bytes)) = some (some (.int .i64 0), 1, 8) := by kernel_rfl
theorem infoTINTS : (Try.prog.info? 32).map (·.size) = some 1 := by kernel_rfl
theorem build_int (y : Int) (w : World) : (Instr.buildSlice 32 1 #[(0, .int .i64 y)]).run Try.prog w = .ok (.slice (some ⟨w.heap.size, 0, none⟩) 1 1) (w.alloc (.cells #[.int .i64 y] 3)) := by
  kernel_rfl
/-- Both lists on their way. -/
structure PInv (n₀ B0 base : Nat) (W : World) (B1 B2 : Nat) (v1 v2 : Value) (n1 n2 : Nat) (xs1 xs2 : List Value) (y1 y2 : Int) (fuel : Nat) (p q r s p' q' r' s' z z' : Bool) (K K' : Nat → Prop) (a : Act) (w : World) : Prop where
  fu : fuel = (!p).toNat + (!q).toNat + (!r).toNat + (!s).toNat + (!p').toNat + (!q').toNat + (!r').toNat + (!s').toNat + (!z).toNat + (!z').toNat
  sz : 20 ≤ a.tmps.size
  c1 : Ch base 3 32 4 6 12 13 14 15 B1 v1 n1 xs1 (.int .i64 y1) p q r s z K a w
  c2 : Ch base 3 32 5 7 16 17 18 19 B2 v2 n2 xs2 (.int .i64 y2) p' q' r' s' z' K' a w
  ap : ∀ k, K k → ¬ K' k
  ks : KeepsFrom B0 W w
  bl : Below n₀ W w
  o4 : s' = true → s = true
  o5 : z = true → s' = true
  o6 : z' = true → z = true
def PI (n₀ B0 base : Nat) (W : World) (B1 B2 : Nat) (v1 v2 : Value) (n1 n2 : Nat) (xs1 xs2 : List Value) (y1 y2 : Int) (fuel : Nat) (listed : Array Bool) (a : Act) (w : World) : Prop :=
  ∃ p q r s p' q' r' s' z z' K K', listed = #[p, q, r, s, p', q', r', s', z, z'] ∧ PInv n₀ B0 base W B1 B2 v1 v2 n1 n2 xs1 xs2 y1 y2 fuel p q r s p' q' r' s' z z' K K' a w
section
variable {n₀ B0 base : Nat} {W : World} {B1 B2 : Nat} {v1 v2 : Value} {n1 n2 : Nat} {xs1 xs2 : List Value} {y1 y2 : Int}
theorem keeps_step {w w' : World} {row : Option Nat} {K : Nat → Prop} (hg : w.grownBy w' row) (hr : ∀ k, row = some k → K k ∧ ∃ cs t, w.heap[k]? = some (.cells cs t (0, 0))) : KeepsFrom B0 w w' :=
  (KeepsOthers.of_grownBy hg fun j o e ho => by
    obtain ⟨_, cs, t, h⟩ := hr j e
    rw [h] at ho
    cases ho
    rfl).from B0
theorem put_size {a : Act} {d : Option Nat} {u : Value} : (a.put d u).tmps.size = a.tmps.size := by
  cases d <;> simp [Act.put]
theorem step1 {l m : Nat} {ops : Array Oper} {Q : Exit → Act → World → Prop} {i : Nat} {o : Oper} (hi : ops[i]? = some o) (hg : o.guard = none) (hd : ∀ c, o.op ≠ .defer c) (hn : n₀ ≤ base)
    {fuel : Nat} {p q r s p' q' r' s' z z' : Bool} {K K' : Nat → Prop} {a : Act} {w : World} (h : PInv n₀ B0 base W B1 B2 v1 v2 n1 n2 xs1 xs2 y1 y2 (fuel + 1) p q r s p' q' r' s' z z' K K' a w)
    (listed : Array Bool) (P Q' R S Z : Bool) (hdst : ∀ d, o.dst = some d → 12 ≤ d ∧ d ≤ 15) (hs : StepsTo Try.prog o a w K fun K1 a' w' => Ch base 3 32 4 6 12 13 14 15 B1 v1 n1 xs1 (.int .i64 y1) P Q' R S Z K1 a' w')
    (hl : listed.setIfInBounds i true = #[P, Q', R, S, p', q', r', s', Z, z']) (hf : fuel = (!P).toNat + (!Q').toNat + (!R).toNat + (!S).toNat + (!p').toNat + (!q').toNat + (!r').toNat + (!s').toNat + (!Z).toNat + (!z').toNat)
    (o4 : s' = true → S = true) (o5 : Z = true → s' = true) (o6 : z' = true → Z = true) :
    wpOpIn (Fence.wide.inRound l) m Try.prog ops Q i (PI n₀ B0 base W B1 B2 v1 v2 n1 n2 xs1 xs2 y1 y2 fuel (listed.setIfInBounds i true)) a w := by
  obtain ⟨u, w', row, K1, hdo, hgr, hrow, hK1, hc⟩ := hs
  refine hdo.round hi hg hd ?_
  have hlt2 := h.c2.hKlt
  refine ⟨P, Q', R, S, p', q', r', s', Z, z', K1, K', hl, hf, by rw [put_size]; exact h.sz, hc, h.c2.keep (fun t ht => ?_) hgr (fun k e => h.ap k (hrow k e).1), fun k hk hk' => ?_, h.ks.trans (keeps_step hgr hrow), h.bl.grown hgr (Nat.le_trans hn (Nat.le_trans (h.c1.hKlt B1 h.c1.hKB).1 (Nat.le_of_lt (h.c1.hKlt B1 h.c1.hKB).2))) (fun k e => Nat.le_trans hn (h.c1.hKlt k (hrow k e).1).1), o4, o5, o6⟩
  · cases hod : o.dst with
    | none => rfl
    | some d =>
      have h12 := hdst d hod
      rcases ht with rfl | rfl | rfl | rfl | rfl | rfl <;> exact eval_ne (fun e => by subst e; exact absurd h12 (by decide))
  · rcases hK1 k hk with e | e
    · exact h.ap k e hk'
    · have := (hlt2 k hk').2; omega
theorem step2 {l m : Nat} {ops : Array Oper} {Q : Exit → Act → World → Prop} {i : Nat} {o : Oper} (hi : ops[i]? = some o) (hg : o.guard = none) (hd : ∀ c, o.op ≠ .defer c) (hn : n₀ ≤ base)
    {fuel : Nat} {p q r s p' q' r' s' z z' : Bool} {K K' : Nat → Prop} {a : Act} {w : World} (h : PInv n₀ B0 base W B1 B2 v1 v2 n1 n2 xs1 xs2 y1 y2 (fuel + 1) p q r s p' q' r' s' z z' K K' a w)
    (listed : Array Bool) (P Q' R S Z : Bool) (hdst : ∀ d, o.dst = some d → 16 ≤ d) (hs : StepsTo Try.prog o a w K' fun K1 a' w' => Ch base 3 32 5 7 16 17 18 19 B2 v2 n2 xs2 (.int .i64 y2) P Q' R S Z K1 a' w')
    (hl : listed.setIfInBounds i true = #[p, q, r, s, P, Q', R, S, z, Z]) (hf : fuel = (!p).toNat + (!q).toNat + (!r).toNat + (!s).toNat + (!P).toNat + (!Q').toNat + (!R).toNat + (!S).toNat + (!z).toNat + (!Z).toNat)
    (o4 : S = true → s = true) (o5 : z = true → S = true) (o6 : Z = true → z = true) :
    wpOpIn (Fence.wide.inRound l) m Try.prog ops Q i (PI n₀ B0 base W B1 B2 v1 v2 n1 n2 xs1 xs2 y1 y2 fuel (listed.setIfInBounds i true)) a w := by
  obtain ⟨u, w', row, K1, hdo, hgr, hrow, hK1, hc⟩ := hs
  refine hdo.round hi hg hd ?_
  have hlt1 := h.c1.hKlt
  refine ⟨p, q, r, s, P, Q', R, S, z, Z, K, K1, hl, hf, by rw [put_size]; exact h.sz, h.c1.keep (fun t ht => ?_) hgr (fun k e hk => h.ap k hk (hrow k e).1), hc, fun k hk hk' => ?_, h.ks.trans (keeps_step hgr hrow), h.bl.grown hgr (Nat.le_trans hn (Nat.le_trans (h.c1.hKlt B1 h.c1.hKB).1 (Nat.le_of_lt (h.c1.hKlt B1 h.c1.hKB).2))) (fun k e => Nat.le_trans hn (h.c2.hKlt k (hrow k e).1).1), o4, o5, o6⟩
  · cases hod : o.dst with
    | none => rfl
    | some d =>
      have h12 := hdst d hod
      rcases ht with rfl | rfl | rfl | rfl | rfl | rfl <;> exact eval_ne (fun e => by subst e; exact absurd h12 (by decide))
  · rcases hK1 k hk' with e | e
    · exact h.ap k hk e
    · have := (hlt1 k hk).2; omega
theorem aggTINTS (w : World) : (isAgg 32).run Try.prog w = .ok false w := by
  unfold isAgg
  rw [Sem.run_bind, run_underlying Try.underlying32 w]
  rfl
theorem mem_ite1 {b : Bool} {i k : Nat} (h : i ∈ if b = true then [] else [k]) : b = false ∧ i = k := by
  cases b with
  | true => simp at h
  | false => simpa using h
theorem mem_ite2 {b : Bool} {i k : Nat} (h : i ∈ if b = true then [k] else []) : b = true ∧ i = k := by
  cases b with
  | false => simp at h
  | true => simpa using h
theorem pinv_cons {fuel : Nat} {p q r s p' q' r' s' z z' : Bool} {K K' : Nat → Prop} {a : Act} {w : World} (hI : PInv n₀ B0 base W B1 B2 v1 v2 n1 n2 xs1 xs2 y1 y2 fuel p q r s p' q' r' s' z z' K K' a w) :
    ((!s || (p && r)) && (!r || q) && (!s' || (p' && r' && s)) && (!r' || q') && (!z || s') && (!z' || z)) = true := by
  have a1 := hI.c1.o1
  have a2 := hI.c1.o2
  have b1 := hI.c2.o1
  have b2 := hI.c2.o2
  have d1 := hI.o4
  have d2 := hI.o5
  have d3 := hI.o6
  clear hI
  cases s <;> cases r <;> cases s' <;> cases r' <;> cases z <;> cases z' <;> simp_all
theorem pair_region {l m id : Nat} {ops : Array Oper} (hops : PairOps ops) (hsize : ops.size = 10) {Q : Exit → Act → World → Prop} {a : Act} (hs : 20 ≤ a.tmps.size) (hn : n₀ ≤ base)
    (h1 : Boxed W B1 32 v1) (h2 : Boxed W B2 32 v2) (r1 : W.ownsRow base 3 1 v1 n1 xs1) (r2 : W.ownsRow base 3 1 v2 n2 xs2) (hap : ∀ k, v1.ownBlock = some k → v2.ownBlock ≠ some k) (hB12 : B1 ≠ B2) (hb1 : base ≤ B1) (hb2 : base ≤ B2)
    (e4 : a.eval (.tmp 4) = .pointer (some ⟨B1, 0, none⟩)) (e5 : a.eval (.tmp 5) = .pointer (some ⟨B2, 0, none⟩)) (e6 : a.eval (.tmp 6) = .int .i64 y1) (e7 : a.eval (.tmp 7) = .int .i64 y2) (hn1 : n1 ≤ 1048576) (hn2 : n2 ≤ 1048576)
    (hQ : ∀ a' w' u1 u2, Boxed w' B1 32 u1 → Boxed w' B2 32 u2 → w'.ownsRow base 3 1 u1 (n1 + 1) (xs1 ++ [.int .i64 y1]) → w'.ownsRow base 3 1 u2 (n2 + 1) (xs2 ++ [.int .i64 y2]) → (∀ k, u1.ownBlock = some k → u2.ownBlock ≠ some k) → KeepsFrom B0 W w' → Below n₀ W w' → Q .normal a' w') :
    (Code.region id ops true).wpIn (Fence.wide.inRound l) m Try.prog Q a W := by
  obtain ⟨iB, t1, t2, t3, t4⟩ := info_parts infoTINT
  refine wpIn_region_any (by kernel_rfl) ?_
  rw [hsize]
  refine any_inv (PI n₀ B0 base W B1 B2 v1 v2 n1 n2 xs1 xs2 y1 y2) ?_ ?_ ?_ 10 _ _ _ ?_
  · rintro fuel _ a w i ⟨p, q, r, s, p', q', r', s', z, z', K, K', rfl, hI⟩ hi
    rw [hops.ready _ _ _ _ _ _ _ _ _ _ (pinv_cons hI)] at hi
    have hsza := hI.sz
    have hsz : base ≤ w.heap.size := Nat.le_trans (hI.c1.hKlt B1 hI.c1.hKB).1 (Nat.le_of_lt (hI.c1.hKlt B1 hI.c1.hKB).2)
    simp only [List.mem_append] at hi
    rcases hi with ((((((((hi | hi) | hi) | hi) | hi) | hi) | hi) | hi) | hi) | hi
    · obtain ⟨rfl, rfl⟩ := mem_ite1 hi
      obtain ⟨o, hoi, hg, hop, hod⟩ := hops.o0
      exact step1 hoi hg (by rw [hop]; intro c e; cases e) hn hI _ true q r s z (by rw [hod]; intro d e; cases e; decide) (hI.c1.load hop hod (by omega) aggTINTS (by decide)) rfl (by have := hI.fu; simp only [Bool.not_true, Bool.not_false, Bool.toNat_true, Bool.toNat_false] at this ⊢; omega) hI.o4 hI.o5 hI.o6
    · obtain ⟨rfl, rfl⟩ := mem_ite1 hi
      obtain ⟨o, hoi, hg, hop, hod⟩ := hops.o1
      exact step1 hoi hg (by rw [hop]; intro c e; cases e) hn hI _ p true r s z (by rw [hod]; intro d e; cases e; decide) (hI.c1.move hop hod (by omega) (by decide)) rfl (by have := hI.fu; simp only [Bool.not_true, Bool.not_false, Bool.toNat_true, Bool.toNat_false] at this ⊢; omega) hI.o4 hI.o5 hI.o6
    · obtain ⟨hb, rfl⟩ := mem_ite2 hi
      simp only [Bool.and_eq_true, Bool.not_eq_true'] at hb
      obtain ⟨rfl, rfl⟩ := hb
      obtain ⟨o, hoi, hg, hop, hod⟩ := hops.o2
      exact step1 hoi hg (by rw [hop]; intro c e; cases e) hn hI _ p true true s z (by rw [hod]; intro d e; cases e; decide) (hI.c1.build hop hod (by omega) (build_int y1 w) hsz (by decide)) rfl (by have := hI.fu; simp only [Bool.not_true, Bool.not_false, Bool.toNat_true, Bool.toNat_false] at this ⊢; omega) hI.o4 hI.o5 hI.o6
    · obtain ⟨hb, rfl⟩ := mem_ite2 hi
      simp only [Bool.and_eq_true, Bool.not_eq_true'] at hb
      obtain ⟨⟨rfl, rfl⟩, rfl⟩ := hb
      obtain ⟨o, hoi, hg, hop, hod⟩ := hops.o3
      exact step1 hoi hg (by rw [hop]; intro c e; cases e) hn hI _ true q true true z (by rw [hod]; intro d e; cases e; decide) (hI.c1.app hop hod (by omega) iB _ Try.underlying32 t1 t2 t3 t4 rfl rfl hn1 hsz (by decide) (by decide)) rfl (by have := hI.fu; simp only [Bool.not_true, Bool.not_false, Bool.toNat_true, Bool.toNat_false] at this ⊢; omega) (fun _ => rfl) hI.o5 hI.o6
    · obtain ⟨rfl, rfl⟩ := mem_ite1 hi
      obtain ⟨o, hoi, hg, hop, hod⟩ := hops.o4
      exact step2 hoi hg (by rw [hop]; intro c e; cases e) hn hI _ true q' r' s' z' (by rw [hod]; intro d e; cases e; decide) (hI.c2.load hop hod (by omega) aggTINTS (by decide)) rfl (by have := hI.fu; simp only [Bool.not_true, Bool.not_false, Bool.toNat_true, Bool.toNat_false] at this ⊢; omega) hI.o4 hI.o5 hI.o6
    · obtain ⟨rfl, rfl⟩ := mem_ite1 hi
      obtain ⟨o, hoi, hg, hop, hod⟩ := hops.o5
      exact step2 hoi hg (by rw [hop]; intro c e; cases e) hn hI _ p' true r' s' z' (by rw [hod]; intro d e; cases e; decide) (hI.c2.move hop hod (by omega) (by decide)) rfl (by have := hI.fu; simp only [Bool.not_true, Bool.not_false, Bool.toNat_true, Bool.toNat_false] at this ⊢; omega) hI.o4 hI.o5 hI.o6
    · obtain ⟨hb, rfl⟩ := mem_ite2 hi
      simp only [Bool.and_eq_true, Bool.not_eq_true'] at hb
      obtain ⟨rfl, rfl⟩ := hb
      obtain ⟨o, hoi, hg, hop, hod⟩ := hops.o6
      exact step2 hoi hg (by rw [hop]; intro c e; cases e) hn hI _ p' true true s' z' (by rw [hod]; intro d e; cases e; decide) (hI.c2.build hop hod (by omega) (build_int y2 w) hsz (by decide)) rfl (by have := hI.fu; simp only [Bool.not_true, Bool.not_false, Bool.toNat_true, Bool.toNat_false] at this ⊢; omega) hI.o4 hI.o5 hI.o6
    · obtain ⟨hb, rfl⟩ := mem_ite2 hi
      simp only [Bool.and_eq_true, Bool.not_eq_true'] at hb
      obtain ⟨⟨⟨rfl, rfl⟩, rfl⟩, rfl⟩ := hb
      obtain ⟨o, hoi, hg, hop, hod⟩ := hops.o7
      exact step2 hoi hg (by rw [hop]; intro c e; cases e) hn hI _ true q' true true z' (by rw [hod]; intro d e; cases e; decide) (hI.c2.app hop hod (by omega) iB _ Try.underlying32 t1 t2 t3 t4 rfl rfl hn2 hsz (by decide) (by decide)) rfl (by have := hI.fu; simp only [Bool.not_true, Bool.not_false, Bool.toNat_true, Bool.toNat_false] at this ⊢; omega) (fun _ => rfl) (fun _ => rfl) hI.o6
    · obtain ⟨hb, rfl⟩ := mem_ite2 hi
      simp only [Bool.and_eq_true, Bool.not_eq_true'] at hb
      obtain ⟨rfl, rfl⟩ := hb
      obtain rfl := hI.o4 rfl
      obtain ⟨o, hoi, hg, hop, hod⟩ := hops.o8
      exact step1 hoi hg (by rw [hop]; intro c e; cases e) hn hI _ p q r true true (by rw [hod]; intro d e; cases e) (hI.c1.store hop hod infoTINTS (by decide)) rfl (by have := hI.fu; simp only [Bool.not_true, Bool.not_false, Bool.toNat_true, Bool.toNat_false] at this ⊢; omega) hI.o4 (fun _ => rfl) (fun _ => rfl)
    · obtain ⟨hb, rfl⟩ := mem_ite2 hi
      simp only [Bool.and_eq_true, Bool.not_eq_true'] at hb
      obtain ⟨rfl, rfl⟩ := hb
      obtain rfl := hI.o5 rfl
      obtain ⟨o, hoi, hg, hop, hod⟩ := hops.o9
      exact step2 hoi hg (by rw [hop]; intro c e; cases e) hn hI _ p' q' r' true true (by rw [hod]; intro d e; cases e) (hI.c2.store hop hod infoTINTS (by decide)) rfl (by have := hI.fu; simp only [Bool.not_true, Bool.not_false, Bool.toNat_true, Bool.toNat_false] at this ⊢; omega) hI.o4 hI.o5 (fun _ => rfl)
  · rintro fuel _ a w ⟨p, q, r, s, p', q', r', s', z, z', K, K', rfl, hI⟩ hr
    rw [hops.ready _ _ _ _ _ _ _ _ _ _ (pinv_cons hI)] at hr
    simp only [List.append_eq_nil_iff] at hr
    obtain ⟨⟨⟨⟨⟨⟨⟨⟨⟨g0, g1⟩, g2⟩, g3⟩, g4⟩, g5⟩, g6⟩, g7⟩, g8⟩, g9⟩ := hr
    cases p with | false => simp at g0 | true => ?_
    cases q with | false => simp at g1 | true => ?_
    cases r with | false => simp at g2 | true => ?_
    cases s with | false => simp at g3 | true => ?_
    cases p' with | false => simp at g4 | true => ?_
    cases q' with | false => simp at g5 | true => ?_
    cases r' with | false => simp at g6 | true => ?_
    cases s' with | false => simp at g7 | true => ?_
    cases z with | false => simp at g8 | true => ?_
    cases z' with | false => simp at g9 | true => ?_
    exact hQ a w _ _ (by simpa using hI.c1.hbox) (by simpa using hI.c2.hbox) (hI.c1.h4 rfl).1 (hI.c2.h4 rfl).1 (fun k e e' => hI.ap k ((hI.c1.h4 rfl).2 k e) ((hI.c2.h4 rfl).2 k e')) hI.ks hI.bl
  · rintro _ a w ⟨p, q, r, s, p', q', r', s', z, z', K, K', rfl, hI⟩
    rw [hops.ready _ _ _ _ _ _ _ _ _ _ (pinv_cons hI)]
    have hf := hI.fu
    cases p <;> cases q <;> cases r <;> cases s <;> simp only [Bool.not_true, Bool.not_false, Bool.toNat_true, Bool.toNat_false] at hf <;> first | omega | skip
    cases p' <;> cases q' <;> cases r' <;> cases s' <;> simp only [Bool.not_true, Bool.not_false, Bool.toNat_true, Bool.toNat_false] at hf <;> first | omega | skip
    cases z <;> cases z' <;> simp only [Bool.not_true, Bool.not_false, Bool.toNat_true, Bool.toNat_false] at hf <;> first | omega | rfl
  · have hW : (W.drew).heap = W.heap := rfl
    refine ⟨false, false, false, false, false, false, false, false, false, false, fun k => k = B1 ∨ v1.ownBlock = some k, fun k => k = B2 ∨ v2.ownBlock = some k, rfl, rfl, hs, ?_, ?_, ?_, KeepsOthers.drew W |>.from _, (Below.refl _ W).drew, fun e => (by cases e), fun e => (by cases e), fun e => (by cases e)⟩
    · exact ⟨e4, e6, fun e => (by cases e), fun e => (by cases e), fun e => (by cases e), fun _ => ⟨r1, fun k e => Or.inr e⟩, fun e => (by cases e), h1, Or.inl rfl, fun k hk => hk.elim (fun e => by subst e; exact ⟨hb1, h1.lt⟩) (fun e => r1.lt k e), fun e => (by cases e), fun e => (by cases e), fun e => (by cases e)⟩
    · exact ⟨e5, e7, fun e => (by cases e), fun e => (by cases e), fun e => (by cases e), fun _ => ⟨r2, fun k e => Or.inr e⟩, fun e => (by cases e), h2, Or.inl rfl, fun k hk => hk.elim (fun e => by subst e; exact ⟨hb2, h2.lt⟩) (fun e => r2.lt k e), fun e => (by cases e), fun e => (by cases e), fun e => (by cases e)⟩
    · rintro k (rfl | hk) (e | e)
      · exact hB12 e
      · exact h1.not_row (by decide) r2 e.symm
      · subst e; exact h2.not_row (by decide) r1 hk.symm
      · exact hap k hk e
end
end Go.Proofs.Ytnnadhfpkplncaa


/- All places that have a number, and these. Condition: the tree reads. -/
namespace Go.Proofs.Ytnnadhfpkplncaa
open Go.RowKit Go.Shelf
attribute [local go_sem] Oper.semAt_some

theorem row_kept {W W' : World} {row : Option Nat} {base m : Nat} {E : TypeId} {u : Value} {ys : List Value} (h : W.ownsRow base E 1 u m ys) (hg : W.grownBy W' row) (hr : ∀ r, row = some r → ∃ o : Obj, W.heap[r]? = some o ∧ o.isCells = false) : W'.ownsRow base E 1 u m ys := by
  refine h.kept hg ?_
  cases hub : u.ownBlock with
  | none => exact Or.inl rfl
  | some k =>
    refine Or.inr fun e => ?_
    obtain ⟨cs, hcs⟩ := own_plain h hub
    obtain ⟨o, ho, hc⟩ := hr k e.symm
    rw [hcs] at ho
    cases ho
    cases hc
theorem box_kept {W W' : World} {row : Option Nat} {B : Nat} {T : TypeId} {u : Value} (h : Boxed W B T u) (hg : W.grownBy W' row) (hr : ∀ r, row = some r → ∃ o : Obj, W.heap[r]? = some o ∧ o.isCells = false) : Boxed W' B T u :=
  h.kept hg fun e => by
    obtain ⟨o, ho, hc⟩ := hr B e.symm
    rw [show W.heap[B]? = _ from h] at ho
    cases ho
    cases hc
/-- Both lists between two rounds. -/
def Both (n₀ B1 B2 : Nat) (f : Nat → Int) (pre : List Nat) (W : World) : Prop :=
  ∃ u1 u2, Boxed W B1 32 u1 ∧ Boxed W B2 32 u2 ∧ W.ownsRow n₀ 3 1 u1 pre.length (pre.map fun x : Nat => .int .i64 (x : Int)) ∧ W.ownsRow n₀ 3 1 u2 pre.length (pre.map fun x => .int .i64 (f x)) ∧ ∀ k, u1.ownBlock = some k → u2.ownBlock ≠ some k
theorem both_own (n₀ B1 B2 : Nat) (f : Nat → Int) : Own (Both n₀ B1 B2 f) := fun s A B row hs hg hr => by
  obtain ⟨u1, u2, h1, h2, h3, h4, h5⟩ := hs
  exact ⟨u1, u2, box_kept h1 hg hr, box_kept h2 hg hr, row_kept h3 hg hr, row_kept h4 hg hr, h5⟩
/-- What All hands back. -/
def AllPost (f : Nat → Int) (w : World) (e : Ending) (w' : World) : Prop :=
  ∃ u1 u2, e = .returned (.tuple #[u1, u2]) ∧ w'.ownsRow w.heap.size 3 1 u1 (itemsL f 2 0).length ((itemsL f 2 0).map fun x : Nat => .int .i64 (x : Int)) ∧ w'.ownsRow w.heap.size 3 1 u2 (itemsL f 2 0).length ((itemsL f 2 0).map fun x => .int .i64 (f x)) ∧ Below w.heap.size w w'
set_option maxRecDepth 100000 in
set_option maxHeartbeats 1600000 in
theorem all_any (f : Nat → Int) (S : Nat → Nat → Option Nat) (A : Option Addr) (w : World) (h : RdR f S w A) :
    Calls Try.prog 14 #[.pointer A] w (AllPost f w) := by
  have HS := Lib.hid (each_all f S A w h)
  have hle := items_le f
  clear h
  refine (callsIn_wide (n := 3)).1 ?_
  refine callsIn_of_wp_marks Try.func14 rfl trivial ?_ rfl
  simp only [Try.ntmps14, List.size_toArray, List.length_cons, List.length_nil, Nat.reduceAdd, Nat.reduceSub, Array.replicate_succ, Array.replicate_zero, List.push_toArray, List.append_toArray, List.nil_append, List.cons_append]
  gi_wp2
  have hB0 : Below w.heap.size w ((w.alloc (.cells #[.slice none 0 0] 32)).alloc (.cells #[.slice none 0 0] 32)) := ((Below.refl _ w).alloc (Nat.le_refl _) _).alloc (by simp) _
  have hb1 : Boxed ((w.alloc (.cells #[.slice none 0 0] 32)).alloc (.cells #[.slice none 0 0] 32)) w.heap.size 32 (.slice none 0 0) := (Boxed.new w _ _).alloc _
  have hb2 : Boxed ((w.alloc (.cells #[.slice none 0 0] 32)).alloc (.cells #[.slice none 0 0] 32)) (w.heap.size + 1) 32 (.slice none 0 0) := by
    have := Boxed.new (w.alloc (.cells #[.slice none 0 0] 32)) 32 (.slice none 0 0)
    simpa using this
  refine range_all 40 #[.pointer A] rfl (enters_of Try.func40 (by kernel_rfl) rfl) HS.out hB0 (fun _ => rfl)
    (fun pre W => Both w.heap.size w.heap.size (w.heap.size + 1) f pre W ∧ Below w.heap.size w W)
    (OwnFrom.and (Own.from (both_own _ _ _ _) _) (ownFrom_below (Nat.le_refl _) (by simp; omega)))
    ⟨⟨.slice none 0 0, .slice none 0 0, hb1, hb2, World.ownsRow_nil _ _ _ _, World.ownsRow_nil _ _ _ _, fun k e => (by cases e)⟩, hB0⟩
    (fun x => { tmps := #[.pointer A, undef, .slice none 0 0, .slice none 0 0, .pointer (some ⟨w.heap.size, 0, none⟩), .pointer (some ⟨w.heap.size + 1, 0, none⟩), .int .i64 x, .int .i64 (f x), .pointer A, .func (.func 40) #[.pointer A] #[], .int .i64 x, .int .i64 (f x), undef, undef, undef, undef, undef, undef, undef, undef, undef, undef], defers := [] }) ?assign ?body ?done
  case assign =>
    intro l x W K hK
    unfold yArgs
    gi_wp2
    simpa using hK
  case body =>
    rintro l pre x W ⟨⟨u1, u2, h1, h2, h3, h4, h5⟩, hB⟩ hlen _
    have H1 := Lib.hid h1
    have H2 := Lib.hid h2
    have H3 := Lib.hid h3
    have H4 := Lib.hid h4
    have H5 := Lib.hid h5
    have HB := Lib.hid hB
    clear h1 h2 h3 h4 h5 hB
    gi_wp2
    refine pair_region (n₀ := w.heap.size) (B0 := ((w.alloc (.cells #[.slice none 0 0] 32)).alloc (.cells #[.slice none 0 0] 32)).heap.size) (base := w.heap.size) (y1 := (x : Int)) (y2 := f x)
      ⟨by decide +kernel, ⟨_, rfl, rfl, rfl, rfl⟩, ⟨_, rfl, rfl, rfl, rfl⟩, ⟨_, rfl, rfl, rfl, rfl⟩, ⟨_, rfl, rfl, rfl, rfl⟩, ⟨_, rfl, rfl, rfl, rfl⟩, ⟨_, rfl, rfl, rfl, rfl⟩, ⟨_, rfl, rfl, rfl, rfl⟩, ⟨_, rfl, rfl, rfl, rfl⟩, ⟨_, rfl, rfl, rfl, rfl⟩, ⟨_, rfl, rfl, rfl, rfl⟩⟩
      rfl (by simp) (Nat.le_refl _) H1.out H2.out H3.out H4.out H5.out (by omega) (Nat.le_refl _) (by omega) rfl rfl rfl rfl (by omega) (by omega) ?_
    intro a' w' v1 v2 k1 k2 k3 k4 k5 k6 k7
    refine ⟨k6, k7, ⟨v1, v2, k1, k2, ?_, ?_, k5⟩, HB.out.trans k7⟩
    · rw [List.length_append, List.map_append]; exact k3
    · rw [List.length_append, List.map_append]; exact k4
  case done =>
    rintro D W hD ⟨⟨u1, u2, h1, h2, h3, h4, h5⟩, hB⟩ hK
    have c1 := h1.cell
    have c2 := h2.cell
    have HK := Lib.hid hK
    have H3 := Lib.hid h3
    have H4 := Lib.hid h4
    have HB := Lib.hid hB
    clear hK h3 h4 hB h1 h2 h5
    gi_wp2
    gi_region
    gi_wp2
    have HK' : W.drew.heap[D]? = some (.deferred (some [])) := HK.out
    refine ⟨by simp, .inl ⟨_, _, rfl, run_takeDeferred HK', ?_⟩⟩
    refine ⟨.tuple #[u1, u2], by simp [results, Try.f14, go_sem], u1, u2, rfl, ownsRow_putObj (W := W.drew) H3.out _ HK' rfl, ownsRow_putObj (W := W.drew) H4.out _ HK' rfl, HB.out.drew.trans (belowK_b (w := w) (Nat.le_refl _) W.drew D _ _ (by simp at hD; omega) HK' rfl rfl)⟩
end Go.Proofs.Ytnnadhfpkplncaa


/- slices.Sort of a list of one's own; which list comes of it. No condition of its own. -/
namespace Go.Proofs.Ytnnadhfpkplncaa
open Go.RowKit Go.Shelf Go.Sort

def ints (L : List Nat) : List Int := L.map fun x : Nat => (x : Int)
theorem ints_map (L : List Nat) : (ints L).map (Value.int .i64) = L.map fun x : Nat => .int .i64 (x : Int) := by
  unfold ints
  rw [List.map_map]
  rfl
def SortPost (base : Nat) (v : Value) (n : Nat) (L : List Int) (w : World) (e : Ending) (w' : World) : Prop :=
  e = .returned (.tuple #[]) ∧ w'.ownsRow base 3 1 v n ((L.mergeSort fun x y => decide (x ≤ y)).map (Value.int .i64)) ∧ w.grownBy w' v.ownBlock
theorem sort_any (base : Nat) (v : Value) (L : List Int) (w : World) (h : w.ownsRow base 3 1 v L.length (L.map (Value.int .i64))) (hl : L.length ≤ 1048576) :
    Calls Try.prog 41 #[v] w (SortPost base v L.length L w) := by
  rcases h.2 with ⟨rfl, h2⟩ | ⟨g, c, cur, rfl, hb, hg, hc, hm, hs, ht⟩
  · have hL : L = [] := by simpa using h2
    subst hL
    refine (Try.slices_Sort_int_none none 0 w).mono ?_
    rintro e w' ⟨rfl, rfl⟩
    exact ⟨rfl, by simpa using World.ownsRow_nil w' base 3 1, World.grownBy.refl _ _⟩
  · rw [Nat.mul_one] at ht
    refine (Try.slices_Sort_int g 0 c L w (holds_of_blockI hg ht) (block_lt hg) (by omega)).mono ?_
    rintro e w' ⟨rfl, n, os, rfl⟩
    exact ⟨rfl, ownsRow_sortedI (by rw [List.length_mergeSort]) hb hg hc hm hs, grownBy_sortedI _⟩
/-- The places at which two trees differ, in order. -/
def diffL (f g : Nat → Int) : List Nat := (List.range 4096).filter fun a => decide (f a ≠ g a)
theorem perm_sort {L M : List Nat} (hp : L.Perm M) (hs : M.Pairwise (· < ·)) : (ints L).mergeSort (fun x y => decide (x ≤ y)) = ints M := by
  have h1 : ((ints L).mergeSort fun x y => decide (x ≤ y)).Perm (ints M) := (List.mergeSort_perm _ _).trans (hp.map _)
  have h2 : ((ints L).mergeSort fun x y => decide (x ≤ y)).Pairwise (fun x y => x ≤ y) := by
    have := List.pairwise_mergeSort (le := fun x y : Int => decide (x ≤ y)) (fun a b c h1 h2 => by simp at *; omega) (fun a b => by simp; omega) (ints L)
    exact this.imp fun h => by simpa using h
  have h3 : (ints M).Pairwise (fun x y => x ≤ y) := by
    unfold ints
    rw [List.pairwise_map]
    exact hs.imp fun h => by omega
  exact h1.eq_of_pairwise (fun a b _ _ h1 h2 => Int.le_antisymm h1 h2) h2 h3
theorem range_sorted (n : Nat) : (List.range n).Pairwise (· < ·) := List.pairwise_lt_range
theorem diff_list (f g : Nat → Int) : (ints ((itemsL f 2 0).filter (fun x : Nat => decide (getF g (x : Int) ≠ f x)) ++ (itemsL g 2 0).filter (fun x : Nat => decide (getF f (x : Int) = 0)))).mergeSort (fun x y => decide (x ≤ y)) = ints (diffL f g) := by
  have hget : ∀ (h : Nat → Int) (x : Nat), x < 4096 → getF h (x : Int) = h x := fun h x hx => by unfold getF; rw [if_pos ⟨by omega, by omega⟩]; rfl
  refine perm_sort ?_ ((range_sorted 4096).filter _)
  have hnd : ∀ p : Nat → Bool, ((List.range 4096).filter p).Nodup := fun p => List.Pairwise.imp (fun h => Nat.ne_of_lt h) ((range_sorted 4096).filter p)
  rw [items_eq, items_eq]
  refine (List.perm_ext_iff_of_nodup ?_ (hnd _)).2 ?_
  · refine List.nodup_append.2 ⟨(hnd _).filter _, (hnd _).filter _, fun a ha b hb e => ?_⟩
    subst e
    simp only [List.mem_filter, List.mem_range, decide_eq_true_eq] at ha hb
    rw [hget f a ha.1.1] at hb
    exact ha.1.2 hb.2
  · intro x
    simp only [List.mem_append, List.mem_filter, List.mem_range, decide_eq_true_eq]
    constructor
    · rintro (⟨⟨h1, h2⟩, h3⟩ | ⟨⟨h1, h2⟩, h3⟩)
      · rw [hget g x h1] at h3; exact ⟨h1, fun e => h3 e.symm⟩
      · rw [hget f x h1] at h3; exact ⟨h1, fun e => h2 (by rw [← e]; exact h3)⟩
    · rintro ⟨h1, h2⟩
      rw [hget g x h1, hget f x h1]
      by_cases h : f x = 0
      · exact Or.inr ⟨⟨h1, fun e => h2 (by rw [h, e])⟩, h⟩
      · exact Or.inl ⟨⟨h1, h⟩, fun e => h2 e.symm⟩
end Go.Proofs.Ytnnadhfpkplncaa


/- The places at which two trees differ, up to their order. Condition: the trees read. -/
namespace Go.Proofs.Ytnnadhfpkplncaa
open Go.RowKit Go.Shelf
attribute [local go_sem] Oper.semAt_some

/-- Does a place of the first tree differ in the second one? -/
def dif (f g : Nat → Int) (x : Nat) : Bool := decide (getF g (x : Int) ≠ f x)
/-- The list so far, and both trees' boxes. -/
def DIn (w : World) (A B : Option Addr) (L : List Nat) (W : World) : Prop :=
  ∃ v, Boxed W (w.heap.size + 1 + 1) 32 v ∧ W.ownsRow w.heap.size 3 1 v L.length (L.map fun x : Nat => .int .i64 (x : Int)) ∧ Boxed W w.heap.size 23 (.pointer A) ∧ Boxed W (w.heap.size + 1) 23 (.pointer B) ∧ Below w.heap.size w W
theorem DIn.own {w : World} {A B : Option Addr} {α : Type} {L : α → List Nat} {M : Nat} (hM : w.heap.size ≤ M) : OwnFrom M (fun s W => DIn w A B (L s) W) := fun s X Y row hs hg hr => by
  obtain ⟨v, h1, h2, h3, h4, h5⟩ := hs
  have hr' : ∀ r, row = some r → ∃ o : Obj, X.heap[r]? = some o ∧ o.isCells = false := fun r e => (hr r e).2
  exact ⟨v, box_kept h1 hg hr', row_kept h2 hg hr', box_kept h3 hg hr', box_kept h4 hg hr', h5.grown hg h5.size fun k e => Nat.le_trans hM (hr k e).1⟩
/-- Has a place of the second tree no number in the first one? -/
def gone (f : Nat → Int) (x : Nat) : Bool := decide (getF f (x : Int) = 0)
theorem keeps_at {β : Type} {D M : Nat} {o : Obj} (h : D < M) : OwnFrom M (fun (_ : β) W => W.heap[D]? = some o) := fun _ X Y row hs hg hr =>
  (hg.block D (block_lt hs) (fun e => by have := (hr D e.symm).1; omega)).trans hs
theorem box_below {W W' : World} {B : Nat} {T : TypeId} {u : Value} (h : Boxed W B T u) (k : Below W.heap.size W W') : Boxed W' B T u := (k.block B h.lt).trans h
theorem row_below {W W' : World} {base m : Nat} {E : TypeId} {u : Value} {ys : List Value} (h : W.ownsRow base E 1 u m ys) (k : Below W.heap.size W W') : W'.ownsRow base E 1 u m ys := by
  refine ⟨h.1, ?_⟩
  rcases h.2 with h2 | ⟨g, c, cur, e, hb, hg, r⟩
  · exact Or.inl h2
  · exact Or.inr ⟨g, c, cur, e, hb, (k.block g (block_lt hg)).trans hg, r⟩
theorem keeps_below {W W' : World} (k : Below W.heap.size W W') : KeepsOthers W W' := ⟨k.size, fun i _ ho _ => (k.block i (block_lt ho)).trans ho⟩
theorem DIn.below {w W W' : World} {A B : Option Addr} {L : List Nat} (h : DIn w A B L W) (k : Below W.heap.size W W') : DIn w A B L W' := by
  obtain ⟨v, h1, h2, h3, h4, h5⟩ := h
  exact ⟨v, box_below h1 k, row_below h2 k, box_below h3 k, box_below h4 k, h5.trans (k.mono h5.size)⟩
/-- What Diff hands back. -/
def DiffPost (f g : Nat → Int) (w : World) (e : Ending) (w' : World) : Prop :=
  ∃ u, e = .returned u ∧ w'.ownsRow w.heap.size 3 1 u (diffL f g).length ((diffL f g).map fun x : Nat => .int .i64 (x : Int)) ∧ Below w.heap.size w w'
set_option maxRecDepth 100000 in
set_option maxHeartbeats 1600000 in
theorem diff_any (f g : Nat → Int) (S T : Nat → Nat → Option Nat) (A B : Option Addr) (w : World) (h : RdR f S w A) (h2 : RdR g T w B) :
    Calls Try.prog 21 #[.pointer A, .pointer B] w (DiffPost f g w) := by
  have HS := Lib.hid (each_all f S A w h)
  have HT := Lib.hid (each_all g T B w h2)
  have HR := Lib.hid h
  have HR2 := Lib.hid h2
  have hle := items_le f
  have hle2 := items_le g
  obtain ⟨i0, hi, hz0, hz1, hz2⟩ := info_parts infoTINT
  clear h h2
  refine (callsIn_wide (n := 3)).1 ?_
  refine callsIn_of_wp_marks Try.func21 rfl trivial ?_ rfl
  simp only [Try.ntmps21, List.size_toArray, List.length_cons, List.length_nil, Nat.reduceAdd, Nat.reduceSub, Array.replicate_succ, Array.replicate_zero, List.push_toArray, List.append_toArray, List.nil_append, List.cons_append]
  gi_wp2
  have hB0 : Below w.heap.size w (((w.alloc (.cells #[.pointer A] 23)).alloc (.cells #[.pointer B] 23)).alloc (.cells #[.slice none 0 0] 32)) := (((Below.refl _ w).alloc (Nat.le_refl _) _).alloc (by simp) _).alloc (by simp; omega) _
  have hD0 : DIn w A B [] (((w.alloc (.cells #[.pointer A] 23)).alloc (.cells #[.pointer B] 23)).alloc (.cells #[.slice none 0 0] 32)) := by
    have b1 := Boxed.new (w.alloc (.cells #[.pointer A] 23)) 23 (.pointer B)
    have b2 := Boxed.new ((w.alloc (.cells #[.pointer A] 23)).alloc (.cells #[.pointer B] 23)) 32 (.slice none 0 0)
    rw [World.size_alloc] at b1
    rw [World.size_alloc, World.size_alloc] at b2
    exact ⟨.slice none 0 0, b2, World.ownsRow_nil _ _ _ _, ((Boxed.new w _ _).alloc _).alloc _, b1.alloc _, hB0⟩
  refine range_all 40 #[.pointer A] rfl (enters_of Try.func40 (by kernel_rfl) rfl) HS.out hB0 (fun _ => rfl)
    (fun pre W => DIn w A B (pre.filter (dif f g)) W) (DIn.own (by simp; omega)) hD0
    (fun x => { tmps := #[.pointer A, .pointer B, .pointer (some ⟨w.heap.size, 0, none⟩), .pointer (some ⟨w.heap.size + 1, 0, none⟩), .slice none 0 0, .pointer (some ⟨w.heap.size + 1 + 1, 0, none⟩), .int .i64 x, .int .i64 (f x), undef, .pointer A, .func (.func 40) #[.pointer A] #[], .int .i64 x, .int .i64 (f x), undef, undef, undef, undef, undef, undef, undef, undef, undef, undef, undef, undef, undef, undef, undef, undef, undef, undef, undef, undef, undef, undef, undef, undef], defers := [] }) ?assign ?body ?done
  case assign =>
    intro l x W K hK
    unfold yArgs
    gi_wp2
    simpa using hK
  case body =>
    rintro l pre x W hD hlen _
    have hD2 := hD
    obtain ⟨v, h1, h3, h4, h5, h6⟩ := hD
    have hwW : w.heap.size ≤ W.heap.size := h6.size
    obtain ⟨q, hq⟩ : ∃ q, q = getF g x := ⟨_, rfl⟩
    obtain ⟨p, hp⟩ : ∃ p, p = f x := ⟨_, rfl⟩
    have HG := Lib.hid (CallsIn.inRound l ((callsIn_wide (n := 3 - 1 - 1 - 1)).2 (get_any g T B x W (HR2.out.below h6))))
    have c5 := h5.cell
    rw [← hq] at HG
    have HD := Lib.hid hD2
    have HQ := Lib.hid hq
    have HP := Lib.hid hp
    rw [← hp]
    have hpl := List.length_filter_le (dif f g) pre
    have HF := Lib.hid (show (pre ++ [x]).filter (dif f g) = pre.filter (dif f g) ++ if q = p then [] else [x] by
      rw [List.filter_append, hq, hp]
      by_cases h : getF g x = f x <;> simp [dif, h])
    obtain ⟨L, hL⟩ : ∃ L, L = pre.filter (dif f g) := ⟨_, rfl⟩
    rw [← hL] at hpl HF HD
    have HL := Lib.hid hL
    clear h1 h3 h4 h5 h6 hD2 hq hp hL
    gi_wp2_with fail
    refine ⟨trivial, HG.out.mono ?_⟩
    rintro e W2 ⟨rfl, hb2⟩
    have hD2 := HD.out.below hb2
    have HB2 := Lib.hid hb2
    clear HG hb2 HD
    by_cases hne : q = p
    · have hnb : (q != p) = false := by simp [hne]
      have HN := Lib.hid hne
      have HD2 := Lib.hid hD2
      clear hne hD2
      gi_wp2
      refine ⟨(keeps_below HB2.out).from _, HB2.out.mono hwW, ?_⟩
      have := HF.out
      rw [if_pos HN.out, List.append_nil] at this
      show DIn w A B ((pre ++ [x]).filter (dif f g)) W2
      rw [this]
      exact HD2.out
    · have hnb : (q != p) = true := by simp [hne]
      have HN := Lib.hid hne
      obtain ⟨v, h1, h3, h4, h5, h6⟩ := hD2
      have hc := h1.cell
      have H1 := Lib.hid h1
      have H3 := Lib.hid h3
      have H4 := Lib.hid h4
      have H5 := Lib.hid h5
      have H6 := Lib.hid h6
      clear h1 h3 h4 h5 h6 hne
      gi_wp2_with (gi_at_builtin; refine wpListIn_append_own _ rfl _ _ 32 rfl w.heap.size 3 i0 (.int .i64 0) 1 8 Try.underlying32 hi hz0 hz1 hz2 rfl (by decide) _ _ _ rfl (H3.out.alloc _) ⟨W2.heap.size, 0, none⟩ 1 1 [.int .i64 (x : Int)] rfl rfl (cell_one_new _ _ _) (by simp [Value.oneCell']) (by unfold maxLen; omega) (by omega) (by have := H6.out.size; simp; omega) ?_; intro v' w1 hown' hgrow _; obtain ⟨g', cap', rfl⟩ := ownsRow_succ hown'; obtain ⟨hv1, hv2, hr2, hk2, hb2⟩ := H1.out.appended (by decide) H3.out H6.out.size (by omega) hown' hgrow; have hc1 := hv1.cell; have hf1 := hv1.frozen)
      refine ⟨((keeps_below HB2.out).trans hk2).from _, (HB2.out.mono hwW).trans hb2, ?_⟩
      have := HF.out
      rw [if_neg HN.out] at this
      show DIn w A B ((pre ++ [x]).filter (dif f g)) _
      rw [this]
      refine ⟨_, hv2, ?_, ?_, ?_, H6.out.trans hb2⟩
      · rw [List.length_append, List.map_append]; exact hr2
      · exact ((H4.out.alloc _).kept hgrow (H4.out.not_row (by decide) H3.out)).other (by omega) _
      · exact ((H5.out.alloc _).kept hgrow (H5.out.not_row (by decide) H3.out)).other (by omega) _
  case done =>
    rintro D W hD hin hK
    obtain ⟨L0, hL0⟩ : ∃ L0, L0 = (itemsL f 2 0).filter (dif f g) := ⟨_, rfl⟩
    rw [← hL0] at hin
    have hl0 : L0.length ≤ 4096 := by rw [hL0]; exact Nat.le_trans (List.length_filter_le _ _) hle
    have HL0 := Lib.hid hL0
    have hDlt : D < W.heap.size := block_lt hK
    obtain ⟨v, h1, h3, h4, h5, h6⟩ := id hin
    have c5 := h5.cell
    have HI := Lib.hid hin
    have HK := Lib.hid hK
    have HB := Lib.hid h6
    clear h1 h3 h4 h5 h6 hin hK hL0
    gi_wp2
    refine range_all 40 #[.pointer B] rfl (enters_of Try.func40 (by kernel_rfl) rfl) HT.out HB.out (fun _ => rfl)
      (fun pre W' => DIn w A B (L0 ++ pre.filter (gone f)) W' ∧ W'.heap[D]? = some (.deferred (some []))) (OwnFrom.and (DIn.own HB.out.size) (keeps_at hDlt)) ⟨by simpa using HI.out, HK.out⟩
      (fun x => { tmps := #[.pointer A, .pointer B, .pointer (some ⟨w.heap.size, 0, none⟩), .pointer (some ⟨w.heap.size + 1, 0, none⟩), .slice none 0 0, .pointer (some ⟨w.heap.size + 1 + 1, 0, none⟩), undef, undef, .int .i64 x, .pointer A, .func (.func 40) #[.pointer A] #[], undef, undef, undef, undef, undef, undef, undef, undef, undef, undef, undef, .pointer B, .func (.func 40) #[.pointer B] #[], .int .i64 x, .int .i64 (g x), undef, undef, undef, undef, undef, undef, undef, undef, undef, undef, undef], defers := [] }) ?assign2 ?body2 ?done2
    case assign2 =>
      intro l x W K hK
      unfold yArgs
      gi_wp2
      simpa using hK
    case body2 =>
      rintro l pre x W ⟨hD, hDK⟩ hlen _
      have hD2 := hD
      obtain ⟨v, h1, h3, h4, h5, h6⟩ := hD
      have hwW : w.heap.size ≤ W.heap.size := h6.size
      obtain ⟨q, hq⟩ : ∃ q, q = getF f x := ⟨_, rfl⟩
      have HG := Lib.hid (CallsIn.inRound l ((callsIn_wide (n := 3 - 1 - 1 - 1)).2 (get_any f S A x W (HR.out.below h6))))
      have c5 := h4.cell
      rw [← hq] at HG
      have HD := Lib.hid hD2
      have HQ := Lib.hid hq
      have hpl := List.length_filter_le (gone f) pre
      have HF := Lib.hid (show (pre ++ [x]).filter (gone f) = pre.filter (gone f) ++ if q = 0 then [x] else [] by
        rw [List.filter_append, hq]
        by_cases h : getF f x = 0 <;> simp [gone, h])
      obtain ⟨L, hL⟩ : ∃ L, L = pre.filter (gone f) := ⟨_, rfl⟩
      rw [← hL] at hpl HF HD
      have HL := Lib.hid hL
      have HK2 := Lib.hid hDK
      clear hDK
      have hl0L : (L0 ++ L).length ≤ 8192 := by rw [List.length_append]; omega
      obtain ⟨M, hM⟩ : ∃ M, M = L0 ++ L := ⟨_, rfl⟩
      rw [← hM] at HD hl0L
      have HM := Lib.hid hM
      clear hM
      clear h1 h3 h4 h5 h6 hD2 hq hL
      gi_wp2_with fail
      refine ⟨trivial, HG.out.mono ?_⟩
      rintro e W2 ⟨rfl, hb2⟩
      have hD2 := HD.out.below hb2
      have HB2 := Lib.hid hb2
      clear HG hb2 HD
      by_cases hne : q = 0
      · subst hne
        obtain ⟨v, h1, h3, h4, h5, h6⟩ := hD2
        have hc := h1.cell
        have H1 := Lib.hid h1
        have H3 := Lib.hid h3
        have H4 := Lib.hid h4
        have H5 := Lib.hid h5
        have H6 := Lib.hid h6
        clear h1 h3 h4 h5 h6
        gi_wp2_with (gi_at_builtin; refine wpListIn_append_own _ rfl _ _ 32 rfl w.heap.size 3 i0 (.int .i64 0) 1 8 Try.underlying32 hi hz0 hz1 hz2 rfl (by decide) _ _ _ rfl (H3.out.alloc _) ⟨W2.heap.size, 0, none⟩ 1 1 [.int .i64 (x : Int)] rfl rfl (cell_one_new _ _ _) (by simp [Value.oneCell']) (by unfold maxLen; omega) (by omega) (by have := H6.out.size; simp; omega) ?_; intro v' w1 hown' hgrow _; obtain ⟨g', cap', rfl⟩ := ownsRow_succ hown'; obtain ⟨hv1, hv2, hr2, hk2, hb2⟩ := H1.out.appended (by decide) H3.out H6.out.size (by omega) hown' hgrow; have hc1 := hv1.cell; have hf1 := hv1.frozen)
        refine ⟨((keeps_below HB2.out).trans hk2).from _, (HB2.out.mono hwW).trans hb2, ?_⟩
        have := HF.out
        rw [if_pos trivial] at this
        refine And.intro ?_ (((keeps_below HB2.out).trans hk2).same D _ HK2.out rfl)
        show DIn w A B (L0 ++ (pre ++ [x]).filter (gone f)) _
        rw [this, ← List.append_assoc, ← HM.out]
        refine ⟨_, hv2, ?_, ?_, ?_, H6.out.trans hb2⟩
        · rw [List.length_append, List.map_append]; exact hr2
        · exact ((H4.out.alloc _).kept hgrow (H4.out.not_row (by decide) H3.out)).other (by omega) _
        · exact ((H5.out.alloc _).kept hgrow (H5.out.not_row (by decide) H3.out)).other (by omega) _
      · have hnb : (q == 0) = false := by simp [hne]
        have HN := Lib.hid hne
        have HD2 := Lib.hid hD2
        clear hne hD2
        gi_wp2
        refine ⟨(keeps_below HB2.out).from _, HB2.out.mono hwW, ?_⟩
        have := HF.out
        rw [if_neg HN.out, List.append_nil] at this
        refine And.intro ?_ ((HB2.out.block D (block_lt HK2.out)).trans HK2.out)
        show DIn w A B (L0 ++ (pre ++ [x]).filter (gone f)) W2
        rw [this, ← HM.out]
        exact HD2.out
    case done2 =>
      rintro D2 W2 hD2 ⟨hin2, hDK⟩ hK2
      obtain ⟨L1, hL1⟩ : ∃ L1, L1 = L0 ++ (itemsL g 2 0).filter (gone f) := ⟨_, rfl⟩
      rw [← hL1] at hin2
      obtain ⟨v, h1, h3, h4, h5, h6⟩ := hin2
      have c1 := h1.cell
      have hl1 : L1.length ≤ 8192 := by
        have a1 := List.length_filter_le (gone f) (itemsL g 2 0)
        rw [hL1, List.length_append]
        omega
      have hsort := sort_any w.heap.size v (ints L1) W2 (by rw [ints_map]; simpa [ints] using h3) (by unfold ints; rw [List.length_map]; omega)
      have HS := Lib.hid ((callsIn_wide (n := 2)).2 hsort)
      have H1 := Lib.hid h1
      have H3 := Lib.hid h3
      have HB2 := Lib.hid h6
      have HK1 := Lib.hid hDK
      have HK2 := Lib.hid hK2
      have HL1 := Lib.hid hL1
      clear h1 h3 h4 h5 h6 hDK hK2 hL1
      gi_wp2_with fail
      refine ⟨trivial, HS.out.mono ?_⟩
      rintro e W3 ⟨rfl, hown, hgr⟩
      have hDlt3 : D < W2.heap.size := block_lt HK1.out
      have hnr : ∀ k o, W2.heap[k]? = some o → o.isCells = false → v.ownBlock ≠ some k := fun k o ho hc e => by
        obtain ⟨cs, hcs⟩ := own_plain H3.out e
        rw [hcs] at ho
        cases ho
        cases hc
      have HK1' := Lib.hid ((hgr.block D (block_lt HK1.out) (fun e => hnr D _ HK1.out rfl e.symm)).trans HK1.out)
      have HK2' := Lib.hid ((hgr.block D2 (block_lt HK2.out) (fun e => hnr D2 _ HK2.out rfl e.symm)).trans HK2.out)
      have hbox := H1.out.kept hgr (H1.out.not_row (by decide) H3.out)
      have c3 := hbox.cell
      have HB3 := Lib.hid (HB2.out.grown hgr HB2.out.size (fun k e => (H3.out.lt k e).1))
      have HO := Lib.hid hown
      clear hown hgr hnr hbox c1
      gi_wp2
      refine ⟨by simp, .inl ⟨_, _, rfl, run_takeDeferred HK2'.out, ?_⟩⟩
      have hne : D ≠ D2 := by omega
      have HK3 : (W3.putObj D2 (.deferred none)).heap[D]? = some (.deferred (some [])) := (World.putObj_heap_other hne).trans HK1'.out
      refine ⟨by simp, .inl ⟨_, _, rfl, run_takeDeferred HK3, ?_⟩⟩
      have hd1 : w.heap.size ≤ D := by simp at hD; omega
      have hd2 : w.heap.size ≤ D2 := by have := HB.out.size; omega
      have hlist := diff_list f g
      have hL1 : L1 = (itemsL f 2 0).filter (fun x : Nat => decide (getF g (x : Int) ≠ f x)) ++ (itemsL g 2 0).filter (fun x : Nat => decide (getF f (x : Int) = 0)) := by rw [HL1.out, HL0.out]; rfl
      rw [← hL1] at hlist
      have hown := HO.out
      have hlen : (ints L1).length = (diffL f g).length := by
        have := congrArg List.length hlist
        rw [List.length_mergeSort] at this
        rw [this]; simp [ints]
      rw [hlist, ints_map, hlen] at hown
      exact ⟨_, results_tmp rfl _ _ _, v, rfl, ownsRow_putObj (ownsRow_putObj hown _ HK2'.out rfl) _ HK3 rfl, (HB3.out.trans (belowK_b (w := w) (Nat.le_refl _) W3 D2 _ _ hd2 HK2'.out rfl rfl)).trans (belowK_b (w := w) (Nat.le_refl _) _ D _ _ hd1 HK3 rfl rfl)⟩
end Go.Proofs.Ytnnadhfpkplncaa


/- Numbers as they lie; are two lists of them the same? Condition: they read. -/
namespace Go.Proofs.Ytnnadhfpkplncaa
open Go.RowKit

/-- A slice's cells as they lie. -/
def RdA (w : World) (A : Option Addr) (vs : List Value) : Prop := ∀ i u, vs[i]? = some u → ∃ b o, A = some ⟨b, o, none⟩ ∧ w.cell? ⟨b, o + i, none⟩ = some u
theorem RdA.below {w w' : World} {A : Option Addr} {vs : List Value} (h : RdA w A vs) (k : Below w.heap.size w w') : RdA w' A vs := fun i u hi => by
  obtain ⟨b, o, e, hc⟩ := h i u hi
  refine ⟨b, o, e, ?_⟩
  rw [← hc]
  exact World.cell?_of_block (k.block b (cell_lt hc))
theorem own_rdA {w : World} {base n s : Nat} {E : TypeId} {v : Value} {xs : List Value} (h : w.ownsRow base E s v n xs) : ∃ A c, v = .slice A n c ∧ n ≤ c ∧ RdA w A xs ∧ (∀ b, A = some b → base ≤ b.block ∧ b.block < w.heap.size) := by
  rcases h.2 with ⟨e1, e2⟩ | ⟨g, c, cur, rfl, hg, hh, hc, _, _, ht⟩
  · subst e2
    have : xs = [] := List.eq_nil_of_length_eq_zero (by simpa using h.1)
    subst this
    exact ⟨none, 0, e1, Nat.le_refl _, fun i u hi => by simp at hi, fun b e => by cases e⟩
  · refine ⟨_, c, rfl, hc, fun i u hi => ⟨g, 0, rfl, ?_⟩, fun b e => by cases e; exact ⟨hg, block_lt hh⟩⟩
    have hlt : i < n * s := by rw [← h.1]; exact (List.getElem?_eq_some_iff.1 hi).1
    rw [← ht, List.getElem?_take, if_pos hlt] at hi
    rw [Nat.zero_add, block_cell hh]
    simpa using hi
def zs (l : List Int) : List Value := l.map (Value.int .i64)
theorem zs_at {l : List Int} {i : Nat} {x : Int} (h : l[i]? = some x) : (zs l)[i]? = some (.int .i64 x) := by
  unfold zs
  rw [List.getElem?_map, h]; rfl
def BoolPost (b : Bool) (w : World) (e : Ending) (w' : World) : Prop := e = .returned (.bool b) ∧ Below w.heap.size w w'
theorem below_drewN {b : Nat} {w w' : World} (h : Below b w w') (n : Nat) : Below b w (w'.drewN n) := ⟨h.os, h.tape, h.output, h.size, h.block⟩
set_option maxRecDepth 100000 in
set_option maxHeartbeats 1600000 in
theorem ints_any (A B : Option Addr) (c d : Nat) (xs ys : List Int) (w : World) (hA : RdA w A (zs xs)) (hB : RdA w B (zs ys)) (hx : xs.length ≤ 9223372036854775807) :
    Calls Try.prog 15 #[.slice A xs.length c, .slice B ys.length d] w (BoolPost (decide (xs = ys)) w) := by
  by_cases hl : xs.length = ys.length
  · have HL := Lib.hid hl
    rw [← hl]
    clear hl
    go_enter Try.func15, Try.ntmps15
    go_wp2
    go_loopw [5] (fun i wr => ∃ j : Nat, j ≤ xs.length ∧ i = .int .i64 j ∧ Below w.heap.size w wr ∧ Hid (xs.take j = ys.take j)) (fun i _ => xs.length - (intOf i).toNat)
    case atStart => exact ⟨0, by omega, rfl, Below.refl _ _, rfl⟩
    case round =>
      obtain ⟨j, hj, rfl, hb, hall⟩ := hrel
      by_cases hlt : j < xs.length
      · obtain ⟨x, hxj⟩ : ∃ x, xs[j]? = some x := ⟨_, List.getElem?_eq_getElem hlt⟩
        obtain ⟨y, hyj⟩ : ∃ y, ys[j]? = some y := ⟨_, List.getElem?_eq_getElem (by rw [← HL.out]; exact hlt)⟩
        obtain ⟨b1, o1, rfl, hc1⟩ := (hA.below hb) j _ (zs_at hxj)
        obtain ⟨b2, o2, rfl, hc2⟩ := (hB.below hb) j _ (zs_at hyj)
        have hji : (j : Int) < (xs.length : Int) := by omega
        have HX := Lib.hid hxj
        have HY := Lib.hid hyj
        have HB := Lib.hid hb
        clear hxj hyj hb hA hB
        by_cases hxy : x = y
        · subst hxy
          go_wp2
          go_quiet (fail)
          go_wp2
          refine ⟨⟨j + 1, by omega, by go_num, below_drewN HB.out _, ?_⟩, by simp [intOf]; omega⟩
          show xs.take (j + 1) = ys.take (j + 1)
          rw [List.take_add_one, List.take_add_one, HX.out, HY.out, hall.out]
        · have hne : (x != y) = true := by simp [hxy]
          have hd : decide (xs = ys) = false := decide_eq_false fun e => hxy (by
            have h1 := HX.out
            rw [e, HY.out] at h1
            exact (Option.some.inj h1).symm)
          have HD := Lib.hid hd
          clear hd hxy
          go_wp2
          go_quiet (fail)
          go_wp2
          go_ret
          exact ⟨by rw [HD.out]; rfl, below_drewN HB.out _⟩
      · have hd : decide (xs = ys) = true := decide_eq_true (by
          have h1 := hall.out
          rwa [List.take_of_length_le (by omega), List.take_of_length_le (by rw [← HL.out]; omega)] at h1)
        have HD := Lib.hid hd
        have HB := Lib.hid hb
        clear hd hb
        go_wp2
        go_ret
        exact ⟨by rw [HD.out]; rfl, HB.out⟩
  · have hd : decide (xs = ys) = false := decide_eq_false fun e => hl (by rw [e])
    have hne : ((xs.length : Int) != (ys.length : Int)) = true := by simp; omega
    have HD := Lib.hid hd
    clear hd hl
    go_enter Try.func15, Try.ntmps15
    go_wp2
    go_ret
    exact ⟨by rw [HD.out]; rfl, Below.refl _ _⟩
end Go.Proofs.Ytnnadhfpkplncaa


/- Which nodes two trees share, one of them made of the other. No condition but that they read. -/
namespace Go.Proofs.Ytnnadhfpkplncaa
open Go.RowKit

theorem nodes_none {S : Nat → Nat → Option Nat} {D g : Nat} (h : S D g = none) : nodesL S D g = [] := by
  cases D with
  | zero => unfold nodesL; rw [h]; rfl
  | succ D => unfold nodesL; rw [h]
theorem div_step {h D e : Nat} (he : e ≤ D) : h / 16 ^ (D + 1 - e) = h / 16 ^ (D - e) / 16 := by
  rw [show D + 1 - e = (D - e) + 1 by omega, Nat.pow_succ, Nat.div_div_eq_div_mul]
theorem nodes_mem {S : Nat → Nat → Option Nat} : ∀ D g b, b ∈ nodesL S D g → ∃ e h, e ≤ D ∧ h / 16 ^ (D - e) = g ∧ S e h = some b
  | 0, g, b, hb => by
    unfold nodesL at hb
    exact ⟨0, g, Nat.le_refl _, by simp, by simpa using hb⟩
  | D + 1, g, b, hb => by
    unfold nodesL at hb
    cases hs : S (D + 1) g with
    | none => rw [hs] at hb; simp at hb
    | some c =>
      rw [hs] at hb
      simp only [List.mem_cons, List.mem_flatMap, List.mem_range] at hb
      rcases hb with rfl | ⟨i, hi, hb⟩
      · exact ⟨D + 1, g, Nat.le_refl _, by simp, hs⟩
      · obtain ⟨e, h, he, hd, hS⟩ := nodes_mem D _ b hb
        exact ⟨e, h, by omega, by rw [div_step he, hd]; omega, hS⟩
theorem nodes_of {f : Nat → Int} {S : Nat → Nat → Option Nat} {w : World} (hr : RdD 2 f S w) : ∀ D, D ≤ 2 → ∀ e h b, e ≤ D → S e h = some b → b ∈ nodesL S D (h / 16 ^ (D - e))
  | 0, _, e, h, b, he, hs => by
    obtain rfl : e = 0 := by omega
    unfold nodesL
    simp [hs]
  | D + 1, hD, e, h, b, he, hs => by
    by_cases hE : e = D + 1
    · subst hE
      unfold nodesL
      simp [hs]
    · have ih := nodes_of hr D (by omega) e h b (by omega) hs
      have hi : h / 16 ^ (D - e) % 16 < 16 := Nat.mod_lt _ (by decide)
      have hg : h / 16 ^ (D + 1 - e) * 16 + h / 16 ^ (D - e) % 16 = h / 16 ^ (D - e) := by
        rw [div_step (by omega)]
        omega
      cases hp : S (D + 1) (h / 16 ^ (D + 1 - e)) with
      | none =>
        have hb := (hr.can _ _ hD).1 hp
        have hc := bare_succ.1 hb _ hi
        rw [hg] at hc
        rw [nodes_none ((hr.can D _ (by omega)).2 hc)] at ih
        simp at ih
      | some c =>
        unfold nodesL
        rw [hp]
        exact List.mem_cons_of_mem _ (List.mem_flatMap.2 ⟨_, List.mem_range.2 hi, by rw [hg]; exact ih⟩)
/-- No block serves twice. -/
def InjS (S : Nat → Nat → Option Nat) : Prop := ∀ d h d' h' b, d ≤ 2 → d' ≤ 2 → S d h = some b → S d' h' = some b → d = d' ∧ h = h'
theorem nodes_nodup {S : Nat → Nat → Option Nat} (hS : InjS S) : ∀ D, D ≤ 2 → ∀ g, (nodesL S D g).Nodup
  | 0, _, g => by unfold nodesL; cases S 0 g <;> simp
  | D + 1, hD, g => by
    unfold nodesL
    cases hs : S (D + 1) g with
    | none => simp
    | some b =>
      refine List.nodup_cons.2 ⟨fun hm => ?_, ?_⟩
      · obtain ⟨i, _, hb⟩ := List.mem_flatMap.1 hm
        obtain ⟨e, h, he, _, hb⟩ := nodes_mem D _ b hb
        have := (hS _ _ _ _ _ hD (by omega) hs hb).1
        omega
      · unfold List.Nodup
        rw [List.pairwise_flatMap]
        refine ⟨fun i _ => nodes_nodup hS D (by omega) _, ?_⟩
        refine (List.pairwise_lt_range (n := 16)).imp fun {i j} hij x hx y hy e => ?_
        subst e
        obtain ⟨e1, h1, he1, hd1, hs1⟩ := nodes_mem D _ x hx
        obtain ⟨e2, h2, he2, hd2, hs2⟩ := nodes_mem D _ x hy
        obtain ⟨rfl, rfl⟩ := hS _ _ _ _ _ (by omega) (by omega) hs1 hs2
        omega
theorem RdD.lt {f : Nat → Int} {S : Nat → Nat → Option Nat} {w : World} (hr : RdD 2 f S w) {d h b : Nat} (hd : d ≤ 2) (hs : S d h = some b) : b < w.heap.size := by
  cases d with
  | zero => exact block_lt (hr.leaf _ _ hs)
  | succ d => exact block_lt (hr.node _ _ _ hd hs)
theorem injS_upd {f : Nat → Int} {S : Nat → Nat → Option Nat} {a B : Nat} {nb : Nat → Nat} (hS : InjS S) (hlt : ∀ d h b, d ≤ 2 → S d h = some b → b < B) (hn : New B nb 2) : InjS (updS f S a 2 nb) := by
  have key : ∀ d h b, d ≤ 2 → updS f S a 2 nb d h = some b → (h = a / 16 ^ (d + 1) ∧ b = nb d) ∨ (S d h = some b ∧ b < B) := by
    intro d h b hd hb
    by_cases hh : h = a / 16 ^ (d + 1)
    · subst hh
      rcases updS_on (f := f) (S := S) (a := a) (nb := nb) hd with ⟨k, _⟩ | ⟨k, _⟩
      · rw [hb] at k; cases k
      · rw [hb] at k; cases k; exact Or.inl ⟨rfl, rfl⟩
    · rw [updS_off (fun k => hh k.2)] at hb
      exact Or.inr ⟨hb, hlt d h b hd hb⟩
  intro d h d' h' b hd hd' h1 h2
  rcases key d h b hd h1 with ⟨e1, e2⟩ | ⟨e1, e2⟩ <;> rcases key d' h' b hd' h2 with ⟨k1, k2⟩ | ⟨k1, k2⟩
  · have := hn.2 d d' hd hd' (by rw [← e2, ← k2])
    subst this
    exact ⟨rfl, by rw [e1, k1]⟩
  · have := hn.1 d hd; omega
  · have := hn.1 d' hd'; omega
  · exact hS d h d' h' b hd hd' e1 k1
theorem inBoth_comm {l l' : List Nat} (h : l.Nodup) (h' : l'.Nodup) : inBoth l l' = inBoth l' l := by
  unfold inBoth
  refine List.Perm.length_eq ((List.perm_ext_iff_of_nodup (h'.filter _) (h.filter _)).2 fun x => ?_)
  simp only [List.mem_filter, decide_eq_true_eq]
  exact ⟨fun ⟨a, b⟩ => ⟨b, a⟩, fun ⟨a, b⟩ => ⟨b, a⟩⟩
theorem inBoth_self (l : List Nat) : inBoth l l = l.length := by
  unfold inBoth
  rw [List.filter_eq_self.2 (fun x hx => by simpa using hx)]
open Classical in
/-- How many nodes on the way to a place there are. -/
noncomputable def onp (f : Nat → Int) (a : Nat) : Nat → Nat
  | 0 => if Bare 0 (a / 16) f then 0 else 1
  | D + 1 => if Bare (D + 1) (a / 16 ^ (D + 2)) f then 0 else 1 + onp f a D
theorem onp_le (f : Nat → Int) (a : Nat) : ∀ D, onp f a D ≤ D + 1
  | 0 => by unfold onp; split <;> omega
  | D + 1 => by
    unfold onp
    have := onp_le f a D
    split <;> omega
theorem flat_one {α : Type} {L : Nat → List α} {i0 : Nat} : ∀ n, i0 < n → (∀ i, i < n → i ≠ i0 → L i = []) → (List.range n).flatMap L = L i0
  | 0, h, _ => by omega
  | n + 1, h, hL => by
    rw [range_flat]
    by_cases e : i0 = n
    · subst e
      rw [List.flatMap_eq_nil_iff.2 fun i hi => hL i (by have := List.mem_range.1 hi; omega) (by have := List.mem_range.1 hi; omega), List.nil_append]
    · rw [flat_one n (by omega) (fun i hi => hL i (by omega)), hL n (by omega) (fun k => e k.symm), List.append_nil]
section
variable {f : Nat → Int} {S : Nat → Nat → Option Nat} {a B : Nat} {nb : Nat → Nat} (hlt : ∀ d h b, d ≤ 2 → S d h = some b → b < B) (hn : New B nb 2)
include hlt
theorem new_off {D g : Nat} (hD : D ≤ 2) (hg : g ≠ a / 16 ^ (D + 1)) {b : Nat} (hb : b ∈ nodesL (updS f S a 2 nb) D g) : b < B := by
  obtain ⟨e, h, he, hd, hs⟩ := nodes_mem D g b hb
  rw [updS_off] at hs
  · exact hlt e h b (by omega) hs
  · rintro ⟨_, rfl⟩
    apply hg
    rw [← hd, Nat.div_div_eq_div_mul, ← Nat.pow_add, show e + 1 + (D - e) = D + 1 by omega]
include hn
theorem new_on : ∀ D, D ≤ 2 → ((nodesL (updS f S a 2 nb) D (a / 16 ^ (D + 1))).filter fun b => decide (B ≤ b)).length = onp f a D
  | 0, _ => by
    have hon := updS_on (f := f) (S := S) (a := a) (D := 2) (e := 0) (nb := nb) (by omega)
    have e1 : a / 16 ^ (0 + 1) = a / 16 := by simp
    rw [e1] at hon ⊢
    unfold nodesL onp
    rcases hon with ⟨k, k2⟩ | ⟨k, k2⟩
    · rw [k, if_pos k2]; rfl
    · have := hn.1 0 (by omega)
      rw [k, if_neg k2]; simp [this]
  | D + 1, hD => by
    have hon := updS_on (f := f) (S := S) (a := a) (D := 2) (e := D + 1) (nb := nb) hD
    unfold nodesL onp
    rcases hon with ⟨k, k2⟩ | ⟨k, k2⟩
    · rw [k, if_pos k2]; rfl
    · have hnb := hn.1 (D + 1) hD
      rw [k, if_neg k2]
      simp only [List.filter_cons, hnb, decide_true, if_true, List.length_cons, List.filter_flatMap]
      rw [flat_one (i0 := a / 16 ^ (D + 1) % 16) 16 (Nat.mod_lt _ (by decide)) (fun i hi hne => ?_)]
      · rw [arm_group a (D + 1), new_on D (by omega), Nat.add_comm]
      · refine List.filter_eq_nil_iff.2 fun b hb => ?_
        have hne2 : a / 16 ^ (D + 1 + 1) * 16 + i ≠ a / 16 ^ (D + 1) := by
          have := arm_group a (D + 1)
          omega
        have := new_off hlt (by omega) hne2 hb
        simp; omega
end
theorem count_not (p : Nat → Bool) : ∀ l : List Nat, (l.filter p).length + (l.filter fun b => !p b).length = l.length
  | [] => rfl
  | x :: l => by
    have := count_not p l
    cases hp : p x <;> simp [hp] <;> omega
/-- How many nodes a tree and the one made of it share: all but the new ones. -/
theorem shared_upd {f f' : Nat → Int} {S : Nat → Nat → Option Nat} {a : Nat} {nb : Nat → Nat} {w : World} (hr : RdD 2 f S w) (ha : a ≤ 4095) (hn : New w.heap.size nb 2) :
    inBoth (nodesL S 2 0) (nodesL (updS f' S a 2 nb) 2 0) + onp f' a 2 = (nodesL (updS f' S a 2 nb) 2 0).length := by
  have hlt : ∀ d h b, d ≤ 2 → S d h = some b → b < w.heap.size := fun d h b hd hs => hr.lt hd hs
  have h0 : a / 16 ^ (2 + 1) = 0 := by omega
  have hon := new_on (f := f') (a := a) hlt hn 2 (Nat.le_refl _)
  rw [h0] at hon
  rw [← hon]
  have key : inBoth (nodesL S 2 0) (nodesL (updS f' S a 2 nb) 2 0) = ((nodesL (updS f' S a 2 nb) 2 0).filter fun b => !decide (w.heap.size ≤ b)).length := by
    unfold inBoth
    congr 1
    refine List.filter_congr fun b hb => ?_
    by_cases hB : w.heap.size ≤ b
    · have : b ∉ nodesL S 2 0 := fun hm => by
        obtain ⟨e, h, he, _, hs⟩ := nodes_mem 2 0 b hm
        have := hlt e h b he hs
        omega
      simp [this, hB]
    · have : b ∈ nodesL S 2 0 := by
        obtain ⟨e, h, he, hd, hs⟩ := nodes_mem 2 0 b hb
        by_cases hh : e ≤ 2 ∧ h = a / 16 ^ (e + 1)
        · obtain ⟨_, rfl⟩ := hh
          rcases updS_on (f := f') (S := S) (a := a) (nb := nb) he with ⟨k, _⟩ | ⟨k, _⟩
          · rw [hs] at k; cases k
          · rw [hs] at k; cases k
            have := hn.1 e he
            omega
        · rw [updS_off hh] at hs
          have := nodes_of hr 2 (Nat.le_refl _) e h b he hs
          rwa [hd] at this
      simp [this, hB]
  rw [key, Nat.add_comm]
  exact count_not _ _
end Go.Proofs.Ytnnadhfpkplncaa


/- What must come whatever the input is. No condition. -/
namespace Go.Proofs.Ytnnadhfpkplncaa
open Go.RowKit

def bareB (d g : Nat) (f : Nat → Int) : Bool := (List.range (span d)).all fun i => f (g * span d + i) == 0
theorem bareB_iff {d g : Nat} {f : Nat → Int} : bareB d g f = true ↔ Bare d g f := by
  unfold bareB Bare
  simp [List.all_eq_true, List.mem_range]
/-- How many nodes a tree of the function has beneath a group. -/
def nn (f : Nat → Int) : Nat → Nat → Nat
  | 0, g => if bareB 0 g f then 0 else 1
  | D + 1, g => if bareB (D + 1) g f then 0 else 1 + ((List.range 16).map fun i => nn f D (g * 16 + i)).sum
theorem nodes_len {f : Nat → Int} {S : Nat → Nat → Option Nat} {w : World} (hr : RdD 2 f S w) : ∀ D, D ≤ 2 → ∀ g, (nodesL S D g).length = nn f D g
  | 0, _, g => by
    have hc := hr.can 0 g (by omega)
    unfold nodesL nn
    by_cases hb : Bare 0 g f
    · rw [hc.2 hb, if_pos (bareB_iff.2 hb)]; rfl
    · rw [if_neg (fun k => hb (bareB_iff.1 k))]
      cases hs : S 0 g with
      | none => exact absurd (hc.1 hs) hb
      | some b => rfl
  | D + 1, hD, g => by
    have hc := hr.can (D + 1) g hD
    unfold nodesL nn
    by_cases hb : Bare (D + 1) g f
    · rw [hc.2 hb, if_pos (bareB_iff.2 hb)]; rfl
    · rw [if_neg (fun k => hb (bareB_iff.1 k))]
      cases hs : S (D + 1) g with
      | none => exact absurd (hc.1 hs) hb
      | some b =>
        simp only [List.length_cons, List.length_flatMap]
        rw [Nat.add_comm]
        congr 2
        exact List.map_congr_left fun i _ => nodes_len hr D (by omega) _
theorem onp_full {f : Nat → Int} {a : Nat} (h : f a ≠ 0) : ∀ D, onp f a D = D + 1
  | 0 => by
    unfold onp
    rw [if_neg]
    intro k
    exact h (Bare.get (d := 0) (by simpa using k))
  | D + 1 => by
    unfold onp
    rw [if_neg (fun k => h (Bare.get k)), onp_full h D, Nat.add_comm]
theorem rdR_nil (w : World) : RdR (fun _ => 0) (fun _ _ => none) w none :=
  ⟨⟨fun _ _ => rfl, fun _ _ _ => ⟨fun _ _ _ => rfl, fun _ => rfl⟩, fun g b h => (by cases h), fun d g b _ h => (by cases h)⟩, Or.inl ⟨rfl, rfl⟩⟩
theorem injS_nil : InjS (fun _ _ => none) := fun d h d' h' b _ _ e => by cases e
def sureF (k : Nat) : Nat → Int := fun p => if p = 4095 ∧ 3 ≤ k then 3 else if p = 1 ∧ 2 ≤ k then 2 else if p = 0 ∧ 1 ≤ k then 1 else 0
theorem sure1 : setF (fun _ => 0) 0 1 = sureF 1 := by
  have h0 : setF (fun _ => 0) 0 1 = updF (fun _ => 0) 0 1 := setF_in (a := 0) (by omega)
  rw [h0]
  funext p
  simp only [updF, sureF]
  by_cases h : p = 0 <;> simp [h]
theorem sure2 : setF (sureF 1) 1 2 = sureF 2 := by
  have h0 : setF (sureF 1) 1 2 = updF (sureF 1) 1 2 := setF_in (a := 1) (by omega)
  rw [h0]
  funext p
  simp only [updF, sureF]
  by_cases h : p = 1 <;> simp [h]
theorem sure3 : setF (sureF 2) 4095 3 = sureF 3 := by
  have h0 : setF (sureF 2) 4095 3 = updF (sureF 2) 4095 3 := setF_in (a := 4095) (by omega)
  rw [h0]
  funext p
  simp only [updF, sureF]
  by_cases h : p = 4095 <;> simp [h]
theorem sureN1 : nn (sureF 1) 2 0 = 3 := by decide +kernel
theorem sureN2 : nn (sureF 2) 2 0 = 3 := by decide +kernel
theorem sureN3 : nn (sureF 3) 2 0 = 5 := by decide +kernel
theorem SetSame.new {f : Nat → Int} {S S' : Nat → Nat → Option Nat} {A A' : Option Addr} {z n : Int} {B : Nat} (h : SetSame f S S' A A' z n B) (hne : setF f z n ≠ f) : 0 ≤ z ∧ z ≤ 4095 ∧ ∃ nb, New B nb 2 ∧ S' = updS (setF f z n) S z.toNat 2 nb := by
  rcases h with ⟨h, _⟩ | ⟨h1, h2, _, h3⟩
  · exact absurd h hne
  · exact ⟨h1, h2, h3⟩
set_option maxRecDepth 100000 in
set_option maxHeartbeats 3200000 in
theorem sure_any (w : World) : Calls Try.prog 16 #[] w (BoolPost true w) := by
  go_enter Try.func16, Try.ntmps16
  go_wp2_with fail
  refine (set_any _ _ _ 0 1 _ (rdR_nil _)).mono ?_
  rintro e w1 ⟨A1, S1, rfl, hr1, hs1, hb1⟩
  rw [sure1] at hr1
  have H1 := Lib.hid hr1
  have HS1 := Lib.hid hs1
  have HB1 := Lib.hid hb1
  clear hr1 hs1 hb1
  go_wp2_with fail
  refine (set_any _ _ _ 1 2 _ H1.out).mono ?_
  rintro e w2 ⟨A2, S2, rfl, hr2, hs2, hb2⟩
  have H2' := Lib.hid (show RdR (sureF 2) S2 w2 A2 by rw [← sure2]; exact hr2)
  have HI2 : Hid (inBoth (nodesL S1 2 0) (nodesL S2 2 0) = 0) := by
    obtain ⟨_, _, nb, hn, rfl⟩ := hs2.new (by rw [sure2]; intro e; have := congrFun e 1; simp [sureF] at this)
    have h := shared_upd (f' := setF (sureF 1) 1 2) (a := (1 : Int).toNat) H1.out.1 (by decide) hn
    rw [nodes_len hr2.1 2 (by omega), onp_full (by rw [sure2]; decide), sure2, sureN2] at h
    exact Lib.hid (by rw [sure2]; omega)
  have HB2 := Lib.hid (HB1.out.trans (hb2.mono HB1.out.size))
  have H12 := Lib.hid (H1.out.below hb2)
  clear hr2 hs2 hb2
  go_wp2_with fail
  refine (set_any _ _ _ 4095 3 _ H2'.out).mono ?_
  rintro e w3 ⟨A3, S3, rfl, hr3, hs3, hb3⟩
  have H3' := Lib.hid (show RdR (sureF 3) S3 w3 A3 by rw [← sure3]; exact hr3)
  have HI3 : Hid (inBoth (nodesL S2 2 0) (nodesL S3 2 0) = 2) := by
    obtain ⟨_, _, nb, hn, rfl⟩ := hs3.new (by rw [sure3]; intro e; have := congrFun e 4095; simp [sureF] at this)
    have h := shared_upd (f' := setF (sureF 2) 4095 3) (a := (4095 : Int).toNat) H2'.out.1 (by decide) hn
    rw [nodes_len hr3.1 2 (by omega), onp_full (by rw [sure3]; decide), sure3, sureN3] at h
    exact Lib.hid (by rw [sure3]; omega)
  have HB3 := Lib.hid (HB2.out.trans (hb3.mono HB2.out.size))
  have H13 := Lib.hid (H12.out.below hb3)
  have H23 := Lib.hid (H2'.out.below hb3)
  clear hr3 hs3 hb3 H12
  go_wp2_with fail
  refine (tnodes_any _ _ _ _ H13.out).mono ?_
  rintro e w4 ⟨rfl, hb4⟩
  rw [nodes_len H13.out.1 2 (by omega), sureN1]
  have H24 := Lib.hid (H23.out.below hb4)
  have H34 := Lib.hid (H3'.out.below hb4)
  have H14 := Lib.hid (H13.out.below hb4)
  have HB4 := Lib.hid (HB3.out.trans (hb4.mono HB3.out.size))
  clear hb4
  go_wp2_with fail
  refine (tnodes_any _ _ _ _ H24.out).mono ?_
  rintro e w5 ⟨rfl, hb5⟩
  rw [nodes_len H24.out.1 2 (by omega), sureN2]
  have H25 := Lib.hid (H24.out.below hb5)
  have H35 := Lib.hid (H34.out.below hb5)
  have H15 := Lib.hid (H14.out.below hb5)
  have HB5 := Lib.hid (HB4.out.trans (hb5.mono HB4.out.size))
  clear hb5
  go_wp2_with fail
  refine (shared_any _ _ _ _ _ _ _ H15.out H25.out).mono ?_
  rintro e w6 ⟨rfl, hb6⟩
  rw [HI2.out]
  have H26 := Lib.hid (H25.out.below hb6)
  have H36 := Lib.hid (H35.out.below hb6)
  have HB6 := Lib.hid (HB5.out.trans (hb6.mono HB5.out.size))
  clear hb6
  go_wp2_with fail
  refine (tnodes_any _ _ _ _ H36.out).mono ?_
  rintro e w7 ⟨rfl, hb7⟩
  rw [nodes_len H36.out.1 2 (by omega), sureN3]
  have H27 := Lib.hid (H26.out.below hb7)
  have H37 := Lib.hid (H36.out.below hb7)
  have HB7 := Lib.hid (HB6.out.trans (hb7.mono HB6.out.size))
  clear hb7
  go_wp2_with fail
  refine (shared_any _ _ _ _ _ _ _ H27.out H37.out).mono ?_
  rintro e w8 ⟨rfl, hb8⟩
  rw [HI3.out]
  have H38 := Lib.hid (H37.out.below hb8)
  have HB8 := Lib.hid (HB7.out.trans (hb8.mono HB7.out.size))
  clear hb8
  go_wp2_with fail
  refine (get_any _ _ _ 1 _ H38.out).mono ?_
  rintro e w9 ⟨rfl, hb9⟩
  rw [show getF (sureF 3) 1 = 2 by decide]
  have HB9 := Lib.hid (HB8.out.trans (hb9.mono HB8.out.size))
  clear hb9
  go_wp2
  go_ret
  exact ⟨rfl, HB9.out⟩
end Go.Proofs.Ytnnadhfpkplncaa


/- What is kept while a list of another kind grows; items as they lie. No condition of its own. -/
namespace Go.Proofs.Ytnnadhfpkplncaa
open Go.RowKit

/-- Blocks of cells of another kind than T lie as they lay. -/
def KeepT (T : TypeId) (w w' : World) : Prop := w.heap.size ≤ w'.heap.size ∧ ∀ (b : Nat) (cs : Array Value) (t : TypeId), t ≠ T → w.heap[b]? = some (.cells cs t (0, 0)) → w'.heap[b]? = some (.cells cs t (0, 0))
theorem KeepT.of_below {T : TypeId} {w w' : World} (h : Below w.heap.size w w') : KeepT T w w' := ⟨h.size, fun b _ _ _ hb => (h.block b (block_lt hb)).trans hb⟩
theorem KeepT.trans {T : TypeId} {a b c : World} (h : KeepT T a b) (k : KeepT T b c) : KeepT T a c := ⟨Nat.le_trans h.1 k.1, fun g cs t ht hg => k.2 g cs t ht (h.2 g cs t ht hg)⟩
theorem KeepT.alloc (T : TypeId) (w : World) (o : Obj) : KeepT T w (w.alloc o) := of_below ((Below.refl _ _).alloc (Nat.le_refl _) _)
theorem KeepT.app {T : TypeId} {w w' : World} {base s n : Nat} {v : Value} {xs : List Value} (h : w.ownsRow base T s v n xs) (hg : w.grownBy w' v.ownBlock) : KeepT T w w' := by
  refine ⟨hg.size, fun b cs t ht hb => (hg.block b (block_lt hb) fun e => ?_).trans hb⟩
  rcases h.2 with ⟨rfl, _⟩ | ⟨g, c, cur, rfl, _, hh, _⟩
  · cases e
  · cases e
    rw [hb] at hh
    cases hh
    exact ht rfl
theorem RdR.keepT {T : TypeId} {f : Nat → Int} {S : Nat → Nat → Option Nat} {w w' : World} {A : Option Addr} (h : RdR f S w A) (k : KeepT T w w') (h1 : 87 ≠ T) (h2 : 80 ≠ T) : RdR f S w' A := by
  obtain ⟨h0, h⟩ := h
  refine ⟨⟨h0.far, h0.can, fun g b e => k.2 _ _ _ h1 (h0.leaf g b e), fun d g b hd e => k.2 _ _ _ h1 (h0.node d g b hd e)⟩, ?_⟩
  rcases h with h | ⟨b, r, e, ea, hb⟩
  · exact Or.inl h
  · exact Or.inr ⟨b, r, e, ea, k.2 _ _ _ h2 hb⟩
theorem own_keepT {T E : TypeId} {w w' : World} {base s n : Nat} {v : Value} {xs : List Value} (h : w.ownsRow base E s v n xs) (k : KeepT T w w') (h1 : E ≠ T) : w'.ownsRow base E s v n xs := by
  refine ⟨h.1, ?_⟩
  rcases h.2 with h2 | ⟨g, c, cur, e, hb, hg, r⟩
  · exact Or.inl h2
  · exact Or.inr ⟨g, c, cur, e, hb, k.2 _ _ _ h1 hg, r⟩
theorem own_base {b b' n s : Nat} {w : World} {v : Value} {T : TypeId} {xs : List Value} (h : w.ownsRow b T s v n xs) (hb : b' ≤ b) : w.ownsRow b' T s v n xs := by
  refine ⟨h.1, ?_⟩
  rcases h.2 with h2 | ⟨g, cap, cur, e, hbg, r⟩
  · exact Or.inl h2
  · exact Or.inr ⟨g, cap, cur, e, Nat.le_trans hb hbg, r⟩
/-- Items' cells. -/
def its (l : List (Int × Int)) : List Value := l.flatMap fun x => [.int .i64 x.1, .int .i64 x.2]
theorem its_at {l : List (Int × Int)} {i : Nat} {x : Int × Int} (h : l[i]? = some x) : (its l)[i * 2]? = some (.int .i64 x.1) ∧ (its l)[i * 2 + 1]? = some (.int .i64 x.2) := by
  induction l generalizing i with
  | nil => simp at h
  | cons y l ih =>
    cases i with
    | zero =>
      simp only [List.getElem?_cons_zero, Option.some.injEq] at h
      subst h
      exact ⟨rfl, rfl⟩
    | succ i =>
      have := ih (i := i) (by simpa using h)
      have e : its (y :: l) = .int .i64 y.1 :: .int .i64 y.2 :: its l := rfl
      rw [e, show (i + 1) * 2 = i * 2 + 1 + 1 by omega]
      exact this
/-- Items as they lie. -/
def RdItems (w : World) (A : Option Addr) (l : List (Int × Int)) : Prop := RdA w A (its l)
theorem RdItems.below {w w' : World} {A : Option Addr} {l : List (Int × Int)} (h : RdItems w A l) (k : Below w.heap.size w w') : RdItems w' A l := RdA.below h k
theorem RdItems.at {w : World} {A : Option Addr} {l : List (Int × Int)} (h : RdItems w A l) {i : Nat} {x : Int × Int} (hx : l[i]? = some x) :
    ∃ b o, A = some ⟨b, o, none⟩ ∧ w.cell? ⟨b, o + i * 2, none⟩ = some (.int .i64 x.1) ∧ w.cell? ⟨b, o + i * 2 + 1, none⟩ = some (.int .i64 x.2) := by
  obtain ⟨h1, h2⟩ := its_at hx
  obtain ⟨b, o, e, c1⟩ := h _ _ h1
  obtain ⟨b2, o2, e2, c2⟩ := h _ _ h2
  rw [e] at e2
  cases e2
  exact ⟨b, o, e, c1, by rw [Nat.add_assoc]; exact c2⟩
def ItemsIn (W : World) (v : Value) : Prop := ∃ (A : Option Addr) (c : Nat) (l : List (Int × Int)), v = .slice A l.length c ∧ l.length ≤ c ∧ l.length ≤ 140737488355328 ∧ RdItems W A l
theorem infoTTP : (Try.prog.info? 23).map (fun i => (i.zero, i.size, i.bytes)) = some (some (.pointer none), 1, 8) := by kernel_rfl
theorem infoTINTSf : (Try.prog.info? 32).map (fun i => (i.zero, i.size, i.bytes)) = some (some (.slice none 0 0), 1, 24) := by kernel_rfl
/-- append(l, x) of one cell onto one's own, and where it lies then. -/
theorem app_one {w : World} {ops : Array Oper} {rest : List Oper} {o : Oper} {a : Act} {Q : Exit → Act → World → Prop} (hgd : o.guard = none) (s x : Operand) (t e : TypeId)
    (ho : o.op = .call { callee := .builtin .append, args := #[s, x], argTypes := #[t, t] }) (i : TypeInfo) (z : Value) (bytes : Nat) (ht : Try.prog.underlying t = some (.slice e)) (hi : Try.prog.info? e = some i) (hz : i.zero = some z) (hs1 : i.size = 1) (hby : i.bytes = bytes) (hzs : z.cells.size = 1) (hb24 : bytes ≤ 64)
    (base : Nat) (v : Value) (n : Nat) (xs : List Value) (hs : a.eval s = v) (hown : w.ownsRow base e 1 v n xs) (g : Nat) (y : Value) (hx : a.eval x = .slice (some ⟨g, 0, none⟩) 1 1) (hc : w.cell? ⟨g, 0, none⟩ = some y) (hy : y.oneCell' = true) (hn : n ≤ 1048576) (hbase : base ≤ w.heap.size)
    (h : ∀ v' w', w'.ownsRow base e 1 v' (n + 1) (xs ++ [y]) → w.grownBy w' v.ownBlock → (v'.ownBlock = v.ownBlock ∨ v'.ownBlock = some w.heap.size) → wpList Try.prog ops Q rest (a.put o.dst v') w') : wpList Try.prog ops Q (o :: rest) a w := by
  obtain ⟨u, w', hrun, h1, h2, _, h4⟩ := run_append_own_at (P := Try.prog) w base t o.type e i z 1 bytes ht hi hz hs1 hby hzs (by decide) v n xs hown ⟨g, 0, none⟩ 1 1 [y] rfl (fun j u hj => by
    match j, hj with
    | 0, hj => cases hj; rw [show (⟨g, 0, none⟩ : Addr).add 0 = ⟨g, 0, none⟩ from rfl]; exact hc) (fun u hu => by rw [List.mem_singleton.1 hu]; exact hy) (by unfold maxLen; omega) (by
      have : (n + 1) * bytes ≤ 1048577 * 64 := Nat.mul_le_mul (by omega) hb24
      omega) hbase
  refine wpList_plain hgd fun K hK => ?_
  unfold Oper.wp
  simp [execOp, ho, resolve, invoke, builtin, hs, hx, hrun, Result.andThen]
  exact hK _ _ (h u w' h1 h2 h4)
/-- An operation out of a region's list. -/
def nth : List Oper → Nat → Option Oper
  | [], _ => none
  | o :: _, 0 => some o
  | _ :: l, i + 1 => nth l i
theorem nth_eq : ∀ (l : List Oper) (i : Nat), l.toArray[i]? = nth l i
  | [], i => by simp [nth]
  | o :: l, 0 => by simp [nth]
  | o :: l, i + 1 => by
    have := nth_eq l i
    rw [List.getElem?_toArray] at this ⊢
    simpa [nth] using this
section
variable {P : Program} {l : List Oper} {Q : Exit → Act → World → Prop} {md : Region.Mode} {S : World → Prop}
/-- An operation that waits for nothing is taken first. -/
theorem takeH (i : Nat) {oi : Oper} {v : Value} {fuel : Nat} {listed : Array Bool} {a : Act} {w : World} (hi : nth l i = some oi) (hs : Region.noSelect l.toArray = true) (hf : Region.free md l.toArray listed i = true) (hr : (Region.ready md l.toArray listed).contains i = true)
    (hQ : ∀ c a w, Q (.panic c) (a.put oi.dst v) w → Q (.panic c) a w) (hy : YieldsIf P l.toArray S oi v a) (hS : S w) (h : wpAnyH P md l.toArray Q S fuel (listed.setIfInBounds i true) (a.put oi.dst v) w) : wpAnyH P md l.toArray Q S (fuel + 1) listed a w :=
  wpAnyH_take ((nth_eq l i).trans hi) hs hf hr hQ hy hS h
theorem oneH (i : Nat) {o : Oper} {fuel : Nat} {listed : Array Bool} {a : Act} {w : World} (hr : Region.ready md l.toArray listed = [i]) (ho : nth l i = some o)
    (h : ∀ K' : Act → World → Prop, Shut (∀ a w, S w → (S w → wpAnyH P md l.toArray Q S fuel (listed.setIfInBounds i true) a w) → K' a w) → if Region.wanted o (yielded l.toArray a.tmps) = true then Oper.wp P o a w K' Q else K' (a.put o.dst undef) w) :
    wpAnyH P md l.toArray Q S (fuel + 1) listed a w := wpAnyH_ready hr (by simp) (AllReadyH.cons ((nth_eq l i).trans ho) h AllReadyH.nil)
end
end Go.Proofs.Ytnnadhfpkplncaa


/- What a list of items reads as. No condition of its own. (The opener of a slice of structs after the how-to's page on structs.) -/
namespace Go.Proofs.Ytnnadhfpkplncaa
open Go.RowKit Go.ChangeShapes Go.WideShapes Go.Deep

section
variable {H : Type} {enc : TypeId × Value → H} {P : Program} {w : World} {base : Nat} {spare : Nat → Bool} {held : Bool}
theorem open_slice_fields {t e : TypeId} {fs : Array Field} {fuel : Nat} {cs : List Value} {x : DataW H × List MemPlace} (ht : P.underlying t = some (.slice e)) (he : P.underlying e = some (.struct fs))
    (hone : oneCellFields P fs = true) (hC : P.cellsOf e = fs.size) (h : DataW.trod enc P w base spare held fuel t cs = some x) :
    (cs = [.slice none 0 0] ∧ x = (.nil, [])) ∨
    ∃ (a : Addr) (len cap m : Nat) (D : Nat → DataW H) (Pl : Nat → List MemPlace), cs = [.slice (some a) len cap] ∧ base ≤ a.block ∧ len ≤ cap ∧ cap ≤ maxLen ∧ m = (if spare a.block then cap else len) ∧
      x = (.slice ((List.range len).map D) ((List.range (m - len)).map fun j => D (len + j)), MemPlace.row a (m * fs.size) ++ (List.range m).flatMap Pl) ∧
      ∀ i, i < m → ∃ (ys : List (DataW H × List MemPlace)) (n : Nat), D i = .agg (ys.map (·.1)) ∧ Pl i = ys.flatMap (·.2) ∧ ys.length = fs.size ∧
        ∀ (j : Nat) (f : Field), fs[j]? = some f → ∃ (v : Value) (y : DataW H × List MemPlace), w.cell? (a.add (i * fs.size + j)) = some v ∧ ys[j]? = some y ∧ DataW.trod enc P w base spare held n f.type [v] = some y := by
  rcases open_slice ht h with h0 | ⟨a, len, cap, m, n, D, Pl, hcs, hb, hl, hm, hmm, hx, hi⟩
  · exact .inl h0
  · refine .inr ⟨a, len, cap, m, D, Pl, hcs, hb, hl, hm, hmm, by rw [hC] at hx; exact hx, fun i him => ?_⟩
    obtain ⟨cs', hc, ht'⟩ := hi i him
    rw [hC] at hc
    obtain ⟨ys, n', hn', hy, hlen, hyl, hf⟩ := DataW.trod_struct he ht'
    obtain ⟨_, hcl, hat⟩ := World.cells?_some hc
    simp only [Prod.mk.injEq] at hy
    refine ⟨ys, n', hy.1, hy.2, hyl, fun j f hj => ?_⟩
    obtain ⟨ho, hk⟩ := hone_of hone j f hj
    have hjl : j < fs.size := (Array.getElem?_eq_some_iff.1 hj).1
    have hcell := hat j hjl
    have hv : cs'[j]? = some (cs'[j]'(by omega)) := List.getElem?_eq_getElem (by omega)
    have h1 := hf j f hj
    rw [ho, hk] at h1
    have hone' : (cs'.drop j).take 1 = [cs'[j]'(by omega)] := by
      rw [List.drop_eq_getElem_cons (by omega)]
      rfl
    rw [hone'] at h1
    have hys : ys[j]? = some (ys[j]'(by omega)) := List.getElem?_eq_getElem (by omega)
    refine ⟨_, _, ?_, hys, h1.trans hys⟩
    rw [← Go.Deep.add_add, hcell, hv]
end
theorem cItem : Try.prog.cellsOf 28 = 2 := by kernel_rfl
theorem bItem : Try.prog.bytesOf 28 = 16 := by kernel_rfl
theorem cell_spot {w : World} {a : Addr} {v : Value} (h : w.cell? (a.add 0) = some v) : ∃ b o, a = ⟨b, o, none⟩ ∧ b < w.heap.size := by
  have e : a.add 0 = a := by simp [Addr.add]
  rw [e] at h
  obtain ⟨b, o, s⟩ := a
  cases s with
  | none => exact ⟨b, o, rfl, cell_lt h⟩
  | some s =>
    simp only [World.cell?] at h
    split at h
    · simp at h
    · cases h
theorem its_get {l : List (Int × Int)} {i : Nat} {u : Value} (h : (its l)[i]? = some u) : ∃ x, l[i / 2]? = some x ∧ u = if i % 2 = 0 then .int .i64 x.1 else .int .i64 x.2 := by
  induction l generalizing i with
  | nil => simp [its] at h
  | cons y l ih =>
    have e : its (y :: l) = .int .i64 y.1 :: .int .i64 y.2 :: its l := rfl
    rw [e] at h
    match i, h with
    | 0, h => exact ⟨y, rfl, by simpa using h.symm⟩
    | 1, h => exact ⟨y, rfl, by simpa using h.symm⟩
    | i + 2, h =>
      obtain ⟨x, h1, h2⟩ := ih (i := i) (by simpa using h)
      exact ⟨x, by rw [show (i + 2) / 2 = i / 2 + 1 by omega]; simpa using h1, by rw [show (i + 2) % 2 = i % 2 by omega]; exact h2⟩
set_option maxRecDepth 100000 in
/-- A list of items. -/
theorem open_items {H : Type} {enc : TypeId × Value → H} {W : World} {v : Value} {d : DataW H} {p : List MemPlace} {ts : List TypeId} {ds : List (DataW H)} {b0 : Nat} {j : Nat} (hv : Value.okWide Try.prog W .any b0 22 v) (h : DataW.Trod enc Try.prog W 0 (fun _ => true) true 22 v d p)
    (hz : (DataW.weightsEach Try.prog ts ds).all (· ≤ reachBytes) = true) (ht : ts[j]? = some 22) (hd : ds[j]? = some d) : ItemsIn W v := by
  obtain ⟨a0, len, cap, rfl⟩ := okWide_slice Try.underlying22 hv
  obtain ⟨fuel, hf⟩ := h
  rcases open_slice_fields Try.underlying22 Try.underlying28 (by kernel_rfl) (by kernel_rfl) hf with ⟨hcs, _⟩ | ⟨a, len1, cap1, m, D, Pl, hcs, _, hl, hm, hmm, hx, hi⟩
  · simp [Value.cells] at hcs
    obtain ⟨rfl, rfl, rfl⟩ := hcs
    exact ⟨none, 0, [], rfl, Nat.le_refl _, by simp, fun i u hi => by simp [its] at hi⟩
  · simp [Value.cells] at hcs
    obtain ⟨rfl, rfl, rfl⟩ := hcs
    simp only [if_true] at hmm
    subst hmm
    simp only [Prod.mk.injEq] at hx
    obtain ⟨rfl, rfl⟩ := hx
    have hbnd := sized_slice hz ht hd Try.underlying22
    rw [bItem] at hbnd
    simp only [List.length_map, List.length_range, reachBytes] at hbnd
    have key : ∀ i, i < m → ∃ x : Int × Int, W.cell? (a.add (i * 2)) = some (.int .i64 x.1) ∧ W.cell? (a.add (i * 2 + 1)) = some (.int .i64 x.2) := fun i him => by
      obtain ⟨ys, n, _, _, hyl, hf⟩ := hi i him
      obtain ⟨u0, y0, c0, _, t0⟩ := hf 0 _ rfl
      obtain ⟨u1, y1, c1, _, t1⟩ := hf 1 _ rfl
      obtain ⟨z0, e0, _⟩ := DataW.trod_int Try.underlying3 t0
      obtain ⟨z1, e1, _⟩ := DataW.trod_int Try.underlying3 t1
      simp only [List.cons.injEq, and_true] at e0 e1
      subst e0 e1
      exact ⟨(z0, z1), c0, c1⟩
    obtain ⟨X, hX⟩ : ∃ X : Nat → Int × Int, ∀ i, i < m → W.cell? (a.add (i * 2)) = some (.int .i64 (X i).1) ∧ W.cell? (a.add (i * 2 + 1)) = some (.int .i64 (X i).2) := by
      refine ⟨fun i => if h : i < m then Classical.choose (key i h) else (0, 0), fun i h => ?_⟩
      simp only [dif_pos h]
      exact Classical.choose_spec (key i h)
    refine ⟨some a, m, (List.range len).map X, by simp, by simpa using hl, by simp; omega, fun i u hu => ?_⟩
    obtain ⟨x, h1, h2⟩ := its_get hu
    rw [List.getElem?_map] at h1
    have hlt : i / 2 < len := by
      rcases Nat.lt_or_ge (i / 2) len with h | h
      · exact h
      · rw [List.getElem?_eq_none (by simpa using h)] at h1; cases h1
    rw [List.getElem?_range hlt] at h1
    simp only [Option.map_some, Option.some.injEq] at h1
    subst h1
    obtain ⟨b, o, rfl, _⟩ := cell_spot (by simpa using (hX 0 (by omega)).1)
    have hc := hX (i / 2) (by omega)
    rw [add_plain, add_plain] at hc
    refine ⟨b, o, rfl, ?_⟩
    rw [h2]
    by_cases hi2 : i % 2 = 0
    · rw [if_pos hi2, ← hc.1]; congr 2; omega
    · rw [if_neg hi2, ← hc.2]; congr 2; omega
end Go.Proofs.Ytnnadhfpkplncaa


/- Volumes as they lie; the set of all of them; where a name stands. Condition: the set reads. -/
namespace Go.Proofs.Ytnnadhfpkplncaa
open Go.RowKit

theorem set_to (f g : Nat → Int) (S : Nat → Nat → Option Nat) (A : Option Addr) (z n : Int) (w : World) (h : RdR f S w A) (hg : setF f z n = g) :
    Calls Try.prog 10 #[.pointer A, .int .i64 z, .int .i64 n] w fun e w' => ∃ A', e = .returned (.pointer A') ∧ (∃ S', RdR g S' w' A') ∧ Below w.heap.size w w' := by
  subst hg
  exact (set_any f S A z n w h).mono fun e w' ⟨A', S', e1, hr, _, hb⟩ => ⟨A', e1, ⟨S', hr⟩, hb⟩
def vcells (x : Vol) : List Value := [.string ⟨x.name.toArray⟩, .int .i64 x.blocks, .int .i64 x.quota, .int .i64 x.used, .bool x.frozen, .pointer x.A]
def vols (l : List Vol) : List Value := l.flatMap vcells
theorem vols_cons (y : Vol) (l : List Vol) : vols (y :: l) = .string ⟨y.name.toArray⟩ :: .int .i64 y.blocks :: .int .i64 y.quota :: .int .i64 y.used :: .bool y.frozen :: .pointer y.A :: vols l := rfl
theorem vols_len : ∀ l : List Vol, (vols l).length = l.length * 6
  | [] => rfl
  | x :: l => by
    rw [vols_cons]
    simp only [List.length_cons, vols_len l]
    omega
theorem vols_one (l : List Vol) : ∀ u ∈ vols l, u.oneCell' = true := fun u hu => by
  obtain ⟨x, _, hu⟩ := List.mem_flatMap.1 hu
  simp only [vcells, List.mem_cons, List.not_mem_nil, or_false] at hu
  rcases hu with rfl | rfl | rfl | rfl | rfl | rfl <;> rfl
theorem vols_app (l r : List Vol) : vols (l ++ r) = vols l ++ vols r := List.flatMap_append
theorem vols_at {r : List Vol} {i : Nat} {x : Vol} (h : r[i]? = some x) : (vols r)[i * 6]? = some (.string ⟨x.name.toArray⟩) ∧ (vols r)[i * 6 + 1]? = some (.int .i64 x.blocks) ∧ (vols r)[i * 6 + 2]? = some (.int .i64 x.quota) ∧
    (vols r)[i * 6 + 3]? = some (.int .i64 x.used) ∧ (vols r)[i * 6 + 4]? = some (.bool x.frozen) ∧ (vols r)[i * 6 + 5]? = some (.pointer x.A) := by
  induction r generalizing i with
  | nil => simp at h
  | cons y r ih =>
    rw [vols_cons]
    cases i with
    | zero =>
      simp only [List.getElem?_cons_zero, Option.some.injEq] at h
      subst h
      exact ⟨rfl, rfl, rfl, rfl, rfl, rfl⟩
    | succ i =>
      have := ih (i := i) (by simpa using h)
      rw [show (i + 1) * 6 = i * 6 + 1 + 1 + 1 + 1 + 1 + 1 by omega]
      exact this
/-- The volumes lie in a slice's cells. -/
structure RdV (w : World) (A : Option Addr) (l : List Vol) (c : Nat) : Prop where
  rd : RdA w A (vols l)
  cap : l.length ≤ c
  nil : A = none → l.length = 0 ∧ c = 0
  own : w.ownsRow 0 92 6 (.slice A l.length c) l.length (vols l)
theorem RdV.below {w w' : World} {A : Option Addr} {l : List Vol} {c : Nat} (h : RdV w A l c) (k : Below w.heap.size w w') : RdV w' A l c := ⟨h.rd.below k, h.cap, h.nil, own_keepT h.own (KeepT.of_below (T := 92 + 1) k) (Nat.ne_of_lt (Nat.lt_succ_self _))⟩
theorem RdV.at {w : World} {A : Option Addr} {l : List Vol} {c : Nat} (h : RdV w A l c) {i : Nat} {x : Vol} (hx : l[i]? = some x) : ∃ b o, A = some ⟨b, o, none⟩ ∧ w.cell? ⟨b, o + i * 6, none⟩ = some (.string ⟨x.name.toArray⟩) ∧ w.cell? ⟨b, o + i * 6 + 1, none⟩ = some (.int .i64 x.blocks) ∧
    w.cell? ⟨b, o + i * 6 + 2, none⟩ = some (.int .i64 x.quota) ∧ w.cell? ⟨b, o + i * 6 + 3, none⟩ = some (.int .i64 x.used) ∧ w.cell? ⟨b, o + i * 6 + 4, none⟩ = some (.bool x.frozen) ∧ w.cell? ⟨b, o + i * 6 + 5, none⟩ = some (.pointer x.A) := by
  obtain ⟨h0, h1, h2, h3, h4, h5⟩ := vols_at hx
  obtain ⟨b, o, e, c0⟩ := h.rd _ _ h0
  obtain ⟨b1, o1, e1, c1⟩ := h.rd _ _ h1
  obtain ⟨b2, o2, e2, c2⟩ := h.rd _ _ h2
  obtain ⟨b3, o3, e3, c3⟩ := h.rd _ _ h3
  obtain ⟨b4, o4, e4, c4⟩ := h.rd _ _ h4
  obtain ⟨b5, o5, e5, c5⟩ := h.rd _ _ h5
  rw [e] at e1 e2 e3 e4 e5
  cases e1
  cases e2
  cases e3
  cases e4
  cases e5
  exact ⟨b, o, e, c0, by rw [Nat.add_assoc]; exact c1, by rw [Nat.add_assoc]; exact c2, by rw [Nat.add_assoc]; exact c3, by rw [Nat.add_assoc]; exact c4, by rw [Nat.add_assoc]; exact c5⟩
/-- The trees of all volumes read. -/
def Trees (w : World) (l : List Vol) : Prop := ∀ x ∈ l, ∃ S, RdR x.f S w x.A
theorem Trees.below {w w' : World} {l : List Vol} (h : Trees w l) (k : Below w.heap.size w w') : Trees w' l := fun x hx => by
  obtain ⟨S, h⟩ := h x hx
  exact ⟨S, h.below k⟩
/-- A set: a nil one, or a box with the slice of its volumes. -/
def RdS (w : World) (s : Option Addr) (l : List Vol) : Prop :=
  Trees w l ∧ ((s = none ∧ l = []) ∨ ∃ b A c, s = some ⟨b, 0, none⟩ ∧ w.heap[b]? = some (.cells #[.slice A l.length c] 104 (0, 0)) ∧ RdV w A l c)
theorem RdS.below {w w' : World} {s : Option Addr} {l : List Vol} (h : RdS w s l) (k : Below w.heap.size w w') : RdS w' s l := by
  refine ⟨h.1.below k, ?_⟩
  rcases h.2 with h | ⟨b, A, c, e, hb, hr⟩
  · exact Or.inl h
  · exact Or.inr ⟨b, A, c, e, (k.block b (block_lt hb)).trans hb, hr.below k⟩
theorem RdV.empty (w : World) : RdV w none [] 0 := ⟨fun i u hi => by simp [vols] at hi, Nat.le_refl _, fun _ => ⟨rfl, rfl⟩, World.ownsRow_nil _ _ _ _⟩
set_option maxHeartbeats 800000 in
theorem vall_any (s : Option Addr) (l : List Vol) (w : World) (h : RdS w s l) : Calls Try.prog 55 #[.pointer s] w fun e w' => ∃ A c, e = .returned (.slice A l.length c) ∧ RdV w A l c ∧ w' = w := by
  rcases h.2 with ⟨rfl, rfl⟩ | ⟨b, A, c, rfl, hb, hr⟩
  · go_enter Try.func55, Try.ntmps55
    go_wp2
    go_ret
    exact ⟨none, 0, rfl, RdV.empty w, rfl⟩
  · have hc : w.cell? ⟨b, 0, none⟩ = some (.slice A l.length c) := block_cell hb
    have HR := Lib.hid hr
    obtain ⟨n, hn⟩ : ∃ n, n = l.length := ⟨_, rfl⟩
    rw [← hn] at hc
    have HN := Lib.hid hn
    clear hr hb hn h
    go_enter Try.func55, Try.ntmps55
    go_wp2
    go_ret
    exact ⟨A, c, by rw [← HN.out]; rfl, HR.out, rfl⟩
theorem scmp_any (a b : List UInt8) (w : World) : Calls Try.prog 71 #[.string ⟨a.toArray⟩, .string ⟨b.toArray⟩] w fun e w' => e = .returned (.int .i64 (cmpB a b)) ∧ w' = w :=
  Any.strings_Compare (P := Try.prog) Try.lays106 ⟨a.toArray⟩ ⟨b.toArray⟩ w
set_option maxHeartbeats 800000 in
theorem vcmp_any (x : Vol) (t : List UInt8) (w : World) : Calls Try.prog 70 #[.agg #[.string ⟨x.name.toArray⟩, .int .i64 x.blocks, .int .i64 x.quota, .int .i64 x.used, .bool x.frozen, .pointer x.A], .string ⟨t.toArray⟩] w fun e w' => e = .returned (.int .i64 (cmpB x.name t)) ∧ Below w.heap.size w w' := by
  obtain ⟨nm, bl, qu, us, fr, A, f⟩ := x
  go_enter Try.func70, Try.ntmps70
  go_wp2_with fail
  refine (scmp_any nm t _).mono ?_
  rintro e w' ⟨rfl, rfl⟩
  go_wp2_with fail
  go_ret
  exact ⟨rfl, (Below.refl _ _).alloc (Nat.le_refl _) _⟩
end Go.Proofs.Ytnnadhfpkplncaa

