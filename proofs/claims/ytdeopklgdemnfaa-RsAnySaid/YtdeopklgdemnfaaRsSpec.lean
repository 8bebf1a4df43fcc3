/- What a code's calls answer, as functions on lists; the program's calls by them. Condition: the numbers are such as a code can have, no part is too long. -/
import Derived.Test.YtdeopklgdemnfaaRsJoin
namespace Go.Proofs.Ytdeopklgdemnfaa
open Go.RowKit Gf Rs

def errV (n : Int) : Value := if n = 0 then .nilIface else errN n
/-- Lists and an error's number, from the program. -/
def Res (fb : Nat) (w : World) (r : List (List F) × Int) (e : Ending) (w' : World) : Prop := ∃ h, e = .returned (.tuple #[h, errV r.2]) ∧ HdM fb w' h r.1 ∧ Keep fb w w'
def Res1 (fb : Nat) (w : World) (r : List F × Int) (e : Ending) (w' : World) : Prop := ∃ h, e = .returned (.tuple #[h, errV r.2]) ∧ Hd fb w' h r.1 ∧ Keep fb w w'
/-- .. from the reference. -/
def RRes (w : World) (r : List (List F) × Int) (e : Ending) (w' : World) : Prop := ∃ h, e = .returned (.tuple #[h, .int .i64 r.2]) ∧ (∀ fb, fb < w.heap.size → HdM fb w' h r.1) ∧ Below w.heap.size w w'
def RRes1 (w : World) (r : List F × Int) (e : Ending) (w' : World) : Prop := ∃ h, e = .returned (.tuple #[h, .int .i64 r.2]) ∧ (∀ fb, fb < w.heap.size → Hd fb w' h r.1) ∧ Below w.heap.size w w'
theorem HdM.nil (fb : Nat) (w : World) : HdM fb w (.slice none 0 0) [] := ⟨none, 0, rfl, Nat.le_refl _, [], rfl, fun i v hi => by simp at hi, fun i h l hi => by simp at hi⟩
theorem Hd.nil (fb : Nat) (w : World) : Hd fb w (.slice none 0 0) [] := ⟨none, 0, rfl, Nat.le_refl _, fun i v hi => by simp at hi⟩
theorem Res.no {fb : Nat} {w w' : World} {r : List (List F) × Int} {e : Ending} {n : Int} (hr : r = ([], n)) (hn : n ≠ 0) (he : e = .returned (.tuple #[.slice none 0 0, errN n])) (hk : Keep fb w w') : Res fb w r e w' := by
  subst hr
  exact ⟨_, by rw [he]; simp [errV, hn], HdM.nil _ _, hk⟩
theorem Res1.no {fb : Nat} {w w' : World} {r : List F × Int} {e : Ending} {n : Int} (hr : r = ([], n)) (hn : n ≠ 0) (he : e = .returned (.tuple #[.slice none 0 0, errN n])) (hk : Keep fb w w') : Res1 fb w r e w' := by
  subst hr
  exact ⟨_, by rw [he]; simp [errV, hn], Hd.nil _ _, hk⟩
theorem RRes.no {w w' : World} {r : List (List F) × Int} {e : Ending} {n : Int} (hr : r = ([], n)) (he : e = .returned (.tuple #[.slice none 0 0, .int .i64 n])) (hk : Below w.heap.size w w') : RRes w r e w' := by
  subst hr
  exact ⟨_, he, fun _ _ => HdM.nil _ _, hk⟩
theorem RRes1.no {w w' : World} {r : List F × Int} {e : Ending} {n : Int} (hr : r = ([], n)) (he : e = .returned (.tuple #[.slice none 0 0, .int .i64 n])) (hk : Below w.heap.size w w') : RRes1 w r e w' := by
  subst hr
  exact ⟨_, he, fun _ _ => Hd.nil _ _, hk⟩
theorem Res.mat {fb N : Nat} {w w' : World} {r : List (List F) × Int} {ls : List (List F)} {e : Ending} (hr : r = (ls, 0)) (hl : ls.length = N) (h : MatPost fb w N ls e w') : Res fb w r e w' := by
  subst hr
  subst hl
  obtain ⟨g, e1, _, e3, e4⟩ := h
  exact ⟨_, by rw [e1]; rfl, ⟨_, _, rfl, Nat.le_refl _, e3⟩, e4⟩
/-- What Encode answers. -/
def encS (K M : Nat) (ls : List (List F)) : List (List F) × Int :=
  if ls.length = K then (match evF (-1) (evZ ls (List.replicate K true)) with
    | none => ([], 2)
    | some n => (outF K (K + M) ls n.toNat, 0)) else ([], 1)
theorem encode_S (cb K M fb : Nat) (hK : 1 ≤ K) (hs0 : K + M ≤ 32) (A1 : Option Addr) (c1 : Nat) (ls : List (List F)) (hlen : ∀ (i : Nat) (l : List F), ls[i]? = some l → l.length ≤ 1048576) (w : World) (h : CodeAt cb K M fb w) (h1 : RdM fb w A1 ls) :
    Calls Try.prog 16 #[.pointer (some ⟨cb, 0, none⟩), .slice A1 ls.length c1] w (Res fb w (encS K M ls)) := by
  by_cases hl : ls.length = K
  · have := encode_any cb K M fb hK hs0 A1 c1 ls hl hlen w h h1
    rw [← hl] at this
    rw [← hl]
    refine this.mono fun e w' hp => ?_
    unfold EncPost at hp
    rw [hl] at hp ⊢
    split at hp
    · rename_i n hn
      exact Res.mat (by unfold encS; rw [if_pos hl, hn]) (outF_length _ _ _ _) hp
    · rename_i hn
      exact Res.no (by unfold encS; rw [if_pos hl, hn]) (by decide) hp.1 hp.2
  · refine (encode_arg cb K M fb A1 c1 ls.length hl w h).mono fun e w' hp => ?_
    obtain ⟨hp, rfl⟩ := hp
    exact Res.no (by unfold encS; rw [if_neg hl]) (by decide) hp (Keep.refl _ _)
/-- What Decode answers. -/
def decS (K M : Nat) (ls : List (List F)) (ts : List Bool) : List (List F) × Int :=
  if ls.length = K + M ∧ ts.length = K + M then (match evF (-1) (evZ ls ts) with
    | none => ([], 2)
    | some n => if (pick K ts (K + M)).length < K then ([], 20) else (match minv K (mf ((pick K ts (K + M)).map (rowF K))) with
      | none => ([], 14)
      | some X => (outF K (K + M) (dataF K (sq K X) ((pick K ts (K + M)).map fun i => ls.getD i []) n.toNat) n.toNat, 0))) else ([], 1)
theorem decode_S (cb K M fb : Nat) (hK : 1 ≤ K) (hs0 : K + M ≤ 32) (A1 A2 : Option Addr) (c1 c2 : Nat) (ls : List (List F)) (ts : List Bool) (hlen : ∀ (i : Nat) (l : List F), ls[i]? = some l → l.length ≤ 1048576) (w : World) (h : CodeAt cb K M fb w) (h1 : RdM fb w A1 ls) (h2 : RdV fb w A2 (ts.map Value.bool)) :
    Calls Try.prog 18 #[.pointer (some ⟨cb, 0, none⟩), .slice A1 ls.length c1, .slice A2 ts.length c2] w (Res fb w (decS K M ls ts)) := by
  by_cases hl : ls.length = K + M ∧ ts.length = K + M
  · refine (decode_any cb K M fb hK hs0 A1 A2 c1 c2 ls ts hl.1 hl.2 hlen w h h1 h2).mono fun e w' hp => ?_
    unfold DecPost at hp
    split at hp
    · rename_i hn
      exact Res.no (by unfold decS; rw [if_pos hl, hn]) (by decide) hp.1 hp.2
    · rename_i n hn
      split at hp
      · rename_i hlt
        exact Res.no (by unfold decS; rw [if_pos hl, hn]; simp only; rw [if_pos hlt]) (by decide) hp.1 hp.2
      · rename_i hlt
        split at hp
        · rename_i hm
          exact Res.no (by unfold decS; rw [if_pos hl, hn]; simp only; rw [if_neg hlt, hm]) (by decide) hp.1 hp.2
        · rename_i X hm
          exact Res.mat (by unfold decS; rw [if_pos hl, hn]; simp only; rw [if_neg hlt, hm]) (outF_length _ _ _ _) hp
  · refine (decode_arg cb K M fb hs0 A1 A2 ls.length c1 ts.length c2 (by omega) w h).mono fun e w' hp => ?_
    obtain ⟨hp, rfl⟩ := hp
    exact Res.no (by unfold decS; rw [if_neg hl]) (by decide) hp (Keep.refl _ _)
open Classical in
/-- What Invert answers. -/
noncomputable def invS (m : List (List F)) : List (List F) × Int :=
  if Sq m then (match minv m.length (mf m) with
    | none => ([], 14)
    | some X => (sq m.length X, 0)) else ([], 1)
theorem Keep.newField {w w' : World} (h : Keep w.heap.size (w.alloc (.cells freshF 66)) w') : Below w.heap.size w w' :=
  ((Below.refl _ w).alloc (Nat.le_refl _) _).trans (h.below (Nat.le_refl _) (by simp))
/-- What Join answers. -/
def joinS (K : Nat) (ls : List (List F)) (m : Int) : List F × Int :=
  if ls.length < K ∨ m < 0 then ([], 1) else if (catF K ls).length < m.toNat then ([], 2) else ((catF K ls).take m.toNat, 0)
theorem split_S (cb K M fb : Nat) (hK : 1 ≤ K) (hK2 : K ≤ 32) (A : Option Addr) (c : Nat) (l : List F) (hl : l.length ≤ 1048576) (hc : l.length ≤ c) (w : World) (h : CodeAt cb K M fb w) (h1 : RdB fb w A l) :
    Calls Try.prog 17 #[.pointer (some ⟨cb, 0, none⟩), .slice A l.length c] w fun e w' => ∃ h, e = .returned h ∧ HdM fb w' h (splitF K l) ∧ Keep fb w w' :=
  (split_any cb K M fb hK hK2 A c l hl hc w h h1).mono fun _ _ ⟨g, e1, _, e3, e4⟩ => ⟨_, e1, ⟨_, _, by rw [splitF_length], by rw [splitF_length]; exact Nat.le_refl _, e3⟩, e4⟩
end Go.Proofs.Ytdeopklgdemnfaa
