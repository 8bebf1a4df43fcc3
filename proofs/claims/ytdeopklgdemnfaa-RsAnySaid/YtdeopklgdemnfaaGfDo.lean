/- sync.Once at the field: its tables are made at the first call, and left alone at each later one. Condition: the field's block holds the fresh cells or the made ones. -/
import Derived.Test.YtdeopklgdemnfaaGfTab
import Derived.Test.YtdeopklgdemnfaaGfNew
namespace Go.Proofs.Ytdeopklgdemnfaa
open Go.RowKit Gf

def madeF : Array Value := tabs (.int .u32 1) (.int .i32 0) (.int .u32 0) 255
def midF (x0 x1 : Int) (i : Nat) : Array Value := tabs (.int .u32 x0) (.int .i32 x1) (.int .u32 0) i

set_option maxRecDepth 100000 in
set_option maxHeartbeats 1600000 in
theorem slow_any (b : Nat) (w : World) (hb : w.heap[b]? = some (.cells freshF 66 (0, 0))) :
    Calls Try.prog 34 #[.pointer (some ⟨b, 0, none⟩), .func (.func 27) #[.pointer (some ⟨b, 0, none⟩)] #[]] w fun e w' => e = .returned (.tuple #[]) ∧ At b madeF 66 w w' := by
  have a0 : At b (midF 0 0 0) 66 w w := At.refl hb
  have z0 : w.cell? ⟨b, 0 + 1, none⟩ = some (.int .i32 0) := (a0.cell 1).trans (tabs_head _ _ _ _).2.1
  have y0 : w.frozen? ⟨b, 0 + 1, none⟩ = false := a0.frozen 1
  have a1 : At b (midF 0 1 0) 66 w (w.setCell ⟨b, 0 + 1, none⟩ (.int .i32 1)) := by
    have := a0.set 1 (.int .i32 1)
    unfold midF at this; rw [tabs_set1] at this; exact this
  have hl := run_call_load (P := Try.prog) Try.func35 (by kernel_rfl) (by kernel_rfl) (by kernel_rfl) .u32 (by kernel_rfl) (w := w.setCell ⟨b, 0 + 1, none⟩ (.int .i32 1)) (a := ⟨b, 0, none⟩) (x := 0) ((a1.cell 0).trans (tabs_head _ _ _ _).1)
  have hnot : ∀ (x : Bool) (w : World), (Op.unary .not (.bool x)).run Try.prog w = .ok (.bool (!x)) w := fun _ _ => rfl
  go_enter_defers Try.func34, Try.ntmps34
  go_wp2_with (first | (go_at_call 36; refine (lock_free ⟨b, 0 + 1, none⟩ _ z0 y0).mono ?_; rintro e w' ⟨rfl, rfl⟩) | (go_at_call 33; go_in))
  refine (tables_any b (.int .u32 0) (.int .i32 1) (.int .u32 0) _ a1.here).mono ?_
  rintro e w2 ⟨rfl, a2⟩
  go_wp2
  have a3 := a1.trans a2
  refine leaves_cons (f := 38) (args := #[.pointer (some ⟨b, 0, none⟩), .bool true]) (by simp) (by simp [go_sem]) ?_
  refine (store_deferred ⟨b, 0, none⟩ (.int .u32 0) .returning _ ((a3.cell 0).trans (tabs_head _ _ _ _).1) (a3.frozen 0)).mono ?_
  rintro e u' w'' ⟨rfl, rfl, rfl⟩
  have a4 := a3.drew.set 0 (.int .u32 1)
  rw [tabs_set0] at a4
  refine leaves_cons (f := 37) (args := #[.pointer (some ⟨b, 1, none⟩)]) (by simp [settle]) (by simp [go_sem]) ?_
  refine (unlock_deferred ⟨b, 1, none⟩ _ _ ((a4.cell 1).trans (tabs_head _ _ _ _).2.1) (a4.frozen 1)).mono ?_
  rintro e u' w'' ⟨rfl, rfl, rfl⟩
  have a5 := a4.set 1 (.int .i32 0)
  rw [tabs_set1] at a5
  simp [Leaves, settle, results, Try.results34]
  exact a5

set_option maxRecDepth 100000 in
set_option maxHeartbeats 1600000 in
theorem do_first (b : Nat) (w : World) (hb : w.heap[b]? = some (.cells freshF 66 (0, 0))) :
    Calls Try.prog 26 #[.pointer (some ⟨b, 0, none⟩), .func (.func 27) #[.pointer (some ⟨b, 0, none⟩)] #[]] w fun e w' => e = .returned (.tuple #[]) ∧ At b madeF 66 w w' := by
  have a0 : At b (midF 0 0 0) 66 w w := At.refl hb
  have hl := run_call_load (P := Try.prog) Try.func35 (by kernel_rfl) (by kernel_rfl) (by kernel_rfl) .u32 (by kernel_rfl) (w := w) (a := ⟨b, 0, none⟩) (x := 0) ((a0.cell 0).trans (tabs_head _ _ _ _).1)
  have hnot : ∀ (x : Bool) (w : World), (Op.unary .not (.bool x)).run Try.prog w = .ok (.bool (!x)) w := fun _ _ => rfl
  go_enter Try.func26, Try.ntmps26
  go_wp2_with (first | (go_at_call 34; refine (slow_any b _ hb).mono ?_; rintro e w' ⟨rfl, ha⟩) | (go_at_call 33; go_in))
  go_end0
  exact ⟨rfl, ha⟩

set_option maxRecDepth 100000 in
theorem do_done (b : Nat) (fv : Value) (w : World) (hb : w.heap[b]? = some (.cells madeF 66 (0, 0))) :
    Calls Try.prog 26 #[.pointer (some ⟨b, 0, none⟩), fv] w fun e w' => e = .returned (.tuple #[]) ∧ w = w' := by
  have a0 : At b madeF 66 w w := At.refl hb
  have hl := run_call_load (P := Try.prog) Try.func35 (by kernel_rfl) (by kernel_rfl) (by kernel_rfl) .u32 (by kernel_rfl) (w := w) (a := ⟨b, 0, none⟩) (x := 1) ((a0.cell 0).trans (tabs_head _ _ _ _).1)
  have hnot : ∀ (x : Bool) (w : World), (Op.unary .not (.bool x)).run Try.prog w = .ok (.bool (!x)) w := fun _ _ => rfl
  go_enter Try.func26, Try.ntmps26
  go_wp2
  go_end0
  exact ⟨rfl, rfl⟩

/-- The field's block: fresh, or made. -/
def FieldIn (b : Nat) (w : World) : Prop := w.heap[b]? = some (.cells freshF 66 (0, 0)) ∨ w.heap[b]? = some (.cells madeF 66 (0, 0))

end Go.Proofs.Ytdeopklgdemnfaa
