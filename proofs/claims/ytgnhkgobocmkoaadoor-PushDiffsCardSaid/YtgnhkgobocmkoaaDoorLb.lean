/- Contracts of package push's kinds and fields, and of what Check hands to each. -/
import Derived.Test.YtgnhkgobocmkoaaDoorLa
namespace Go.Proofs.YtgnhkgobocmkoaaDoor
open Go.RowKit Go.Proofs.YtgnhkgobocmkoaaDoorW.PrintWords

theorem known_any (k : Int) (w : World) :
    Calls Tryd.prog 39 #[.int .i64 k] w fun e w' => e = .returned (.bool (decide (1 ≤ k) && decide (k ≤ 5))) ∧ w = w' := by
  by_cases h1 : 1 ≤ k
  · by_cases h2 : k ≤ 5
    all_goals
      go_enter Tryd.func39, Tryd.ntmps39
      go_wp2
      go_ret
      simp [h1, h2]
  · go_enter Tryd.func39, Tryd.ntmps39
    go_wp2
    go_ret
    simp; omega

theorem kinds_any (w : World) :
    Calls Tryd.prog 40 #[] w fun e w' => e = .returned (.agg #[.int .i64 0, .int .i64 73, .int .i64 187, .int .i64 9, .int .i64 5, .int .i64 5]) ∧ Below w.heap.size w w' := by
  go_enter Tryd.func40, Tryd.ntmps40
  go_wp2
  refine bodyPost_ret (v := .agg #[.int .i64 0, .int .i64 73, .int .i64 187, .int .i64 9, .int .i64 5, .int .i64 5]) (by simp [results, Tryd.results40, go_sem]) rfl ⟨rfl, ?_⟩
  exact (Below.refl _ _).alloc (Nat.le_refl _) _

/-- What fields lays: six times a bit, a pointer into the packet, the least and the most. -/
def fieldCells (g : Nat) (least frm : Int) : Array Value := #[.int .i64 1, .pointer (some ⟨g, 1, none⟩), .int .i64 least, .int .i64 9007199254740991, .int .i64 2, .pointer (some ⟨g, 2, none⟩), .int .i64 1, .int .i64 frm, .int .i64 4, .pointer (some ⟨g, 3, none⟩), .int .i64 0, .int .i64 6, .int .i64 8, .pointer (some ⟨g, 4, none⟩), .int .i64 0, .int .i64 9007199254740991, .int .i64 16, .pointer (some ⟨g, 5, none⟩), .int .i64 0, .int .i64 65536, .int .i64 32, .pointer (some ⟨g, 6, none⟩), .int .i64 0, .int .i64 65536]
def leastOf (kind : Int) : Int := if kind = 4 ∨ kind = 5 then 0 else if kind = 2 then 2 else 1
def fromOf (kind ver : Int) : Int := if kind = 2 then wrap64 (ver - 1) else 0
/-- What a call of fields leaves. -/
def FieldsLeft (w w' : World) (g : Nat) (least frm : Int) : Prop := w'.heap[w.heap.size]? = some (.cells (fieldCells g least frm) 73 (0, 0)) ∧ w'.heap.size = w.heap.size + 1 ∧ Below w.heap.size w w'
theorem FieldsLeft.mk (w : World) (g : Nat) (least frm : Int) (n : Nat) : FieldsLeft w ((w.alloc (.cells (fieldCells g least frm) 73)).drewN n) g least frm :=
  ⟨heap_alloc_new w _, by simp, pw_below_drewN ((Below.refl _ _).alloc (Nat.le_refl _) _) n⟩

set_option maxRecDepth 100000 in
set_option maxHeartbeats 1000000 in
theorem fields_any (w : World) (g : Nat) (kind ver : Int) (c0 : w.cell? ⟨g, 0, none⟩ = some (.int .i64 kind)) (c1 : w.cell? ⟨g, 1, none⟩ = some (.int .i64 ver)) :
    Calls Tryd.prog 42 #[.pointer (some ⟨g, 0, none⟩)] w fun e w' => e = .returned (.slice (some ⟨w.heap.size, 0, none⟩) 6 6) ∧ FieldsLeft w w' g (leastOf kind) (fromOf kind ver) := by
  by_cases k4 : kind = 4
  · have hl : leastOf kind = 0 := by unfold leastOf; rw [if_pos (.inl k4)]
    have hf : fromOf kind ver = 0 := by unfold fromOf; rw [if_neg (by omega)]
    rw [hl, hf]
    have k4' : (kind == 4) = true := by simpa using k4
    clear k4 hl hf
    go_enter Tryd.func42, Tryd.ntmps42
    go_wp2
    go_still_tail 26, (by kernel_rfl)
    change wpList _ _ _ _ _ w.drew
    go_wp2
    go_ret
    exact ⟨rfl, FieldsLeft.mk w g _ _ 1⟩
  by_cases k5 : kind = 5
  · have hl : leastOf kind = 0 := by unfold leastOf; rw [if_pos (.inr k5)]
    have hf : fromOf kind ver = 0 := by unfold fromOf; rw [if_neg (by omega)]
    rw [hl, hf]
    have k4' : (kind == 4) = false := by simpa using k4
    have k5' : (kind == 5) = true := by simpa using k5
    clear k4 k5 hl hf
    go_enter Tryd.func42, Tryd.ntmps42
    go_wp2
    go_still_tail 26, (by kernel_rfl)
    change wpList _ _ _ _ _ w.drew
    go_wp2
    go_ret
    exact ⟨rfl, FieldsLeft.mk w g _ _ 1⟩
  by_cases k2 : kind = 2
  · have hl : leastOf kind = 2 := by unfold leastOf; rw [if_neg (by omega), if_pos k2]
    have hf : fromOf kind ver = wrap64 (ver - 1) := by unfold fromOf; rw [if_pos k2]
    rw [hl, hf]
    have k4' : (kind == 4) = false := by simpa using k4
    have k5' : (kind == 5) = false := by simpa using k5
    have k2' : (kind == 2) = true := by simpa using k2
    clear k4 k5 k2 hl hf
    go_enter Tryd.func42, Tryd.ntmps42
    go_wp2
    go_quiet (fail)
    go_wp2
    go_still_tail 26, (by kernel_rfl)
    change wpList _ _ _ _ _ (w.drewN nq).drew
    go_wp2
    go_ret
    exact ⟨rfl, FieldsLeft.mk w g _ _ (nq + 1)⟩
  · have hl : leastOf kind = 1 := by unfold leastOf; rw [if_neg (by omega), if_neg k2]
    have hf : fromOf kind ver = 0 := by unfold fromOf; rw [if_neg k2]
    rw [hl, hf]
    have k4' : (kind == 4) = false := by simpa using k4
    have k5' : (kind == 5) = false := by simpa using k5
    have k2' : (kind == 2) = false := by simpa using k2
    clear k4 k5 k2 hl hf
    go_enter Tryd.func42, Tryd.ntmps42
    go_wp2
    go_still_tail 26, (by kernel_rfl)
    change wpList _ _ _ _ _ w.drew
    go_wp2
    go_ret
    exact ⟨rfl, FieldsLeft.mk w g _ _ 1⟩
end Go.Proofs.YtgnhkgobocmkoaaDoor
