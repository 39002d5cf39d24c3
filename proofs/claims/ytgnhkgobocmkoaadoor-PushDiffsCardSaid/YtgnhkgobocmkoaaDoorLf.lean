/- Contracts of push.row. -/
import Derived.Test.YtgnhkgobocmkoaaDoorLe
namespace Go.Proofs.YtgnhkgobocmkoaaDoor
open Go.RowKit Go.Proofs.YtgnhkgobocmkoaaDoorW.PrintWords

/-- The byte at place k of a number of so many bytes. -/
def beAt (n : Int) (size k : Nat) : Int := n / 2 ^ (8 * (size - 1 - k)) % 256
def be (n : Int) (size : Nat) : List Int := (List.range size).map (beAt n size)
theorem be_length (n : Int) (size : Nat) : (be n size).length = size := by simp [be]

theorem infoU8 : (Tryd.prog.info? 5).map (fun i => (i.zero, i.size, i.bytes)) = some (some (.int .u8 0), 1, 1) := by kernel_rfl
theorem infoStr : (Tryd.prog.info? 9).map (fun i => (i.zero, i.size, i.bytes)) = some (some (.string ⟨#[]⟩), 1, 16) := by kernel_rfl

set_option maxRecDepth 100000 in
set_option maxHeartbeats 2000000 in
theorem row_any (w : World) (base : Nat) (v : Value) (l : List Int) (n : Int) (size : Nat) (hb : base ≤ w.heap.size) (hr : w.ownsRow base 5 1 v l.length (nums .u8 l)) (hs : size ≤ 8) (hl : l.length ≤ 1000000000) :
    Calls Tryd.prog 47 #[v, .int .i64 n, .int .i64 size] w fun e w' => ∃ v', e = .returned v' ∧ Grew w w' base 5 1 v v' (l ++ be n size).length (nums .u8 (l ++ be n size)) := by
  go_enter Tryd.func47, Tryd.ntmps47
  go_wp2
  go_loopg [0, 7, 9] size (fun gg s0 s7 s9 wr => ∃ k : Nat, k ≤ size ∧ size - k ≤ gg ∧ s9 = .int .i64 k ∧ Aside0 (Grew w wr base 5 1 v s0 (l.length + k) (nums .u8 (l ++ (be n size).take k))))
  case atStart => exact ⟨0, by omega, by omega, rfl, ⟨by simpa using Grew.refl hr⟩⟩
  case round =>
    obtain ⟨k, hk, hg, rfl, HG⟩ := hrel
    have HS := Aside0.mk hs
    have HL := Aside0.mk hl
    clear hr hs hl
    by_cases hlt : k < size
    · have hltz : (k : Int) < (size : Int) := by omega
      have hltz' : (size : Int) ≤ 8 := by have := HS.out; omega
      have HB := Aside0.mk (show base ≤ wr.heap.size from Nat.le_trans hb HG.out.gr.size)
      go_wp2_with (at_builtin; refine wpl_append rfl (.tmp 12) (.tmp 21) 38 5 (.int .u8 0) 1 1 rfl Tryd.underlying38 infoU8 rfl (by omega) (by omega) base _ _ _ [.int .u8 (beAt n size k)] rfl rfl rfl (by simp [Value.oneCell']) HG.out.own HB.out (by have := HL.out; omega) ?_; intro v1 w1 HG1; have HG2 := Aside0.mk (HG.out.trans HG1); clear HG1)
      go_roundg (size - (k + 1))
      case measure => omega
      case rel =>
        refine ⟨k + 1, by omega, by omega, by go_num, ⟨?_⟩⟩
        have e : nums .u8 (l ++ (be n size).take k) ++ [Value.int .u8 (beAt n size k)] = nums .u8 (l ++ (be n size).take (k + 1)) := by
          have : (be n size).take (k + 1) = (be n size).take k ++ [beAt n size k] := by
            rw [List.take_succ_eq_append_getElem (by rw [be_length]; exact hlt)]
            simp [be]
          rw [this, ← List.append_assoc, nums_append (xs := l ++ (be n size).take k)]
          rfl
        have := HG2.out
        rw [e] at this
        exact this
    · have hltz : ¬ (k : Int) < (size : Int) := by omega
      have : k = size := by omega
      subst this
      go_wp2
      go_ret
      refine ⟨_, rfl, ?_⟩
      have := HG.out
      rw [List.take_of_length_le (by rw [be_length]; omega)] at this
      simp only [be_length] at this ⊢
      exact this
end Go.Proofs.YtgnhkgobocmkoaaDoor
