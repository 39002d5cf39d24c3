/- Contract of text.Lines. -/
import Derived.Test.YtgnhkgobocmkoaaDoorLl
import Derived.Test.YtgnhkgobocmkoaaDoorShelf
namespace Go.Proofs.YtgnhkgobocmkoaaDoor
open Go.RowKit Go.Proofs.YtgnhkgobocmkoaaDoorW.PrintWords

def nlB : ByteArray := ⟨#[10]⟩
def splitL (s : ByteArray) : List ByteArray := Lib.splitB nlB 0 (Lib.countB s nlB) s
theorem splitL_len (s : ByteArray) : (splitL s).length = Lib.countB s nlB + 1 := Lib.splitB_all nlB (by decide) 0 _ s rfl
/-- The lines of a text, and the error. -/
def linesOf (s : ByteArray) : List ByteArray × Int :=
  if 65536 < s.size then ([], 5)
  else if (rdOf ByteArray.empty (splitL s) (Lib.countB s nlB)).toList.isEmpty then ((splitL s).take (Lib.countB s nlB), 0) else (splitL s, 0)
def LinesPost (w : World) (t : List ByteArray × Int) (e' : Ending) (w' : World) : Prop := ∃ A c, e' = .returned (.tuple #[.slice A t.1.length c, .int .i64 t.2]) ∧ w'.ownsRow w.heap.size 9 1 (.slice A t.1.length c) t.1.length (encs Value.string t.1) ∧ Below w.heap.size w w'

def SplitPost (w : World) (n : Nat) (xs : List ByteArray) (e : Ending) (w' : World) : Prop := ∃ ad, e = .returned (.slice (some ad) (n + 1) (n + 1)) ∧ w'.ownsRow w.heap.size 9 1 (.slice (some ad) (n + 1) (n + 1)) (n + 1) (encs Value.string xs) ∧ Below w.heap.size w w'
theorem split_any (w : World) (s : ByteArray) (m : Int) (hs : s.size ≤ 65536) (hm : w.cell? ⟨0, 0, none⟩ = some (.int .i64 m)) :
    Calls Tryd.prog 60 #[.string s, .string ⟨#[10]⟩] w (SplitPost w (Lib.countB s nlB) (splitL s)) := by
  refine (Tryd.strings_Split s ⟨#[10]⟩ m w (by omega) hm (by decide)).mono ?_
  rintro e w' ⟨rfl, rfl⟩
  have hl := splitL_len s
  have hc := Lib.countB_le nlB (by decide) s.size s (Nat.le_refl _)
  refine ⟨_, rfl, ⟨by rw [encs_length, hl]; simp, .inr ⟨_, _, _, rfl, Nat.le_refl _, heap_alloc_new _ _, Nat.le_refl _, ?_, ?_, ?_⟩⟩, (Below.refl _ _).alloc (Nat.le_refl _) _⟩
  · unfold maxLen nlB at *; omega
  · have : (splitL s).length = Lib.countB s nlB + 1 := hl
    simpa [splitL, nlB] using this
  · rw [List.take_of_length_le]
    · rfl
    · have : (splitL s).length = Lib.countB s nlB + 1 := hl
      simpa [splitL, nlB] using Nat.le_of_eq this

set_option maxRecDepth 100000 in
set_option maxHeartbeats 2000000 in
theorem lines_any (w : World) (s : ByteArray) (m : Int) (hs : s.size < 4294967281) (hm : w.cell? ⟨0, 0, none⟩ = some (.int .i64 m)) :
    Calls Tryd.prog 26 #[.string s] w (LinesPost w (linesOf s)) := by
  generalize hT : linesOf s = T
  have HT := Aside0.mk hT
  unfold linesOf at HT
  have hlen := splitL_len s
  have hcn := Lib.countB_le nlB (by decide) s.size s (Nat.le_refl _)
  clear hT
  have hz : (s.size : Int) ≤ 9223372036854775807 := by omega
  by_cases hl : 65536 < s.size
  · have hT2 := HT.out
    rw [if_pos hl] at hT2
    subst hT2
    clear HT
    have hlz : (65536 : Int) < (s.size : Int) := by omega
    go_enter Tryd.func26, Tryd.ntmps26
    go_wp2
    go_ret2
    exact ⟨none, 0, rfl, own_nil _ _ _ _, Below.refl _ _⟩
  · have hT2 := HT.out
    rw [if_neg hl] at hT2
    have HT2 := Aside0.mk hT2
    clear HT hT2
    have hlz : ¬ (65536 : Int) < (s.size : Int) := by omega
    have hsp := Aside0.mk (split_any w s m (by omega) hm)
    generalize splitL s = xs at hsp HT2 hlen
    generalize Lib.countB s nlB = n at hsp HT2 hlen hcn
    have hnz : (n : Int) + 1 - 1 = n := by omega
    go_enter Tryd.func26, Tryd.ntmps26
    go_upto_region 4 with (first | (go_at_call 60; refine hsp.out.mono ?_; rintro e w2 ⟨ad, rfl, ho, hb⟩; have HO := Aside0.mk ho; have HB := Aside0.mk hb; clear ho hb))
    obtain ⟨_, _, hv, hrd⟩ := own_reads_of (d := ByteArray.empty) HO.out
    obtain ⟨a1, ha1, l1⟩ := hrd.at_ n (by omega) (by omega)
    cases hv
    cases ha1
    simp only [Int.toNat_natCast] at l1
    generalize rdOf ByteArray.empty xs n = y at l1 HT2
    cases hy : y.toList.isEmpty with
    | true =>
      have hT3 := HT2.out
      rw [hy, if_pos rfl] at hT3
      subst hT3
      clear HT2
      go_wp2
      go_ret2
      have hln : (xs.take n).length = n := by rw [List.length_take]; omega
      have ht := own_take HO.out (Nat.le_succ n)
      rw [Nat.mul_one, show (encs Value.string xs).take n = encs Value.string (xs.take n) by simp [encs]] at ht
      refine ⟨some ad, n + 1, ?_, ?_, HB.out⟩
      · simp only [hln]; rfl
      · simp only [hln]
        exact ht
    | false =>
      have hT3 := HT2.out
      rw [hy, if_neg (by simp)] at hT3
      subst hT3
      clear HT2
      go_wp2
      go_ret2
      refine ⟨some ad, n + 1, ?_, ?_, HB.out⟩
      · simp only [hlen]; rfl
      · simp only [hlen]
        exact HO.out
end Go.Proofs.YtgnhkgobocmkoaaDoor
