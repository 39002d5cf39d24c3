/- Contracts of slices.Grow (of nil) and slices.Concat, over texts. -/
import Derived.Test.YtgnhkgobocmkoaaDoorLj
import Derived.Lib.AppendZeros
namespace Go.Proofs.YtgnhkgobocmkoaaDoor
open Go.RowKit Go.Proofs.YtgnhkgobocmkoaaDoorW.PrintWords

def GrowPost (w : World) (e : Ending) (w' : World) : Prop := ∃ v, e = .returned v ∧ w'.ownsRow w.heap.size 9 1 v ([] : List ByteArray).length (encs Value.string ([] : List ByteArray)) ∧ Below w.heap.size w w'

set_option maxRecDepth 100000 in
set_option maxHeartbeats 1000000 in
theorem grow_any (w : World) (n : Nat) (hn : n ≤ 4000000) :
    Calls Tryd.prog 61 #[.slice none 0 0, .int .i64 n] w (GrowPost w) := by
  by_cases h0 : n = 0
  · subst h0
    go_enter Tryd.func61, Tryd.ntmps61
    go_wp2
    go_ret
    exact ⟨_, rfl, own_nil _ _ _ _, Below.refl _ _⟩
  · have hz : ¬ ((n : Int) < 0) := by omega
    have hz2 : (0 : Int) < (n : Int) := by omega
    obtain ⟨i, hi, hzz⟩ := Option.map_eq_some_iff.1 infoStr
    simp only [Prod.mk.injEq] at hzz
    obtain ⟨z1, z2, z3⟩ := hzz
    have hg := fun W => Lib.run_append_nil_zeros (P := Tryd.prog) W 22 3 22 9 i _ .i64 .i64 Tryd.underlying22 Tryd.underlying3 hi z1 n (by omega) (by omega) (by omega) (by rw [z3]; omega)
    have HG := Aside0.mk hg
    have HI := Aside0.mk (And.intro hi (And.intro z2 z3))
    clear hg hi z1 z2 z3
    go_enter Tryd.func61, Tryd.ntmps61
    go_wp2_with (at_builtin; refine Lib.wpList_append_run _ rfl (.tmp 20) (.tmp 21) 22 3 rfl _ _ rfl rfl _ _ (HG.out _) ?_)
    go_ret
    have hge := grownCap_ge w n 0 9
    refine ⟨_, rfl, ⟨rfl, .inr ⟨w.heap.size, grownCap w n 0 9, _, rfl, Nat.le_refl _, heap_alloc_new w _, Nat.zero_le _, grownCap_le_maxLen w n 0 9 (by unfold maxLen; omega), ?_, by simp [encs]⟩⟩, below_drew ((Below.refl _ _).alloc (Nat.le_refl _) _)⟩
    rw [Array.size_append, size_zeroCells, size_zeroCells]
    simp
    omega

/-- The lengths of the first k lists, added up; the lists, one behind the other. -/
def sumTo (xss : Nat → List ByteArray) : Nat → Nat
  | 0 => 0
  | k + 1 => sumTo xss k + (xss k).length
def catTo (xss : Nat → List ByteArray) : Nat → List ByteArray
  | 0 => []
  | k + 1 => catTo xss k ++ xss k
theorem catTo_len (xss : Nat → List ByteArray) (k : Nat) : (catTo xss k).length = sumTo xss k := by
  induction k with
  | zero => rfl
  | succ k ih => simp [catTo, sumTo, ih]
theorem sumTo_le (xss : Nat → List ByteArray) {k n : Nat} (h : k ≤ n) : sumTo xss k ≤ sumTo xss n := by
  induction n with
  | zero => obtain rfl : k = 0 := by omega
            exact Nat.le_refl _
  | succ n ih =>
    rcases Nat.lt_or_ge n k with h1 | h1
    · obtain rfl : k = n + 1 := by omega
      exact Nat.le_refl _
    · have := ih h1
      simp only [sumTo]; omega

def ConcatPost (w : World) (xs : List ByteArray) (e : Ending) (w' : World) : Prop := ∃ v, e = .returned v ∧ w'.ownsRow w.heap.size 9 1 v xs.length (encs Value.string xs) ∧ Below w.heap.size w w'

set_option maxRecDepth 100000 in
set_option maxHeartbeats 2000000 in
theorem concat_any (w : World) (b n c : Nat) (xss : Nat → List ByteArray) (As : Nat → Option Addr) (cs : Nat → Nat) (hn : n ≤ 1000)
    (hc : ∀ k, k < n → w.cell? ⟨b, k, none⟩ = some (.slice (As k) (xss k).length (cs k))) (hx : ∀ k, k < n → Ss w (As k) (xss k).length (xss k)) (hl : sumTo xss n ≤ 4000000) :
    Calls Tryd.prog 32 #[.slice (some ⟨b, 0, none⟩) n c] w (ConcatPost w (catTo xss n)) := by
  have HC := Aside0.mk hc
  have HX := Aside0.mk hx
  clear hc hx
  have hnz : (n : Int) ≤ 1000 := by omega
  go_enter Tryd.func32, Tryd.ntmps32
  go_wp2
  go_loopg [3, 5, 11] n (fun gg s3 _ s11 wr => ∃ k : Nat, k ≤ n ∧ n - k ≤ gg ∧ s11 = .int .i64 k ∧ s3 = .int .i64 (sumTo xss k) ∧ w = wr)
  case atStart => exact ⟨0, by omega, by omega, rfl, rfl, rfl⟩
  case round =>
    obtain ⟨k, hk, hg, rfl, rfl, rfl⟩ := hrel
    by_cases hlt : k < n
    · have hltz : (k : Int) < (n : Int) := by omega
      have l0 := HC.out k hlt
      have h1 := sumTo_le xss (show k + 1 ≤ n by omega)
      have HS := Aside0.mk (show sumTo xss (k + 1) = sumTo xss k + (xss k).length from rfl)
      have h2 : sumTo xss k + (xss k).length ≤ 4000000 := by rw [← HS.out]; omega
      generalize hq : sumTo xss k = q at HS h2 ⊢
      generalize hm : (xss k).length = m at HS h2 l0
      clear hq hm h1
      have h3 : ¬ ((q : Int) + (m : Int) < 0) := by omega
      go_wp2
      go_roundg (n - (k + 1))
      case measure => omega
      case rel => exact ⟨k + 1, by omega, by omega, by go_num, by rw [HS.out]; go_num, rfl⟩
    · have hltz : ¬ (k : Int) < (n : Int) := by omega
      obtain rfl : k = n := by omega
      clear hk hg hlt
      go_wp2_with (go_at_call 61; refine (grow_any _ _ hl).mono ?_; rintro e w2 ⟨v, rfl, ho, hb⟩; have HO := Aside0.mk ho; have HB := Aside0.mk hb; clear ho hb)
      go_loopg [6, 8, 27] k (fun gg s6 _ s27 wr => ∃ j : Nat, j ≤ k ∧ k - j ≤ gg ∧ s27 = .int .i64 j ∧ Aside0 (wr.ownsRow w.heap.size 9 1 s6 (catTo xss j).length (encs Value.string (catTo xss j))) ∧ Aside0 (Below w.heap.size w wr))
      case atStart => exact ⟨0, by omega, by omega, rfl, HO, HB⟩
      case round =>
        obtain ⟨j, hj, hg, rfl, HO2, HB2⟩ := hrel
        clear HO HB
        by_cases hlt : j < k
        · have hltz2 : (j : Int) < (k : Int) := by omega
          have l0 := pw_cell_below HB2.out (HC.out j hlt)
          have h1 := sumTo_le xss (show j + 1 ≤ k by omega)
          have h2 := catTo_len xss (j + 1)
          have HL := Aside0.mk (show (catTo xss j).length + (xss j).length ≤ 4000000 by simp only [catTo, List.length_append] at h2; omega)
          clear h1 h2
          go_wp2_with (at_builtin; refine wpl_append_row Value.string ByteArray.empty rfl (.tmp 31) (.tmp 32) 22 9 (.string ⟨#[]⟩) 16 rfl Tryd.underlying22 infoStr rfl (by omega) (fun _ => rfl) w.heap.size _ (catTo xss j) (xss j) (As j) _ _ rfl rfl HO2.out ((HX.out j hlt).below HB2.out) HB2.out.size (by have := HL.out; omega) ?_; intro v1 w1 hg1; have HG := Aside0.mk hg1; clear hg1)
          go_roundg (k - (j + 1))
          case measure => omega
          case rel => exact ⟨j + 1, by omega, by omega, by go_num, ⟨HG.out.own⟩, ⟨HB2.out.trans (HG.out.below HO2.out HB2.out.size)⟩⟩
        · have hltz2 : ¬ (j : Int) < (k : Int) := by omega
          obtain rfl : j = k := by omega
          go_wp2
          go_ret
          exact ⟨_, rfl, HO2.out, HB2.out⟩

/-- Of three lists. -/
theorem concat3_any (w : World) (b c n0 n1 n2 c0 c1 c2 : Nat) (A0 A1 A2 : Option Addr) (x0 x1 x2 : List ByteArray) (h0 : x0.length = n0) (h1 : x1.length = n1) (h2 : x2.length = n2)
    (hb : w.heap[b]? = some (.cells #[.slice A0 n0 c0, .slice A1 n1 c1, .slice A2 n2 c2] 22 (0, 0))) (r0 : Ss w A0 n0 x0) (r1 : Ss w A1 n1 x1) (r2 : Ss w A2 n2 x2) (hl : n0 + n1 + n2 ≤ 4000000) :
    Calls Tryd.prog 32 #[.slice (some ⟨b, 0, none⟩) 3 c] w (ConcatPost w (x0 ++ x1 ++ x2)) := by
  subst h0 h1 h2
  have h := concat_any w b 3 c (fun | 0 => x0 | 1 => x1 | _ => x2) (fun | 0 => A0 | 1 => A1 | _ => A2) (fun | 0 => c0 | 1 => c1 | _ => c2) (by omega)
    (fun k hk => by
      rw [blk_cell hb k]
      rcases k with _ | _ | _ | k
      · rfl
      · rfl
      · rfl
      · omega)
    (fun k hk => by
      rcases k with _ | _ | _ | k
      · exact r0
      · exact r1
      · exact r2
      · omega)
    (by simp [sumTo]; omega)
  simpa [catTo] using h
end Go.Proofs.YtgnhkgobocmkoaaDoor
