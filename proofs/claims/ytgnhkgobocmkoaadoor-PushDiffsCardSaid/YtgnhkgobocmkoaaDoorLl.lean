/- Contract of push.alike. -/
import Derived.Test.YtgnhkgobocmkoaaDoorLk
namespace Go.Proofs.YtgnhkgobocmkoaaDoor
open Go.RowKit Go.Proofs.YtgnhkgobocmkoaaDoorW.PrintWords

/-- How many lines at the front are the same. -/
def alikeOf : List ByteArray → List ByteArray → Nat
  | x :: xs, y :: ys => if x.toList == y.toList then alikeOf xs ys + 1 else 0
  | _, _ => 0
theorem alikeOf_le : ∀ xs ys : List ByteArray, alikeOf xs ys ≤ xs.length ∧ alikeOf xs ys ≤ ys.length
  | [], _ => by simp [alikeOf]
  | _ :: _, [] => by simp [alikeOf]
  | x :: xs, y :: ys => by
    have := alikeOf_le xs ys
    unfold alikeOf
    split <;> simp <;> omega
theorem alikeOf_drop (xs ys : List ByteArray) (k : Nat) (h1 : k < xs.length) (h2 : k < ys.length) : alikeOf (xs.drop k) (ys.drop k) = if (rdOf ByteArray.empty xs k).toList == (rdOf ByteArray.empty ys k).toList then alikeOf (xs.drop (k + 1)) (ys.drop (k + 1)) + 1 else 0 := by
  rw [List.drop_eq_getElem_cons h1, List.drop_eq_getElem_cons h2]
  simp [alikeOf, rdOf, List.getElem?_eq_getElem h1, List.getElem?_eq_getElem h2]
theorem alikeOf_out (xs ys : List ByteArray) (k : Nat) (h : ¬ (k < xs.length ∧ k < ys.length)) : alikeOf (xs.drop k) (ys.drop k) = 0 := by
  rcases Nat.lt_or_ge k xs.length with h1 | h1
  · have h2 : ys.length ≤ k := by omega
    rw [List.drop_eq_nil_of_le h2]
    cases xs.drop k <;> rfl
  · rw [List.drop_eq_nil_of_le h1]
    rfl

set_option maxRecDepth 100000 in
set_option maxHeartbeats 2000000 in
theorem alike_any (w : World) (A B : Option Addr) (c d : Nat) (xs ys : List ByteArray) (hx : Ss w A xs.length xs) (hy : Ss w B ys.length ys) :
    Calls Tryd.prog 27 #[.slice A xs.length c, .slice B ys.length d] w fun e w' => e = .returned (.int .i64 (alikeOf xs ys)) ∧ Drawn0 w w' := by
  have hm1 := hx.2.1
  have hm2 := hy.2.1
  have HX := Aside0.mk hx
  have HY := Aside0.mk hy
  clear hx hy
  have H0 := Aside0.mk (show alikeOf xs ys = 0 + alikeOf (xs.drop 0) (ys.drop 0) by simp)
  generalize hq : alikeOf xs ys = q at H0 ⊢
  clear hq
  go_enter Tryd.func27, Tryd.ntmps27
  go_wp2
  go_loopg [4] xs.length (fun gg s4 wr => ∃ k : Nat, k ≤ xs.length ∧ xs.length - k ≤ gg ∧ s4 = .int .i64 k ∧ Aside0 (Drawn0 w wr) ∧ Aside0 (q = k + alikeOf (xs.drop k) (ys.drop k)))
  case atStart => exact ⟨0, by omega, by omega, rfl, ⟨Drawn0.refl _⟩, H0⟩
  case round =>
    clear H0
    obtain ⟨k, hk, hg, rfl, HD, HQ⟩ := hrel
    by_cases hlt : k < xs.length ∧ k < ys.length
    · have hltz : (k : Int) < (xs.length : Int) := by omega
      have hlty : (k : Int) < (ys.length : Int) := by omega
      have hltm : (k : Int) < min (xs.length : Int) (ys.length : Int) := by omega
      obtain ⟨a1, rfl, l1⟩ := (HX.out.below HD.out.below).at_ k (by omega) (by omega)
      obtain ⟨a2, rfl, l2⟩ := (HY.out.below HD.out.below).at_ k (by omega) (by omega)
      simp only [Int.toNat_natCast] at l1 l2
      have HDR := Aside0.mk (alikeOf_drop xs ys k hlt.1 hlt.2)
      generalize rdOf ByteArray.empty xs k = x at l1 HDR
      generalize rdOf ByteArray.empty ys k = y at l2 HDR
      cases hxy : (x.toList == y.toList) with
      | true =>
        have HXY := Aside0.mk hxy
        go_wp2
        go_region
        go_wp2
        go_roundg (xs.length - (k + 1))
        case measure => omega
        case rel => exact ⟨k + 1, by omega, by omega, by go_num, ⟨HD.out.step _⟩, ⟨by rw [HQ.out, HDR.out, hxy]; simp only [if_true]; omega⟩⟩
      | false =>
        have HXY := Aside0.mk hxy
        go_wp2
        go_region
        go_wp2
        go_ret
        refine ⟨?_, HD.out.step _⟩
        rw [HQ.out, HDR.out, hxy]
        simp
    · have hltm : ¬ (k : Int) < min (xs.length : Int) (ys.length : Int) := by omega
      have hltd := decide_eq_false hltm
      have HK := Aside0.mk hlt
      clear hlt hltm
      go_wp2
      go_region
      go_wp2
      go_ret
      refine ⟨?_, HD.out.step _⟩
      rw [HQ.out, alikeOf_out _ _ _ HK.out]
      simp
end Go.Proofs.YtgnhkgobocmkoaaDoor
