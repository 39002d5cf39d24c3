/- Contracts: slices.IndexFunc, ContainsFunc over fields of a packet and over texts, with whatever function value. -/
import Derived.Test.YtgnhkgobocmkoaaDoorProg
import Derived.Test.YtgnhkgobocmkoaaDoorBase
namespace Go.Proofs.YtgnhkgobocmkoaaDoor
open Go.RowKit Go.Proofs.YtgnhkgobocmkoaaDoorW.PrintWords

set_option maxHeartbeats 2000000 in
/-- slices.IndexFunc over fields. -/
theorem indexFuncF (W0 : World) (g : Nat) (lb : Array Value) (eg : ∀ args w, (callFunc g args).run Tryd.prog w = .ok (.enter g args) w) (b off n c : Nat) (e0 e1 e2 e3 : Nat → Value) (p : Nat → Bool) (Inv : Nat → World → Prop)
    (hn : n ≤ 9223372036854775807) (h0 : Inv 0 W0)
    (hget : ∀ k W, k < n → Inv k W → W.cell? ⟨b, off + k * 4, none⟩ = some (e0 k) ∧ W.cell? ⟨b, off + k * 4 + 1, none⟩ = some (e1 k) ∧ W.cell? ⟨b, off + k * 4 + 2, none⟩ = some (e2 k) ∧ W.cell? ⟨b, off + k * 4 + 3, none⟩ = some (e3 k))
    (hstep : ∀ k W, k < n → Inv k W → Calls Tryd.prog g (#[.agg #[e0 k, e1 k, e2 k, e3 k]] ++ lb) W fun e W' => e = .returned (.bool (p k)) ∧ Inv (k + 1) W') :
    Calls Tryd.prog 75 #[.slice (some ⟨b, off, none⟩) n c, .func (.func g) #[] lb] W0 fun e W' =>
      ∃ r : Int, e = .returned (.int .i64 r) ∧ ((∃ k : Nat, r = k ∧ k < n ∧ p k = true ∧ (∀ j, j < k → p j = false) ∧ Inv (k + 1) W') ∨ (r = -1 ∧ (∀ j, j < n → p j = false) ∧ Inv n W')) := by
  have aE : ∀ w, (isAgg 73).run Tryd.prog w = .ok true w := fun w => by kernel_rfl
  have zE : ∀ w, (Go.sizeOf 73).run Tryd.prog w = .ok 4 w := fun w => by kernel_rfl
  go_enter Tryd.func75, Tryd.ntmps75
  go_wp2
  go_loopg [5, 8] n (fun gg _ s8 wr => ∃ kk : Nat, kk ≤ n ∧ n - kk ≤ gg ∧ s8 = .int .i64 kk ∧ Aside (Inv kk wr) ∧ Aside (∀ j, j < kk → p j = false))
  case atStart => exact ⟨0, Nat.zero_le _, by omega, rfl, h0, fun j hj => absurd hj (Nat.not_lt_zero _)⟩
  case round =>
    obtain ⟨kk, hkk, hg, rfl, BW, A⟩ := hrel
    by_cases hlt : kk < n
    · have hltz : (kk : Int) < (n : Int) := by omega
      obtain ⟨l0, l1, l2, l3⟩ := hget kk wr hlt BW.out
      have hcall := hstep kk wr hlt BW.out
      clear hget hstep
      generalize e0 kk = y0 at l0 hcall
      generalize e1 kk = y1 at l1 hcall
      generalize e2 kk = y2 at l2 hcall
      generalize e3 kk = y3 at l3 hcall
      cases hq : p kk with
      | true =>
        rw [hq] at hcall
        go_wp2_with (go_at_fn g; refine hcall.mono ?_; rintro e w' ⟨rfl, hb'⟩)
        go_ret
        exact ⟨kk, rfl, .inl ⟨kk, rfl, hlt, hq, A.out, hb'⟩⟩
      | false =>
        rw [hq] at hcall
        go_wp2_with (go_at_fn g; refine hcall.mono ?_; rintro e w' ⟨rfl, hb'⟩)
        go_roundg (n - (kk + 1))
        case measure => omega
        case rel =>
          refine ⟨kk + 1, by omega, by omega, by go_num, hb', (show Aside _ from fun j hj => ?_)⟩
          by_cases e : j = kk
          · subst e
            exact hq
          · exact A.out j (by omega)
    · have hltz : ¬ (kk : Int) < (n : Int) := by omega
      have : kk = n := by omega
      subst this
      go_wp2
      go_ret
      exact ⟨-1, rfl, .inr ⟨rfl, A.out, BW.out⟩⟩

set_option maxHeartbeats 2000000 in
/-- slices.IndexFunc over texts. -/
theorem indexFuncS (W0 : World) (g : Nat) (lb : Array Value) (eg : ∀ args w, (callFunc g args).run Tryd.prog w = .ok (.enter g args) w) (A : Option Addr) (n c : Nat) (xs : List ByteArray) (p : Nat → Bool) (Inv : Nat → World → Prop)
    (hn : n ≤ 9223372036854775807) (h0 : Inv 0 W0)
    (hget : ∀ k W, k < n → Inv k W → Kd.C Kd.string W A n xs)
    (hstep : ∀ k W, k < n → Inv k W → Calls Tryd.prog g (#[.string (rdOf ByteArray.empty xs k)] ++ lb) W fun e W' => e = .returned (.bool (p k)) ∧ Inv (k + 1) W') :
    Calls Tryd.prog 76 #[.slice A n c, .func (.func g) #[] lb] W0 fun e W' =>
      ∃ r : Int, e = .returned (.int .i64 r) ∧ ((∃ k : Nat, r = k ∧ k < n ∧ p k = true ∧ (∀ j, j < k → p j = false) ∧ Inv (k + 1) W') ∨ (r = -1 ∧ (∀ j, j < n → p j = false) ∧ Inv n W')) := by
  go_enter Tryd.func76, Tryd.ntmps76
  go_wp2
  go_loopg [5, 8] n (fun gg _ s8 wr => ∃ kk : Nat, kk ≤ n ∧ n - kk ≤ gg ∧ s8 = .int .i64 kk ∧ Aside (Inv kk wr) ∧ Aside (∀ j, j < kk → p j = false))
  case atStart => exact ⟨0, Nat.zero_le _, by omega, rfl, h0, fun j hj => absurd hj (Nat.not_lt_zero _)⟩
  case round =>
    obtain ⟨kk, hkk, hg, rfl, BW, HA⟩ := hrel
    by_cases hlt : kk < n
    · have hltz : (kk : Int) < (n : Int) := by omega
      obtain ⟨ad, rfl, l2⟩ := Kd.at_string (hget kk wr hlt BW.out) kk (by omega) (by omega)
      simp only [Int.toNat_natCast] at l2
      have hcall := hstep kk wr hlt BW.out
      clear hget hstep
      generalize hy : rdOf ByteArray.empty xs kk = y at l2 hcall
      clear hy
      cases hq : p kk with
      | true =>
        rw [hq] at hcall
        go_wp2_with (go_at_fn g; refine hcall.mono ?_; rintro e w' ⟨rfl, hb'⟩)
        go_ret
        exact ⟨kk, rfl, .inl ⟨kk, rfl, hlt, hq, HA.out, hb'⟩⟩
      | false =>
        rw [hq] at hcall
        go_wp2_with (go_at_fn g; refine hcall.mono ?_; rintro e w' ⟨rfl, hb'⟩)
        go_roundg (n - (kk + 1))
        case measure => omega
        case rel =>
          refine ⟨kk + 1, by omega, by omega, by go_num, hb', (show Aside _ from fun j hj => ?_)⟩
          by_cases e : j = kk
          · subst e
            exact hq
          · exact HA.out j (by omega)
    · have hltz : ¬ (kk : Int) < (n : Int) := by omega
      have : kk = n := by omega
      subst this
      go_wp2
      go_ret
      exact ⟨-1, rfl, .inr ⟨rfl, HA.out, BW.out⟩⟩
end Go.Proofs.YtgnhkgobocmkoaaDoor
