/- Contracts of slices.ContainsFunc and of push's each, over fields and over texts. -/
import Derived.Test.YtgnhkgobocmkoaaDoorLb
import Derived.Test.YtgnhkgobocmkoaaDoorShelf
namespace Go.Proofs.YtgnhkgobocmkoaaDoor
open Go.RowKit Go.Proofs.YtgnhkgobocmkoaaDoorW.PrintWords

theorem containsFuncF (W0 : World) (g : Nat) (lb : Array Value) (eg : ∀ args w, (callFunc g args).run Tryd.prog w = .ok (.enter g args) w) (b off n c : Nat) (e0 e1 e2 e3 : Nat → Value) (p : Nat → Bool) (Inv : Nat → World → Prop)
    (hn : n ≤ 9223372036854775807) (h0 : Inv 0 W0)
    (hget : ∀ k W, k < n → Inv k W → W.cell? ⟨b, off + k * 4, none⟩ = some (e0 k) ∧ W.cell? ⟨b, off + k * 4 + 1, none⟩ = some (e1 k) ∧ W.cell? ⟨b, off + k * 4 + 2, none⟩ = some (e2 k) ∧ W.cell? ⟨b, off + k * 4 + 3, none⟩ = some (e3 k))
    (hstep : ∀ k W, k < n → Inv k W → Calls Tryd.prog g (#[.agg #[e0 k, e1 k, e2 k, e3 k]] ++ lb) W fun e W' => e = .returned (.bool (p k)) ∧ Inv (k + 1) W') :
    Calls Tryd.prog 63 #[.slice (some ⟨b, off, none⟩) n c, .func (.func g) #[] lb] W0 fun e W' =>
      ∃ r : Bool, e = .returned (.bool r) ∧ (r = true → ∃ k, k < n ∧ p k = true ∧ (∀ j, j < k → p j = false) ∧ Inv (k + 1) W') ∧ (r = false → (∀ j, j < n → p j = false) ∧ Inv n W') := by
  have hc := fun W h => indexFuncF W g lb eg b off n c e0 e1 e2 e3 p Inv hn h hget hstep
  have h0' : Aside (Inv 0 W0) := h0
  clear hget hstep h0 hn
  go_enter Tryd.func63, Tryd.ntmps63
  go_wp2_with (go_at_call 75; refine (hc _ h0'.out).mono ?_; rintro e w' ⟨r, rfl, hr⟩; have hr' : Aside _ := hr; clear hr)
  go_ret
  rcases hr'.out with ⟨k, rfl, h1, h2, h3, h4⟩ | ⟨rfl, h1, h2⟩
  · exact ⟨true, by simp, fun _ => ⟨k, h1, h2, h3, h4⟩, (fun h => nomatch h)⟩
  · exact ⟨false, by simp, (fun h => nomatch h), fun _ => ⟨h1, h2⟩⟩

theorem containsFuncS (W0 : World) (g : Nat) (lb : Array Value) (eg : ∀ args w, (callFunc g args).run Tryd.prog w = .ok (.enter g args) w) (A : Option Addr) (n c : Nat) (xs : List ByteArray) (p : Nat → Bool) (Inv : Nat → World → Prop)
    (hn : n ≤ 9223372036854775807) (h0 : Inv 0 W0)
    (hget : ∀ k W, k < n → Inv k W → Kd.C Kd.string W A n xs)
    (hstep : ∀ k W, k < n → Inv k W → Calls Tryd.prog g (#[.string (rdOf ByteArray.empty xs k)] ++ lb) W fun e W' => e = .returned (.bool (p k)) ∧ Inv (k + 1) W') :
    Calls Tryd.prog 65 #[.slice A n c, .func (.func g) #[] lb] W0 fun e W' =>
      ∃ r : Bool, e = .returned (.bool r) ∧ (r = true → ∃ k, k < n ∧ p k = true ∧ (∀ j, j < k → p j = false) ∧ Inv (k + 1) W') ∧ (r = false → (∀ j, j < n → p j = false) ∧ Inv n W') := by
  have hc := fun W h => indexFuncS W g lb eg A n c xs p Inv hn h hget hstep
  have h0' : Aside (Inv 0 W0) := h0
  clear hget hstep h0 hn
  go_enter Tryd.func65, Tryd.ntmps65
  go_wp2_with (go_at_call 76; refine (hc _ h0'.out).mono ?_; rintro e w' ⟨r, rfl, hr⟩; have hr' : Aside _ := hr; clear hr)
  go_ret
  rcases hr'.out with ⟨k, rfl, h1, h2, h3, h4⟩ | ⟨rfl, h1, h2⟩
  · exact ⟨true, by simp, fun _ => ⟨k, h1, h2, h3, h4⟩, (fun h => nomatch h)⟩
  · exact ⟨false, by simp, (fun h => nomatch h), fun _ => ⟨h1, h2⟩⟩

/-- What Check asks of one field. -/
def fieldOk (own bit n lo hi : Int) : Bool := if (bits .and .i64 own bit == 0) then (n == 0) else decide (lo ≤ n) && decide (n ≤ hi)

theorem chk1_any (w : World) (bo : Nat) (pa : Addr) (own bit n lo hi : Int)
   (ho : w.cell? ⟨bo, 0, none⟩ = some (.int .i64 own)) (hp : w.cell? pa = some (.int .i64 n)) :
    Calls Tryd.prog 43 #[.agg #[.int .i64 bit, .pointer (some pa), .int .i64 lo, .int .i64 hi], .pointer (some ⟨bo, 0, none⟩)] w fun e w' => e = .returned (.bool (fieldOk own bit n lo hi)) ∧ Below w.heap.size w w' := by
  have hbo := World.block_lt_of_cell? w _ ho
  have hpb := World.block_lt_of_cell? w _ hp
  unfold fieldOk
  cases hbit : (bits .and .i64 own bit == 0) with
  | true =>
    go_enter Tryd.func43, Tryd.ntmps43
    go_wp2
    go_ret
    exact ⟨rfl, (Below.refl _ _).alloc (Nat.le_refl _) _⟩
  | false =>
    cases hlo : decide (lo ≤ n) with
    | true =>
      go_enter Tryd.func43, Tryd.ntmps43
      go_wp2
      go_quiet (fail)
      go_wp2
      go_ret
      exact ⟨rfl, pw_below_drewN ((Below.refl _ _).alloc (Nat.le_refl _) _) _⟩
    | false =>
      go_enter Tryd.func43, Tryd.ntmps43
      go_wp2
      go_quiet (fail)
      go_wp2
      go_ret
      exact ⟨rfl, pw_below_drewN ((Below.refl _ _).alloc (Nat.le_refl _) _) _⟩

/-- each's own function over fields: not what it was handed says. -/
theorem eachF1_any (w : World) (bi bo : Nat) (pa : Addr) (own bit n lo hi : Int)
   (hi0 : w.cell? ⟨bi, 0, none⟩ = some (.func (.func 43) #[] #[.pointer (some ⟨bo, 0, none⟩)]))
   (ho : w.cell? ⟨bo, 0, none⟩ = some (.int .i64 own)) (hp : w.cell? pa = some (.int .i64 n)) :
    Calls Tryd.prog 64 #[.agg #[.int .i64 bit, .pointer (some pa), .int .i64 lo, .int .i64 hi], .pointer (some ⟨bi, 0, none⟩)] w fun e w' => e = .returned (.bool (!fieldOk own bit n lo hi)) ∧ Below w.heap.size w w' := by
  have hbi := World.block_lt_of_cell? w _ hi0
  have hbo := World.block_lt_of_cell? w _ ho
  have hpb := World.block_lt_of_cell? w _ hp
  generalize hq : fieldOk own bit n lo hi = q
  have hQ : Aside (fieldOk own bit n lo hi = q) := hq
  clear hq
  go_enter Tryd.func64, Tryd.ntmps64
  go_wp2_with (go_at_call 43; refine (chk1_any _ bo pa own bit n lo hi ?_ ?_).mono ?_; go_simp; go_simp; rintro e w' ⟨rfl, hb⟩)
  go_ret
  exact ⟨by rw [hQ.out]; rfl, ((Below.refl _ _).alloc (Nat.le_refl _) _).trans (hb.mono (by simp))⟩
end Go.Proofs.YtgnhkgobocmkoaaDoor
