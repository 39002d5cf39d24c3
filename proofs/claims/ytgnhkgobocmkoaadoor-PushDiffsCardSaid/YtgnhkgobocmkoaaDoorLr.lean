/- Texts in the midst of a block of one's own: what the end of an owned row is. -/
import Derived.Test.YtgnhkgobocmkoaaDoorLo
namespace Go.Proofs.YtgnhkgobocmkoaaDoor
open Go.RowKit Go.Proofs.YtgnhkgobocmkoaaDoorW.PrintWords

/-- Texts that lie in a block of one's own, from some place on; what is behind them, up to the capacity, is of that block, too. -/
def Mid (w : World) (base : Nat) (A : Option Addr) (c : Nat) (xs : List ByteArray) : Prop :=
  xs.length ≤ c ∧ c ≤ maxLen ∧ ((A = none ∧ c = 0) ∨ ∃ g off cur, A = some ⟨g, off, none⟩ ∧ base ≤ g ∧ w.heap[g]? = some (.cells cur 9 (0, 0)) ∧ off + c ≤ cur.size ∧ (cur.toList.drop off).take xs.length = encs Value.string xs)

theorem Mid.nil (w : World) (base : Nat) : Mid w base none 0 [] := ⟨Nat.le_refl _, Nat.zero_le _, .inl ⟨rfl, rfl⟩⟩
theorem Mid.keep {w w' : World} {base : Nat} {A : Option Addr} {c : Nat} {xs : List ByteArray} (h : Mid w base A c xs) (hk : ∀ k, base ≤ k → k < w.heap.size → w'.heap[k]? = w.heap[k]?) : Mid w' base A c xs := by
  obtain ⟨h1, h2, h3⟩ := h
  refine ⟨h1, h2, ?_⟩
  rcases h3 with h3 | ⟨g, off, cur, hA, hb, hg, ho, ht⟩
  · exact .inl h3
  · exact .inr ⟨g, off, cur, hA, hb, (hk g hb (blk_lt hg)).trans hg, ho, ht⟩
theorem Mid.below {w w' : World} {base : Nat} {A : Option Addr} {c : Nat} {xs : List ByteArray} (h : Mid w base A c xs) (hb : Below w.heap.size w w') : Mid w' base A c xs := h.keep fun k _ hk => hb.block k hk
theorem Mid.lower {w : World} {base base' : Nat} {A : Option Addr} {c : Nat} {xs : List ByteArray} (h : Mid w base A c xs) (hb : base' ≤ base) : Mid w base' A c xs := by
  obtain ⟨h1, h2, h3⟩ := h
  refine ⟨h1, h2, ?_⟩
  rcases h3 with h3 | ⟨g, off, cur, hA, hb', r⟩
  · exact .inl h3
  · exact .inr ⟨g, off, cur, hA, Nat.le_trans hb hb', r⟩
/-- Another block is written. -/
theorem Mid.other {w w' : World} {base : Nat} {A : Option Addr} {c : Nat} {xs : List ByteArray} {b : Nat} {cs : Array Value} {t : TypeId} (h : Mid w base A c xs) (hw : w.heap[b]? = some (.cells cs t (0, 0))) (ht : t ≠ 9) (hk : ∀ k, k < w.heap.size → k ≠ b → w'.heap[k]? = w.heap[k]?) : Mid w' base A c xs := by
  obtain ⟨h1, h2, h3⟩ := h
  refine ⟨h1, h2, ?_⟩
  rcases h3 with h3 | ⟨g, off, cur, hA, hb, hg, ho, hx⟩
  · exact .inl h3
  · refine .inr ⟨g, off, cur, hA, hb, (hk g (blk_lt hg) ?_).trans hg, ho, hx⟩
    rintro rfl
    rw [hg] at hw
    cases hw
    exact ht rfl
theorem Mid.reads {w : World} {base : Nat} {A : Option Addr} {c : Nat} {xs : List ByteArray} (h : Mid w base A c xs) : Ss w A xs.length xs := by
  obtain ⟨h1, h2, h3⟩ := h
  refine ⟨rfl, by unfold maxLen at h2; omega, fun hp => ?_⟩
  rcases h3 with ⟨rfl, rfl⟩ | ⟨g, off, cur, rfl, hb, hg, ho, hx⟩
  · omega
  · refine ⟨_, rfl, fun j hj => ?_⟩
    rw [show (⟨g, off, none⟩ : Addr).add j = ⟨g, off + j, none⟩ by unfold Addr.add; split <;> simp_all]
    rw [blk_cell hg]
    have h4 : ((cur.toList.drop off).take xs.length)[j]? = (encs Value.string xs)[j]? := by rw [hx]
    rw [List.getElem?_take_of_lt hj, List.getElem?_drop] at h4
    rw [← Array.getElem?_toList, h4]
    simp [encs, List.getElem?_eq_getElem hj]

theorem infoStr' : ∃ i, Tryd.prog.info? 9 = some i ∧ i.size = 1 := by
  obtain ⟨i, h, hz⟩ := Option.map_eq_some_iff.1 infoStr
  simp only [Prod.mk.injEq] at hz
  exact ⟨i, h, hz.2.1⟩

theorem cut_run (A : Option Addr) (n c k : Nat) (hk : k ≤ n) (W : World) : (Instr.slice 22 (.slice A n c) (some (.int .i64 k)) none none).run Tryd.prog W = .ok (.slice (if c = k then A else A.map (·.add k)) (n - k) (c - k)) W := by
  obtain ⟨i, hi, hsz⟩ := infoStr'
  have hel : Tryd.prog.elem 22 = 9 := by simp [Program.elem, Tryd.underlying22]
  have hu : Tryd.prog.underlying 22 = some (.slice (Tryd.prog.elem 22)) := by rw [hel]; exact Tryd.underlying22
  rw [run_slice_l W 22 A n c hu .i64 (k : Int) (Int.natCast_nonneg _) (by omega), hel]
  simp [sizeOf, typeInfo, hi, hsz, sliced, Result.andThen]

/-- The end of an owned row: where it lies, and its reversal. -/
theorem cut_own (w0 : World) (base : Nat) (v : Value) (xs : List ByteArray) (k : Nat) (hk : k ≤ xs.length) (h : w0.ownsRow base 9 1 v xs.length (encs Value.string xs)) :
    ∃ A c, (∀ W, (Instr.slice 22 v (some (.int .i64 k)) none none).run Tryd.prog W = .ok (.slice A (xs.length - k) c) W) ∧
      (∀ W (ys : List ByteArray), ys.length = xs.length → W.ownsRow base 9 1 v xs.length (encs Value.string ys) → Mid W base A c (ys.drop k)) ∧
      (∀ W, W.ownsRow base 9 1 v xs.length (encs Value.string xs) → Calls Tryd.prog 29 #[.slice A (xs.length - k) c] W fun e w' => e = .returned (.tuple #[]) ∧ Grew W w' base 9 1 v v xs.length (encs Value.string (xs.take k ++ (xs.drop k).reverse))) := by
  rcases h.2 with ⟨rfl, hn⟩ | ⟨g, cap, cur, rfl, hb, hg, hc, hm, hs, ht⟩
  · obtain rfl : xs = [] := List.eq_nil_of_length_eq_zero hn
    obtain rfl : k = 0 := by simpa using hk
    refine ⟨none, 0, fun W => cut_run none 0 0 0 (Nat.le_refl _) W, fun W ys hy _ => ?_, fun W hW => ?_⟩
    · obtain rfl : ys = [] := List.eq_nil_of_length_eq_zero hy
      exact Mid.nil _ _
    · refine (Tryd.slices_Reverse_string_empty none 0 W).mono ?_
      rintro e w' ⟨rfl, rfl⟩
      exact ⟨rfl, Grew.refl hW⟩
  · by_cases hck : cap = k
    · have hxk : xs.length = k := by omega
      subst hck
      refine ⟨some ⟨g, 0, none⟩, 0, fun W => ?_, fun W ys hy hW => ?_, fun W hW => ?_⟩
      · rw [cut_run _ _ _ _ hk W, if_pos rfl, Nat.sub_self]
      · rcases hW.2 with ⟨hv, _⟩ | ⟨g', cap', cur', hv, hb', hg', hc', hm', hs', ht'⟩
        · cases hv
        · cases hv
          have e : ys.drop cap = [] := List.drop_eq_nil_of_le (by omega)
          rw [e]
          exact ⟨Nat.le_refl _, Nat.zero_le _, .inr ⟨g, 0, cur', rfl, hb', hg', by omega, by simp [encs]⟩⟩
      · rw [show xs.length - cap = 0 by omega]
        refine (Tryd.slices_Reverse_string_empty _ 0 W).mono ?_
        rintro e w' ⟨rfl, rfl⟩
        have e1 : xs.drop cap = [] := List.drop_eq_nil_of_le (by omega)
        have e2 : xs.take cap = xs := List.take_of_length_le (by omega)
        rw [e1, e2, List.reverse_nil, List.append_nil]
        exact ⟨rfl, Grew.refl hW⟩
    · refine ⟨some ⟨g, k, none⟩, cap - k, fun W => ?_, fun W ys hy hW => ?_, fun W hW => reverse_from W base g cap k xs hW hk (cap - k)⟩
      · rw [cut_run _ _ _ _ hk W, if_neg hck]
        simp [Addr.add]
        by_cases h0 : k = 0
        · simp [h0]
        · simp [h0]
      · rcases hW.2 with ⟨hv, _⟩ | ⟨g', cap', cur', hv, hb', hg', hc', hm', hs', ht'⟩
        · cases hv
        · cases hv
          refine ⟨by simp; omega, by omega, .inr ⟨g, k, cur', rfl, hb', hg', by omega, ?_⟩⟩
          have h5 := congrArg (List.drop k) ht'
          have h6 : (encs Value.string ys).drop k = encs Value.string (ys.drop k) := by simp [encs]
          rw [h6, Nat.mul_one, List.drop_take] at h5
          rw [← h5]
          congr 1
          simp; omega
end Go.Proofs.YtgnhkgobocmkoaaDoor
