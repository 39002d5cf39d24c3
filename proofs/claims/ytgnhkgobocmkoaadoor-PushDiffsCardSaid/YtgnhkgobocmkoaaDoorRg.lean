/- append to texts in the midst of a block. -/
import Derived.Test.YtgnhkgobocmkoaaDoorLr
import Derived.ArgAppend
namespace Go.Proofs.YtgnhkgobocmkoaaDoor
open Go.RowKit Go.Proofs.YtgnhkgobocmkoaaDoorW.PrintWords

theorem Mid.of_own {w : World} {base : Nat} {v : Value} {xs : List ByteArray} (h : w.ownsRow base 9 1 v xs.length (encs Value.string xs)) : ∃ A c, v = .slice A xs.length c ∧ Mid w base A c xs := by
  rcases h.2 with ⟨rfl, hn⟩ | ⟨g, cap, cur, rfl, hb, hg, hc, hm, hs, ht⟩
  · obtain rfl : xs = [] := List.eq_nil_of_length_eq_zero hn
    exact ⟨none, 0, rfl, Mid.nil _ _⟩
  · exact ⟨_, cap, rfl, hc, hm, .inr ⟨g, 0, cur, rfl, hb, hg, by omega, by rw [List.drop_zero]; simpa using ht⟩⟩

/-- Blocks of other types than a text's are as they were. -/
def KeepS (w w' : World) : Prop := ∀ (k : Nat) (cs : Array Value) (t : TypeId) (fr : Nat × Nat), w.heap[k]? = some (.cells cs t fr) → t ≠ 9 → w'.heap[k]? = some (.cells cs t fr)

section
variable {ops : Array Oper} {rest : List Oper} {o : Oper} {a : Act} {Q : Exit → Act → World → Prop}
theorem wpl_append_mid {W : World} (hgd : o.guard = none) (s x : Operand) (ho : o.op = .call { callee := .builtin .append, args := #[s, x], argTypes := #[22, 22] })
    (base : Nat) (A : Option Addr) (c : Nat) (xs : List ByteArray) (y : ByteArray) (hs : a.eval s = .slice A xs.length c) (hx : a.eval x = .slice (some ⟨W.heap.size, 0, none⟩) 1 1)
    (HM : Mid W base A c xs) (h0 : 0 < xs.length) (hbase : base ≤ W.heap.size) (hl : xs.length ≤ 1000000)
    (h : ∀ A' c' W1, Mid W1 base A' c' (xs ++ [y]) → KeepS W W1 → Below base W W1 → wpList Tryd.prog ops Q rest (a.put o.dst (.slice A' (xs.length + 1) c')) W1) :
    wpList Tryd.prog ops Q (o :: rest) a (W.alloc (.cells #[.string y] 9)) := by
  obtain ⟨m1, m2, m3⟩ := HM
  rcases m3 with ⟨_, hc0⟩ | ⟨g, off, cur, rfl, hb, hg, hoc, ht⟩
  · omega
  obtain ⟨i, hi, hzz⟩ := Option.map_eq_some_iff.1 infoStr
  simp only [Prod.mk.injEq] at hzz
  obtain ⟨z1, z2, z3⟩ := hzz
  have hg' : (W.alloc (.cells #[.string y] 9)).heap[g]? = some (.cells cur 9 (0, 0)) := blk_alloc hg _
  have hn : (W.alloc (.cells #[.string y] 9)).heap[W.heap.size]? = some (.cells #[.string y] 9 (0, 0)) := heap_alloc_new W _
  refine wpList_append_arg (W.alloc (.cells #[.string y] 9)) hgd s x 22 ho 9 i (.string ⟨#[]⟩) 1 16 Tryd.underlying22 hi z1 z2 z3 rfl (by omega) g off xs.length c (encs Value.string xs) hs (by rw [encs_length, Nat.mul_one]) ?_
    ⟨W.heap.size, 0, none⟩ 1 1 [.string y] hx rfl ?_ (by simp [Value.oneCell']) ?_ (by unfold maxLen; omega) (by omega) ?_ ?_
  · intro j u hj
    have hjl : j < xs.length := by
      have := (List.getElem?_eq_some_iff.1 hj).1
      rwa [encs_length] at this
    rw [← ht, List.getElem?_take_of_lt hjl, List.getElem?_drop] at hj
    rw [blk_cell hg', ← Array.getElem?_toList]
    exact hj
  · intro j u hj
    rcases j with _ | j
    · have e : (⟨W.heap.size, 0, none⟩ : Addr).add 0 = ⟨W.heap.size, 0, none⟩ := rfl
      rw [e, blk_cell hn]
      exact hj
    · simp at hj
  · intro hr j hj
    have hj0 : j = 0 := by simpa using hj
    subst hj0
    rw [blk_cell hg', Nat.mul_one, Nat.add_zero]
    refine ⟨?_, blk_frozen hg' _⟩
    rw [Array.getElem?_eq_getElem (by omega)]
    rfl
  · intro hr
    rw [Nat.mul_one]
    obtain ⟨cur', k1, k2, k3⟩ := blk_setCells g 9 [.string y] (off + xs.length) (W.alloc (.cells #[.string y] 9)) cur hg' (by simp; omega)
    refine h _ _ _ ⟨by simpa using hr, m2, .inr ⟨g, off, cur', rfl, hb, k1, by omega, ?_⟩⟩ ?_ ?_
    · have hlen : (cur.toList.take (off + xs.length)).length = off + xs.length := by have h9 : cur.toList.length = cur.size := Array.length_toList; rw [List.length_take]; exact Nat.min_eq_left (by omega)
      rw [k3, List.append_assoc, List.drop_append_of_le_length (by omega), List.drop_take, Nat.add_sub_cancel_left, List.length_append, List.take_append]
      have hl2 : (List.take xs.length (List.drop off cur.toList)).length = xs.length := by rw [ht, encs_length]
      rw [hl2, ht, List.take_of_length_le (by rw [encs_length]; omega), Nat.add_sub_cancel_left]
      simp [encs]
    · intro k cs t fr hk hne
      have hkl := blk_lt hk
      have hkg : k ≠ g := by
        rintro rfl
        rw [hg] at hk
        cases hk
        exact hne rfl
      exact ((grown_setCells g [.string y] (off + xs.length) (W.alloc (.cells #[.string y] 9))).block k (by simp; omega) (by simpa using hkg)).trans (blk_alloc hk _)
    · exact ((Below.refl base W).alloc hbase _).grown (grown_setCells g _ _ _) (by simp; omega) (fun k hk => by cases hk; exact hb)
  · intro hr v' w' hown hgr
    obtain ⟨A', c', rfl, hm⟩ := Mid.of_own (xs := xs ++ [y]) (v := v') (w := w') (base := base) (by
      have := own_weaken hown (base' := base) (by simp; omega)
      rw [List.length_append]
      simpa [encs] using this)
    rw [List.length_append]
    refine h A' c' w' hm ?_ ?_
    · intro k cs t fr hk _
      have hkl := blk_lt hk
      exact (hgr.block k (by simp; omega) (by simp)).trans (blk_alloc hk _)
    · exact ((Below.refl base W).alloc hbase _).grown hgr (by simp; omega) (fun k hk => by cases hk)
end
end Go.Proofs.YtgnhkgobocmkoaaDoor
