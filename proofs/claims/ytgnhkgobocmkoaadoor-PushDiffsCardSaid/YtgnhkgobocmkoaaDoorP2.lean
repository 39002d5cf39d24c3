/- Plain laws: what linesOf is, in lists of bytes. -/
import Derived.Test.YtgnhkgobocmkoaaDoorLq
import Derived.Test.YtgnhkgobocmkoaaDoorP1
namespace Go.Proofs.YtgnhkgobocmkoaaDoor
open Go.RowKit Go.Proofs.YtgnhkgobocmkoaaDoorW.PrintWords

theorem splitL_data (s : ByteArray) : (splitL s).map (·.data.toList) = lns [] s.data.toList := by
  unfold splitL
  rw [Lib.splitB_data]
  exact splitK_lns s.data.toList
theorem linesOf_data (s : ByteArray) (h : s.size ≤ 65536) : (linesOf s).2 = 0 ∧ (linesOf s).1.map (·.data.toList) = linesD s.data.toList := by
  have h1 := splitL_data s
  have h2 := splitL_len s
  unfold linesOf
  rw [if_neg (by omega)]
  have hlast : (lns [] s.data.toList).getLast? = some (rdOf ByteArray.empty (splitL s) (Lib.countB s nlB)).data.toList := by
    rw [← h1, List.getLast?_map, List.getLast?_eq_getElem?, h2]
    simp [rdOf, List.getElem?_eq_getElem (show Lib.countB s nlB < (splitL s).length by omega)]
  unfold linesD dropEmpty
  rw [hlast]
  split
  · rename_i he
    have he' : (rdOf ByteArray.empty (splitL s) (Lib.countB s nlB)).data.toList = [] := by
      rw [ByteArray.toList_eq] at he
      simpa using he
    rw [if_pos (by rw [he']), ← h1]
    refine ⟨rfl, ?_⟩
    rw [List.dropLast_eq_take, List.length_map, h2, List.map_take]
    rfl
  · rename_i he
    have he' : ¬ (rdOf ByteArray.empty (splitL s) (Lib.countB s nlB)).data.toList = [] := by
      rw [ByteArray.toList_eq] at he
      simpa using he
    rw [if_neg (by simpa using he'), ← h1]
    exact ⟨rfl, rfl⟩
theorem linesOf_big (s : ByteArray) (h : 65536 < s.size) : linesOf s = ([], 5) := by
  unfold linesOf
  rw [if_pos h]
theorem linesOf_small (s : ByteArray) (h : (linesOf s).2 = 0) : s.size ≤ 65536 := by
  rcases Nat.lt_or_ge 65536 s.size with h1 | h1
  · rw [linesOf_big s h1] at h
    simp at h
  · exact h1
theorem mem_sum {x : Nat} : ∀ {l : List Nat}, x ∈ l → x ≤ l.sum
  | a :: l, h => by
    rcases List.mem_cons.1 h with rfl | h
    · simp
    · have := mem_sum h
      simp; omega
theorem linesOf_sizes (s : ByteArray) : ∀ x ∈ (linesOf s).1, x.size ≤ 65536 := by
  intro x hx
  rcases Nat.lt_or_ge 65536 s.size with h1 | h1
  · rw [linesOf_big s h1] at hx
    simp at hx
  · have h2 := (linesOf_data s h1).2
    have h3 : x.data.toList ∈ linesD s.data.toList := by rw [← h2]; exact List.mem_map_of_mem hx
    have h4 := linesD_sum s.data.toList
    have h5 := mem_sum (List.mem_map_of_mem (f := List.length) h3)
    have h6 := Lib.size_eq x
    have h7 := Lib.size_eq s
    omega
theorem sizeTo_mem {xs : List ByteArray} {n : Nat} (h : sizeTo xs xs.length ≤ n) : ∀ x ∈ xs, x.size ≤ n := by
  intro x hx
  have := mem_sum (List.mem_map_of_mem (f := ByteArray.size) hx)
  rw [sizeTo_all] at h
  omega

/-- Lines, each with a line feed. -/
def joinS (xs : List ByteArray) : List UInt8 := joinD (xs.map (·.data.toList))
theorem joinS_nil : joinS [] = [] := rfl
theorem joinS_append (xs ys : List ByteArray) : joinS (xs ++ ys) = joinS xs ++ joinS ys := by simp [joinS, joinD_append]
theorem joinS_succ (xs : List ByteArray) (k : Nat) (h : k < xs.length) : joinS (xs.take (k + 1)) = joinS (xs.take k) ++ ((rdOf ByteArray.empty xs k).data.toList ++ [10]) := by
  rw [List.take_succ_eq_append_getElem h, joinS_append]
  congr 1
  simp [joinS, joinD, rdOf, List.getElem?_eq_getElem h]
theorem joinS_len (xs : List ByteArray) (h : ∀ x ∈ xs, x.size ≤ 65536) : (joinS xs).length ≤ 65537 * xs.length := by
  induction xs with
  | nil => simp [joinS, joinD]
  | cons x xs ih =>
    have h1 := ih (fun y hy => h y (by simp [hy]))
    have h2 := h x (by simp)
    have h3 := (Lib.size_eq x).symm
    have e : joinS (x :: xs) = x.data.toList ++ [10] ++ joinS xs := by simp [joinS, joinD]
    rw [e]
    simp only [List.length_append, List.length_cons, List.length_nil, h3]
    omega
end Go.Proofs.YtgnhkgobocmkoaaDoor
