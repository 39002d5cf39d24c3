/- Plain laws: a text cut at its line feeds. -/
import Derived.Lib.SplitLaws
namespace Go.Proofs.YtgnhkgobocmkoaaDoor
open Go

/-- A text's pieces between line feeds; cur is what the running piece has so far. -/
def lns : List UInt8 → List UInt8 → List (List UInt8)
  | cur, [] => [cur]
  | cur, b :: l => if b == 10 then cur :: lns [] l else lns (cur ++ [b]) l
def onHead (f : List UInt8 → List UInt8) : List (List UInt8) → List (List UInt8)
  | [] => []
  | x :: xs => f x :: xs
theorem lns_cur : ∀ (l cur : List UInt8), lns cur l = onHead (cur ++ ·) (lns [] l)
  | [], cur => by simp [lns, onHead]
  | b :: l, cur => by
    unfold lns
    by_cases h : (b == 10) = true
    · simp [h, onHead]
    · rw [if_neg h, if_neg h, lns_cur l (cur ++ [b]), lns_cur l ([] ++ [b])]
      cases lns [] l <;> simp [onHead]
theorem splitK_ne (b : UInt8) (hb : b ≠ 10) (k : Nat) (l : List UInt8) : Lib.splitK [10] 0 k (b :: l) = onHead (b :: ·) (Lib.splitK [10] 0 k l) := by
  cases k with
  | zero => rfl
  | succ k =>
    have hp : ([10] : List UInt8).isPrefixOf (b :: l) = false := by simp [List.isPrefixOf, Ne.symm hb]
    have hix : Lib.index (b :: l) [10] = if Lib.index l [10] == -1 then -1 else Lib.index l [10] + 1 := by rw [Lib.index, hp]; simp
    unfold Lib.splitK
    by_cases hm : Lib.index l [10] = -1
    · have h1 : (Lib.index l [10] == -1) = true := by simpa using hm
      have h2 : (Lib.index (b :: l) [10] == -1) = true := by rw [hix, h1]; rfl
      rw [if_pos h1, if_pos h2]
      rfl
    · have hge := Lib.index_ge l [10]
      have h1 : ¬ (Lib.index l [10] == -1) = true := by simpa using hm
      rw [if_neg h1] at hix
      have h2 : ¬ (Lib.index (b :: l) [10] == -1) = true := by rw [hix]; simp; omega
      rw [if_neg h1, if_neg h2, hix]
      have e : (Lib.index l [10] + 1).toNat = (Lib.index l [10]).toNat + 1 := by omega
      rw [e]
      simp [onHead]
theorem splitK_lns : ∀ l : List UInt8, Lib.splitK [10] 0 (Lib.count l [10]) l = lns [] l
  | [] => by rw [Lib.count_one]; rfl
  | b :: l => by
    by_cases h : b = 10
    · subst h
      have hix : Lib.index (10 :: l) [10] = 0 := by rw [Lib.index]; simp [List.isPrefixOf]
      rw [Lib.count_cons_eq, Nat.add_comm, Lib.splitK, hix]
      simp only [List.length_singleton]
      have := splitK_lns l
      simp [this, lns]
    · rw [Lib.count_cons_ne b 10 l h, splitK_ne b h, splitK_lns l]
      rw [show lns [] (b :: l) = lns ([] ++ [b]) l from by rw [lns, if_neg (by simpa using h)], List.nil_append, lns_cur l [b]]
      rfl
/-- The lines of a text: its pieces, but for a last one that is empty. -/
def dropEmpty (t : List (List UInt8)) : List (List UInt8) := if t.getLast? = some [] then t.dropLast else t
def linesD (l : List UInt8) : List (List UInt8) := dropEmpty (lns [] l)

theorem lns_line (x rest : List UInt8) (hx : (10 : UInt8) ∉ x) : ∀ cur, lns cur (x ++ 10 :: rest) = (cur ++ x) :: lns [] rest := by
  induction x with
  | nil => intro cur; simp [lns]
  | cons b x ih =>
    intro cur
    have hb : ¬ (b == 10) = true := by intro h; exact hx (by simp at h; simp [h])
    rw [List.cons_append, lns, if_neg hb, ih (fun h => hx (by simp [h]))]
    simp
/-- Lines, each with a line feed. -/
def joinD (xs : List (List UInt8)) : List UInt8 := xs.flatMap (· ++ [10])
theorem lns_joinD (xs : List (List UInt8)) (h : ∀ x ∈ xs, (10 : UInt8) ∉ x) : lns [] (joinD xs) = xs ++ [[]] := by
  induction xs with
  | nil => simp [joinD, lns]
  | cons x xs ih =>
    have e : joinD (x :: xs) = x ++ 10 :: joinD xs := by simp [joinD]
    rw [e, lns_line x _ (h x (by simp)), ih (fun y hy => h y (by simp [hy]))]
    simp
theorem linesD_joinD (xs : List (List UInt8)) (h : ∀ x ∈ xs, (10 : UInt8) ∉ x) : linesD (joinD xs) = xs := by
  unfold linesD dropEmpty
  rw [lns_joinD xs h]
  simp
theorem joinD_append (xs ys : List (List UInt8)) : joinD (xs ++ ys) = joinD xs ++ joinD ys := by simp [joinD]

theorem lns_flat : ∀ (l cur : List UInt8), (10 : UInt8) ∉ cur → ∀ x ∈ lns cur l, (10 : UInt8) ∉ x
  | [], cur, h => by simpa [lns] using h
  | b :: l, cur, h => by
    unfold lns
    by_cases hb : (b == 10) = true
    · rw [if_pos hb]
      intro x hx
      rcases List.mem_cons.1 hx with rfl | hx
      · exact h
      · exact lns_flat l [] (by simp) x hx
    · rw [if_neg hb]
      refine lns_flat l (cur ++ [b]) ?_
      intro hm
      rcases List.mem_append.1 hm with hm | hm
      · exact h hm
      · simp at hm; simp [← hm] at hb
theorem lns_sum : ∀ (l cur : List UInt8), ((lns cur l).map List.length).sum ≤ cur.length + l.length
  | [], cur => by simp [lns]
  | b :: l, cur => by
    unfold lns
    split
    · have := lns_sum l []
      simp at this ⊢; omega
    · have := lns_sum l (cur ++ [b])
      simp at this ⊢; omega
theorem lns_len : ∀ (l cur : List UInt8), 1 ≤ (lns cur l).length ∧ (lns cur l).length ≤ l.length + 1
  | [], cur => by simp [lns]
  | b :: l, cur => by
    unfold lns
    split
    · have := lns_len l []
      simp; omega
    · have := lns_len l (cur ++ [b])
      simp; omega
theorem dropEmpty_sub (t : List (List UInt8)) : ∀ x ∈ dropEmpty t, x ∈ t := by
  unfold dropEmpty
  split
  · intro x hx; exact List.dropLast_sublist t |>.subset hx
  · exact fun _ h => h
theorem dropEmpty_sum (t : List (List UInt8)) : ((dropEmpty t).map List.length).sum ≤ (t.map List.length).sum := by
  unfold dropEmpty
  split
  · rename_i h
    have : t = t.dropLast ++ [[]] := by
      have hne : t ≠ [] := by intro e; simp [e] at h
      have := List.dropLast_concat_getLast hne
      rw [List.getLast?_eq_some_getLast hne] at h
      simp only [Option.some.injEq] at h
      rw [h] at this
      exact this.symm
    conv => rhs; rw [this]
    simp
  · exact Nat.le_refl _
theorem dropEmpty_len (t : List (List UInt8)) : (dropEmpty t).length ≤ t.length := by
  unfold dropEmpty
  split <;> simp
theorem linesD_flat (l : List UInt8) : ∀ x ∈ linesD l, (10 : UInt8) ∉ x := fun x hx => lns_flat l [] (by simp) x (dropEmpty_sub _ x hx)
theorem linesD_sum (l : List UInt8) : ((linesD l).map List.length).sum ≤ l.length := Nat.le_trans (dropEmpty_sum _) (by have := lns_sum l []; simpa using this)
theorem linesD_len (l : List UInt8) : (linesD l).length ≤ l.length + 1 := Nat.le_trans (dropEmpty_len _) (lns_len l []).2
end Go.Proofs.YtgnhkgobocmkoaaDoor
