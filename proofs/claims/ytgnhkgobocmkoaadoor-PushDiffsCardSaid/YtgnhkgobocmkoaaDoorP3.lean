/- Plain laws: a difference, applied to the first text, is the second one. -/
import Derived.Test.YtgnhkgobocmkoaaDoorRc
import Derived.Test.YtgnhkgobocmkoaaDoorRe
namespace Go.Proofs.YtgnhkgobocmkoaaDoor
open Go.RowKit Go.Proofs.YtgnhkgobocmkoaaDoorW.PrintWords

theorem bytes_ext {x y : ByteArray} (h : x.data.toList = y.data.toList) : x = y := by
  apply ByteArray.ext
  apply Array.ext'
  exact h
theorem beq_bytes (x y : ByteArray) : (x.toList == y.toList) = decide (x = y) := by
  rw [ByteArray.toList_eq, ByteArray.toList_eq, Bool.eq_iff_iff]
  simp only [beq_iff_eq, decide_eq_true_eq]
  exact ⟨bytes_ext, fun h => by rw [h]⟩
theorem alikeOf_take : ∀ xs ys : List ByteArray, xs.take (alikeOf xs ys) = ys.take (alikeOf xs ys)
  | [], _ => by simp [alikeOf]
  | _ :: _, [] => by simp [alikeOf]
  | x :: xs, y :: ys => by
    unfold alikeOf
    rw [beq_bytes]
    by_cases h : x = y
    · subst h
      simp [alikeOf_take xs ys]
    · simp [h]
theorem alikeOf_ge : ∀ (n : Nat) (xs ys : List ByteArray), n ≤ xs.length → n ≤ ys.length → xs.take n = ys.take n → n ≤ alikeOf xs ys
  | 0, _, _, _, _, _ => Nat.zero_le _
  | n + 1, [], _, h, _, _ => absurd h (by simp)
  | n + 1, _ :: _, [], _, h, _ => absurd h (by simp)
  | n + 1, x :: xs, y :: ys, h1, h2, h3 => by
    simp only [List.take_succ_cons, List.cons.injEq] at h3
    obtain ⟨rfl, h3⟩ := h3
    have := alikeOf_ge n xs ys (by simpa using h1) (by simpa using h2) h3
    unfold alikeOf
    simp
    exact this

/-- The difference of two lists of lines, put back into the first. -/
theorem patch_lists (a b : List ByteArray) (h : Nat) (hh : alikeOf a b = h) (t : Nat) (ht : alikeOf (a.drop h).reverse (b.drop h).reverse = t) :
    a.take h ++ ((b.drop h).reverse.drop t).reverse ++ a.drop (a.length - t) = b := by
  have h1 := alikeOf_take a b
  have h2 := alikeOf_le a b
  have h3 := alikeOf_take (a.drop h).reverse (b.drop h).reverse
  have h4 := alikeOf_le (a.drop h).reverse (b.drop h).reverse
  rw [hh] at h1 h2
  rw [ht] at h3 h4
  simp only [List.length_reverse, List.length_drop] at h4
  have h5 : a.drop (a.length - t) = ((a.drop h).reverse.take t).reverse := by
    rw [List.take_reverse, List.reverse_reverse, List.drop_drop, List.length_drop]
    congr 1
    omega
  rw [h1, h5, h3, List.append_assoc, ← List.reverse_append, List.take_append_drop, List.reverse_reverse, List.take_append_drop]

def mkB (l : List UInt8) : ByteArray := ⟨l.toArray⟩
theorem mkB_data (l : List UInt8) : (mkB l).data.toList = l := rfl
theorem map_mkB (ls : List (List UInt8)) : (ls.map mkB).map (·.data.toList) = ls := by
  rw [List.map_map]
  have : ((fun x : ByteArray => x.data.toList) ∘ mkB) = id := by
    funext x
    rfl
  rw [this, List.map_id]
theorem mkB_map (xs : List ByteArray) : (xs.map (·.data.toList)).map mkB = xs := by
  rw [List.map_map]
  have : (mkB ∘ fun x : ByteArray => x.data.toList) = id := by
    funext x
    exact bytes_ext rfl
  rw [this, List.map_id]
theorem joinS_mkB (ls : List (List UInt8)) : joinS (ls.map mkB) = joinD ls := by unfold joinS; rw [map_mkB]
/-- The lines of a joined text. -/
theorem linesOf_joined (ls : List (List UInt8)) (h : ∀ x ∈ ls, (10 : UInt8) ∉ x) (hl : (joinD ls).length ≤ 65536) : linesOf (mkB (joinD ls)) = (ls.map mkB, 0) := by
  obtain ⟨h1, h2⟩ := linesOf_data (mkB (joinD ls)) (by rw [Lib.size_eq]; exact hl)
  rw [mkB_data, linesD_joinD ls h] at h2
  have h3 : (linesOf (mkB (joinD ls))).1 = ls.map mkB := by have := congrArg (List.map mkB) h2; rwa [mkB_map] at this
  exact Prod.ext h3 h1
theorem joinD_len (ls : List (List UInt8)) (h : ∀ x ∈ ls, x.length ≤ 60) : (joinD ls).length ≤ 61 * ls.length := by
  induction ls with
  | nil => simp [joinD]
  | cons x l ih =>
    have h1 := ih (fun y hy => h y (by simp [hy]))
    have h2 := h x (by simp)
    have e : joinD (x :: l) = x ++ [10] ++ joinD l := by simp [joinD]
    rw [e]
    simp only [List.length_append, List.length_cons, List.length_nil]
    omega

theorem indexByte_none : ∀ (l : List UInt8), (10 : UInt8) ∉ l → Lib.indexByte l 10 = -1
  | [], _ => rfl
  | b :: l, h => by
    unfold Lib.indexByte
    have hb : ¬ (b == 10) = true := fun e => h (by simp at e; simp [e])
    rw [if_neg hb, indexByte_none l (fun e => h (by simp [e]))]
    rfl
theorem noLf_of {x : ByteArray} (h : (10 : UInt8) ∉ x.data.toList) : noLf x = true := by
  unfold noLf
  rw [indexByte_none _ h]
  decide
theorem sizes_le (xs : List ByteArray) (h : ∀ x ∈ xs, x.size ≤ 60) : sizeTo xs xs.length ≤ 60 * xs.length := by
  rw [sizeTo_all]
  induction xs with
  | nil => simp
  | cons x xs ih =>
    have h1 := ih (fun y hy => h y (by simp [hy]))
    have h2 := h x (by simp)
    simp only [List.map_cons, List.sum_cons, List.length_cons]
    omega

/-- A packet that tells a difference may be. -/
theorem delta_ok (hd tl : Nat) (ls : List ByteArray) (h1 : hd ≤ 65536) (h2 : tl ≤ 65536) (h3 : ∀ x ∈ ls, (10 : UInt8) ∉ x.data.toList) (h4 : sizeTo ls ls.length ≤ 65536) (h5 : ls.length ≤ 1000) :
    ({ Pk.zero with kind := 2, ver := 2, frm := 1, head := hd, tail := tl, lines := ls } : Pk).ok = true := by
  unfold Pk.ok
  simp only [Bool.and_eq_true]
  refine ⟨⟨⟨rfl, ?_⟩, ?_⟩, ?_⟩
  · unfold fieldsOk
    simp only [Bool.and_eq_true]
    have e : ownOf 2 = 187 := rfl
    rw [e]
    refine ⟨⟨⟨⟨⟨show fieldOk 187 1 2 2 9007199254740991 = true by decide, show fieldOk 187 2 1 1 (fromOf 2 2) = true by kernel_rfl⟩, show fieldOk 187 4 0 0 6 = true by decide⟩, show fieldOk 187 8 0 0 9007199254740991 = true by decide⟩, ?_⟩, ?_⟩
    · unfold fieldOk
      rw [if_neg (by decide)]
      simp only [Bool.and_eq_true, decide_eq_true_eq]
      exact ⟨Int.natCast_nonneg _, by show (hd : Int) ≤ _; omega⟩
    · unfold fieldOk
      rw [if_neg (by decide)]
      simp only [Bool.and_eq_true, decide_eq_true_eq]
      exact ⟨Int.natCast_nonneg _, by show (tl : Int) ≤ _; omega⟩
  · show (bits .and .i64 187 64 != 0 || Pk.zero.text.toList.isEmpty) = true ∧ decide (Pk.zero.text.size ≤ 65536) = true
    exact ⟨by kernel_rfl, by decide⟩
  · refine ⟨⟨⟨?_, ?_⟩, ?_⟩, ?_⟩
    · show (bits .and .i64 187 128 != 0 || ls.length == 0) = true
      rw [show (bits .and .i64 187 128 != 0) = true by decide]
      rfl
    · show ls.all noLf = true
      exact List.all_eq_true.2 fun x hx => noLf_of (h3 x hx)
    · simpa using h4
    · simpa using h5

/-- The parts of two texts. -/
structure Parts (X Y0 Y1 Z : List (List UInt8)) : Prop where
  flat : ∀ x, (x ∈ X ∨ x ∈ Y0 ∨ x ∈ Y1 ∨ x ∈ Z) → (10 : UInt8) ∉ x ∧ x.length ≤ 60
  len : X.length ≤ 40 ∧ Y0.length ≤ 40 ∧ Y1.length ≤ 40 ∧ Z.length ≤ 40

/-- What PushDiffs asks. -/
structure DiffsOk (a b : ByteArray) (n0 n1 : Nat) (p q : Pk) : Prop where
  d1 : diffOf a b = (p, 0)
  a1 : applyOf a p = (b, 0)
  d2 : diffOf a a = (q, 0)
  a2 : applyOf a q = (a, 0)
  ql : q.lines = []
  pl : p.lines.length ≤ n1
  ph : (n0 : Int) ≤ p.head
  ok : p.ok = true
  sz : sizeTo p.lines p.lines.length ≤ 65536

def deltaOf (h t : Nat) (l : List ByteArray) : Pk := { Pk.zero with kind := 2, ver := 2, frm := 1, head := h, tail := t, lines := l }
theorem diffOf_lists (s r : ByteArray) (a b : List ByteArray) (h t : Nat) (hs : linesOf s = (a, 0)) (hr : linesOf r = (b, 0)) (hh : alikeOf a b = h) (ht : alikeOf (a.drop h).reverse (b.drop h).reverse = t) (hl : b.length ≤ 1000) :
    diffOf s r = (deltaOf h t ((b.drop h).reverse.drop t).reverse, 0) := by
  unfold diffOf
  rw [hs, hr]
  simp only [ne_eq, not_true_eq_false, if_false, hh, ht]
  rw [if_neg (by simp only [List.length_drop, List.length_reverse]; omega)]
  rfl
theorem applyOf_lists (s : ByteArray) (a b : List ByteArray) (h t : Nat) (l : List ByteArray) (hs : linesOf s = (a, 0)) (hok : (deltaOf h t l).ok = true) (hle : h + t ≤ a.length) (hb : a.take h ++ l ++ a.drop (a.length - t) = b) (hz : (joinS b).length ≤ 65536) :
    applyOf s (deltaOf h t l) = (mkB (joinS b), 0) := by
  unfold applyOf
  rw [hs, if_neg (by rw [hok]; simp [deltaOf]; omega)]
  have e : applyL (a, (0 : Int)).1 (deltaOf h t l) = b := by
    unfold applyL deltaOf
    simpa using hb
  rw [e, if_neg (by omega)]
  rfl

theorem diffs_ok {X Y0 Y1 Z : List (List UInt8)} (hp : Parts X Y0 Y1 Z) : ∃ p q, DiffsOk (mkB (joinD (X ++ Y0 ++ Z))) (mkB (joinD (X ++ Y1 ++ Z))) X.length Y1.length p q := by
  obtain ⟨hf, l1, l2, l3, l4⟩ := hp
  have hfa : ∀ x ∈ X ++ Y0 ++ Z, (10 : UInt8) ∉ x ∧ x.length ≤ 60 := by
    intro x hx
    simp only [List.mem_append] at hx
    exact hf x (by rcases hx with (h | h) | h <;> simp [h])
  have hfb : ∀ x ∈ X ++ Y1 ++ Z, (10 : UInt8) ∉ x ∧ x.length ≤ 60 := by
    intro x hx
    simp only [List.mem_append] at hx
    exact hf x (by rcases hx with (h | h) | h <;> simp [h])
  have hla : (X ++ Y0 ++ Z).length ≤ 120 := by simp only [List.length_append]; omega
  have hlb : (X ++ Y1 ++ Z).length ≤ 120 := by simp only [List.length_append]; omega
  have hja := joinD_len _ (fun x hx => (hfa x hx).2)
  have hjb := joinD_len _ (fun x hx => (hfb x hx).2)
  have ha := linesOf_joined _ (fun x hx => (hfa x hx).1) (by omega)
  have hb := linesOf_joined _ (fun x hx => (hfb x hx).1) (by omega)
  generalize hA : (X ++ Y0 ++ Z).map mkB = A at ha
  generalize hB : (X ++ Y1 ++ Z).map mkB = B at hb
  have hAl : A.length = X.length + Y0.length + Z.length := by rw [← hA]; simp; omega
  have hBl : B.length = X.length + Y1.length + Z.length := by rw [← hB]; simp; omega
  have hjA : joinS A = joinD (X ++ Y0 ++ Z) := by rw [← hA, joinS_mkB]
  have hjB : joinS B = joinD (X ++ Y1 ++ Z) := by rw [← hB, joinS_mkB]
  have hBf : ∀ x ∈ B, (10 : UInt8) ∉ x.data.toList ∧ x.size ≤ 60 := by
    intro x hx
    rw [← hB] at hx
    obtain ⟨y, hy, rfl⟩ := List.mem_map.1 hx
    exact ⟨(hfb y hy).1, by rw [Lib.size_eq]; exact (hfb y hy).2⟩
  -- the head
  generalize hh : alikeOf A B = h
  have hle := alikeOf_le A B
  have hge : X.length ≤ h := by
    rw [← hh]
    refine alikeOf_ge _ _ _ (by omega) (by omega) ?_
    rw [← hA, ← hB]
    simp
  -- the tail
  generalize ht : alikeOf (A.drop h).reverse (B.drop h).reverse = t
  have hle2 := alikeOf_le (A.drop h).reverse (B.drop h).reverse
  rw [ht] at hle2
  rw [hh] at hle
  simp only [List.length_reverse, List.length_drop] at hle2
  have hge2 : min Z.length (min (A.length - h) (B.length - h)) ≤ t := by
    rw [← ht]
    refine alikeOf_ge _ _ _ (by simp; omega) (by simp; omega) ?_
    have aux : ∀ (l : List ByteArray) (i n : Nat), i ≤ l.length → n ≤ l.length - i → (l.drop i).reverse.take n = l.reverse.take n := by
      intro l i n hi hn
      rw [List.take_reverse, List.take_reverse, List.drop_drop, List.length_drop]
      congr 2
      omega
    rw [aux A h _ (by omega) (by omega), aux B h _ (by omega) (by omega), ← hA, ← hB]
    simp only [List.map_append, List.reverse_append, List.append_assoc]
    rw [List.take_append_of_le_length (by simp; omega), List.take_append_of_le_length (by simp; omega)]
  have hpl := patch_lists A B h hh t ht
  have hll : (((B.drop h).reverse.drop t).reverse).length = B.length - h - t := by simp
  have hmem : ∀ x ∈ ((B.drop h).reverse.drop t).reverse, x ∈ B := by
    intro x hx
    have h1 := List.mem_of_mem_drop (List.mem_reverse.1 hx)
    exact List.mem_of_mem_drop (List.mem_reverse.1 h1)
  have hsz := sizes_le (((B.drop h).reverse.drop t).reverse) (fun x hx => (hBf x (hmem x hx)).2)
  rw [hll] at hsz
  have hok := delta_ok h t (((B.drop h).reverse.drop t).reverse) (by omega) (by omega) (fun x hx => (hBf x (hmem x hx)).1) (by rw [hll]; omega) (by rw [hll]; omega)
  have hd1 := diffOf_lists _ _ A B h t ha hb hh ht (by omega)
  have ha1 := applyOf_lists _ A B h t _ ha hok (by omega) hpl (by rw [hjB]; omega)
  rw [hjB] at ha1
  -- of a text and itself
  have hs1 : alikeOf A A = A.length := Nat.le_antisymm (alikeOf_le A A).1 (alikeOf_ge _ _ _ (Nat.le_refl _) (Nat.le_refl _) rfl)
  have hs2 : alikeOf (A.drop A.length).reverse (A.drop A.length).reverse = 0 := by simp [alikeOf]
  have hd2 := diffOf_lists _ _ A A A.length 0 ha ha hs1 hs2 (by omega)
  have hok2 := delta_ok A.length 0 (((A.drop A.length).reverse.drop 0).reverse) (by omega) (by omega) (by simp) (by simp [sizeTo]) (by simp)
  have hp2 := patch_lists A A A.length hs1 0 hs2
  have ha2 := applyOf_lists _ A A A.length 0 _ ha hok2 (by omega) hp2 (by rw [hjA]; omega)
  rw [hjA] at ha2
  refine ⟨_, _, ⟨hd1, ha1, hd2, ha2, by simp [deltaOf], ?_, ?_, hok, ?_⟩⟩
  · show (((B.drop h).reverse.drop t).reverse).length ≤ _
    rw [hll]
    omega
  · show (X.length : Int) ≤ (h : Int)
    omega
  · show sizeTo (((B.drop h).reverse.drop t).reverse) (((B.drop h).reverse.drop t).reverse).length ≤ 65536
    rw [hll]
    omega
end Go.Proofs.YtgnhkgobocmkoaaDoor
