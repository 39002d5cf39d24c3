/- Contracts of push's each over the fields of a packet, and over its lines. -/
import Derived.Test.YtgnhkgobocmkoaaDoorLc
namespace Go.Proofs.YtgnhkgobocmkoaaDoor
open Go.RowKit Go.Proofs.YtgnhkgobocmkoaaDoorW.PrintWords

/-- What Check asks of all fields of a packet whose numbers are these. -/
def fieldsOk (own least frm : Int) (v : Nat → Int) : Bool :=
  fieldOk own 1 (v 0) least 9007199254740991 && fieldOk own 2 (v 1) 1 frm && fieldOk own 4 (v 2) 0 6 && fieldOk own 8 (v 3) 0 9007199254740991 && fieldOk own 16 (v 4) 0 65536 && fieldOk own 32 (v 5) 0 65536

def fieldAt (own least frm : Int) (v : Nat → Int) : Nat → Bool
  | 0 => fieldOk own 1 (v 0) least 9007199254740991
  | 1 => fieldOk own 2 (v 1) 1 frm
  | 2 => fieldOk own 4 (v 2) 0 6
  | 3 => fieldOk own 8 (v 3) 0 9007199254740991
  | 4 => fieldOk own 16 (v 4) 0 65536
  | _ => fieldOk own 32 (v 5) 0 65536

theorem fieldsOk_true {own least frm : Int} {v : Nat → Int} (h : ∀ j, j < 6 → (!fieldAt own least frm v j) = false) : fieldsOk own least frm v = true := by
  have h0 := h 0 (by omega); have h1 := h 1 (by omega); have h2 := h 2 (by omega); have h3 := h 3 (by omega); have h4 := h 4 (by omega); have h5 := h 5 (by omega)
  simp only [fieldAt, Bool.not_eq_false'] at h0 h1 h2 h3 h4 h5
  simp only [fieldsOk, h0, h1, h2, h3, h4, h5, Bool.and_self]

theorem fieldsOk_false {own least frm : Int} {v : Nat → Int} {k : Nat} (hk : k < 6) (h : (!fieldAt own least frm v k) = true) : fieldsOk own least frm v = false := by
  simp only [Bool.not_eq_true'] at h
  unfold fieldsOk
  rcases k with _ | _ | _ | _ | _ | _ | k <;> first | omega | (simp only [fieldAt] at h; simp [h])

theorem eachF_any (w : World) (b bo g : Nat) (own least frm : Int) (v : Nat → Int) (text lines : Value) (kind : Int)
    (hf : w.heap[b]? = some (.cells (fieldCells g least frm) 73 (0, 0))) (ho : w.cell? ⟨bo, 0, none⟩ = some (.int .i64 own))
    (hg : w.heap[g]? = some (.cells #[.int .i64 kind, .int .i64 (v 0), .int .i64 (v 1), .int .i64 (v 2), .int .i64 (v 3), .int .i64 (v 4), .int .i64 (v 5), text, lines] 24 (0, 0))) :
    Calls Tryd.prog 41 #[.slice (some ⟨b, 0, none⟩) 6 6, .func (.func 43) #[] #[.pointer (some ⟨bo, 0, none⟩)]] w fun e w' => e = .returned (.bool (fieldsOk own least frm v)) ∧ Below w.heap.size w w' := by
  have eg : ∀ args w, (callFunc 64 args).run Tryd.prog w = .ok (.enter 64 args) w := enters_of Tryd.func64 (by kernel_rfl) rfl
  have hbo := World.block_lt_of_cell? w _ ho
  have hc : ∀ W, Below w.heap.size w W → W.heap[w.heap.size]? = some (.cells #[.func (.func 43) #[] #[.pointer (some ⟨bo, 0, none⟩)]] 77 (0, 0)) → 
      Calls Tryd.prog 63 #[.slice (some ⟨b, 0, none⟩) 6 6, .func (.func 64) #[] #[.pointer (some ⟨w.heap.size, 0, none⟩)]] W fun e W' => e = .returned (.bool (!fieldsOk own least frm v)) ∧ Below w.heap.size w W' := by
    intro W hB hcl
    refine (containsFuncF W 64 #[.pointer (some ⟨w.heap.size, 0, none⟩)] eg b 0 6 6 (fun k => (fieldCells g least frm).getD (k * 4) undef) (fun k => (fieldCells g least frm).getD (k * 4 + 1) undef) (fun k => (fieldCells g least frm).getD (k * 4 + 2) undef) (fun k => (fieldCells g least frm).getD (k * 4 + 3) undef)
      (fun k => !fieldAt own least frm v k) (fun _ W' => Below W.heap.size W W') (by omega) (Below.refl _ _) ?_ ?_).mono ?_
    · intro k W' hk hW'
      have hb : W'.heap[b]? = some (.cells (fieldCells g least frm) 73 (0, 0)) := blk_below (blk_below hf hB) hW'
      have h (i : Nat) (hi : i < 24) : W'.cell? ⟨b, i, none⟩ = some ((fieldCells g least frm).getD i undef) := by
        rw [blk_cell hb i]
        have : i < (fieldCells g least frm).size := by simpa [fieldCells] using hi
        simp [Array.getD, this]
      refine ⟨?_, ?_, ?_, ?_⟩ <;> (simp only [Nat.zero_add]; exact h _ (by omega))
    · intro k W' hk hW'
      have hcl' := blk_cell (blk_below hcl hW') 0
      have ho' : W'.cell? ⟨bo, 0, none⟩ = some (.int .i64 own) := pw_cell_below hW' (pw_cell_below hB ho)
      have hg' := blk_below (blk_below hg hB) hW'
      have hv (i : Nat) := blk_cell hg' i
      have fin : ∀ (pa : Addr) (bit n lo hi : Int), W'.cell? pa = some (.int .i64 n) → fieldAt own least frm v k = fieldOk own bit n lo hi → Calls Tryd.prog 64 #[.agg #[.int .i64 bit, .pointer (some pa), .int .i64 lo, .int .i64 hi], .pointer (some ⟨w.heap.size, 0, none⟩)] W' fun e W'' => e = .returned (.bool (!fieldAt own least frm v k)) ∧ Below W.heap.size W W'' := by
        intro pa bit n lo hi hp heq
        rw [heq]
        exact (eachF1_any W' w.heap.size bo pa own bit n lo hi (hcl'.trans rfl) ho' hp).mono fun e W'' ⟨he, hb⟩ => ⟨he, hW'.trans (hb.mono hW'.size)⟩
      rcases k with _ | _ | _ | _ | _ | _ | k
      · exact fin ⟨g, 1, none⟩ 1 (v 0) least 9007199254740991 ((hv 1).trans rfl) rfl
      · exact fin ⟨g, 2, none⟩ 2 (v 1) 1 frm ((hv 2).trans rfl) rfl
      · exact fin ⟨g, 3, none⟩ 4 (v 2) 0 6 ((hv 3).trans rfl) rfl
      · exact fin ⟨g, 4, none⟩ 8 (v 3) 0 9007199254740991 ((hv 4).trans rfl) rfl
      · exact fin ⟨g, 5, none⟩ 16 (v 4) 0 65536 ((hv 5).trans rfl) rfl
      · exact fin ⟨g, 6, none⟩ 32 (v 5) 0 65536 ((hv 6).trans rfl) rfl
      · omega
    · rintro e W' ⟨r, rfl, h1, h2⟩
      cases r with
      | true =>
        obtain ⟨k, hk, hp, _, hb⟩ := h1 rfl
        rw [fieldsOk_false hk hp]
        exact ⟨rfl, hB.trans (hb.mono hB.size)⟩
      | false =>
        obtain ⟨hp, hb⟩ := h2 rfl
        rw [fieldsOk_true hp]
        exact ⟨rfl, hB.trans (hb.mono hB.size)⟩
  clear hf ho hg hbo eg
  generalize fieldsOk own least frm v = q at hc
  go_enter Tryd.func41, Tryd.ntmps41
  go_wp2_with (go_at_call 63; refine (hc _ ?_ ?_).mono ?_; exact (Below.refl _ _).alloc (Nat.le_refl _) _; exact heap_alloc_new w _; rintro e w' ⟨rfl, hb⟩)
  go_ret
  exact ⟨by simp, hb⟩

/-! ### over texts -/
def noLf (s : ByteArray) : Bool := !decide (0 ≤ Lib.indexByte s.data.toList 10)
def sizeTo (xs : List ByteArray) (k : Nat) : Nat := ((xs.take k).map ByteArray.size).sum
theorem sizeTo_zero (xs : List ByteArray) : sizeTo xs 0 = 0 := rfl
theorem sizeTo_succ (xs : List ByteArray) (k : Nat) (h : k < xs.length) : sizeTo xs (k + 1) = sizeTo xs k + (rdOf ByteArray.empty xs k).size := by
  unfold sizeTo rdOf
  rw [List.take_succ_eq_append_getElem h, List.map_append, List.sum_append]
  simp only [List.map_cons, List.map_nil, List.sum_cons, List.sum_nil, Nat.add_zero, Int.toNat_natCast, List.getD_eq_getElem?_getD, List.getElem?_eq_getElem h, Option.getD_some]
theorem sizeTo_le (xs : List ByteArray) (k : Nat) : sizeTo xs k ≤ sizeTo xs xs.length := by
  unfold sizeTo
  rw [List.take_length]
  conv => rhs; rw [← List.take_append_drop k xs, List.map_append, List.sum_append]
  omega

theorem chk2_any (w : World) (bm : Nat) (m : Int) (s : ByteArray) (hb : w.heap[bm]? = some (.cells #[.int .i64 m] 3 (0, 0))) (h0 : 0 ≤ m) (h1 : m + s.size ≤ 9223372036854775807) :
    Calls Tryd.prog 45 #[.string s, .pointer (some ⟨bm, 0, none⟩)] w fun e w' => e = .returned (.bool (noLf s)) ∧ w.setCell ⟨bm, 0, none⟩ (.int .i64 (m + s.size)) = w' := by
  have hc := (blk_cell hb 0).trans (show (#[Value.int .i64 m])[0]? = some (.int .i64 m) from rfl)
  have hf := blk_frozen hb 0
  clear hb
  unfold noLf
  have hcon := fun W => Tryd.strings_Contains_one s 10 W
  generalize decide (0 ≤ Lib.indexByte s.data.toList 10) = q at hcon ⊢
  go_enter Tryd.func45, Tryd.ntmps45
  go_wp2_with (go_at_call 46; refine (hcon _).mono ?_; rintro e w' ⟨rfl, rfl⟩)
  go_ret
  exact ⟨rfl, rfl⟩

theorem eachS1_any (w : World) (bi bm : Nat) (m : Int) (s : ByteArray) (hi0 : w.cell? ⟨bi, 0, none⟩ = some (.func (.func 45) #[] #[.pointer (some ⟨bm, 0, none⟩)])) (hb : w.heap[bm]? = some (.cells #[.int .i64 m] 3 (0, 0))) (h0 : 0 ≤ m) (h1 : m + s.size ≤ 9223372036854775807) :
    Calls Tryd.prog 66 #[.string s, .pointer (some ⟨bi, 0, none⟩)] w fun e w' => e = .returned (.bool (!noLf s)) ∧ w.setCell ⟨bm, 0, none⟩ (.int .i64 (m + s.size)) = w' := by
  have hcon := chk2_any w bm m s hb h0 h1
  clear hb h0 h1
  generalize noLf s = q at hcon ⊢
  go_enter Tryd.func66, Tryd.ntmps66
  go_wp2_with (go_at_call 45; refine hcon.mono ?_; rintro e w' ⟨rfl, rfl⟩)
  go_ret
  exact ⟨rfl, rfl⟩

/-- each over lines: whether none has a line feed; if so, their sizes are added up. -/
theorem eachS_any (w : World) (bm : Nat) (A : Option Addr) (c : Nat) (xs : List ByteArray) (hx : ∀ W', w.grownBy W' (some bm) → Kd.C Kd.string W' A xs.length xs) (hb : w.heap[bm]? = some (.cells #[.int .i64 0] 3 (0, 0))) (hs : sizeTo xs xs.length ≤ 4611686018427387904) :
    Calls Tryd.prog 44 #[.slice A xs.length c, .func (.func 45) #[] #[.pointer (some ⟨bm, 0, none⟩)]] w fun e w' => e = .returned (.bool (xs.all noLf)) ∧ w.grownBy w' (some bm) ∧ ∃ m : Int, w'.heap[bm]? = some (.cells #[.int .i64 m] 3 (0, 0)) ∧ (xs.all noLf = true → m = sizeTo xs xs.length) := by
  have eg : ∀ args w, (callFunc 66 args).run Tryd.prog w = .ok (.enter 66 args) w := enters_of Tryd.func66 (by kernel_rfl) rfl
  have hlt := blk_lt hb
  have hn := Kd.C_max (hx w (World.grownBy.refl _ _))
  have hc : ∀ W, Below w.heap.size w W → W.heap[w.heap.size]? = some (.cells #[.func (.func 45) #[] #[.pointer (some ⟨bm, 0, none⟩)]] 80 (0, 0)) → 
      Calls Tryd.prog 65 #[.slice A xs.length c, .func (.func 66) #[] #[.pointer (some ⟨w.heap.size, 0, none⟩)]] W fun e W' => e = .returned (.bool (!xs.all noLf)) ∧ w.grownBy W' (some bm) ∧ ∃ m : Int, W'.heap[bm]? = some (.cells #[.int .i64 m] 3 (0, 0)) ∧ (xs.all noLf = true → m = sizeTo xs xs.length) := by
    intro W hB hcl
    refine (containsFuncS W 66 #[.pointer (some ⟨w.heap.size, 0, none⟩)] eg A xs.length c xs (fun k => !noLf (rdOf ByteArray.empty xs k))
      (fun k W' => W.grownBy W' (some bm) ∧ W'.heap[bm]? = some (.cells #[.int .i64 (sizeTo xs k : Nat)] 3 (0, 0))) hn ⟨World.grownBy.refl _ _, blk_below hb hB⟩ ?_ ?_).mono ?_
    · intro k W' hk hW'
      exact hx W' (World.grownBy.trans (grown_of_below hB _) hW'.1)
    · intro k W' hk ⟨hW', hb'⟩
      have hcl' := blk_cell (blk_grown hcl hW' (by simp; omega)) 0
      have h1 := sizeTo_succ xs k hk
      have h2 := sizeTo_le xs (k + 1)
      refine (eachS1_any W' w.heap.size bm (sizeTo xs k : Nat) _ (hcl'.trans rfl) hb' (by omega) (by omega)).mono ?_
      rintro e W'' ⟨he, rfl⟩
      refine ⟨he, World.grownBy.trans hW' (grown_setCell _ _ _ _), ?_⟩
      rw [blk_set hb' 0, h1]
      rfl
    · rintro e W' ⟨r, rfl, h1, h2⟩
      have hgw : ∀ {W'}, W.grownBy W' (some bm) → w.grownBy W' (some bm) := fun h => World.grownBy.trans (grown_of_below hB _) h
      cases r with
      | true =>
        obtain ⟨k, hk, hp, _, hb, hm⟩ := h1 rfl
        have : xs.all noLf = false := by
          rw [List.all_eq_false]
          refine ⟨rdOf ByteArray.empty xs k, ?_, by simpa using hp⟩
          have : rdOf ByteArray.empty xs k = xs[k] := by simp [rdOf, List.getElem?_eq_getElem hk]
          rw [this]; exact List.getElem_mem hk
        rw [this]
        exact ⟨rfl, hgw hb, _, hm, fun h => nomatch h⟩
      | false =>
        obtain ⟨hp, hb, hm⟩ := h2 rfl
        have : xs.all noLf = true := by
          rw [List.all_eq_true]
          intro x hx
          obtain ⟨k, hk, rfl⟩ := List.getElem_of_mem hx
          have := hp k hk
          simpa [rdOf, List.getElem?_eq_getElem hk] using this
        rw [this]
        exact ⟨rfl, hgw hb, _, hm, fun _ => rfl⟩
  clear hx hb hs eg
  generalize xs.all noLf = q at hc
  go_enter Tryd.func44, Tryd.ntmps44
  go_wp2_with (go_at_call 65; refine (hc _ ?_ ?_).mono ?_; exact (Below.refl _ _).alloc (Nat.le_refl _) _; exact heap_alloc_new w _; rintro e w' ⟨rfl, hb⟩; have hb' : Aside _ := hb; clear hb)
  go_ret
  exact ⟨by simp, hb'.out⟩
end Go.Proofs.YtgnhkgobocmkoaaDoor
