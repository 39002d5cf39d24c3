/- Contracts of push.Same and push.Copy. -/
import Derived.Test.YtgnhkgobocmkoaaDoorLi
namespace Go.Proofs.YtgnhkgobocmkoaaDoor
open Go.RowKit Go.Proofs.YtgnhkgobocmkoaaDoorW.PrintWords

theorem same1_any (w : World) (a b : Addr) (n m x1 x2 x3 y1 y2 y3 : Int) (ha : w.cell? a = some (.int .i64 n)) (hb : w.cell? b = some (.int .i64 m)) :
    Calls Tryd.prog 54 #[.agg #[.int .i64 x1, .pointer (some a), .int .i64 x2, .int .i64 x3], .agg #[.int .i64 y1, .pointer (some b), .int .i64 y2, .int .i64 y3]] w fun e w' => e = .returned (.bool (n == m)) ∧ Below w.heap.size w w' := by
  have h1 := World.block_lt_of_cell? w _ ha
  have h2 := World.block_lt_of_cell? w _ hb
  go_enter Tryd.func54, Tryd.ntmps54
  go_wp2
  go_quiet (fail)
  go_wp2
  go_ret
  exact ⟨rfl, pw_below_drewN (((Below.refl _ _).alloc (Nat.le_refl _) _).alloc (by simp) _) _⟩

/-- Are the first k numbers the same? -/
def numsSame (p q : Pk) : Nat → Bool
  | 0 => true
  | k + 1 => numsSame p q k && (p.num k == q.num k)

theorem numsSame_false {p q : Pk} {k : Nat} (h : (p.num k == q.num k) = false) : ∀ d, numsSame p q (k + 1 + d) = false
  | 0 => by simp [numsSame, h]
  | d + 1 => by
    have := numsSame_false h d
    rw [show k + 1 + (d + 1) = k + 1 + d + 1 by omega, numsSame, this]
    rfl

set_option maxRecDepth 100000 in
set_option maxHeartbeats 2000000 in
theorem equalFields_any (w : World) (b1 b2 g1 g2 : Nat) (l1 f1 l2 f2 : Int) (p q : Pk) (V1 V2 : Value)
    (h1 : w.heap[b1]? = some (.cells (fieldCells g1 l1 f1) 73 (0, 0))) (h2 : w.heap[b2]? = some (.cells (fieldCells g2 l2 f2) 73 (0, 0)))
    (k1 : w.heap[g1]? = some (.cells (p.cellsV V1) 24 (0, 0))) (k2 : w.heap[g2]? = some (.cells (q.cellsV V2) 24 (0, 0))) :
    Calls Tryd.prog 53 #[.slice (some ⟨b1, 0, none⟩) 6 6, .slice (some ⟨b2, 0, none⟩) 6 6, .func (.func 54) #[] #[]] w fun e w' => e = .returned (.bool (numsSame p q 6)) ∧ Below w.heap.size w w' := by
  have H1 := Aside0.mk h1
  have H2 := Aside0.mk h2
  have K1 := Aside0.mk k1
  have K2 := Aside0.mk k2
  clear h1 h2 k1 k2
  go_enter Tryd.func53, Tryd.ntmps53
  go_wp2
  go_loopg [7, 8, 9, 17] 6 (fun gg _ _ _ s17 wr => ∃ k : Nat, k ≤ 6 ∧ 6 - k ≤ gg ∧ s17 = .int .i64 k ∧ Aside0 (Below w.heap.size w wr) ∧ Aside0 (numsSame p q k = true))
  case atStart => exact ⟨0, by omega, by omega, rfl, ⟨Below.refl _ _⟩, ⟨rfl⟩⟩
  case round =>
    obtain ⟨k, hk, hg, rfl, HB, HS⟩ := hrel
    by_cases hlt : k < 6
    · have hltz : (k : Int) < 6 := by omega
      obtain ⟨vc, vd, a0, a1, a2, a3⟩ := field_cells g1 k l1 f1 hlt
      obtain ⟨wc, wd, c0, c1, c2, c3⟩ := field_cells g2 k l2 f2 hlt
      have m1 := blk_below H1.out HB.out
      have m2 := blk_below H2.out HB.out
      have n1 := (blk_cell (blk_below K1.out HB.out) (k + 1)).trans (num_cellV p V1 k hlt)
      have n2 := (blk_cell (blk_below K2.out HB.out) (k + 1)).trans (num_cellV q V2 k hlt)
      have l0 := (blk_cell m1 (k * 4)).trans a0
      have l1 := (blk_cell m1 (k * 4 + 1)).trans a1
      have l2 := (blk_cell m1 (k * 4 + 2)).trans a2
      have l3 := (blk_cell m1 (k * 4 + 3)).trans a3
      have r0 := (blk_cell m2 (k * 4)).trans c0
      have r1 := (blk_cell m2 (k * 4 + 1)).trans c1
      have r2 := (blk_cell m2 (k * 4 + 2)).trans c2
      have r3 := (blk_cell m2 (k * 4 + 3)).trans c3
      have hb2 := blk_lt m2
      have HC := Aside0.mk (fun W (hW : Below wr.heap.size wr W) => same1_any W ⟨g1, k + 1, none⟩ ⟨g2, k + 1, none⟩ (p.num k) (q.num k) (bitAt k) vc vd (bitAt k) wc wd (pw_cell_below hW n1) (pw_cell_below hW n2))
      clear a0 a1 a2 a3 c0 c1 c2 c3 m1 m2 n1 n2
      cases hn : (p.num k == q.num k) with
      | true =>
        rw [hn] at HC
        go_wp2_with (go_at_call 54; refine (HC.out _ ?_).mono ?_; exact ((Below.refl _ _).alloc (Nat.le_refl _) _).alloc (by simp) _; rintro e w2 ⟨rfl, hb⟩; have HB2 := Aside0.mk hb; clear hb)
        go_roundg (6 - (k + 1))
        case measure => omega
        case rel => exact ⟨k + 1, by omega, by omega, by go_num, ⟨((HB.out.alloc HB.out.size _).alloc (by have := HB.out.size; simp; omega) _).trans (HB2.out.mono (by have := HB.out.size; simp; omega))⟩, ⟨by simp [numsSame, HS.out, hn]⟩⟩
      | false =>
        rw [hn] at HC
        have HN := Aside0.mk hn
        go_wp2_with (go_at_call 54; refine (HC.out _ ?_).mono ?_; exact ((Below.refl _ _).alloc (Nat.le_refl _) _).alloc (by simp) _; rintro e w2 ⟨rfl, hb⟩; have HB2 := Aside0.mk hb; clear hb)
        go_ret
        refine ⟨?_, ((HB.out.alloc HB.out.size _).alloc (by have := HB.out.size; simp; omega) _).trans (HB2.out.mono (by have := HB.out.size; simp; omega))⟩
        have := numsSame_false HN.out (6 - (k + 1))
        rw [show k + 1 + (6 - (k + 1)) = 6 by omega] at this
        rw [this]
        rfl
    · have hltz : ¬ (k : Int) < 6 := by omega
      obtain rfl : k = 6 := by omega
      go_wp2
      go_ret
      exact ⟨by rw [HS.out]; rfl, HB.out⟩

/-! ### texts -/
abbrev Ss (w : World) (A : Option Addr) (n : Nat) (xs : List ByteArray) : Prop := ReadsOf Value.string ByteArray.empty w A n xs
def textsEq : List ByteArray → List ByteArray → Bool
  | [], [] => true
  | x :: xs, y :: ys => (x.toList == y.toList) && textsEq xs ys
  | _, _ => false
theorem textsEq_len : ∀ {xs ys : List ByteArray}, xs.length ≠ ys.length → textsEq xs ys = false
  | [], [], h => absurd rfl h
  | [], _ :: _, _ => rfl
  | _ :: _, [], _ => rfl
  | _ :: xs, _ :: ys, h => by
    have := textsEq_len (xs := xs) (ys := ys) (by simpa using h)
    simp [textsEq, this]
theorem textsEq_drop (xs ys : List ByteArray) (hl : xs.length = ys.length) (k : Nat) (hk : k < xs.length) : textsEq (xs.drop k) (ys.drop k) = (((rdOf ByteArray.empty xs k).toList == (rdOf ByteArray.empty ys k).toList) && textsEq (xs.drop (k + 1)) (ys.drop (k + 1))) := by
  have hk2 : k < ys.length := by omega
  rw [List.drop_eq_getElem_cons hk, List.drop_eq_getElem_cons hk2]
  simp [textsEq, rdOf, List.getElem?_eq_getElem hk, List.getElem?_eq_getElem hk2]

set_option maxRecDepth 100000 in
set_option maxHeartbeats 2000000 in
theorem equalS_any (w : World) (A B : Option Addr) (c d : Nat) (xs ys : List ByteArray) (hx : Ss w A xs.length xs) (hy : Ss w B ys.length ys) :
    Calls Tryd.prog 55 #[.slice A xs.length c, .slice B ys.length d] w fun e w' => e = .returned (.bool (textsEq xs ys)) ∧ Drawn0 w w' := by
  have hm1 := hx.2.1
  have hm2 := hy.2.1
  have HX := Aside0.mk hx
  have HY := Aside0.mk hy
  clear hx hy
  by_cases hl : xs.length = ys.length
  · have HL := Aside0.mk hl
    have hlz : ((xs.length : Int) != (ys.length : Int)) = false := by rw [bne_eq_false_iff_eq]; omega
    clear hl
    have H0 := Aside0.mk (show textsEq xs ys = textsEq (xs.drop 0) (ys.drop 0) from rfl)
    generalize hq : textsEq xs ys = q at H0 ⊢
    clear hq
    go_enter Tryd.func55, Tryd.ntmps55
    go_wp2
    go_loopg [5, 13] xs.length (fun gg _ s13 wr => ∃ k : Nat, k ≤ xs.length ∧ xs.length - k ≤ gg ∧ s13 = .int .i64 k ∧ Aside0 (Drawn0 w wr) ∧ Aside0 (q = textsEq (xs.drop k) (ys.drop k)))
    case atStart => exact ⟨0, by omega, by omega, rfl, ⟨Drawn0.refl _⟩, H0⟩
    case round =>
      clear H0
      obtain ⟨k, hk, hg, rfl, HD, HQ⟩ := hrel
      by_cases hlt : k < xs.length
      · have hltz : (k : Int) < (xs.length : Int) := by omega
        have hlty : (k : Int) < (ys.length : Int) := by have := HL.out; omega
        obtain ⟨a1, rfl, l1⟩ := (HX.out.below HD.out.below).at_ k (by omega) (by omega)
        obtain ⟨a2, rfl, l2⟩ := (HY.out.below HD.out.below).at_ k (by omega) (by omega)
        simp only [Int.toNat_natCast] at l1 l2
        have HDR := Aside0.mk (textsEq_drop xs ys HL.out k hlt)
        generalize rdOf ByteArray.empty xs k = x at l1 HDR
        generalize rdOf ByteArray.empty ys k = y at l2 HDR
        cases hxy : (x.toList == y.toList) with
        | true =>
          have HXY := Aside0.mk hxy
          go_wp2
          go_quiet (fail)
          go_wp2
          go_roundg (xs.length - (k + 1))
          case measure => omega
          case rel => exact ⟨k + 1, by omega, by omega, by go_num, ⟨HD.out.step _⟩, ⟨by simp only [HQ.out, HDR.out, hxy, Bool.true_and]⟩⟩
        | false =>
          have HXY := Aside0.mk hxy
          go_wp2
          go_quiet (fail)
          go_wp2
          go_ret
          refine ⟨?_, HD.out.step _⟩
          simp only [HQ.out, HDR.out, hxy, Bool.false_and]
          rfl
      · have hltz : ¬ (k : Int) < (xs.length : Int) := by omega
        have HK := Aside0.mk (show xs.length ≤ k by omega)
        go_wp2
        go_ret
        refine ⟨?_, HD.out⟩
        rw [HQ.out, List.drop_of_length_le HK.out, List.drop_of_length_le (by rw [← HL.out]; exact HK.out)]
        rfl
  · rw [textsEq_len hl]
    have hlz : ((xs.length : Int) != (ys.length : Int)) = true := by simp; omega
    go_enter Tryd.func55, Tryd.ntmps55
    go_wp2
    go_ret
    exact ⟨rfl, Drawn0.refl _⟩

def CloneS (w : World) (xs : List ByteArray) (e : Ending) (w' : World) : Prop := ∃ v, e = .returned v ∧ w'.ownsRow w.heap.size 9 1 v xs.length (encs Value.string xs) ∧ Below w.heap.size w w'
set_option maxRecDepth 100000 in
theorem cloneS_any (w : World) (A : Option Addr) (c : Nat) (xs : List ByteArray) (hx : Ss w A xs.length xs) (hl : xs.length ≤ 4000000) :
    Calls Tryd.prog 28 #[.slice A xs.length c] w (CloneS w xs) := by
  rcases A with _ | ad
  · have h0 : xs = [] := by
      rcases Nat.eq_zero_or_pos xs.length with h | h
      · exact List.eq_nil_of_length_eq_zero h
      · obtain ⟨ad, h', _⟩ := hx.2.2 h
        cases h'
    subst h0
    exact (Tryd.slices_Clone_string_nil _ _ w).mono fun e w' ⟨he, hw⟩ => ⟨_, he, own_nil _ _ _ _, hw ▸ Below.refl _ _⟩
  · have HX := Aside0.mk hx
    have heq := fun (W : World) => Lib.run_eql_slice_nil (P := Tryd.prog) W 22 9 (some ad) xs.length c 0 0 Tryd.underlying22
    clear hx
    go_enter Tryd.func28, Tryd.ntmps28
    have HB : Below w.heap.size w (w.alloc (.cells #[] 9)) := (Below.refl _ _).alloc (Nat.le_refl _) _
    have HB' := Aside0.mk HB
    clear HB
    go_wp2_with (at_builtin; refine wpl_append_row Value.string ByteArray.empty rfl (.tmp 5) (.tmp 6) 22 9 (.string ⟨#[]⟩) 16 rfl Tryd.underlying22 infoStr rfl (by omega) (fun _ => rfl) w.heap.size _ [] xs (some ad) _ _ rfl rfl (own_lit_of (enc := Value.string) w w.heap.size 9 [] (Nat.le_refl _) (by simp)) (HX.out.below HB'.out) (by simp) (by simp; omega) ?_; intro v1 w1 hg1; have HG := Aside0.mk hg1; clear hg1)
    go_ret
    refine ⟨_, rfl, ?_, HB'.out.trans (HG.out.below (own_lit_of (enc := Value.string) w w.heap.size 9 [] (Nat.le_refl _) (by simp)) (by simp))⟩
    have := HG.out.own
    rw [List.nil_append] at this
    exact this

/-! ### Same and Copy -/
def Pk.sameB (p q : Pk) : Bool := (p.kind == q.kind) && numsSame p q 6 && (p.text.toList == q.text.toList) && textsEq p.lines q.lines

set_option maxRecDepth 100000 in
set_option maxHeartbeats 2000000 in
theorem same_any (w : World) (p q : Pk) (A B : Option Addr) (c d : Nat) (hx : Ss w A p.lines.length p.lines) (hy : Ss w B q.lines.length q.lines) :
    Calls Tryd.prog 21 #[.agg (p.cells A c), .agg (q.cells B d)] w fun e w' => e = .returned (.bool (p.sameB q)) ∧ Below w.heap.size w w' := by
  have HX := Aside0.mk hx
  have HY := Aside0.mk hy
  clear hx hy
  have HW := Aside0.mk (((Below.refl w.heap.size w).alloc (Nat.le_refl _) (.cells (p.cells A c) 24)).alloc (by simp) (.cells (q.cells B d) 24))
  have HK1 := Aside0.mk (show ((w.alloc (.cells (p.cells A c) 24)).alloc (.cells (q.cells B d) 24)).heap[w.heap.size]? = some (.cells (p.cellsV (.slice A p.lines.length c)) 24 (0, 0)) from blk_alloc (heap_alloc_new w (.cells (p.cells A c) 24)) (.cells (q.cells B d) 24))
  have HK2 := Aside0.mk (show ((w.alloc (.cells (p.cells A c) 24)).alloc (.cells (q.cells B d) 24)).heap[w.heap.size + 1]? = some (.cells (q.cellsV (.slice B q.lines.length d)) 24 (0, 0)) by have := heap_alloc_new (w.alloc (.cells (p.cells A c) 24)) (.cells (q.cells B d) 24); rw [World.size_alloc] at this; exact this)
  generalize hk : (p.kind == q.kind) = bk
  generalize hn : numsSame p q 6 = bn
  generalize ht : (p.text.toList == q.text.toList) = bt
  have HS := Aside0.mk (show p.sameB q = (bk && bn && bt && textsEq p.lines q.lines) by unfold Pk.sameB; rw [hk, hn, ht])
  rw [HS.out]
  have HN := Aside0.mk hn
  clear HS hn
  generalize hx : (bk && bn && bt && textsEq p.lines q.lines) = res
  have HR := Aside0.mk hx
  clear hx
  have hcells : ∀ (p : Pk) (A : Option Addr) (c : Nat), p.cells A c = p.cellsV (.slice A p.lines.length c) := fun _ _ _ => rfl
  simp only [hcells] at HW HK1 HK2
  generalize hg1 : (w.alloc (.cells (p.cellsV (.slice A p.lines.length c)) 24)).alloc (.cells (q.cellsV (.slice B q.lines.length d)) 24) = W0 at HW HK1 HK2
  have HG1 := Aside0.mk hg1
  clear hg1 hcells
  have hpc : p.cells A c = #[.int .i64 p.kind, .int .i64 p.ver, .int .i64 p.frm, .int .i64 p.node, .int .i64 p.tick, .int .i64 p.head, .int .i64 p.tail, .string p.text, .slice A p.lines.length c] := rfl
  have hqc : q.cells B d = #[.int .i64 q.kind, .int .i64 q.ver, .int .i64 q.frm, .int .i64 q.node, .int .i64 q.tick, .int .i64 q.head, .int .i64 q.tail, .string q.text, .slice B q.lines.length d] := rfl
  rw [hpc, hqc]
  clear hpc hqc
  go_enter Tryd.func21, Tryd.ntmps21
  go_upto_region 1 with (fail)
  have hw0 := HG1.out
  unfold Pk.cellsV at hw0
  rw [hw0]
  clear hw0
  go_upto_region 2 with (first | (go_at_call 42; have hx5 := HF1; clear hx5; refine (fields_any _ (w.heap.size + 1) q.kind q.ver ?_ ?_).mono ?_; exact (blk_cell (blk_below HK2.out HF1.out.2.2) 0).trans rfl; exact (blk_cell (blk_below HK2.out HF1.out.2.2) 1).trans rfl; rintro e w2 ⟨rfl, hfl⟩; have HF2 := Aside0.mk hfl; clear hfl) | (go_at_call 42; refine (fields_any _ w.heap.size p.kind p.ver ?_ ?_).mono ?_; exact (blk_cell HK1.out 0).trans rfl; exact (blk_cell HK1.out 1).trans rfl; rintro e w1 ⟨rfl, hfl⟩; have HF1 := Aside0.mk hfl; clear hfl) | (go_at_call 53; refine (equalFields_any _ _ _ w.heap.size (w.heap.size + 1) _ _ _ _ p q _ _ (blk_below HF1.out.1 HF2.out.2.2) HF2.out.1 (blk_below (blk_below HK1.out HF1.out.2.2) HF2.out.2.2) (blk_below (blk_below HK2.out HF1.out.2.2) HF2.out.2.2)).mono ?_; rintro e w3 ⟨rfl, hb3⟩; have HB3 := Aside0.mk hb3; have HM1 := Aside0.mk (blk_below (blk_below (blk_below HK1.out HF1.out.2.2) HF2.out.2.2) hb3); have HM2 := Aside0.mk (blk_below (blk_below (blk_below HK2.out HF1.out.2.2) HF2.out.2.2) hb3); clear hb3))
  rw [HN.out]
  have m0 := (blk_cell HM1.out 0).trans (show (p.cells A c)[0]? = some (.int .i64 p.kind) from rfl)
  have m7 := (blk_cell HM1.out 7).trans (show (p.cells A c)[7]? = some (.string p.text) from rfl)
  have m8 := (blk_cell HM1.out 8).trans (show (p.cells A c)[8]? = some (.slice A p.lines.length c) from rfl)
  have n0 := (blk_cell HM2.out 0).trans (show (q.cells B d)[0]? = some (.int .i64 q.kind) from rfl)
  have n7 := (blk_cell HM2.out 7).trans (show (q.cells B d)[7]? = some (.string q.text) from rfl)
  have n8 := (blk_cell HM2.out 8).trans (show (q.cells B d)[8]? = some (.slice B q.lines.length d) from rfl)
  have HBB := Aside0.mk (HW.out.trans (((HF1.out.2.2.mono HW.out.size).trans (HF2.out.2.2.mono (Nat.le_trans HW.out.size HF1.out.2.2.size))).trans (HB3.out.mono (Nat.le_trans (Nat.le_trans HW.out.size HF1.out.2.2.size) HF2.out.2.2.size))))
  have HEQ := Aside0.mk (equalS_any w3 A B c d p.lines q.lines (HX.out.below HBB.out) (HY.out.below HBB.out))
  generalize textsEq p.lines q.lines = bl at HEQ HR
  clear HF1 HF2 HB3 HM1 HM2 HK1 HK2 HW HN
  cases bk
  · have hr : false = res := by simpa using HR.out
    subst hr
    cases bn <;> cases bt
    all_goals
      go_wp2
      go_ret
      exact ⟨rfl, HBB.out⟩
  · cases bn
    · have hr : false = res := by simpa using HR.out
      subst hr
      cases bt
      all_goals
        go_wp2
        go_ret
        exact ⟨rfl, HBB.out⟩
    · cases bt
      · have hr : false = res := by simpa using HR.out
        subst hr
        go_wp2
        go_ret
        exact ⟨rfl, HBB.out⟩
      · have hr : bl = res := by simpa using HR.out
        subst hr
        go_wp2_with (go_at_call 55; refine HEQ.out.mono ?_; rintro e w4 ⟨rfl, hd⟩; have HD := Aside0.mk hd; clear hd)
        go_ret
        exact ⟨rfl, HBB.out.trans (HD.out.below.mono HBB.out.size)⟩
end Go.Proofs.YtgnhkgobocmkoaaDoor
