/- The law's works: the chapter's packets. -/
import Derived.Test.YtgnhkgobocmkoaaDoorRf
import Derived.Test.YtgnhkgobocmkoaaDoorRg
namespace Go.Proofs.YtgnhkgobocmkoaaDoor
open Go.RowKit Go.Proofs.YtgnhkgobocmkoaaDoorW.PrintWords

theorem bytes_lit (W : World) (ws : List Int) (h : ws.length ≤ 9223372036854775807) : Bs (W.alloc (.cells (nums .u8 ws).toArray 5)) (some ⟨W.heap.size, 0, none⟩) ws.length ws :=
  own_reads_of' (own_lit_of (enc := Value.int .u8) W W.heap.size 5 ws (Nat.le_refl _) h)
theorem isBytes_of {ws : List Int} (h : ws.all (fun x => decide (0 ≤ x) && decide (x < 256)) = true) : IsBytes ws := by
  intro x hx
  have := List.all_eq_true.1 h x hx
  simpa using this
theorem is_lit (W : World) (p q : Pk) (ws : List Int) (hp : p.lines = []) (hok : p.ok = true) (hl : ws.length ≤ 9223372036854775807) (hib : ws.all (fun x => decide (0 ≤ x) && decide (x < 256)) = true) (hbytes : p.bytes = ws) (hq : parseR ws = (q, 0)) (hs : p.sameB q = true) :
    Calls Tryd.prog 37 #[.agg (p.cells none 0), .slice (some ⟨W.heap.size, 0, none⟩) ws.length ws.length] (W.alloc (.cells (nums .u8 ws).toArray 5)) fun e w' => e = .returned (.bool true) ∧ Below W.heap.size W w' := by
  refine (is_true _ p none 0 (by rw [hp]; exact ReadsOf.nil _ _ _) hok (some ⟨W.heap.size, 0, none⟩) ws.length ws (bytes_lit W ws hl) (Nat.le_refl _) (isBytes_of hib) hbytes q hq hs).mono ?_
  rintro e w' ⟨rfl, hb⟩
  exact ⟨rfl, ((Below.refl _ _).alloc (Nat.le_refl _) _).trans (hb.mono (by simp))⟩
theorem fails_lit (W : World) (er : Int) (ws : List Int) (hl : ws.length ≤ 9223372036854775807) (hib : ws.all (fun x => decide (0 ≤ x) && decide (x < 256)) = true) (hq : parseR ws = (Pk.zero, er)) :
    Calls Tryd.prog 25 #[.int .i64 er, .slice (some ⟨W.heap.size, 0, none⟩) ws.length ws.length] (W.alloc (.cells (nums .u8 ws).toArray 5)) fun e w' => e = .returned (.bool true) ∧ Below W.heap.size W w' := by
  refine (fails_true _ er (some ⟨W.heap.size, 0, none⟩) ws.length ws (bytes_lit W ws hl) (Nat.le_refl _) (isBytes_of hib) hq).mono ?_
  rintro e w' ⟨rfl, hb⟩
  exact ⟨rfl, ((Below.refl _ _).alloc (Nat.le_refl _) _).trans (hb.mono (by simp))⟩

def wp1 : Pk := { Pk.zero with kind := 3, ver := 3, tick := 258 }
def wp2 : Pk := { Pk.zero with kind := 4, ver := 2, node := 1 }
def wp3 : Pk := { Pk.zero with kind := 4, tick := 1 }
def wd1 (l : List ByteArray) : Pk := { Pk.zero with kind := 2, ver := 2, frm := 1, head := 1, tail := 1, lines := l }
def wd2 (h : Int) : Pk := { Pk.zero with kind := 2, ver := 2, frm := 1, head := h }
theorem is_one (W : World) : Calls Tryd.prog 37 #[.agg #[.int .i64 3, .int .i64 3, .int .i64 0, .int .i64 0, .int .i64 258, .int .i64 0, .int .i64 0, .string ⟨#[]⟩, .slice none 0 0], .slice (some ⟨W.heap.size, 0, none⟩) 15 15] (W.alloc (.cells #[.int .u8 3, .int .u8 0, .int .u8 0, .int .u8 0, .int .u8 0, .int .u8 0, .int .u8 0, .int .u8 3, .int .u8 0, .int .u8 0, .int .u8 0, .int .u8 0, .int .u8 0, .int .u8 1, .int .u8 2] 5)) fun e w' => e = .returned (.bool true) ∧ Below W.heap.size W w' :=
  is_lit W wp1 wp1 [3, 0, 0, 0, 0, 0, 0, 3, 0, 0, 0, 0, 0, 1, 2] rfl (by kernel_rfl) (by decide) (by kernel_rfl) (by kernel_rfl) (by kernel_rfl) (by kernel_rfl)
theorem is_two (W : World) : Calls Tryd.prog 37 #[.agg #[.int .i64 4, .int .i64 2, .int .i64 0, .int .i64 1, .int .i64 0, .int .i64 0, .int .i64 0, .string ⟨#[]⟩, .slice none 0 0], .slice (some ⟨W.heap.size, 0, none⟩) 15 15] (W.alloc (.cells #[.int .u8 4, .int .u8 0, .int .u8 0, .int .u8 0, .int .u8 0, .int .u8 0, .int .u8 0, .int .u8 2, .int .u8 0, .int .u8 0, .int .u8 0, .int .u8 0, .int .u8 0, .int .u8 0, .int .u8 1] 5)) fun e w' => e = .returned (.bool true) ∧ Below W.heap.size W w' :=
  is_lit W wp2 wp2 [4, 0, 0, 0, 0, 0, 0, 2, 0, 0, 0, 0, 0, 0, 1] rfl (by kernel_rfl) (by decide) (by kernel_rfl) (by kernel_rfl) (by kernel_rfl) (by kernel_rfl)
theorem fails_one (W : World) : Calls Tryd.prog 25 #[.int .i64 4, .slice (some ⟨W.heap.size, 0, none⟩) 1 1] (W.alloc (.cells #[.int .u8 6] 5)) fun e w' => e = .returned (.bool true) ∧ Below W.heap.size W w' :=
  fails_lit W 4 [6] (by decide) (by kernel_rfl) (by kernel_rfl)
theorem fails_two (W : World) : Calls Tryd.prog 25 #[.int .i64 3, .slice (some ⟨W.heap.size, 0, none⟩) 2 2] (W.alloc (.cells #[.int .u8 3, .int .u8 0] 5)) fun e w' => e = .returned (.bool true) ∧ Below W.heap.size W w' :=
  fails_lit W 3 [3, 0] (by decide) (by kernel_rfl) (by kernel_rfl)
theorem check_one (W : World) : Calls Tryd.prog 15 #[.agg #[.int .i64 4, .int .i64 0, .int .i64 0, .int .i64 0, .int .i64 1, .int .i64 0, .int .i64 0, .string ⟨#[]⟩, .slice none 0 0]] W fun e w' => e = .returned (.int .i64 2) ∧ Below W.heap.size W w' := by
  have h := check_any W wp3 none 0 (Kd.C_of_reads (ReadsOf.nil Value.string ByteArray.empty W)) (by decide)
  rw [show chkOf wp3.ok = 2 by kernel_rfl] at h
  exact h
theorem diff_one (W : World) (m : Int) (hm : W.cell? ⟨0, 0, none⟩ = some (.int .i64 m)) : Calls Tryd.prog 8 #[.string ⟨#[97, 10, 98, 10, 99]⟩, .string ⟨#[97, 10, 120, 10, 99]⟩] W (DiffPost W (wd1 [⟨#[120]⟩], 0)) := by
  have h := diff_any W ⟨#[97, 10, 98, 10, 99]⟩ ⟨#[97, 10, 120, 10, 99]⟩ m (by decide) (by decide) hm
  rw [show diffOf ⟨#[97, 10, 98, 10, 99]⟩ ⟨#[97, 10, 120, 10, 99]⟩ = (wd1 [⟨#[120]⟩], 0) by kernel_rfl] at h
  exact h
theorem diff_two (W : World) (m : Int) (hm : W.cell? ⟨0, 0, none⟩ = some (.int .i64 m)) : Calls Tryd.prog 8 #[.string ⟨#[97, 10, 97]⟩, .string ⟨#[97]⟩] W (DiffPost W (wd2 1, 0)) := by
  have h := diff_any W ⟨#[97, 10, 97]⟩ ⟨#[97]⟩ m (by decide) (by decide) hm
  rw [show diffOf ⟨#[97, 10, 97]⟩ ⟨#[97]⟩ = (wd2 1, 0) by kernel_rfl] at h
  exact h
theorem apply_one (W : World) (m : Int) (A : Option Addr) (c : Nat) (hm : W.cell? ⟨0, 0, none⟩ = some (.int .i64 m)) (hx : Ss W A 2 [⟨#[120]⟩, ⟨#[121]⟩]) : Calls Tryd.prog 10 #[.string ⟨#[97, 10, 98, 10, 99]⟩, .agg ((wd1 [⟨#[120]⟩, ⟨#[121]⟩]).cells A c)] W fun e w' => e = .returned (.tuple #[.string ⟨#[97, 10, 120, 10, 121, 10, 99, 10]⟩, .int .i64 0]) ∧ Below W.heap.size W w' := by
  have h := apply_any W ⟨#[97, 10, 98, 10, 99]⟩ (wd1 [⟨#[120]⟩, ⟨#[121]⟩]) A c m (by decide) hm hx (by decide)
  rw [show applyOf ⟨#[97, 10, 98, 10, 99]⟩ (wd1 [⟨#[120]⟩, ⟨#[121]⟩]) = (⟨#[97, 10, 120, 10, 121, 10, 99, 10]⟩, 0) by kernel_rfl] at h
  exact h
theorem apply_two (W : World) (m : Int) (A : Option Addr) (c : Nat) (hm : W.cell? ⟨0, 0, none⟩ = some (.int .i64 m)) (hx : Ss W A 0 []) : Calls Tryd.prog 10 #[.string ⟨#[97, 10, 97]⟩, .agg ((wd2 3).cells A c)] W fun e w' => e = .returned (.tuple #[.string ⟨#[]⟩, .int .i64 2]) ∧ Below W.heap.size W w' := by
  have h := apply_any W ⟨#[97, 10, 97]⟩ (wd2 3) A c m (by decide) hm hx (by decide)
  rw [show applyOf ⟨#[97, 10, 97]⟩ (wd2 3) = (⟨#[]⟩, 2) by kernel_rfl] at h
  exact h

/-- Two packets' blocks. -/
structure WkSt (w wx : World) (b1 b2 : Nat) (p q : Pk) (v1 v2 : Value) : Prop where
  k1 : wx.heap[b1]? = some (.cells (p.cellsV v1) 24 (0, 0))
  k2 : wx.heap[b2]? = some (.cells (q.cellsV v2) 24 (0, 0))
  bel : Below w.heap.size w wx

set_option maxRecDepth 100000 in
set_option maxHeartbeats 4000000 in
theorem works_any (w : World) (m : Int) (hm : w.cell? ⟨0, 0, none⟩ = some (.int .i64 m)) :
    Calls Tryd.prog 13 #[] w fun e w' => e = .returned (.bool true) ∧ Below w.heap.size w w' := by
  have HM := Aside0.mk hm
  have hb0 := World.block_lt_of_cell? w _ hm
  have t1 : True := trivial
  have t2 : True := trivial
  clear hm
  go_enter Tryd.func13, Tryd.ntmps13
  go_upto_region 7 with (first
    | (go_at_call 37; (with_reducible refine (is_two _).mono ?_); rintro e w2 ⟨rfl, hb⟩; have HB2 := Aside0.mk (HB1.out.trans (hb.mono HB1.out.size)); clear hb)
    | (go_at_call 37; (with_reducible refine (is_one _).mono ?_); rintro e w1 ⟨rfl, hb⟩; have HB1 := Aside0.mk hb; clear hb)
    | (go_at_call 15; (with_reducible refine (check_one _).mono ?_); rintro e w3 ⟨rfl, hb⟩; have HB3 := Aside0.mk (HB2.out.trans (hb.mono HB2.out.size)); clear hb)
    | (go_at_call 25; (with_reducible refine (fails_two _).mono ?_); rintro e w5 ⟨rfl, hb⟩; have HB5 := Aside0.mk (HB4.out.trans (hb.mono HB4.out.size)); clear hb)
    | (go_at_call 25; (with_reducible refine (fails_one _).mono ?_); rintro e w4 ⟨rfl, hb⟩; have HB4 := Aside0.mk (HB3.out.trans (hb.mono HB3.out.size)); clear hb)
    | (go_at_call 8; (with_reducible refine (diff_two _ m (pw_cell_below HB7.out HM.out)).mono ?_); rintro e w8 ⟨A8, c8, rfl, hm8, hb⟩; have HM8 := Aside0.mk hm8; have HB8 := Aside0.mk hb; clear hm8 hb)
    | (go_at_call 8; (with_reducible refine (diff_one _ m (pw_cell_below HB5.out HM.out)).mono ?_); rintro e w6 ⟨A6, c6, rfl, hm6, hb⟩; have HM6 := Aside0.mk hm6; have HB6 := Aside0.mk hb; clear hm6 hb)
    | (have hx := HM8; clear hx; have tk := t2; clear tk; refine wpl_store_row rfl 24 (.tmp 3) (.tmp 38) rfl w8.heap.size 24 #[.int .i64 0, .int .i64 0, .int .i64 0, .int .i64 0, .int .i64 0, .int .i64 0, .int .i64 0, .string ⟨#[]⟩, .slice none 0 0] ((wd2 1).cells A8 c8) rfl rfl infoP (by rfl) (heap_alloc_new w8 _) (pk_one _ _ _) ?_; have hb := below_box w8 #[.int .i64 0, .int .i64 0, .int .i64 0, .int .i64 0, .int .i64 0, .int .i64 0, .int .i64 0, .string ⟨#[]⟩, .slice none 0 0] ((wd2 1).cells A8 c8) 24; have hk := heap_box w8 #[.int .i64 0, .int .i64 0, .int .i64 0, .int .i64 0, .int .i64 0, .int .i64 0, .int .i64 0, .string ⟨#[]⟩, .slice none 0 0] ((wd2 1).cells A8 c8) 24; generalize (w8.alloc (.cells #[.int .i64 0, .int .i64 0, .int .i64 0, .int .i64 0, .int .i64 0, .int .i64 0, .int .i64 0, .string ⟨#[]⟩, .slice none 0 0] 24)).setRow w8.heap.size ((wd2 1).cells A8 c8) = w9 at hb hk ⊢; have HB89 := Aside0.mk (HB8.out.trans (hb.mono HB8.out.size)); have HK9 := Aside0.mk hk; have HM9 := Aside0.mk (HM8.out.below hb); clear hb hk t2)
    | (have hx := HM6; clear hx; have tk := t1; clear tk; refine wpl_store_row rfl 24 (.tmp 1) (.tmp 34) rfl w6.heap.size 24 #[.int .i64 0, .int .i64 0, .int .i64 0, .int .i64 0, .int .i64 0, .int .i64 0, .int .i64 0, .string ⟨#[]⟩, .slice none 0 0] ((wd1 [⟨#[120]⟩]).cells A6 c6) rfl rfl infoP (by rfl) (heap_alloc_new w6 _) (pk_one _ _ _) ?_; have hb := below_box w6 #[.int .i64 0, .int .i64 0, .int .i64 0, .int .i64 0, .int .i64 0, .int .i64 0, .int .i64 0, .string ⟨#[]⟩, .slice none 0 0] ((wd1 [⟨#[120]⟩]).cells A6 c6) 24; have hk := heap_box w6 #[.int .i64 0, .int .i64 0, .int .i64 0, .int .i64 0, .int .i64 0, .int .i64 0, .int .i64 0, .string ⟨#[]⟩, .slice none 0 0] ((wd1 [⟨#[120]⟩]).cells A6 c6) 24; generalize (w6.alloc (.cells #[.int .i64 0, .int .i64 0, .int .i64 0, .int .i64 0, .int .i64 0, .int .i64 0, .int .i64 0, .string ⟨#[]⟩, .slice none 0 0] 24)).setRow w6.heap.size ((wd1 [⟨#[120]⟩]).cells A6 c6) = w7 at hb hk ⊢; have HB7 := Aside0.mk ((HB5.out.trans (HB6.out.mono HB5.out.size)).trans (hb.mono (HB5.out.trans (HB6.out.mono HB5.out.size)).size)); have HK7 := Aside0.mk hk; have HM7 := Aside0.mk (HM6.out.below hb); clear hb hk t1))
  have HB9 := Aside0.mk (HB7.out.trans (HB89.out.mono HB7.out.size))
  have HP9 := Aside0.mk (blk_below HK7.out HB89.out)
  have HMP := Aside0.mk (HM7.out.below HB89.out)
  have hsz : Aside0 (w5.heap.size ≤ w9.heap.size) := ⟨by have h1 := blk_lt HP9.out; have h2 := HB6.out.size; omega⟩
  have hne : Aside0 (w6.heap.size < w8.heap.size) := ⟨by have h1 := blk_lt HK7.out; have h2 := HB8.out.size; omega⟩
  have hw6 : Aside0 (w.heap.size ≤ w6.heap.size) := ⟨(HB5.out.trans (HB6.out.mono HB5.out.size)).size⟩
  have hw8 : Aside0 (w.heap.size ≤ w8.heap.size) := ⟨(HB7.out.trans (HB8.out.mono HB7.out.size)).size⟩
  clear HB1 HB2 HB3 HB4 HB6 HB7 HB8 HB89 HK7 HM6 HM7 HM8
  generalize w6.heap.size = b1 at HP9 hne hw6 ⊢
  generalize w8.heap.size = b2 at HK9 hne hw8 ⊢
  have k8 := (blk_cell HP9.out 8).trans (show ((wd1 [⟨#[120]⟩]).cells A6 c6)[8]? = some (.slice A6 1 c6) from rfl)
  go_upto_region 8 with (at_builtin; refine wpl_append_mid rfl (.tmp 41) (.tmp 42) rfl w5.heap.size A6 c6 [⟨#[120]⟩] ⟨#[121]⟩ rfl rfl HMP.out (by decide) hsz.out (by decide) ?_; intro A10 c10 w10 hm10 hk10 hb10; have HM10 := Aside0.mk hm10; have HP10 := Aside0.mk (hk10 _ _ _ _ HP9.out (by decide)); have HK10 := Aside0.mk (hk10 _ _ _ _ HK9.out (by decide)); have HB10 := Aside0.mk (HB9.out.trans (hb10.mono HB5.out.size)); have k8' := (blk_cell HP10.out 8).trans (show ((wd1 [⟨#[120]⟩]).cells A6 c6)[8]? = some (.slice A6 1 c6) from rfl); have f8' := blk_frozen HP10.out 8; clear hm10 hk10 hb10)
  have HM11 := Aside0.mk ((HM10.out.other (b := b1) HP10.out (by decide) (w' := w10.setCell ⟨b1, 8, none⟩ (.slice A10 2 c10)) (fun k _ hk => Below.heap_setCell w10 ⟨b1, 8, none⟩ _ k hk)).reads)
  have HP11 := Aside0.mk (show (w10.setCell ⟨b1, 8, none⟩ (.slice A10 2 c10)).heap[b1]? = some (.cells ((wd1 [⟨#[120]⟩, ⟨#[121]⟩]).cells A10 c10) 24 (0, 0)) from (blk_set HP10.out 8 _))
  have HK11 := Aside0.mk ((blk_far HK10.out (p := ⟨b1, 8, none⟩) (Nat.ne_of_gt hne.out) (.slice A10 2 c10)))
  have HB11 := Aside0.mk (HB10.out.setCell (p := ⟨b1, 8, none⟩) hw6.out (.slice A10 2 c10))
  generalize w10.setCell ⟨b1, 8, none⟩ (.slice A10 2 c10) = w11 at HM11 HP11 HK11 HB11 ⊢
  obtain ⟨ad, hA, l0⟩ := HM11.out.at_ 0 (by decide) (by decide)
  subst hA
  have L0 := Aside0.mk (show w11.cell? ad = some (.string ⟨#[120]⟩) from l0)
  have hA8 : ∀ W, Ss W A8 0 [] := fun W => ⟨rfl, by omega, fun h => absurd h (Nat.lt_irrefl 0)⟩
  have HA8 := Aside0.mk hA8
  have t5 : True := trivial
  have t6 : True := trivial
  clear l0 k8 k8' f8' HP9 HK9 HP10 HK10 HM10 HB10 HMP HM9 HB9 HB5 hsz hA8
  go_upto_region 11 with (first
    | (have tk := t5; clear tk; refine wpList_load_row rfl 24 (.tmp 1) rfl b1 rfl 24 _ _ _ HP11.out Tryd.underlying24 rfl infoP ?_; clear t5)
    | (have hx := HK13; clear hx; have tk := t6; clear tk; refine wpList_load_row rfl 24 (.tmp 3) rfl b2 rfl 24 ((wd2 3).cells A8 c8) _ _ (blk_set HK13.out 5 (.int .i64 3)) Tryd.underlying24 rfl infoP ?_; clear t6)
    | (go_at_call 10; (with_reducible refine (apply_one _ m _ _ (pw_cell_below HB11.out HM.out) HM11.out).mono ?_); rintro e w12 ⟨rfl, hb⟩; have HB12 := Aside0.mk (HB11.out.trans (hb.mono HB11.out.size)); have HP12 := Aside0.mk (blk_below HP11.out hb); have HK13 := Aside0.mk (blk_below HK11.out hb); have L12 := Aside0.mk (pw_cell_below hb L0.out); have c5 := (blk_cell HK13.out 5).trans (show ((wd2 1).cells A8 c8)[5]? = some (.int .i64 1) from rfl); have f5 := blk_frozen HK13.out 5; clear hb)
    | (go_at_call 10; (refine (apply_two _ m A8 c8 (pw_cell_below (HB12.out.setCell (p := ⟨b2, 5, none⟩) hw8.out (.int .i64 3)) HM.out) (HA8.out _)).mono ?_); rintro e w14 ⟨rfl, hb⟩; have HB14 := Aside0.mk ((HB12.out.setCell (p := ⟨b2, 5, none⟩) hw8.out (.int .i64 3)).trans (hb.mono (HB12.out.setCell (p := ⟨b2, 5, none⟩) hw8.out (.int .i64 3)).size)); have hb' := Aside0.mk hb; clear hb))
  have HP14 := Aside0.mk (blk_below (blk_far HP12.out (p := ⟨b2, 5, none⟩) (Nat.ne_of_lt hne.out) (.int .i64 3)) hb'.out)
  have HK14 := Aside0.mk (blk_below (show (w12.setCell ⟨b2, 5, none⟩ (.int .i64 3)).heap[b2]? = some (.cells ((wd2 3).cells A8 c8) 24 (0, 0)) from blk_set HK13.out 5 _) hb'.out)
  have hadn : ad ≠ ⟨b2, 5, none⟩ := by
    rintro rfl
    have h1 := L12.out
    rw [c5] at h1
    cases h1
  have L14 : w14.cell? ad = some (.string ⟨#[120]⟩) := pw_cell_below hb'.out ((World.cell?_setCell_other _ _ _ _ (Ne.symm hadn)).trans L12.out)
  have q5 := (blk_cell HP14.out 5).trans (show ((wd1 [⟨#[120]⟩, ⟨#[121]⟩]).cells (some ad) c10)[5]? = some (.int .i64 1) from rfl)
  have q6 := (blk_cell HP14.out 6).trans (show ((wd1 [⟨#[120]⟩, ⟨#[121]⟩]).cells (some ad) c10)[6]? = some (.int .i64 1) from rfl)
  have q8 := (blk_cell HP14.out 8).trans (show ((wd1 [⟨#[120]⟩, ⟨#[121]⟩]).cells (some ad) c10)[8]? = some (.slice (some ad) 2 c10) from rfl)
  have r6 := (blk_cell HK14.out 6).trans (show ((wd2 3).cells A8 c8)[6]? = some (.int .i64 0) from rfl)
  have r8 := (blk_cell HK14.out 8).trans (show ((wd2 3).cells A8 c8)[8]? = some (.slice A8 0 c8) from rfl)
  clear HP11 HK11 HM11 L0 HA8 HB11 HB12 HP12 HK13 L12 c5 f5 hb' HP14 HK14 hadn
  go_wp2
  go_ret
  exact ⟨by rfl, HB14.out⟩
end Go.Proofs.YtgnhkgobocmkoaaDoor
