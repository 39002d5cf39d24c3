/- push.Apply, the main way. -/
import Derived.Test.YtgnhkgobocmkoaaDoorRc
namespace Go.Proofs.YtgnhkgobocmkoaaDoor
open Go.RowKit Go.Proofs.YtgnhkgobocmkoaaDoorW.PrintWords

theorem concat3_of (w : World) (b c n0 n1 n2 c0 c1 c2 : Nat) (A0 A1 A2 : Option Addr) (x0 x1 x2 : List ByteArray) (h0 : x0.length = n0) (h1 : x1.length = n1) (h2 : x2.length = n2) (r0 : Ss w A0 n0 x0) (r1 : Ss w A1 n1 x1) (r2 : Ss w A2 n2 x2) (hl : n0 + n1 + n2 ≤ 4000000) (W : World) (hW : Below w.heap.size w W)
    (hb : W.heap[b]? = some (.cells #[.slice A0 n0 c0, .slice A1 n1 c1, .slice A2 n2 c2] 22 (0, 0))) :
    Calls Tryd.prog 32 #[.slice (some ⟨b, 0, none⟩) 3 c] W (ConcatPost W (x0 ++ x1 ++ x2)) :=
  concat3_any W b c n0 n1 n2 c0 c1 c2 A0 A1 A2 x0 x1 x2 h0 h1 h2 hb (r0.below hW) (r1.below hW) (r2.below hW) hl

theorem BuilderAt_below {b0 b : Nat} {q : Value} {bs : List Value} {w w' : World} (h : Lib.BuilderAt 57 5 b0 b q bs w) (hb : Below w.heap.size w w') : Lib.BuilderAt 57 5 b0 b q bs w' := by
  obtain ⟨h1, v, h2, h3, h4⟩ := h
  exact ⟨h1, v, blk_below h2 hb, pw_own_below h3 hb, h4⟩
theorem IsBuilder_below {b0 b : Nat} {bs : List Value} {w w' : World} (h : Lib.IsBuilder 57 5 b0 b bs w) (hb : Below w.heap.size w w') : Lib.IsBuilder 57 5 b0 b bs w' := by
  rcases h with h | h
  · exact .inl (BuilderAt_below h hb)
  · exact .inr (BuilderAt_below h hb)
theorem app_lf (y : ByteArray) : (y ++ ⟨#[10]⟩).data.toList = y.data.toList ++ [10] := by simp [ByteArray.data_append]
theorem app_lf_size (y : ByteArray) : (y ++ ⟨#[10]⟩).size = y.size + 1 := by rw [Lib.size_eq, app_lf, List.length_append, ← Lib.size_eq]; rfl

set_option maxRecDepth 100000 in
set_option maxHeartbeats 4000000 in
theorem apply_ok (w : World) (s : ByteArray) (p : Pk) (A : Option Addr) (c : Nat) (m : Int) (hs : s.size < 4294967281) (hm : w.cell? ⟨0, 0, none⟩ = some (.int .i64 m)) (hx : Ss w A p.lines.length p.lines)
    (h1 : p.ok = true) (h2 : p.kind = 2) (h3 : (linesOf s).2 = 0) (h4 : p.head + p.tail ≤ ((linesOf s).1.length : Int)) :
    Calls Tryd.prog 10 #[.string s, .agg (p.cells A c)] w fun e w' => e = .returned (.tuple #[.string (applyOf s p).1, .int .i64 (applyOf s p).2]) ∧ Below w.heap.size w w' := by
  obtain ⟨_, _, p3, p4⟩ := ok_bounds h1
  have HS := Aside0.mk (ApSt.start w p A c)
  have hl := Aside0.mk (lines_any (w.alloc (.cells (p.cells A c) 24)) s m hs (pw_cell_below HS.out.bel hm))
  have hc := Aside0.mk (fun W (hW : Below w.heap.size w W) => check_any W p A c (Kd.C_of_reads (hx.below hW)) (by omega))
  rw [h1, show chkOf true = 0 from rfl] at hc
  have hb0 := World.block_lt_of_cell? w _ hm
  have hn := linesOf_len s
  obtain ⟨⟨b1, b2⟩, b3, b4⟩ := ok_delta h1 h2
  obtain ⟨hd, hhd⟩ := Int.eq_ofNat_of_zero_le b1
  obtain ⟨tl, htl⟩ := Int.eq_ofNat_of_zero_le b3
  generalize hq : applyOf s p = q
  unfold applyOf applyL at hq
  rw [if_neg (by rw [h1]; simp [h2, h3]; omega), hhd, htl] at hq
  rw [hhd, htl] at h4
  rw [hhd] at b2
  rw [htl] at b4
  simp only [Int.toNat_natCast] at hq
  have hsz := linesOf_sizes s
  generalize hT : linesOf s = T at hl h3 h4 hn hq hsz
  have HQ := Aside0.mk hq
  have HX := Aside0.mk hx
  have HHD := Aside0.mk (And.intro hhd htl)
  have HP := Aside0.mk (And.intro p3 p4)
  have h2n : (p.kind != 2) = false := by simp [h2]
  have h3n : (T.2 != 0) = false := by simp [h3]
  have h4n : ¬ ((T.1.length : Int) < (hd : Int) + (tl : Int)) := by omega
  have h5 : (hd : Int) ≤ 65536 := by omega
  have h6 : (tl : Int) ≤ 65536 := by omega
  have tokL : True := trivial
  have HN := Aside0.mk hn
  clear hm hx hT h1 h2 h3 hq b1 b2 b3 b4 hhd htl p3 p4 hn
  unfold Pk.cells at hl ⊢
  go_enter Tryd.func10, Tryd.ntmps10
  go_upto_region 5 with (first
    | (have hx2 := HS2; clear hx2; have tk := tokL; clear tk; refine wpList_load_row rfl 24 (.tmp 3) rfl w.heap.size rfl 24 _ _ _ HS2.out.box Tryd.underlying24 rfl infoP ?_; clear tokL)
    | (go_at_call 26; (with_reducible refine hl.out.mono ?_); rintro e w2 ⟨A2, k2, rfl, ho, hb⟩; have HS2 := Aside0.mk (HS.out.below hb); have HR2 := Aside0.mk ho; clear ho hb)
    | (go_at_call 15; (with_reducible refine (hc.out _ HS2.out.bel).mono ?_); rintro e w3 ⟨rfl, hb⟩; have HS3 := Aside0.mk (HS2.out.below hb); have HR3 := Aside0.mk (pw_own_below HR2.out hb); have c0 := (HS3.out.cell 0).trans (show (p.cells A c)[0]? = some (.int .i64 p.kind) from rfl); have c5 := (HS3.out.cell 5).trans (show (p.cells A c)[5]? = some (.int .i64 hd) by rw [← HHD.out.1]; rfl); have c6 := (HS3.out.cell 6).trans (show (p.cells A c)[6]? = some (.int .i64 tl) by rw [← HHD.out.2]; rfl); clear hb))
  obtain ⟨_, _, hv, hle, hrd⟩ := own_reads_of_le (d := ByteArray.empty) HR3.out
  cases hv
  obtain ⟨i, hi, hi1⟩ := infoStr'
  obtain ⟨t1, t2, _⟩ := print_take_of (P := Tryd.prog) Value.string ByteArray.empty 22 9 .i64 Tryd.underlying22 hi hi1 A2 k2 T.1 (hd : Int) (by omega) (by omega) hle
  obtain ⟨B, d1, d2, _⟩ := print_drop_of (P := Tryd.prog) Value.string ByteArray.empty 22 9 .i64 Tryd.underlying22 hi hi1 A2 k2 T.1 ((T.1.length : Int) - (tl : Int)) (by omega) (by omega) hle
  have ej : ((T.1.length : Int) - (tl : Int)).toNat = T.1.length - tl := by omega
  have e1 : (T.1.take hd).length = hd := by rw [List.length_take]; omega
  have e2 : (T.1.drop (T.1.length - tl)).length = tl := by rw [List.length_drop]; omega
  rw [ej, e2] at d1 d2
  simp only [Int.toNat_natCast] at t1 t2
  rw [e1] at t1 t2
  have hw1 : IntKind.i64.wrap ((T.1.length : Int) - (tl : Int)) = (T.1.length : Int) - (tl : Int) := IntWalk.i64_in _ (by have := HN.out; omega)
  have hw2 : (0 : Int) ≤ (T.1.length : Int) - (tl : Int) := by omega
  have HS4 := Aside0.mk (HS3.out.below ((Below.refl _ _).alloc (Nat.le_refl _) (.cells #[.pointer none, .slice none 0 0] 57)))
  have HI4 := Aside0.mk (Lib.fresh_isBuilder 57 5 w3)
  have hz4 : (w3.alloc (.cells #[.pointer none, .slice none 0 0] 57)).heap.size = w3.heap.size + 1 := by simp
  have HB4 := Aside0.mk ((Below.refl w3.heap.size w3).alloc (Nat.le_refl _) (.cells #[.pointer none, .slice none 0 0] 57))
  have HCC := Aside0.mk (concat3_of (w3.alloc (.cells #[.pointer none, .slice none 0 0] 57)) (w3.heap.size + 1) 3 hd p.lines.length tl k2 c (k2 - (T.1.length - tl)) A2 A B (T.1.take hd) p.lines (T.1.drop (T.1.length - tl)) e1 rfl e2 ((t2 _ hrd).below HB4.out) (HX.out.below HS4.out.bel) ((d2 _ hrd).below HB4.out) (by have := HP.out.2; omega))
  have HLL := Aside0.mk (show (T.1.take hd ++ p.lines ++ T.1.drop (T.1.length - tl)).length ≤ 132000 by have := HP.out.2; have := HN.out; simp only [List.length_append, e1, e2]; omega)
  generalize hL : T.1.take hd ++ p.lines ++ T.1.drop (T.1.length - tl) = L at HCC HQ HLL
  have HSZ := Aside0.mk (show ∀ x ∈ L, x.size ≤ 65536 by
    intro x hx
    rw [← hL] at hx
    rcases List.mem_append.1 hx with hx | hx
    · rcases List.mem_append.1 hx with hx | hx
      · exact hsz x (List.mem_of_mem_take hx)
      · exact sizeTo_mem HP.out.1 x hx
    · exact hsz x (List.mem_of_mem_drop hx))
  clear hL hsz
  have k5 := (HS4.out.cell 5).trans (show (p.cells A c)[5]? = some (.int .i64 hd) by rw [← HHD.out.1]; rfl)
  have k6 := (HS4.out.cell 6).trans (show (p.cells A c)[6]? = some (.int .i64 tl) by rw [← HHD.out.2]; rfl)
  have k8 := (HS4.out.cell 8).trans (show (p.cells A c)[8]? = some (.slice A p.lines.length c) from rfl)
  clear hi hi1 t2 d2 e1 e2 ej hrd hle hc hl HS HS2 HR2 HR3 c0 c5 c6 HX
  generalize hW4 : w3.alloc (.cells #[.pointer none, .slice none 0 0] 57) = W4 at *
  clear hW4
  have HBK := Aside0.mk (fun (cs : Array Value) (t : TypeId) => (show (W4.alloc (.cells cs t)).heap[w3.heap.size + 1]? = some (.cells cs t (0, 0)) by have h := heap_alloc_new W4 (.cells cs t); rw [hz4] at h; exact h))
  have HBA := Aside0.mk (fun (cs : Array Value) (t : TypeId) => below_drew ((Below.refl W4.heap.size W4).alloc (Nat.le_refl _) (.cells cs t)))
  go_region_held3 (fun w' => w'.cell? ⟨w.heap.size, 5, none⟩ = some (.int .i64 hd) ∧ w'.cell? ⟨w.heap.size, 8, none⟩ = some (.slice A p.lines.length c) ∧ w'.cell? ⟨w.heap.size, 6, none⟩ = some (.int .i64 tl)) (first | go_keep | exact ⟨HJ5.out.1, HJ5.out.2.1, HJ5.out.2.2⟩)
    (first | (go_at_call 32; (refine (HCC.out _ (HBA.out _ _) (HBK.out _ _)).mono ?_); rintro e w5 ⟨v5, rfl, ho5, hb5⟩; obtain ⟨A5, q5, rfl⟩ := own_slice ho5; have HO5 := Aside0.mk ho5; have HB5 := Aside0.mk hb5; have HJ5 := Aside0.mk (And.intro (pw_cell_below hb5 (pw_cell_below (HBA.out _ _) k5)) (And.intro (pw_cell_below hb5 (pw_cell_below (HBA.out _ _) k8)) (pw_cell_below hb5 (pw_cell_below (HBA.out _ _) k6)))); clear ho5 hb5))
  have HI5 := Aside0.mk (IsBuilder_below (IsBuilder_below HI4.out (HBA.out _ _)) HB5.out)
  have HBEL := Aside0.mk (((HS4.out.below (HBA.out _ _)).below HB5.out).bel)
  have HR5 := HO5
  have HSB := Aside0.mk (show w3.heap.size ≤ w5.heap.size by have h1 := (HBA.out #[.slice A2 hd k2, .slice A p.lines.length c, .slice B tl (k2 - (T.1.length - tl))] 22).size; have h2 := HB5.out.size; omega)
  have HSW := Aside0.mk (show w.heap.size ≤ w3.heap.size from HS3.out.bel.size)
  generalize (W4.alloc (.cells #[.slice A2 hd k2, .slice A p.lines.length c, .slice B tl (k2 - (T.1.length - tl))] 22)).drew.heap.size = b9 at HR5
  clear HO5 HB5 HJ5 HBK HBA HCC HI4 HS4 HS3 HB4 k5 k6 k8 hz4 hw1 hw2 t1 d1
  go_wp2
  go_loopg [10, 54] L.length (fun gg _ s54 wr => ∃ k : Nat, k ≤ L.length ∧ L.length - k ≤ gg ∧ s54 = .int .i64 k ∧ Aside0 (Lib.IsBuilder 57 5 w3.heap.size w3.heap.size (Lib.byteCells (joinS (L.take k))) wr) ∧ Aside0 (wr.ownsRow b9 9 1 (.slice A5 L.length q5) L.length (encs Value.string L)) ∧ Aside0 (Below w.heap.size w wr) ∧ Aside0 (w3.heap.size ≤ wr.heap.size))
  case atStart => exact ⟨0, by omega, by omega, rfl, HI5, HR5, HBEL, HSB⟩
  case round =>
    obtain ⟨k, hk, hg, rfl, HI, HR, HBL, HSZ5⟩ := hrel
    clear HI5 HR5 HBEL HSB
    have hlen := joinS_len (L.take k) (fun x hx => HSZ.out x (List.mem_of_mem_take hx))
    rw [List.length_take] at hlen
    have HLEN := Aside0.mk hlen
    have hL1 := HLL.out
    clear hlen
    by_cases hlt : k < L.length
    · have hltz : (k : Int) < (L.length : Int) := by omega
      have hrd := own_reads_of' (d := ByteArray.empty) HR.out
      obtain ⟨ad, rfl, l2⟩ := hrd.at_ k (by omega) (by omega)
      simp only [Int.toNat_natCast] at l2
      have hy : (rdOf ByteArray.empty L k).size ≤ 65536 := by
        have e : rdOf ByteArray.empty L k = L[k] := by simp [rdOf, List.getElem?_eq_getElem hlt]
        rw [e]
        exact HSZ.out _ (List.getElem_mem hlt)
      have HSC := Aside0.mk (joinS_succ L k hlt)
      generalize rdOf ByteArray.empty L k = y at l2 hy HSC
      have hyz : (y.size : Int) ≤ 65536 := by omega
      have HWL := Aside0.mk (show (Lib.byteCells (joinS (L.take k))).length + (y ++ ⟨#[10]⟩).size ≤ 140737488355328 by rw [Lib.byteCells_length, app_lf_size]; have := HLEN.out; omega)
      clear hrd
      go_wp2_with (go_at_call 33; (with_reducible refine (writeString_any _ _ _ _ _ HI.out HWL.out HSZ5.out).mono ?_); rintro e w6 ⟨rfl, hbu, hbl, hkt⟩; have HBU := Aside0.mk hbu; have HBE := Aside0.mk hbl; have HKT := Aside0.mk hkt; clear hbu hbl hkt)
      go_roundg (L.length - (k + 1))
      case measure => omega
      case rel =>
        refine ⟨k + 1, by omega, by omega, by go_num, ⟨.inr ?_⟩, ⟨HKT.out.own HR.out (by decide) (by decide)⟩, ⟨HBL.out.trans (HBE.out.mono HSW.out)⟩, ⟨Nat.le_trans HSZ5.out HBE.out.size⟩⟩
        rw [HSC.out, Lib.byteCells_append, ← app_lf, ← Lib.strCells_eq]
        exact HBU.out
    · have hltz : ¬ (k : Int) < (L.length : Int) := by omega
      have hkl : k = L.length := by omega
      have HI6 := HI.out
      rw [hkl, List.take_length] at HI6
      have HBLEN := builderLen_any _ _ _ _ HI6
      have HBSTR := Aside0.mk (builderString_any _ _ _ wr HSZ5.out HI6)
      rw [Lib.byteCells_length] at HBLEN
      have HBN := Aside0.mk HBLEN
      have hq := HQ.out
      clear HI6 HBLEN hk hg hlt hkl HLEN
      generalize joinS L = out at HBSTR HBN hq
      by_cases hbig : 65536 < out.length
      · rw [if_pos hbig] at hq
        subst hq
        have hbz : (65536 : Int) < (out.length : Int) := by omega
        go_wp2_with (go_at_call 34; (with_reducible refine HBN.out.mono ?_); rintro e w6 ⟨rfl, rfl⟩)
        go_ret2
        exact ⟨rfl, HBL.out⟩
      · rw [if_neg hbig] at hq
        subst hq
        have hbz : ¬ (65536 : Int) < (out.length : Int) := by omega
        go_wp2_with (first | (go_at_call 34; (with_reducible refine HBN.out.mono ?_); rintro e w6 ⟨rfl, rfl⟩) | (go_at_call 35; (with_reducible refine HBSTR.out.mono ?_); rintro e w7 ⟨rfl, hb7⟩; have HB7 := Aside0.mk hb7; clear hb7))
        go_ret2
        exact ⟨rfl, HBL.out.trans (HB7.out.mono HSW.out)⟩
/-- push.Apply. -/
theorem apply_any (w : World) (s : ByteArray) (p : Pk) (A : Option Addr) (c : Nat) (m : Int) (hs : s.size < 4294967281) (hm : w.cell? ⟨0, 0, none⟩ = some (.int .i64 m)) (hx : Ss w A p.lines.length p.lines) (hz : sizeTo p.lines p.lines.length ≤ 4611686018427387904) :
    Calls Tryd.prog 10 #[.string s, .agg (p.cells A c)] w fun e w' => e = .returned (.tuple #[.string (applyOf s p).1, .int .i64 (applyOf s p).2]) ∧ Below w.heap.size w w' := by
  by_cases hbad : p.ok = false ∨ p.kind ≠ 2 ∨ (linesOf s).2 ≠ 0 ∨ ((linesOf s).1.length : Int) < p.head + p.tail
  · rw [show applyOf s p = (⟨#[]⟩, 2) by unfold applyOf; rw [if_pos hbad]]
    exact apply_bad w s p A c m hs hm hx hz hbad
  · refine apply_ok w s p A c m hs hm hx ?_ ?_ ?_ ?_
    · cases h : p.ok
      · exact absurd (.inl h) hbad
      · rfl
    · exact Classical.byContradiction fun h => hbad (.inr (.inl h))
    · exact Classical.byContradiction fun h => hbad (.inr (.inr (.inl h)))
    · exact Int.not_lt.1 fun h => hbad (.inr (.inr (.inr h)))
end Go.Proofs.YtgnhkgobocmkoaaDoor
