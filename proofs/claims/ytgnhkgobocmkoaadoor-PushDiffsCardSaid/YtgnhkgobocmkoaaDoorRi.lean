/- The law PushDiffs: the walk. -/
import Derived.Test.YtgnhkgobocmkoaaDoorRh
import Derived.Test.YtgnhkgobocmkoaaDoorP3
namespace Go.Proofs.YtgnhkgobocmkoaaDoor
open Go.RowKit Go.Proofs.YtgnhkgobocmkoaaDoorW.PrintWords

theorem flats_parts (xs y0 y1 z : List ByteArray) : Parts (flats xs) (flats y0) (flats y1) (flats z) := by
  have h1 : ∀ (l : List ByteArray), ∀ x ∈ flats l, (10 : UInt8) ∉ x ∧ x.length ≤ 60 := by
    intro l x hx
    obtain ⟨y, _, rfl⟩ := List.mem_map.1 hx
    refine ⟨fun h => ?_, flatK_len y 60⟩
    have := (List.mem_filter.1 h).2
    simp at this
  have h2 : ∀ (l : List ByteArray), (flats l).length ≤ 40 := by
    intro l
    unfold flats
    rw [List.length_map, List.length_take]
    omega
  exact ⟨fun x hx => by rcases hx with h | h | h | h <;> exact h1 _ x h, h2 _, h2 _, h2 _, h2 _⟩
theorem joined_cat (x y z : List ByteArray) : joinedB x ++ joinedB y ++ joinedB z = mkB (joinD (flats x ++ flats y ++ flats z)) := by
  apply bytes_ext
  rw [mkB_data, joinD_append, joinD_append]
  simp [joinedB, joinedK, flats, ByteArray.data_append]
theorem joinedB_size (xs : List ByteArray) : (joinedB xs).size ≤ 2440 := joinedK_size xs 40

/-- The array's block, and all that was. -/
structure PdSt (w wx : World) (v0 v1 : Value) : Prop where
  box : wx.heap[w.heap.size]? = some (.cells #[v0, v1] 34 (0, 0))
  bel : Below w.heap.size w wx
theorem PdSt.below {w wx wy : World} {v0 v1 : Value} (h : PdSt w wx v0 v1) (hb : Below wx.heap.size wx wy) : PdSt w wy v0 v1 := ⟨blk_below h.box hb, h.bel.trans (hb.mono h.bel.size)⟩
theorem PdSt.cells {w wx : World} {v0 v1 : Value} (h : PdSt w wx v0 v1) : wx.cell? ⟨w.heap.size, 0, none⟩ = some v0 ∧ wx.cell? ⟨w.heap.size, 1, none⟩ = some v1 := ⟨blk_cell h.box 0, blk_cell h.box 1⟩

set_option maxRecDepth 100000 in
set_option maxHeartbeats 8000000 in
theorem pushDiffs_any (w : World) (m : Int) (A0 A1 A2 A3 : Option Addr) (c0 c1 c2 c3 : Nat) (x0 x1 x2 x3 : List ByteArray) (h0 : Ss w A0 x0.length x0) (h1 : Ss w A1 x1.length x1) (h2 : Ss w A2 x2.length x2) (h3 : Ss w A3 x3.length x3)
    (z0 : ∀ x ∈ x0, x.size ≤ 9223372036854775807) (z1 : ∀ x ∈ x1, x.size ≤ 9223372036854775807) (z2 : ∀ x ∈ x2, x.size ≤ 9223372036854775807) (z3 : ∀ x ∈ x3, x.size ≤ 9223372036854775807) (hm : w.cell? ⟨0, 0, none⟩ = some (.int .i64 m)) :
    Calls Tryd.prog 4 #[.slice A0 x0.length c0, .agg #[.slice A1 x1.length c1, .slice A2 x2.length c2], .slice A3 x3.length c3] w fun e w' => e = .returned (.bool true) ∧ Below w.heap.size w w' := by
  have HM := Aside0.mk hm
  have hb0 := World.block_lt_of_cell? w _ hm
  have HJ0 := Aside0.mk (fun W (hW : Below w.heap.size w W) => joined_any W A0 c0 x0 (h0.below hW) z0)
  have HJ1 := Aside0.mk (fun W (hW : Below w.heap.size w W) => joined_any W A1 c1 x1 (h1.below hW) z1)
  have HJ2 := Aside0.mk (fun W (hW : Below w.heap.size w W) => joined_any W A2 c2 x2 (h2.below hW) z2)
  have HJ3 := Aside0.mk (fun W (hW : Below w.heap.size w W) => joined_any W A3 c3 x3 (h3.below hW) z3)
  unfold JoinedPost at HJ0 HJ1 HJ2 HJ3
  have HCA := Aside0.mk (joined_cat x0 x1 x3)
  have HCB := Aside0.mk (joined_cat x0 x2 x3)
  have s0 : ((joinedB x0).size : Int) ≤ 2440 := by have := joinedB_size x0; omega
  have s1 : ((joinedB x1).size : Int) ≤ 2440 := by have := joinedB_size x1; omega
  have s2 : ((joinedB x2).size : Int) ≤ 2440 := by have := joinedB_size x2; omega
  have s3 : ((joinedB x3).size : Int) ≤ 2440 := by have := joinedB_size x3; omega
  generalize joinedB x0 = j0 at HJ0 HCA HCB s0
  generalize joinedB x1 = j1 at HJ1 HCA s1
  generalize joinedB x2 = j2 at HJ2 HCB s2
  generalize joinedB x3 = j3 at HJ3 HCA HCB s3
  have na1 : ¬ (9223372036854775807 < j0.size + j1.size) := by omega
  have na2 : ¬ (9223372036854775807 < j0.size + j1.size + j3.size) := by omega
  have nb1 : ¬ (9223372036854775807 < j0.size + j2.size) := by omega
  have nb2 : ¬ (9223372036854775807 < j0.size + j2.size + j3.size) := by omega
  have HC := Aside0.mk (show PdSt w (w.alloc (.cells #[.slice A1 x1.length c1, .slice A2 x2.length c2] 34)) (.slice A1 x1.length c1) (.slice A2 x2.length c2) from ⟨heap_alloc_new w _, (Below.refl _ _).alloc (Nat.le_refl _) _⟩)
  clear h0 h1 h2 h3 z0 z1 z2 z3 hm
  go_enter Tryd.func4, Tryd.ntmps4
  go_upto_region 1 with (fail)
  generalize w.alloc (.cells #[.slice A1 x1.length c1, .slice A2 x2.length c2] 34) = W0 at HC ⊢
  go_cut [7] (fun s7 wx => s7 = .string (j0 ++ j1 ++ j3) ∧ PdSt w wx (.slice A1 x1.length c1) (.slice A2 x2.length c2))
  case first =>
    have HD := Aside0.mk (HC.out.below (below_drew (Below.refl _ _)))
    clear HC
    go_region_held3 (fun w' => w'.cell? ⟨w.heap.size, 0, none⟩ = some (.slice A1 x1.length c1) ∧ w'.cell? ⟨w.heap.size, 1, none⟩ = some (.slice A2 x2.length c2)) (first | exact HD.out.cells | exact HD.out.cells.1 | exact HD.out.cells.2 | go_keep)
      (first
        | (go_at_call 14; (with_reducible refine (HJ0.out _ HD.out.bel).mono ?_); rintro e wj ⟨rfl, hb⟩; have nn := Aside0.mk (HD.out.below hb); clear HD hb; have HD := nn; clear nn)
        | (go_at_call 14; (with_reducible refine (HJ1.out _ HD.out.bel).mono ?_); rintro e wj ⟨rfl, hb⟩; have nn := Aside0.mk (HD.out.below hb); clear HD hb; have HD := nn; clear nn)
        | (go_at_call 14; (with_reducible refine (HJ3.out _ HD.out.bel).mono ?_); rintro e wj ⟨rfl, hb⟩; have nn := Aside0.mk (HD.out.below hb); clear HD hb; have HD := nn; clear nn))
    all_goals (go_wp2_with fail; go_meet)
    all_goals exact ⟨rfl, HD.out⟩
  case rest =>
    obtain ⟨rfl, hst⟩ := hcut
    have HC := Aside0.mk hst
    clear hst
    go_upto_region 2 with (fail)
    go_cut [8] (fun s8 wx => s8 = .string (j0 ++ j2 ++ j3) ∧ PdSt w wx (.slice A1 x1.length c1) (.slice A2 x2.length c2))
    case first =>
      have HD := Aside0.mk (HC.out.below (below_drew (Below.refl _ _)))
      clear HC
      go_region_held3 (fun w' => w'.cell? ⟨w.heap.size, 0, none⟩ = some (.slice A1 x1.length c1) ∧ w'.cell? ⟨w.heap.size, 1, none⟩ = some (.slice A2 x2.length c2)) (first | exact HD.out.cells | exact HD.out.cells.1 | exact HD.out.cells.2 | go_keep)
        (first
          | (go_at_call 14; (with_reducible refine (HJ0.out _ HD.out.bel).mono ?_); rintro e wj ⟨rfl, hb⟩; have nn := Aside0.mk (HD.out.below hb); clear HD hb; have HD := nn; clear nn)
          | (go_at_call 14; (with_reducible refine (HJ2.out _ HD.out.bel).mono ?_); rintro e wj ⟨rfl, hb⟩; have nn := Aside0.mk (HD.out.below hb); clear HD hb; have HD := nn; clear nn)
          | (go_at_call 14; (with_reducible refine (HJ3.out _ HD.out.bel).mono ?_); rintro e wj ⟨rfl, hb⟩; have nn := Aside0.mk (HD.out.below hb); clear HD hb; have HD := nn; clear nn))
      all_goals (go_wp2_with fail; go_meet)
      all_goals exact ⟨rfl, HD.out⟩
    case rest =>
      obtain ⟨rfl, hst⟩ := hcut
      have HC := Aside0.mk hst
      have HCA' := HCA.out
      have HCB' := HCB.out
      obtain ⟨p, q, hpq⟩ := diffs_ok (flats_parts x0 x1 x2 x3)
      have hab : (j0 ++ j1 ++ j3).size ≤ 7320 ∧ (j0 ++ j2 ++ j3).size ≤ 7320 := by simp only [ByteArray.size_append]; omega
      rw [← HCA', ← HCB'] at hpq
      clear hst HCA' HCB' HCA HCB HJ0 HJ1 HJ2 HJ3 s0 s1 s2 s3 na1 na2 nb1 nb2
      generalize j0 ++ j1 ++ j3 = a at hpq hab ⊢
      generalize j0 ++ j2 ++ j3 = b at hpq hab ⊢
      have hl0 : (flats x0).length = min 40 x0.length := by simp [flats]
      have hl2 : (flats x2).length = min 40 x2.length := by simp [flats]
      have hpl := hpq.pl
      have hph := hpq.ph
      rw [hl2] at hpl
      rw [hl0] at hph
      have hpl' : (p.lines.length : Int) ≤ min (x2.length : Int) 40 := by omega
      have hph' : min (x0.length : Int) 40 ≤ p.head := by omega
      have HD1 := Aside0.mk (fun W hW => diff_any W a b m (by omega) (by omega) hW)
      rw [hpq.d1] at HD1
      have HD2 := Aside0.mk (fun W hW => diff_any W a a m (by omega) (by omega) hW)
      rw [hpq.d2] at HD2
      have HA1 := Aside0.mk (fun W A c hW hX => apply_any W a p A c m (by omega) hW hX (by have := hpq.sz; omega))
      rw [hpq.a1] at HA1
      have HA2 := Aside0.mk (fun W A c hW hX => apply_any W a q A c m (by omega) hW hX (by rw [hpq.ql]; decide))
      rw [hpq.a2] at HA2
      have HCK := Aside0.mk (fun W A c (hX : Ss W A p.lines.length p.lines) => check_any W p A c (Kd.C_of_reads hX) (by have := hpq.sz; omega))
      rw [hpq.ok, show chkOf true = 0 from rfl] at HCK
      have HWK := Aside0.mk (fun W hW => works_any W m hW)
      have HQL := Aside0.mk hpq.ql
      have HPL := Aside0.mk (And.intro hpl' hph')
      clear hpl hph hl0 hl2 hpq hab hpl' hph'
      have t1 : True := trivial
      have t2 : True := trivial
      have t3 : True := trivial
      have t4 : True := trivial
      go_upto_region 7 with (first
        | (have hx := HM6; clear hx; have tk := t2; clear tk; refine wpl_store_row rfl 24 (.tmp 13) (.tmp 51) rfl w6.heap.size 24 #[.int .i64 0, .int .i64 0, .int .i64 0, .int .i64 0, .int .i64 0, .int .i64 0, .int .i64 0, .string ⟨#[]⟩, .slice none 0 0] (q.cells A6 k6) rfl rfl infoP (by rfl) (heap_alloc_new w6 _) (pk_one _ _ _) ?_; have hb := below_box w6 #[.int .i64 0, .int .i64 0, .int .i64 0, .int .i64 0, .int .i64 0, .int .i64 0, .int .i64 0, .string ⟨#[]⟩, .slice none 0 0] (q.cells A6 k6) 24; have hk := heap_box w6 #[.int .i64 0, .int .i64 0, .int .i64 0, .int .i64 0, .int .i64 0, .int .i64 0, .int .i64 0, .string ⟨#[]⟩, .slice none 0 0] (q.cells A6 k6) 24; generalize (w6.alloc (.cells #[.int .i64 0, .int .i64 0, .int .i64 0, .int .i64 0, .int .i64 0, .int .i64 0, .int .i64 0, .string ⟨#[]⟩, .slice none 0 0] 24)).setRow w6.heap.size (q.cells A6 k6) = w7 at hb hk ⊢; have HC7 := Aside0.mk (HC6.out.below hb); have HP7 := Aside0.mk (blk_below HP6.out hb); have HQ7 := Aside0.mk hk; have HM7 := Aside0.mk (HM6.out.below hb); have HMP7 := Aside0.mk (HMP6.out.below hb); clear hb hk t2)
        | (have hx := HM3; clear hx; have tk := t1; clear tk; refine wpl_store_row rfl 24 (.tmp 9) (.tmp 39) rfl w3.heap.size 24 #[.int .i64 0, .int .i64 0, .int .i64 0, .int .i64 0, .int .i64 0, .int .i64 0, .int .i64 0, .string ⟨#[]⟩, .slice none 0 0] (p.cells A3' k3) rfl rfl infoP (by rfl) (heap_alloc_new w3 _) (pk_one _ _ _) ?_; have hb := below_box w3 #[.int .i64 0, .int .i64 0, .int .i64 0, .int .i64 0, .int .i64 0, .int .i64 0, .int .i64 0, .string ⟨#[]⟩, .slice none 0 0] (p.cells A3' k3) 24; have hk := heap_box w3 #[.int .i64 0, .int .i64 0, .int .i64 0, .int .i64 0, .int .i64 0, .int .i64 0, .int .i64 0, .string ⟨#[]⟩, .slice none 0 0] (p.cells A3' k3) 24; generalize (w3.alloc (.cells #[.int .i64 0, .int .i64 0, .int .i64 0, .int .i64 0, .int .i64 0, .int .i64 0, .int .i64 0, .string ⟨#[]⟩, .slice none 0 0] 24)).setRow w3.heap.size (p.cells A3' k3) = w4 at hb hk ⊢; have HC4 := Aside0.mk (HC3.out.below hb); have HP4 := Aside0.mk hk; have HMP4 := Aside0.mk (HM3.out.below hb); clear hb hk t1)
        | (have hx := HQ7; clear hx; have tk := t4; clear tk; refine wpList_load_row rfl 24 (.tmp 13) rfl w6.heap.size rfl 24 _ _ _ HQ7.out Tryd.underlying24 rfl infoP ?_; clear t4)
        | (have hx := HP4; clear hx; have tk := t3; clear tk; refine wpList_load_row rfl 24 (.tmp 9) rfl w3.heap.size rfl 24 _ _ _ HP4.out Tryd.underlying24 rfl infoP ?_; clear t3)
        | (go_at_call 8; (with_reducible refine (HD1.out _ (pw_cell_below HC.out.bel HM.out)).mono ?_); rintro e w3 ⟨A3', k3, rfl, hm3, hb⟩; have HM3 := Aside0.mk hm3; have HC3 := Aside0.mk (HC.out.below hb); clear hm3 hb HD1)
        | (go_at_call 8; (with_reducible refine (HD2.out _ (pw_cell_below HC5.out.bel HM.out)).mono ?_); rintro e w6 ⟨A6, k6, rfl, hm6, hb⟩; have HM6 := Aside0.mk hm6; have HC6 := Aside0.mk (HC5.out.below hb); have HP6 := Aside0.mk (blk_below HP5.out hb); have HMP6 := Aside0.mk (HMP5.out.below hb); clear hm6 hb HD2)
        | (go_at_call 10; (with_reducible refine (HA1.out _ _ _ (pw_cell_below HC4.out.bel HM.out) HMP4.out.reads).mono ?_); rintro e w5 ⟨rfl, hb⟩; have HC5 := Aside0.mk (HC4.out.below hb); have HP5 := Aside0.mk (blk_below HP4.out hb); have HMP5 := Aside0.mk (HMP4.out.below hb); clear hb)
        | (go_at_call 10; (with_reducible refine (HA2.out _ _ _ (pw_cell_below HC7.out.bel HM.out) HM7.out.reads).mono ?_); rintro e w8 ⟨rfl, hb⟩; have HC8 := Aside0.mk (HC7.out.below hb); have HP8 := Aside0.mk (blk_below HP7.out hb); have HQ8 := Aside0.mk (blk_below HQ7.out hb); have HMP8 := Aside0.mk (HMP7.out.below hb); clear hb))
      have hpl := HPL.out.1
      have hph := HPL.out.2
      have q8 := (blk_cell HQ8.out 8).trans (show (q.cells A6 k6)[8]? = some (.slice A6 0 k6) by rw [show (0 : Nat) = q.lines.length by rw [HQL.out]; rfl]; rfl)
      have p8 := (blk_cell HP8.out 8).trans (show (p.cells A3' k3)[8]? = some (.slice A3' p.lines.length k3) from rfl)
      have p5 := (blk_cell HP8.out 5).trans (show (p.cells A3' k3)[5]? = some (.int .i64 p.head) from rfl)
      have o1 := HC8.out.cells.2
      have t5 : True := trivial
      clear HA1 HA2 HQL HPL HC7 HC6 HC5 HC4 HC3 HP4 HP5 HP6 HP7 HM3 HM6 HM7 HMP4 HMP5 HMP6 HMP7 HQ7 HQ8
      generalize w6.heap.size = bq at q8 ⊢
      generalize w3.heap.size = bp at p8 p5 HP8 ⊢
      go_wp2_with (first
        | (have tk := t5; clear tk; refine gate_guard (by rfl) ?_; refine wpList_load_row rfl 24 (.tmp 9) rfl bp rfl 24 _ _ _ HP8.out Tryd.underlying24 rfl infoP ?_; clear t5)
        | (go_at_call 15; (with_reducible refine (HCK.out _ _ _ HMP8.out.reads).mono ?_); rintro e w9 ⟨rfl, hb⟩; have HC9 := Aside0.mk (HC8.out.below hb); clear hb)
        | (go_at_call 13; (with_reducible refine (HWK.out _ (pw_cell_below HC9.out.bel HM.out)).mono ?_); rintro e w10 ⟨rfl, hb⟩; have HC10 := Aside0.mk (HC9.out.below hb); clear hb))
      go_ret
      exact ⟨by rfl, HC10.out.bel⟩
end Go.Proofs.YtgnhkgobocmkoaaDoor
