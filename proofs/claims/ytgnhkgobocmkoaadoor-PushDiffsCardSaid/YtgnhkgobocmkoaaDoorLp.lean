/- Contract of push.Diff. -/
import Derived.Test.YtgnhkgobocmkoaaDoorLr
namespace Go.Proofs.YtgnhkgobocmkoaaDoor
open Go.RowKit Go.Proofs.YtgnhkgobocmkoaaDoorW.PrintWords

def DiffPost (w : World) (t : Pk × Int) (e' : Ending) (w' : World) : Prop := ∃ A c, e' = .returned (.tuple #[.agg (t.1.cells A c), .int .i64 t.2]) ∧ Mid w' w.heap.size A c t.1.lines ∧ Below w.heap.size w w'

/-- The result's block is still zero; the rest is as it was below. -/
structure DiSt (w wx : World) : Prop where
  res : wx.heap[w.heap.size]? = some (.cells (Pk.zero.cellsV (.slice none 0 0)) 24 (0, 0))
  bel : Below w.heap.size w wx
theorem DiSt.start (w : World) : DiSt w (w.alloc (.cells (Pk.zero.cellsV (.slice none 0 0)) 24)) := ⟨heap_alloc_new w _, (Below.refl _ _).alloc (Nat.le_refl _) _⟩
theorem DiSt.below {w wx wy : World} (h : DiSt w wx) (hb : Below wx.heap.size wx wy) : DiSt w wy := ⟨blk_below h.res hb, h.bel.trans (hb.mono h.bel.size)⟩
theorem DiSt.grown {w wx wy : World} {row : Option Nat} (h : DiSt w wx) (hg : wx.grownBy wy row) (hr : ∀ k, row = some k → w.heap.size + 1 ≤ k) : DiSt w wy :=
  ⟨blk_grown h.res hg (fun he => by have := hr _ he.symm; omega), h.bel.grown hg h.bel.size (fun k hk => by have := hr k hk; omega)⟩
theorem DiSt.body {w wx : World} (h : DiSt w wx) (p : Pk) (A : Option Addr) (c : Nat) (n : Int) (a : Act)
    (h1 : a.tmps.getD 4 undef = .pointer (some ⟨w.heap.size, 0, none⟩)) (h2 : a.tmps.getD 5 undef = .int .i64 n) (hd : a.defers = [])
    (hS' : Mid (wx.setRow w.heap.size (p.cellsV (.slice A p.lines.length c))) w.heap.size A c p.lines) :
    bodyPost Tryd.prog Tryd.f8 (DiffPost w (p, n)) .ret a (wx.setRow w.heap.size (p.cellsV (.slice A p.lines.length c))) := by
  refine bodyPost_ret (results_ct rfl _ _ w.heap.size 24 _ _ _ h1 (setRow_heap _ _ _ _ _ _ h.res) Tryd.underlying24 rfl infoP) hd ?_
  rw [h2]
  exact ⟨A, c, rfl, hS', h.bel.grown (grown_setRow _ _ _) h.bel.size (fun k hk => by obtain rfl : w.heap.size = k := Option.some.inj hk; exact Nat.le_refl _)⟩
set_option maxRecDepth 100000 in
set_option maxHeartbeats 4000000 in
/-- The first text has too many bytes. -/
theorem diff_bad1 (w : World) (s r : ByteArray) (m : Int) (hs : s.size < 4294967281) (hm : w.cell? ⟨0, 0, none⟩ = some (.int .i64 m)) (he : (linesOf s).2 ≠ 0) :
    Calls Tryd.prog 8 #[.string s, .string r] w (DiffPost w (Pk.zero, (linesOf s).2)) := by
  have hl := fun W hW => lines_any W s m hs hW
  generalize linesOf s = T at hl he ⊢
  have hn : (T.2 != 0) = true := by simpa using he
  have HS := Aside0.mk (DiSt.start w)
  have hb0 := World.block_lt_of_cell? w _ hm
  have HM := Aside0.mk (pw_cell_below HS.out.bel hm)
  clear he hm
  go_enter Tryd.func8, Tryd.ntmps8
  go_wp2_with (first | (go_at_call 26; refine (hl _ HM.out).mono ?_; rintro e w2 ⟨A2, k2, rfl, ho, hb⟩; have HS2 := Aside0.mk (HS.out.below (hb.mono (by simp))); clear ho hb) | (refine wpl_store_row rfl 24 (.tmp 4) (.tmp 18) rfl w.heap.size 24 _ (Pk.zero.cellsV (.slice none 0 0)) rfl rfl infoP (by rfl) HS2.out.res (by simp [Pk.cellsV, Value.oneCell']) ?_))
  exact HS2.out.body Pk.zero none 0 _ _ rfl rfl rfl (Mid.nil _ _)

set_option maxRecDepth 100000 in
set_option maxHeartbeats 4000000 in
/-- The second text has too many bytes. -/
theorem diff_bad2 (w : World) (s r : ByteArray) (m : Int) (hs : s.size < 4294967281) (hr : r.size < 4294967281) (hm : w.cell? ⟨0, 0, none⟩ = some (.int .i64 m)) (h0 : (linesOf s).2 = 0) (he : (linesOf r).2 ≠ 0) :
    Calls Tryd.prog 8 #[.string s, .string r] w (DiffPost w (Pk.zero, (linesOf r).2)) := by
  have hl := fun W hW => lines_any W s m hs hW
  have hl2 := fun W hW => lines_any W r m hr hW
  generalize linesOf s = T at hl h0
  generalize linesOf r = U at hl2 he ⊢
  have hz : (T.2 != 0) = false := by simpa using h0
  have hn : (U.2 != 0) = true := by simpa using he
  have HS := Aside0.mk (DiSt.start w)
  have hb0 := World.block_lt_of_cell? w _ hm
  have HM0 := Aside0.mk hm
  have HM := Aside0.mk (pw_cell_below HS.out.bel hm)
  clear he hm h0
  go_enter Tryd.func8, Tryd.ntmps8
  go_wp2_with (first | (go_at_call 26; have hx4 := HS2; clear hx4; refine (hl2 _ (pw_cell_below HS2.out.bel HM0.out)).mono ?_; rintro e w3 ⟨A3, k3, rfl, ho, hb⟩; have HS3 := Aside0.mk (HS2.out.below hb); clear ho hb) | (go_at_call 26; refine (hl _ HM.out).mono ?_; rintro e w2 ⟨A2, k2, rfl, ho, hb⟩; have HS2 := Aside0.mk (HS.out.below (hb.mono (by simp))); clear ho hb) | (refine wpl_store_row rfl 24 (.tmp 4) (.tmp 27) rfl w.heap.size 24 _ (Pk.zero.cellsV (.slice none 0 0)) rfl rfl infoP (by rfl) HS3.out.res (by simp [Pk.cellsV, Value.oneCell']) ?_))
  exact HS3.out.body Pk.zero none 0 _ _ rfl rfl rfl (Mid.nil _ _)
end Go.Proofs.YtgnhkgobocmkoaaDoor
