/- Contract of push.Copy. -/
import Derived.Test.YtgnhkgobocmkoaaDoorLj
namespace Go.Proofs.YtgnhkgobocmkoaaDoor
open Go.RowKit Go.Proofs.YtgnhkgobocmkoaaDoorW.PrintWords

def CopyPost (w : World) (p : Pk) (e' : Ending) (w' : World) : Prop := ∃ A c, e' = .returned (.agg (p.cells A c)) ∧ w'.ownsRow w.heap.size 9 1 (.slice A p.lines.length c) p.lines.length (encs Value.string p.lines) ∧ Below w.heap.size w w'

theorem results_c1 {P : Program} {fn : Func} {p : Tmp} {ty : TypeId} (h : fn.results = #[.cell p ty]) (tmps : Array Value) (w : World) (g : Nat) (t : TypeId) (cs : Array Value) (fr : Nat × Nat) (d : TypeDesc)
    (hp : tmps.getD p undef = .pointer (some ⟨g, 0, none⟩)) (hg : w.heap[g]? = some (.cells cs t fr))
    (hu : P.underlying ty = some d) (hd : (match d with | .struct _ | .array _ _ => true | _ => false) = true) (hi : (P.info? ty).map (·.size) = some cs.size) :
    (results fn tmps).run P w = .ok (.agg cs) w := by
  have hp' : tmps[p]?.getD undef = .pointer (some ⟨g, 0, none⟩) := by simpa using hp
  simp [results, h, hp', asAddr, run_loadVar_row w g t ty cs fr d hg hu hd hi]

/-- The state behind the clone of the lines. -/
structure CoSt (w wx : World) (p : Pk) (v : Value) : Prop where
  arg : wx.heap[w.heap.size]? = some (.cells (p.cellsV v) 24 (0, 0))
  res : wx.heap[w.heap.size + 1]? = some (.cells (Pk.zero.cellsV (.slice none 0 0)) 24 (0, 0))
  row : wx.ownsRow (w.heap.size + 2) 9 1 v p.lines.length (encs Value.string p.lines)
  bel : Below w.heap.size w wx
theorem CoSt.body {w wx : World} {p : Pk} {v : Value} (h : CoSt w wx p v) (a : Act) (h1 : a.tmps.getD 2 undef = .pointer (some ⟨w.heap.size + 1, 0, none⟩)) (hd : a.defers = []) :
    bodyPost Tryd.prog Tryd.f18 (CopyPost w p) .ret a (wx.setRow (w.heap.size + 1) (p.cellsV v)) := by
  refine bodyPost_ret (results_c1 rfl _ _ (w.heap.size + 1) 24 _ _ _ h1 (setRow_heap _ _ _ _ _ _ h.res) Tryd.underlying24 rfl infoP) hd ?_
  have hr := own_weaken (own_other h.row (grown_setRow wx (w.heap.size + 1) (p.cellsV v)) (.inr (fun he => by have := own_base h.row _ he; omega))) (base' := w.heap.size) (by omega)
  obtain ⟨A, c, hv⟩ := own_slice hr
  subst hv
  exact ⟨A, c, rfl, hr, h.bel.grown (grown_setRow _ _ _) h.bel.size (fun k hk => by obtain rfl : w.heap.size + 1 = k := Option.some.inj hk; exact Nat.le_succ _)⟩

set_option maxRecDepth 100000 in
set_option maxHeartbeats 2000000 in
theorem copy_any (w : World) (p : Pk) (A : Option Addr) (c : Nat) (hx : Ss w A p.lines.length p.lines) (hl : p.lines.length ≤ 4000000) :
    Calls Tryd.prog 18 #[.agg (p.cells A c)] w (CopyPost w p) := by
  have hpc : p.cells A c = #[.int .i64 p.kind, .int .i64 p.ver, .int .i64 p.frm, .int .i64 p.node, .int .i64 p.tick, .int .i64 p.head, .int .i64 p.tail, .string p.text, .slice A p.lines.length c] := rfl
  have HB0 := Aside0.mk (((Below.refl w.heap.size w).alloc (Nat.le_refl _) (.cells (p.cellsV (.slice A p.lines.length c)) 24)).alloc (by simp) (.cells (Pk.zero.cellsV (.slice none 0 0)) 24))
  have HK1 := Aside0.mk (show ((w.alloc (.cells (p.cellsV (.slice A p.lines.length c)) 24)).alloc (.cells (Pk.zero.cellsV (.slice none 0 0)) 24)).heap[w.heap.size]? = some (.cells (p.cellsV (.slice A p.lines.length c)) 24 (0, 0)) from blk_alloc (heap_alloc_new w _) _)
  have HK2 := Aside0.mk (show ((w.alloc (.cells (p.cellsV (.slice A p.lines.length c)) 24)).alloc (.cells (Pk.zero.cellsV (.slice none 0 0)) 24)).heap[w.heap.size + 1]? = some (.cells (Pk.zero.cellsV (.slice none 0 0)) 24 (0, 0)) by have := heap_alloc_new (w.alloc (.cells (p.cellsV (.slice A p.lines.length c)) 24)) (.cells (Pk.zero.cellsV (.slice none 0 0)) 24); rw [World.size_alloc] at this; exact this)
  have HSZ := Aside0.mk (show ((w.alloc (.cells (p.cellsV (.slice A p.lines.length c)) 24)).alloc (.cells (Pk.zero.cellsV (.slice none 0 0)) 24)).heap.size = w.heap.size + 2 by simp)
  have HX := Aside0.mk hx
  clear hx
  generalize hg1 : (w.alloc (.cells (p.cellsV (.slice A p.lines.length c)) 24)).alloc (.cells (Pk.zero.cellsV (.slice none 0 0)) 24) = W0 at HB0 HK1 HK2 HSZ
  have HG1 := Aside0.mk hg1
  clear hg1
  have HC := Aside0.mk (cloneS_any W0 A c p.lines (HX.out.below HB0.out) hl)
  have c8 := (blk_cell HK1.out 8).trans (show (p.cellsV (.slice A p.lines.length c))[8]? = some (.slice A p.lines.length c) from rfl)
  rw [hpc]
  clear hpc
  go_enter Tryd.func18, Tryd.ntmps18
  go_upto_region 1 with (fail)
  have hw0 := HG1.out
  unfold Pk.cellsV Pk.zero at hw0
  rw [hw0]
  clear hw0
  go_upto_region 2 with (first | (go_at_call 28; refine HC.out.mono ?_; rintro e w2 ⟨v, rfl, hr, hb⟩; obtain ⟨A2, k2, rfl⟩ := own_slice hr; have HR := Aside0.mk hr; have d8 := (blk_cell (blk_below HK1.out hb) 8).trans (show (p.cellsV (.slice A p.lines.length c))[8]? = some (.slice A p.lines.length c) from rfl); have hf := blk_frozen (blk_below HK1.out hb) 8; have HB := Aside0.mk hb; have HK3 := Aside0.mk (blk_below HK1.out hb); clear hr hb; have hlt2 := blk_lt HK3.out))
  have HCO := Aside0.mk (show CoSt w (w2.setCell ⟨w.heap.size, 8, none⟩ (.slice A2 p.lines.length k2)) p (.slice A2 p.lines.length k2) from ⟨by rw [blk_set HK3.out 8]; rfl, blk_grown (blk_below HK2.out HB.out) (grown_setCell _ _ _ _) (by simp), own_setCell (own_weaken HR.out (by rw [HSZ.out]; exact Nat.le_refl _)) (fun he => by have h1 : W0.heap.size ≤ w.heap.size := own_base HR.out _ he.symm; have := HSZ.out; omega) _, (HB0.out.trans (HB.out.mono HB0.out.size)).setCell (Nat.le_refl _) _⟩)
  go_wp2_with (first | (refine wpList_load_row rfl 24 (.tmp 1) rfl w.heap.size rfl 24 _ _ _ HCO.out.arg Tryd.underlying24 rfl infoP ?_) | (refine wpl_store_row rfl 24 (.tmp 2) (.tmp 7) rfl (w.heap.size + 1) 24 _ (p.cellsV (.slice A2 p.lines.length k2)) rfl rfl infoP (by rfl) HCO.out.res (by simp [Pk.cellsV, Value.oneCell']) ?_))
  exact HCO.out.body _ rfl rfl
end Go.Proofs.YtgnhkgobocmkoaaDoor
