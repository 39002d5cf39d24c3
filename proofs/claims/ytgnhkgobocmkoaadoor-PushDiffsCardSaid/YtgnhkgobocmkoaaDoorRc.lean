/- Contract of push.Apply. -/
import Derived.Test.YtgnhkgobocmkoaaDoorLq
import Derived.Test.YtgnhkgobocmkoaaDoorRa
import Derived.Test.YtgnhkgobocmkoaaDoorRb
import Derived.Test.YtgnhkgobocmkoaaDoorP2
namespace Go.Proofs.YtgnhkgobocmkoaaDoor
open Go.RowKit Go.Proofs.YtgnhkgobocmkoaaDoorW.PrintWords

/-- push.Apply, in plain words. -/
def applyL (a : List ByteArray) (p : Pk) : List ByteArray := a.take p.head.toNat ++ p.lines ++ a.drop (a.length - p.tail.toNat)
def applyOf (s : ByteArray) (p : Pk) : ByteArray × Int :=
  if p.ok = false ∨ p.kind ≠ 2 ∨ (linesOf s).2 ≠ 0 ∨ ((linesOf s).1.length : Int) < p.head + p.tail then (⟨#[]⟩, 2)
  else if 65536 < (joinS (applyL (linesOf s).1 p)).length then (⟨#[]⟩, 5) else (⟨(joinS (applyL (linesOf s).1 p)).toArray⟩, 0)

/-- The packet's own copy, and all that was. -/
structure ApSt (w wx : World) (p : Pk) (A : Option Addr) (c : Nat) : Prop where
  box : wx.heap[w.heap.size]? = some (.cells (p.cells A c) 24 (0, 0))
  bel : Below w.heap.size w wx
theorem ApSt.start (w : World) (p : Pk) (A : Option Addr) (c : Nat) : ApSt w (w.alloc (.cells (p.cells A c) 24)) p A c := ⟨heap_alloc_new w _, (Below.refl _ _).alloc (Nat.le_refl _) _⟩
theorem ApSt.below {w wx wy : World} {p : Pk} {A : Option Addr} {c : Nat} (h : ApSt w wx p A c) (hb : Below wx.heap.size wx wy) : ApSt w wy p A c := ⟨blk_below h.box hb, h.bel.trans (hb.mono h.bel.size)⟩
theorem ApSt.cell {w wx : World} {p : Pk} {A : Option Addr} {c : Nat} (h : ApSt w wx p A c) (i : Nat) : wx.cell? ⟨w.heap.size, i, none⟩ = (p.cells A c)[i]? := blk_cell h.box i

theorem ok_delta {p : Pk} (h : p.ok = true) (hk : p.kind = 2) : (0 ≤ p.head ∧ p.head ≤ 65536) ∧ (0 ≤ p.tail ∧ p.tail ≤ 65536) := by
  unfold Pk.ok at h
  simp only [Bool.and_eq_true] at h
  obtain ⟨⟨⟨_, h2⟩, _⟩, _⟩ := h
  unfold fieldsOk at h2
  rw [hk] at h2
  simp only [Bool.and_eq_true] at h2
  obtain ⟨⟨_, h5⟩, h6⟩ := h2
  have e : ownOf 2 = 187 := rfl
  rw [e] at h5 h6
  unfold fieldOk at h5 h6
  rw [if_neg (by decide)] at h5 h6
  simp only [Bool.and_eq_true, decide_eq_true_eq] at h5 h6
  exact ⟨h5, h6⟩

set_option maxRecDepth 100000 in
set_option maxHeartbeats 4000000 in
theorem apply_bad (w : World) (s : ByteArray) (p : Pk) (A : Option Addr) (c : Nat) (m : Int) (hs : s.size < 4294967281) (hm : w.cell? ⟨0, 0, none⟩ = some (.int .i64 m)) (hx : Ss w A p.lines.length p.lines) (hz : sizeTo p.lines p.lines.length ≤ 4611686018427387904)
    (hbad : p.ok = false ∨ p.kind ≠ 2 ∨ (linesOf s).2 ≠ 0 ∨ ((linesOf s).1.length : Int) < p.head + p.tail) :
    Calls Tryd.prog 10 #[.string s, .agg (p.cells A c)] w fun e w' => e = .returned (.tuple #[.string ⟨#[]⟩, .int .i64 2]) ∧ Below w.heap.size w w' := by
  have HS := Aside0.mk (ApSt.start w p A c)
  have hl := Aside0.mk (lines_any (w.alloc (.cells (p.cells A c) 24)) s m hs (pw_cell_below HS.out.bel hm))
  have hc := Aside0.mk (fun W (hW : Below w.heap.size w W) => check_any W p A c (Kd.C_of_reads (hx.below hW)) hz)
  have hb0 := World.block_lt_of_cell? w _ hm
  clear hm hx hz
  generalize hT : linesOf s = T at hl hbad
  clear hT
  by_cases h1 : p.ok = true
  · rw [h1, show chkOf true = 0 from rfl] at hc
    have hbad' := hbad.resolve_left (by rw [h1]; simp)
    clear hbad
    by_cases h2 : p.kind = 2
    · obtain ⟨⟨b1, b2⟩, b3, b4⟩ := ok_delta h1 h2
      have hbad := hbad'.resolve_left (by simp [h2])
      have h2n : (p.kind != 2) = false := by simp [h2]
      clear hbad' h1 h2
      by_cases h3 : T.2 = 0
      · have h4 : (T.1.length : Int) < p.head + p.tail := hbad.resolve_left (by simp [h3])
        have h3n : (T.2 != 0) = false := by simp [h3]
        clear hbad h3
        unfold Pk.cells at hl ⊢
        have tokL : True := trivial
        go_enter Tryd.func10, Tryd.ntmps10
        go_wp2_with (first
                  | (have hx2 := HS2; clear hx2; have tk := tokL; clear tk; refine wpList_load_row rfl 24 (.tmp 3) rfl w.heap.size rfl 24 _ _ _ HS2.out.box Tryd.underlying24 rfl infoP ?_; clear tokL)
                  | (go_at_call 26; (with_reducible refine hl.out.mono ?_); rintro e w2 ⟨A2, k2, rfl, ho, hb⟩; have HS2 := Aside0.mk (HS.out.below hb); clear ho hb)
                  | (go_at_call 15; (with_reducible refine (hc.out _ HS2.out.bel).mono ?_); rintro e w3 ⟨rfl, hb⟩; have HS3 := Aside0.mk (HS2.out.below hb); have c0 := (HS3.out.cell 0).trans (show (p.cells A c)[0]? = some (.int .i64 p.kind) from rfl); have c5 := (HS3.out.cell 5).trans (show (p.cells A c)[5]? = some (.int .i64 p.head) from rfl); have c6 := (HS3.out.cell 6).trans (show (p.cells A c)[6]? = some (.int .i64 p.tail) from rfl); clear hb))
        go_ret2
        exact ⟨rfl, HS3.out.bel⟩
      · have h3n : (T.2 != 0) = true := by simpa using h3
        clear hbad h3
        unfold Pk.cells at hl ⊢
        have tokL : True := trivial
        go_enter Tryd.func10, Tryd.ntmps10
        go_wp2_with (first
                  | (have hx2 := HS2; clear hx2; have tk := tokL; clear tk; refine wpList_load_row rfl 24 (.tmp 3) rfl w.heap.size rfl 24 _ _ _ HS2.out.box Tryd.underlying24 rfl infoP ?_; clear tokL)
                  | (go_at_call 26; (with_reducible refine hl.out.mono ?_); rintro e w2 ⟨A2, k2, rfl, ho, hb⟩; have HS2 := Aside0.mk (HS.out.below hb); clear ho hb)
                  | (go_at_call 15; (with_reducible refine (hc.out _ HS2.out.bel).mono ?_); rintro e w3 ⟨rfl, hb⟩; have HS3 := Aside0.mk (HS2.out.below hb); have c0 := (HS3.out.cell 0).trans (show (p.cells A c)[0]? = some (.int .i64 p.kind) from rfl); have c5 := (HS3.out.cell 5).trans (show (p.cells A c)[5]? = some (.int .i64 p.head) from rfl); have c6 := (HS3.out.cell 6).trans (show (p.cells A c)[6]? = some (.int .i64 p.tail) from rfl); clear hb))
        go_ret2
        exact ⟨rfl, HS3.out.bel⟩
    · have h2n : (p.kind != 2) = true := by simpa using h2
      clear hbad' h1 h2
      unfold Pk.cells at hl ⊢
      have tokL : True := trivial
      go_enter Tryd.func10, Tryd.ntmps10
      go_wp2_with (first
                | (have hx2 := HS2; clear hx2; have tk := tokL; clear tk; refine wpList_load_row rfl 24 (.tmp 3) rfl w.heap.size rfl 24 _ _ _ HS2.out.box Tryd.underlying24 rfl infoP ?_; clear tokL)
                | (go_at_call 26; (with_reducible refine hl.out.mono ?_); rintro e w2 ⟨A2, k2, rfl, ho, hb⟩; have HS2 := Aside0.mk (HS.out.below hb); clear ho hb)
                | (go_at_call 15; (with_reducible refine (hc.out _ HS2.out.bel).mono ?_); rintro e w3 ⟨rfl, hb⟩; have HS3 := Aside0.mk (HS2.out.below hb); have c0 := (HS3.out.cell 0).trans (show (p.cells A c)[0]? = some (.int .i64 p.kind) from rfl); have c5 := (HS3.out.cell 5).trans (show (p.cells A c)[5]? = some (.int .i64 p.head) from rfl); have c6 := (HS3.out.cell 6).trans (show (p.cells A c)[6]? = some (.int .i64 p.tail) from rfl); clear hb))
      go_ret2
      exact ⟨rfl, HS3.out.bel⟩
  · have h1' : p.ok = false := by simpa using h1
    rw [h1', show chkOf false = 2 from rfl] at hc
    clear hbad h1 h1'
    unfold Pk.cells at hl ⊢
    have tokL : True := trivial
    go_enter Tryd.func10, Tryd.ntmps10
    go_wp2_with (first
              | (have hx2 := HS2; clear hx2; have tk := tokL; clear tk; refine wpList_load_row rfl 24 (.tmp 3) rfl w.heap.size rfl 24 _ _ _ HS2.out.box Tryd.underlying24 rfl infoP ?_; clear tokL)
              | (go_at_call 26; (with_reducible refine hl.out.mono ?_); rintro e w2 ⟨A2, k2, rfl, ho, hb⟩; have HS2 := Aside0.mk (HS.out.below hb); clear ho hb)
              | (go_at_call 15; (with_reducible refine (hc.out _ HS2.out.bel).mono ?_); rintro e w3 ⟨rfl, hb⟩; have HS3 := Aside0.mk (HS2.out.below hb); have c0 := (HS3.out.cell 0).trans (show (p.cells A c)[0]? = some (.int .i64 p.kind) from rfl); have c5 := (HS3.out.cell 5).trans (show (p.cells A c)[5]? = some (.int .i64 p.head) from rfl); have c6 := (HS3.out.cell 6).trans (show (p.cells A c)[6]? = some (.int .i64 p.tail) from rfl); clear hb))
    go_ret2
    exact ⟨rfl, HS3.out.bel⟩

end Go.Proofs.YtgnhkgobocmkoaaDoor
