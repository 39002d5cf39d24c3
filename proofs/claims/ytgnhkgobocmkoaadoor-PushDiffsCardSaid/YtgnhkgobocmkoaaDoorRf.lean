/- Contracts of the law's is and fails, at packets and bytes that fit. -/
import Derived.Test.YtgnhkgobocmkoaaDoorRd
import Derived.Test.YtgnhkgobocmkoaaDoorWGuard
namespace Go.Proofs.YtgnhkgobocmkoaaDoor
open Go.RowKit Go.Proofs.YtgnhkgobocmkoaaDoorW.PrintWords

theorem eqBytes_same (w : World) (A B : Option Addr) (c d : Nat) (xs : List Int) (hx : Bs w A xs.length xs) (hy : Bs w B xs.length xs) :
    Calls Tryd.prog 20 #[.slice A xs.length c, .slice B xs.length d] w fun e w' => e = .returned (.bool true) ∧ w = w' := by
  have h1 := string_of_reads (P := Tryd.prog) (w := w) (c := c) Tryd.underlying38 Tryd.underlying5 Tryd.underlying9 hx
  have h2 := string_of_reads (P := Tryd.prog) (w := w) (c := d) Tryd.underlying38 Tryd.underlying5 Tryd.underlying9 hy
  clear hx hy
  generalize strOfNums xs = s at h1 h2
  go_enter Tryd.func20, Tryd.ntmps20
  go_wp2
  go_ret
  exact ⟨by simp, rfl⟩

/-- A struct parameter's block, and another one. -/
structure IsSt (w wx : World) (p : Pk) (A : Option Addr) (c : Nat) : Prop where
  box : wx.heap[w.heap.size]? = some (.cells (p.cells A c) 24 (0, 0))
  bel : Below w.heap.size w wx
theorem IsSt.below {w wx wy : World} {p : Pk} {A : Option Addr} {c : Nat} (h : IsSt w wx p A c) (hb : Below wx.heap.size wx wy) : IsSt w wy p A c := ⟨blk_below h.box hb, h.bel.trans (hb.mono h.bel.size)⟩

/-- A new variable that a whole struct is stored into. -/
theorem below_box (w : World) (cs0 cs : Array Value) (t : TypeId) : Below w.heap.size w ((w.alloc (.cells cs0 t)).setRow w.heap.size cs) :=
  ((Below.refl _ _).alloc (Nat.le_refl _) _).grown (grown_setRow _ _ _) (by simp) (fun k hk => by cases hk; exact Nat.le_refl _)
theorem heap_box (w : World) (cs0 cs : Array Value) (t : TypeId) : ((w.alloc (.cells cs0 t)).setRow w.heap.size cs).heap[w.heap.size]? = some (.cells cs t (0, 0)) := setRow_heap _ _ _ _ _ _ (heap_alloc_new w _)
theorem pk_one (p : Pk) (A : Option Addr) (c : Nat) : ∀ u ∈ (p.cells A c).toList, u.oneCell' = true := by simp [Pk.cells, Value.oneCell']

set_option maxRecDepth 100000 in
set_option maxHeartbeats 4000000 in
theorem is_true (w : World) (p : Pk) (A : Option Addr) (c : Nat) (hx : Ss w A p.lines.length p.lines) (hok : p.ok = true) (B : Option Addr) (d : Nat) (ws : List Int) (hb : Bs w B ws.length ws) (hd : ws.length ≤ d) (hib : IsBytes ws)
    (hbytes : p.bytes = ws) (q : Pk) (hq : parseR ws = (q, 0)) (hs : p.sameB q = true) :
    Calls Tryd.prog 37 #[.agg (p.cells A c), .slice B ws.length d] w fun e w' => e = .returned (.bool true) ∧ Below w.heap.size w w' := by
  have HS := Aside0.mk (show IsSt w (w.alloc (.cells (p.cells A c) 24)) p A c from ⟨heap_alloc_new w _, (Below.refl _ _).alloc (Nat.le_refl _) _⟩)
  have HCB := Aside0.mk (bytes_ok (w.alloc (.cells (p.cells A c) 24)) p A c (Kd.C_of_reads (hx.below HS.out.bel)) hok)
  rw [hbytes] at HCB
  have HCP := Aside0.mk (fun W (hW : Below w.heap.size w W) => parse_any W B d ws (hb.below hW) hd hib)
  rw [hq] at HCP
  have HX := Aside0.mk hx
  have HB := Aside0.mk hb
  have HSM := Aside0.mk hs
  have tok1 : True := trivial
  have tok2 : True := trivial
  have tok3 : True := trivial
  have tok4 : True := trivial
  have hpc : p.cells A c = #[.int .i64 p.kind, .int .i64 p.ver, .int .i64 p.frm, .int .i64 p.node, .int .i64 p.tick, .int .i64 p.head, .int .i64 p.tail, .string p.text, .slice A p.lines.length c] := rfl
  clear hx hok hb hd hib hbytes hq hs
  rw [hpc]
  clear hpc
  go_enter Tryd.func37, Tryd.ntmps37
  go_upto_region 3 with (first
    | (have tk := tok1; clear tk; refine wpList_load_row rfl 24 (.tmp 2) rfl w.heap.size rfl 24 _ _ _ HS.out.box Tryd.underlying24 rfl infoP ?_; clear tok1)
    | (go_at_call 16; (refine HCB.out.mono ?_); rintro e w2 ⟨v2, rfl, ho2, hb2⟩; obtain ⟨A2, k2, rfl⟩ := own_slice ho2; have HO2 := Aside0.mk ho2; have HS2 := Aside0.mk (HS.out.below hb2); clear ho2 hb2)
    | (go_at_call 58; (with_reducible refine (HCP.out _ HS2.out.bel).mono ?_); rintro e w3 ⟨A3, k3, rfl, ho3, hb3⟩; have HO3 := Aside0.mk ho3; have HS3 := Aside0.mk (HS2.out.below hb3); have HO2' := Aside0.mk (pw_own_below HO2.out hb3); clear ho3 hb3)
    | (have hx3 := HS3; clear hx3; have tk := tok4; clear tk; refine wpl_store_row rfl 24 (.tmp 7) (.tmp 17) rfl w3.heap.size 24 (Pk.zero.cells none 0) (q.cells A3 k3) rfl rfl infoP (by rfl) (heap_alloc_new w3 _) (pk_one q A3 k3) ?_; clear tok4))
  have HB4 := Aside0.mk (below_box w3 #[.int .i64 0, .int .i64 0, .int .i64 0, .int .i64 0, .int .i64 0, .int .i64 0, .int .i64 0, .string ⟨#[]⟩, .slice none 0 0] (q.cells A3 k3) 24)
  have HQ4 := Aside0.mk (heap_box w3 #[.int .i64 0, .int .i64 0, .int .i64 0, .int .i64 0, .int .i64 0, .int .i64 0, .int .i64 0, .string ⟨#[]⟩, .slice none 0 0] (q.cells A3 k3) 24)
  generalize hW4 : (w3.alloc (.cells #[.int .i64 0, .int .i64 0, .int .i64 0, .int .i64 0, .int .i64 0, .int .i64 0, .int .i64 0, .string ⟨#[]⟩, .slice none 0 0] 24)).setRow w3.heap.size (q.cells A3 k3) = W4 at HB4 HQ4
  clear hW4
  have HS4 := Aside0.mk (HS3.out.below HB4.out)
  have HEB := Aside0.mk (eqBytes_same W4 A2 B k2 d ws (own_reads_of' (enc := Value.int .u8) (d := (0 : Int)) (pw_own_below HO2'.out HB4.out)) (HB.out.below HS4.out.bel))
  have HSA := Aside0.mk (same_any W4 p q A A3 c k3 (HX.out.below HS4.out.bel) (own_reads_of' (pw_own_below HO3.out HB4.out)))
  rw [HSM.out] at HSA
  clear HB HX HSM HO2 HO2' HO3 HS HS2 HS3 HB4 HCB HCP
  go_wp2_with (first
    | (go_at_call 20; (with_reducible refine HEB.out.mono ?_); rintro e w5 ⟨rfl, rfl⟩; have HE := Aside0.mk trivial)
    | (have hx := HE; clear hx; have tk := tok2; clear tk; refine gate_guard (by rfl) ?_; refine wpList_load_row rfl 24 (.tmp 2) rfl w.heap.size rfl 24 _ _ _ HS4.out.box Tryd.underlying24 rfl infoP ?_; clear tok2)
    | (have hx := HE; clear hx; have tk := tok3; clear tk; refine gate_guard (by rfl) ?_; refine wpList_load_row rfl 24 (.tmp 7) rfl w3.heap.size rfl 24 _ _ _ HQ4.out Tryd.underlying24 rfl infoP ?_; clear tok3)
    | (go_at_call 21; (with_reducible refine HSA.out.mono ?_); rintro e w6 ⟨rfl, hb6⟩; have HB6 := Aside0.mk hb6; clear hb6))
  go_ret
  exact ⟨rfl, HS4.out.bel.trans (HB6.out.mono HS4.out.bel.size)⟩

theorem zero_same : Pk.zero.sameB Pk.zero = true := by decide +kernel

set_option maxRecDepth 100000 in
set_option maxHeartbeats 4000000 in
theorem fails_true (w : World) (er : Int) (B : Option Addr) (d : Nat) (ws : List Int) (hb : Bs w B ws.length ws) (hd : ws.length ≤ d) (hib : IsBytes ws) (hq : parseR ws = (Pk.zero, er)) :
    Calls Tryd.prog 25 #[.int .i64 er, .slice B ws.length d] w fun e w' => e = .returned (.bool true) ∧ Below w.heap.size w w' := by
  have HCP := Aside0.mk (parse_any w B d ws hb hd hib)
  rw [hq] at HCP
  have tok3 : True := trivial
  have tok4 : True := trivial
  clear hb hd hib hq
  go_enter Tryd.func25, Tryd.ntmps25
  go_upto_region 2 with (first
    | (go_at_call 58; (with_reducible refine HCP.out.mono ?_); rintro e w3 ⟨A3, k3, rfl, ho3, hb3⟩; have HO3 := Aside0.mk ho3; have HB3 := Aside0.mk hb3; clear ho3 hb3)
    | (have hx3 := HB3; clear hx3; have tk := tok4; clear tk; refine wpl_store_row rfl 24 (.tmp 5) (.tmp 10) rfl w3.heap.size 24 (Pk.zero.cells none 0) (Pk.zero.cells A3 k3) rfl rfl infoP (by rfl) (heap_alloc_new w3 _) (pk_one Pk.zero A3 k3) ?_; clear tok4))
  have HB4 := Aside0.mk (below_box w3 #[.int .i64 0, .int .i64 0, .int .i64 0, .int .i64 0, .int .i64 0, .int .i64 0, .int .i64 0, .string ⟨#[]⟩, .slice none 0 0] (Pk.zero.cells A3 k3) 24)
  have HQ4 := Aside0.mk (heap_box w3 #[.int .i64 0, .int .i64 0, .int .i64 0, .int .i64 0, .int .i64 0, .int .i64 0, .int .i64 0, .string ⟨#[]⟩, .slice none 0 0] (Pk.zero.cells A3 k3) 24)
  generalize hW4 : (w3.alloc (.cells #[.int .i64 0, .int .i64 0, .int .i64 0, .int .i64 0, .int .i64 0, .int .i64 0, .int .i64 0, .string ⟨#[]⟩, .slice none 0 0] 24)).setRow w3.heap.size (Pk.zero.cells A3 k3) = W4 at HB4 HQ4
  clear hW4
  have HSA := Aside0.mk (same_any W4 Pk.zero Pk.zero A3 none k3 0 (own_reads_of' (pw_own_below HO3.out HB4.out)) (ReadsOf.nil _ _ _))
  rw [zero_same] at HSA
  have HBB := Aside0.mk (HB3.out.trans (HB4.out.mono HB3.out.size))
  clear HO3 HB4 HCP HB3
  have hee : (er == er) = true := by simp
  go_wp2_with (first
    | (have tk := tok3; clear tk; refine gate_guard (by rfl) ?_; refine wpList_load_row rfl 24 (.tmp 5) rfl w3.heap.size rfl 24 _ _ _ HQ4.out Tryd.underlying24 rfl infoP ?_; clear tok3)
    | (go_at_call 21; (refine HSA.out.mono ?_); rintro e w6 ⟨rfl, hb6⟩; have HB6 := Aside0.mk hb6; clear hb6))
  go_ret
  exact ⟨rfl, HBB.out.trans (HB6.out.mono HBB.out.size)⟩
end Go.Proofs.YtgnhkgobocmkoaaDoor
