/- Contract of push.Check. -/
import Derived.Test.YtgnhkgobocmkoaaDoorLd
import Derived.Deep.RegionWith
import Derived.Deep.RegionHeld3
import Derived.Deep.DeepCutAuto
namespace Go.Proofs.YtgnhkgobocmkoaaDoor
open Go.RowKit Go.Proofs.YtgnhkgobocmkoaaDoorW.PrintWords

/-- A packet. -/
structure Pk where
  kind : Int
  ver : Int
  frm : Int
  node : Int
  tick : Int
  head : Int
  tail : Int
  text : ByteArray
  lines : List ByteArray
def Pk.cells (p : Pk) (A : Option Addr) (c : Nat) : Array Value := #[.int .i64 p.kind, .int .i64 p.ver, .int .i64 p.frm, .int .i64 p.node, .int .i64 p.tick, .int .i64 p.head, .int .i64 p.tail, .string p.text, .slice A p.lines.length c]
def Pk.num (p : Pk) : Nat → Int
  | 0 => p.ver
  | 1 => p.frm
  | 2 => p.node
  | 3 => p.tick
  | 4 => p.head
  | _ => p.tail
/-- What a kind has, as bits. -/
def ownOf (kind : Int) : Int := if kind = 1 then 73 else if kind = 2 then 187 else if kind = 3 then 9 else 5
def knownB (kind : Int) : Bool := decide (1 ≤ kind) && decide (kind ≤ 5)
def Pk.ok (p : Pk) : Bool :=
  knownB p.kind && fieldsOk (ownOf p.kind) (leastOf p.kind) (fromOf p.kind p.ver) p.num &&
  ((bits .and .i64 (ownOf p.kind) 64 != 0 || p.text.toList.isEmpty) && decide (p.text.size ≤ 65536)) &&
  ((bits .and .i64 (ownOf p.kind) 128 != 0 || p.lines.length == 0) && p.lines.all noLf && decide (sizeTo p.lines p.lines.length ≤ 65536) && decide (p.lines.length ≤ 1000))

set_option maxRecDepth 100000 in
theorem index_kinds (kind : Int) (h : knownB kind = true) : ∀ w, (Instr.index 44 (.agg #[.int .i64 0, .int .i64 73, .int .i64 187, .int .i64 9, .int .i64 5, .int .i64 5]) (.int .i64 kind)).run Tryd.prog w = .ok (.int .i64 (ownOf kind)) w := by
  simp only [knownB, Bool.and_eq_true, decide_eq_true_eq] at h
  have : kind = 1 ∨ kind = 2 ∨ kind = 3 ∨ kind = 4 ∨ kind = 5 := by omega
  rcases this with rfl | rfl | rfl | rfl | rfl <;> exact fun w => by kernel_rfl

/-- What Check holds: the packet's own copy, what its kind has, and all that was. -/
def CkSt (w wx : World) (p : Pk) (A : Option Addr) (c bo : Nat) : Prop :=
  wx.heap[w.heap.size]? = some (.cells (p.cells A c) 24 (0, 0)) ∧ wx.heap[bo]? = some (.cells #[.int .i64 (ownOf p.kind)] 3 (0, 0)) ∧ w.heap.size < bo ∧ Below w.heap.size w wx
theorem CkSt.below {w wx wy : World} {p : Pk} {A : Option Addr} {c bo : Nat} (h : CkSt w wx p A c bo) (hb : Below wx.heap.size wx wy) : CkSt w wy p A c bo :=
  ⟨blk_below h.1 hb, blk_below h.2.1 hb, h.2.2.1, h.2.2.2.trans (hb.mono h.2.2.2.size)⟩
theorem CkSt.grown {w wx wy : World} {p : Pk} {A : Option Addr} {c bo bm : Nat} (h : CkSt w wx p A c bo) (hb : wx.grownBy wy (some bm)) (h1 : bo < bm) : CkSt w wy p A c bo :=
  ⟨blk_grown h.1 hb (by have := h.2.2.1; simp; omega), blk_grown h.2.1 hb (by simp; omega), h.2.2.1, h.2.2.2.grown hb h.2.2.2.size (fun k hk => by have := h.2.2.1; simp at hk; omega)⟩
theorem CkSt.cell {w wx : World} {p : Pk} {A : Option Addr} {c bo : Nat} (h : CkSt w wx p A c bo) (i : Nat) : wx.cell? ⟨w.heap.size, i, none⟩ = (p.cells A c)[i]? := blk_cell h.1 i
theorem CkSt.own {w wx : World} {p : Pk} {A : Option Addr} {c bo : Nat} (h : CkSt w wx p A c bo) : wx.cell? ⟨bo, 0, none⟩ = some (.int .i64 (ownOf p.kind)) := (blk_cell h.2.1 0).trans rfl

theorem CkSt.mk1 {w w1 : World} {p : Pk} {A : Option Addr} {c : Nat} (hb1 : Below ((w.alloc (.cells (p.cells A c) 24)).drew).heap.size (w.alloc (.cells (p.cells A c) 24)).drew w1) : CkSt w (w1.alloc (.cells #[.int .i64 (ownOf p.kind)] 3)) p A c w1.heap.size := by
  have hz := hb1.size
  simp only [World.drew, World.size_alloc] at hz
  exact ⟨blk_alloc (blk_below (blk_drew (heap_alloc_new w _)) hb1) _, heap_alloc_new _ _, by omega, ((below_drew ((Below.refl _ _).alloc (Nat.le_refl _) _)).trans (hb1.mono (by simp [World.drew]))).alloc (by omega) _⟩
theorem CkSt.mk2 {w w1 : World} {p : Pk} {A : Option Addr} {c : Nat} (hb1 : Below (((w.alloc (.cells (p.cells A c) 24)).alloc (.cells #[.int .i64 0] 3)).drew).heap.size ((w.alloc (.cells (p.cells A c) 24)).alloc (.cells #[.int .i64 0] 3)).drew w1) : CkSt w (w1.setCell ⟨w.heap.size + 1, 0, none⟩ (.int .i64 (ownOf p.kind))) p A c (w.heap.size + 1) := by
  have hz := hb1.size
  simp only [World.drew, World.size_alloc] at hz
  have h0 : w1.heap[w.heap.size]? = some (.cells (p.cells A c) 24 (0, 0)) := blk_below (blk_drew (blk_alloc (heap_alloc_new w _) _)) hb1
  have h1 : w1.heap[w.heap.size + 1]? = some (.cells #[.int .i64 0] 3 (0, 0)) := blk_below (blk_drew (by simpa using heap_alloc_new (w.alloc (.cells (p.cells A c) 24)) _)) hb1
  exact ⟨blk_far h0 (by simp) _, blk_set h1 0 _, by omega, ((below_drew (((Below.refl _ _).alloc (Nat.le_refl _) _).alloc (by simp) _)).trans (hb1.mono (by simp [World.drew]; omega))).setCell (by simp) _⟩

def chkOf (b : Bool) : Int := if b then 0 else 2

def Pk.textsB (p : Pk) : Bool := (bits .and .i64 (ownOf p.kind) 64 != 0 || p.text.toList.isEmpty) && decide (p.text.size ≤ 65536)
def Pk.listsB (p : Pk) (flat : Bool) (many : Int) : Bool := (bits .and .i64 (ownOf p.kind) 128 != 0 || p.lines.length == 0) && flat && decide (many ≤ 65536) && decide (p.lines.length ≤ 1000)

set_option maxRecDepth 100000 in
set_option maxHeartbeats 4000000 in
theorem check_known (w : World) (p : Pk) (A : Option Addr) (c : Nat) (hx : Kd.C Kd.string w A p.lines.length p.lines) (hs : sizeTo p.lines p.lines.length ≤ 4611686018427387904) (hk : knownB p.kind = true) :
    Calls Tryd.prog 15 #[.agg (p.cells A c)] w fun e w' => e = .returned (.int .i64 (chkOf p.ok)) ∧ Below w.heap.size w w' := by
  have hidx := index_kinds p.kind hk
  have hkn := fun W => known_any p.kind W
  have hk' : (decide (1 ≤ p.kind) && decide (p.kind ≤ 5)) = true := hk
  rw [hk'] at hkn
  unfold Pk.cells
  go_enter Tryd.func15, Tryd.ntmps15
  go_upto_region 3 with (go_at_call 39; refine (hkn _).mono ?_; rintro e w' ⟨rfl, rfl⟩)
  go_cut [3] (fun s3 wx => ∃ bo : Nat, s3 = .pointer (some ⟨bo, 0, none⟩) ∧ CkSt w wx p A c bo)
  case first =>
    go_region_held3 (fun w' => w'.cell? ⟨w.heap.size, 0, none⟩ = some (.int .i64 p.kind)) (first | go_keep | (refine pw_cell_below hb1 ?_; assumption) | (refine cell_alloc (pw_cell_below hb1 ?_); assumption) | (refine pw_cell_below hb1 ?_; go_simp; done) | (refine cell_alloc (pw_cell_below hb1 ?_); go_simp; done)) (first | (go_at_call 40; refine (kinds_any _).mono ?_; rintro e w1 ⟨rfl, hb1⟩; obtain ⟨hc1, hf1⟩ := bcell hb1))
    all_goals (go_wp2_with fail; go_meet)
    all_goals first | exact ⟨_, rfl, CkSt.mk1 hb1⟩ | exact ⟨_, rfl, CkSt.mk2 hb1⟩
  case rest =>
    obtain ⟨bo, rfl, hst⟩ := hcut
    have HST := Aside0.mk hst
    have HX := Aside0.mk hx
    have HS := Aside0.mk hs
    have HK := Aside0.mk hk
    have c0 := hst.cell 0
    have c1 := hst.cell 1
    have g0 := hst.1
    have o0 := hst.own
    clear hst hx hs hk hk' hkn hidx
    go_upto_region 7 with (first | (go_at_call 42; refine (fields_any _ w.heap.size p.kind p.ver ?_ ?_).mono ?_; exact c0; exact c1; rintro e w2 ⟨rfl, hfl⟩; have HF2 := Aside0.mk hfl; have HST2 := Aside0.mk (HST.out.below (hfl.2.2)); clear hfl c0 c1 g0 o0) | (go_at_call 41; refine (eachF_any _ wc.heap.size bo w.heap.size (ownOf p.kind) (leastOf p.kind) (fromOf p.kind p.ver) p.num (.string p.text) (.slice A p.lines.length c) p.kind ?_ ?_ ?_).mono ?_; exact HF2.out.1; exact HST2.out.own; exact HST2.out.1; rintro e w3 ⟨rfl, hb3⟩; have HST3 := Aside0.mk (HST2.out.below hb3); have h38 := (HST3.out.cell 8).trans (show (p.cells A c)[8]? = some (.slice A p.lines.length c) from rfl); have hz3 := blk_lt HST3.out.1; clear hb3) | (go_at_call 44; refine (eachS_any _ w3.heap.size A c p.lines ?_ ?_ HS.out).mono ?_; exact fun W' hW' => Kd.C_below HX.out ((HST3.out.2.2.2.alloc (Nat.le_of_lt hz3) _).grown hW' (by simp; omega) (fun k hk => by simp at hk; omega)); exact heap_alloc_new _ _; rintro e w5 ⟨rfl, hg5, m, hm5, hmm⟩; have HM := Aside0.mk hmm; have HST5 := Aside0.mk (CkSt.grown (HST3.out.below ((Below.refl _ _).alloc (Nat.le_refl _) _)) hg5 (blk_lt HST3.out.2.1)); clear hg5 hmm))
    have o5 := HST5.out.own
    have t5 := (HST5.out.cell 7).trans (show (p.cells A c)[7]? = some (.string p.text) from rfl)
    have l5 := (HST5.out.cell 8).trans (show (p.cells A c)[8]? = some (.slice A p.lines.length c) from rfl)
    have m5 := (blk_cell hm5 0).trans (show (#[Value.int .i64 m])[0]? = some (.int .i64 m) from rfl)
    clear hm5 h38 hz3
    go_cut [0, 7] (fun _ s7 wx => s7 = .bool p.textsB ∧ w5 = wx)
    case first =>
      go_wp2
      all_goals (go_meet; refine ⟨congrArg Value.bool ?_, rfl⟩; unfold Pk.textsB; rw [Bool.eq_iff_iff]; first | (simp [*]; done) | (simp [*]; omega))
    case rest =>
      obtain ⟨rfl, rfl⟩ := hcut
      go_upto_region 8 with fail
      go_cut [0, 6, 8] (fun _ _ s8 wx => s8 = .bool (p.listsB (p.lines.all noLf) m) ∧ w5 = wx)
      case first =>
        go_wp2
        all_goals (go_meet; refine ⟨congrArg Value.bool ?_, rfl⟩; unfold Pk.listsB; rw [Bool.eq_iff_iff]; first | (simp [*]; done) | (simp [*]; omega))
      case rest =>
        obtain ⟨rfl, rfl⟩ := hcut
        have hok : p.ok = (fieldsOk (ownOf p.kind) (leastOf p.kind) (fromOf p.kind p.ver) p.num && p.textsB && p.listsB (p.lines.all noLf) m) := by
          have hk := HK.out
          unfold Pk.ok Pk.textsB Pk.listsB
          cases hall : p.lines.all noLf with
          | false => simp
          | true =>
            have := HM.out hall
            rw [this, hk]
            have e : decide (((sizeTo p.lines p.lines.length : Nat) : Int) ≤ 65536) = decide (sizeTo p.lines p.lines.length ≤ 65536) := by
              rw [Bool.eq_iff_iff]; simp; omega
            rw [e]
            simp only [Bool.true_and]
        have HOK := Aside0.mk hok
        clear hok o5 t5 l5 m5
        generalize fieldsOk (ownOf p.kind) (leastOf p.kind) (fromOf p.kind p.ver) p.num = q1 at HOK ⊢
        generalize p.textsB = q2 at HOK ⊢
        generalize p.listsB (p.lines.all noLf) m = q3 at HOK ⊢
        cases q1 <;> cases q2 <;> cases q3
        all_goals
          go_wp2
          go_ret
          rw [HOK.out]
          exact ⟨rfl, HST5.out.2.2.2⟩

/-- push.Check: whether the packet may be. -/
theorem check_any (w : World) (p : Pk) (A : Option Addr) (c : Nat) (hx : Kd.C Kd.string w A p.lines.length p.lines) (hs : sizeTo p.lines p.lines.length ≤ 4611686018427387904) :
    Calls Tryd.prog 15 #[.agg (p.cells A c)] w fun e w' => e = .returned (.int .i64 (chkOf p.ok)) ∧ Below w.heap.size w w' := by
  cases hk : knownB p.kind with
  | true => exact check_known w p A c hx hs hk
  | false =>
    have hkn := fun W => known_any p.kind W
    have hk' : (decide (1 ≤ p.kind) && decide (p.kind ≤ 5)) = false := hk
    rw [hk'] at hkn
    have hok : p.ok = false := by unfold Pk.ok; rw [hk]; simp
    rw [hok]
    unfold Pk.cells
    clear hk hk' hok hx hs
    go_enter Tryd.func15, Tryd.ntmps15
    go_wp2_with (go_at_call 39; refine (hkn _).mono ?_; rintro e w' ⟨rfl, rfl⟩)
    go_ret
    exact ⟨rfl, (Below.refl _ _).alloc (Nat.le_refl _) _⟩
end Go.Proofs.YtgnhkgobocmkoaaDoor
