/- Contract of push.Bytes. -/
import Derived.Test.YtgnhkgobocmkoaaDoorLf
namespace Go.Proofs.YtgnhkgobocmkoaaDoor
open Go.RowKit Go.Proofs.YtgnhkgobocmkoaaDoorW.PrintWords

def bitAt : Nat → Int
  | 0 => 1
  | 1 => 2
  | 2 => 4
  | 3 => 8
  | 4 => 16
  | _ => 32
/-- The bytes of a packet's first k numbers, as far as its kind has them. -/
def pkNums (own : Int) (v : Nat → Int) : Nat → List Int
  | 0 => []
  | k + 1 => pkNums own v k ++ if bits .and .i64 own (bitAt k) != 0 then be (v k) 7 else []
def lineBytes (s : ByteArray) : List Int := be s.size 3 ++ bytesOf s
def Pk.textPart (p : Pk) : List Int := if bits .and .i64 (ownOf p.kind) 64 != 0 then be p.text.size 3 ++ bytesOf p.text else []
def Pk.linesPart (p : Pk) : List Int := if bits .and .i64 (ownOf p.kind) 128 != 0 then be p.lines.length 2 ++ p.lines.flatMap lineBytes else []
def Pk.bytes (p : Pk) : List Int := [p.kind % 256] ++ pkNums (ownOf p.kind) p.num 6 ++ p.textPart ++ p.linesPart

theorem pkNums_length (own : Int) (v : Nat → Int) (k : Nat) : (pkNums own v k).length ≤ 7 * k := by
  induction k with
  | zero => simp [pkNums]
  | succ k ih =>
    simp only [pkNums, List.length_append]
    split
    · rw [be_length]; omega
    · simp; omega

theorem lines_length (xs : List ByteArray) (k : Nat) (h : k ≤ xs.length) : ((xs.take k).flatMap lineBytes).length = 3 * k + sizeTo xs k := by
  induction k with
  | zero => simp [sizeTo]
  | succ k ih =>
    have hk : k < xs.length := by omega
    rw [List.take_succ_eq_append_getElem hk, List.flatMap_append, List.length_append, ih (by omega), sizeTo_succ xs k hk]
    have : rdOf ByteArray.empty xs k = xs[k] := by simp [rdOf, List.getElem?_eq_getElem hk]
    rw [this]
    simp only [List.flatMap_cons, List.flatMap_nil, List.append_nil, lineBytes, List.length_append, be_length, bytesOf_length]
    omega
theorem lines_succ (xs : List ByteArray) (k : Nat) (h : k < xs.length) : (xs.take (k + 1)).flatMap lineBytes = (xs.take k).flatMap lineBytes ++ be (rdOf ByteArray.empty xs k).size 3 ++ bytesOf (rdOf ByteArray.empty xs k) := by
  rw [List.take_succ_eq_append_getElem h, List.flatMap_append]
  have : rdOf ByteArray.empty xs k = xs[k] := by simp [rdOf, List.getElem?_eq_getElem h]
  rw [this]
  simp [lineBytes, List.append_assoc]

/-- What Bytes holds: the packet's own copy, the bytes so far, and all that was. -/
structure BySt (w wx : World) (p : Pk) (A : Option Addr) (c : Nat) (v : Value) (l : List Int) : Prop where
  pk : wx.heap[w.heap.size]? = some (.cells (p.cells A c) 24 (0, 0))
  row : wx.ownsRow (w.heap.size + 1) 5 1 v l.length (nums .u8 l)
  bel : Below w.heap.size w wx
theorem BySt.below {w wx wy : World} {p : Pk} {A : Option Addr} {c : Nat} {v : Value} {l : List Int} (h : BySt w wx p A c v l) (hb : Below wx.heap.size wx wy) : BySt w wy p A c v l :=
  ⟨blk_below h.pk hb, pw_own_below h.row hb, h.bel.trans (hb.mono h.bel.size)⟩
theorem BySt.lt {w wx : World} {p : Pk} {A : Option Addr} {c : Nat} {v : Value} {l : List Int} (h : BySt w wx p A c v l) : w.heap.size + 1 ≤ wx.heap.size := blk_lt h.pk
theorem BySt.ne {w wx : World} {p : Pk} {A : Option Addr} {c : Nat} {v : Value} {l : List Int} (h : BySt w wx p A c v l) : some w.heap.size ≠ v.ownBlock := fun e => by have := own_base h.row _ e.symm; omega
theorem BySt.grew {w wx wy : World} {p : Pk} {A : Option Addr} {c : Nat} {v v' : Value} {l l' : List Int} (h : BySt w wx p A c v l) (hg : Grew wx wy (w.heap.size + 1) 5 1 v v' l'.length (nums .u8 l')) : BySt w wy p A c v' l' :=
  ⟨hg.blk h.pk h.ne, hg.own, h.bel.trans ((hg.below h.row h.lt).mono (by omega))⟩
theorem BySt.cell {w wx : World} {p : Pk} {A : Option Addr} {c : Nat} {v : Value} {l : List Int} (h : BySt w wx p A c v l) (i : Nat) : wx.cell? ⟨w.heap.size, i, none⟩ = (p.cells A c)[i]? := blk_cell h.pk i

theorem u8_wrap (n : Int) : IntKind.u8.wrap n = n % 256 := by simp [IntKind.wrap, IntKind.bits, IntKind.signed]
theorem BySt.mk0 {w w1 : World} {p : Pk} {A : Option Addr} {c : Nat} (hW : Below (w.alloc (.cells (p.cells A c) 24)).heap.size (w.alloc (.cells (p.cells A c) 24)) w1) : w1.heap[w.heap.size]? = some (.cells (p.cells A c) 24 (0, 0)) ∧ w.heap.size + 1 ≤ w1.heap.size ∧ Below w.heap.size w w1 :=
  ⟨blk_below (heap_alloc_new w _) hW, by have := hW.size; simpa using this, ((Below.refl _ _).alloc (Nat.le_refl _) _).trans (hW.mono (by simp))⟩
theorem BySt.mk1 {w w1 w2 : World} {p : Pk} {A : Option Addr} {c : Nat} (hW : Below (w.alloc (.cells (p.cells A c) 24)).heap.size (w.alloc (.cells (p.cells A c) 24)) w1) (hb2 : Below w1.drew.heap.size w1.drew w2) :
    BySt w (w2.alloc (.cells #[.int .u8 (IntKind.u8.wrap p.kind)] 5)) p A c (.slice (some ⟨w2.heap.size, 0, none⟩) 1 1) [p.kind % 256] := by
  obtain ⟨h1, h2, h3⟩ := BySt.mk0 hW
  have hz := hb2.size
  simp only [World.drew] at hz
  rw [u8_wrap]
  exact ⟨blk_alloc (blk_below (blk_drew h1) hb2) _, own_lit w2 (w.heap.size + 1) 5 .u8 [p.kind % 256] (by omega) (by simp), ((below_drew h3).trans (hb2.mono (by show _ ≤ w1.heap.size; omega))).alloc (by omega) _⟩
theorem BySt.mk2 {w w1 w2 : World} {p : Pk} {A : Option Addr} {c : Nat} (hW : Below (w.alloc (.cells (p.cells A c) 24)).heap.size (w.alloc (.cells (p.cells A c) 24)) w1)
    (hb2 : Below (w1.alloc (.cells #[.int .u8 (IntKind.u8.wrap p.kind)] 5)).drew.heap.size (w1.alloc (.cells #[.int .u8 (IntKind.u8.wrap p.kind)] 5)).drew w2) :
    BySt w w2 p A c (.slice (some ⟨w1.heap.size, 0, none⟩) 1 1) [p.kind % 256] := by
  obtain ⟨h1, h2, h3⟩ := BySt.mk0 hW
  rw [u8_wrap] at hb2
  exact ⟨blk_below (blk_drew (blk_alloc h1 _)) hb2, pw_own_below (w := (w1.alloc (.cells #[.int .u8 (p.kind % 256)] 5)).drew) (own_lit w1 (w.heap.size + 1) 5 .u8 [p.kind % 256] (by omega) (by simp)) hb2, (below_drew (h3.alloc (by omega) _)).trans (hb2.mono (by show _ ≤ (w1.alloc _).heap.size; simp; omega))⟩

set_option maxRecDepth 100000 in
set_option maxHeartbeats 4000000 in
theorem bytes_bad (w : World) (p : Pk) (A : Option Addr) (c : Nat) (hx : Kd.C Kd.string w A p.lines.length p.lines) (hs : sizeTo p.lines p.lines.length ≤ 4611686018427387904) (hk : p.ok = false) :
    Calls Tryd.prog 16 #[.agg (p.cells A c)] w fun e w' => e = .returned (.tuple #[.slice none 0 0, .int .i64 2]) ∧ Below w.heap.size w w' := by
  have hc := fun W hB => check_any W p A c (Kd.C_below hx hB) hs
  rw [hk, show chkOf false = 2 from rfl] at hc
  clear hx hs hk
  unfold Pk.cells at hc ⊢
  go_enter Tryd.func16, Tryd.ntmps16
  go_wp2_with (go_at_call 15; refine (hc _ ?_).mono ?_; exact (Below.refl _ _).alloc (Nat.le_refl _) _; rintro e w1 ⟨rfl, hb1⟩)
  go_ret2
  exact ⟨rfl, ((Below.refl _ _).alloc (Nat.le_refl _) _).trans (hb1.mono (by simp))⟩

theorem ok_bounds {p : Pk} (h : p.ok = true) : knownB p.kind = true ∧ p.text.size ≤ 65536 ∧ sizeTo p.lines p.lines.length ≤ 65536 ∧ p.lines.length ≤ 1000 := by
  unfold Pk.ok at h
  simp only [Bool.and_eq_true, decide_eq_true_eq] at h
  obtain ⟨⟨⟨h1, h2⟩, ⟨h3, h4⟩⟩, ⟨⟨⟨h5, h6⟩, h7⟩, h8⟩⟩ := h
  exact ⟨h1, h4, h7, h8⟩

theorem field_cells (g k : Nat) (least frm : Int) (hk : k < 6) : ∃ c d : Int, (fieldCells g least frm)[k * 4]? = some (.int .i64 (bitAt k)) ∧ (fieldCells g least frm)[k * 4 + 1]? = some (.pointer (some ⟨g, k + 1, none⟩)) ∧ (fieldCells g least frm)[k * 4 + 2]? = some (.int .i64 c) ∧ (fieldCells g least frm)[k * 4 + 3]? = some (.int .i64 d) := by
  rcases k with _ | _ | _ | _ | _ | _ | k
  all_goals first | exact ⟨_, _, rfl, rfl, rfl, rfl⟩ | omega
theorem num_cell (p : Pk) (A : Option Addr) (c k : Nat) (hk : k < 6) : (p.cells A c)[k + 1]? = some (.int .i64 (p.num k)) := by
  rcases k with _ | _ | _ | _ | _ | _ | k
  all_goals first | rfl | omega

set_option maxRecDepth 100000 in
set_option maxHeartbeats 8000000 in
theorem bytes_ok (w : World) (p : Pk) (A : Option Addr) (c : Nat) (hx : Kd.C Kd.string w A p.lines.length p.lines) (hk : p.ok = true) :
    Calls Tryd.prog 16 #[.agg (p.cells A c)] w fun e w' => ∃ v, e = .returned (.tuple #[v, .int .i64 0]) ∧ w'.ownsRow w.heap.size 5 1 v p.bytes.length (nums .u8 p.bytes) ∧ Below w.heap.size w w' := by
  obtain ⟨hkn, b1, b2, b3⟩ := ok_bounds hk
  have hc := fun W hB => check_any W p A c (Kd.C_below hx hB) (by omega)
  rw [hk, show chkOf true = 0 from rfl] at hc
  have hidx := index_kinds p.kind hkn
  have HX := Aside0.mk hx
  have HB1 := Aside0.mk b1
  have HB2 := Aside0.mk b2
  have HB3 := Aside0.mk b3
  clear hx hk hkn b1 b2 b3
  unfold Pk.cells at hc ⊢
  go_enter Tryd.func16, Tryd.ntmps16
  go_upto_region 4 with (go_at_call 15; refine (hc _ ?_).mono ?_; exact (Below.refl _ _).alloc (Nat.le_refl _) _; rintro e w1 ⟨rfl, hb1⟩)
  have HW := Aside0.mk hb1
  have k1 : w1.cell? ⟨w.heap.size, 0, none⟩ = some (.int .i64 p.kind) := pw_cell_below hb1 (by go_simp)
  clear hc hb1
  go_cut [5, 6] (fun s5 s6 wx => s5 = .int .i64 (ownOf p.kind) ∧ BySt w wx p A c s6 [p.kind % 256])
  case first =>
    go_region_held3 (fun w' => w'.cell? ⟨w.heap.size, 0, none⟩ = some (.int .i64 p.kind)) (first | go_keep | (refine pw_cell_below hb2 ?_; assumption) | (refine cell_alloc (pw_cell_below hb2 ?_); assumption) | (refine cell_alloc ?_; assumption)) (first | (go_at_call 40; refine (kinds_any _).mono ?_; rintro e w2 ⟨rfl, hb2⟩; obtain ⟨hc1, hf1⟩ := bcell hb2))
    all_goals (go_wp2_with fail; go_meet)
    all_goals first | exact ⟨rfl, BySt.mk1 HW.out hb2⟩ | exact ⟨rfl, BySt.mk2 HW.out hb2⟩
  case rest =>
    obtain ⟨rfl, hst⟩ := hcut
    have HST := Aside0.mk hst
    have c0 := (hst.cell 0).trans (show (p.cells A c)[0]? = some (.int .i64 p.kind) from rfl)
    have c1 := (hst.cell 1).trans (show (p.cells A c)[1]? = some (.int .i64 p.ver) from rfl)
    clear hst k1 HW hidx
    go_wp2_with (go_at_call 42; refine (fields_any _ w.heap.size p.kind p.ver ?_ ?_).mono ?_; exact c0; exact c1; rintro e w2 ⟨rfl, hfl⟩; have HF2 := Aside0.mk hfl; have HST2 := Aside0.mk (HST.out.below (hfl.2.2)); clear hfl c0 c1)
    go_loopg [6, 8, 26] 6 (fun gg s6 _ s26 wr => ∃ k : Nat, k ≤ 6 ∧ 6 - k ≤ gg ∧ s26 = .int .i64 k ∧ Aside0 (BySt w wr p A c s6 ([p.kind % 256] ++ pkNums (ownOf p.kind) p.num k)) ∧ Aside0 (wr.heap[wc.heap.size]? = some (.cells (fieldCells w.heap.size (leastOf p.kind) (fromOf p.kind p.ver)) 73 (0, 0))) ∧ Aside0 (some wc.heap.size ≠ s6.ownBlock))
    case atStart => exact ⟨0, by omega, by omega, rfl, ⟨HST2.out⟩, ⟨HF2.out.1⟩, ⟨fun e => by have := own_lt HST.out.row _ e.symm; omega⟩⟩
    case round =>
      obtain ⟨k, hk, hg, rfl, HST3, HF3, HN⟩ := hrel
      by_cases hlt : k < 6
      · have hltz : (k : Int) < 6 := by omega
        obtain ⟨vc, vd, f0, f1, f2, f3⟩ := field_cells w.heap.size k (leastOf p.kind) (fromOf p.kind p.ver) hlt
        have l0 := (blk_cell HF3.out (k * 4)).trans f0
        have l1 := (blk_cell HF3.out (k * 4 + 1)).trans f1
        have l2 := (blk_cell HF3.out (k * 4 + 2)).trans f2
        have l3 := (blk_cell HF3.out (k * 4 + 3)).trans f3
        have n0 := (HST3.out.cell (k + 1)).trans (num_cell p A c k hlt)
        have hlt0 := blk_lt HST3.out.pk
        clear f0 f1 f2 f3 HST2 HF2
        cases hbit : (bits .and .i64 (ownOf p.kind) (bitAt k) != 0) with
        | true =>
          have hlen := pkNums_length (ownOf p.kind) p.num k
          go_wp2_with (go_at_call 47; refine (row_any _ (w.heap.size + 1) _ ([p.kind % 256] ++ pkNums (ownOf p.kind) p.num k) (p.num k) 7 ?_ ?_ ?_ ?_).mono ?_; exact (HST3.out.below ((Below.refl _ _).alloc (Nat.le_refl _) _)).lt; exact (HST3.out.below ((Below.refl _ _).alloc (Nat.le_refl _) _)).row; omega; (simp; omega); rintro e w4 ⟨v4, rfl, hg4⟩; have HG4 := Aside0.mk hg4; clear hg4)
          go_roundg (6 - (k + 1))
          case measure => omega
          case rel =>
            refine ⟨k + 1, by omega, by omega, by go_num, ⟨?_⟩, ⟨?_⟩, ⟨?_⟩⟩
            · have := (HST3.out.below ((Below.refl _ _).alloc (Nat.le_refl _) (.cells #[.int .i64 (bitAt k), .pointer (some ⟨w.heap.size, k + 1, none⟩), .int .i64 vc, .int .i64 vd] 73))).grew HG4.out
              simp only [pkNums, hbit, if_true, ← List.append_assoc]
              exact this
            · exact HG4.out.blk (blk_alloc HF3.out _) HN.out
            · exact HG4.out.ne (by have := blk_lt HF3.out; simp; omega) HN.out
        | false =>
          go_wp2
          go_roundg (6 - (k + 1))
          case measure => omega
          case rel =>
            refine ⟨k + 1, by omega, by omega, by go_num, ⟨?_⟩, ⟨blk_alloc HF3.out _⟩, ⟨HN.out⟩⟩
            have := (HST3.out.below ((Below.refl _ _).alloc (Nat.le_refl _) (.cells #[.int .i64 (bitAt k), .pointer (some ⟨w.heap.size, k + 1, none⟩), .int .i64 vc, .int .i64 vd] 73)))
            simp only [pkNums, hbit, Bool.false_eq_true, if_false, List.append_nil]
            exact this
      · have hltz : ¬ (k : Int) < 6 := by omega
        obtain rfl : k = 6 := by omega
        clear HF3 HN hltz hlt hk hg HF2 HST2 HST
        have t0 := (HST3.out.cell 7).trans (show (p.cells A c)[7]? = some (.string p.text) from rfl)
        have hlen := pkNums_length (ownOf p.kind) p.num 6
        have HL := Aside0.mk hlen
        clear hlen
        go_upto_if 44 with (fail)
        go_cut [6] (fun s6 wx => BySt w wx p A c s6 ([p.kind % 256] ++ pkNums (ownOf p.kind) p.num 6 ++ p.textPart))
        case first =>
          cases hbit : (bits .and .i64 (ownOf p.kind) 64 != 0) with
          | true =>
            go_wp2
            have hl5 : ([p.kind % 256] ++ pkNums (ownOf p.kind) p.num 6 ++ be p.text.size 3).length + p.text.size ≤ 140737488355328 := by
              have := HL.out; have := HB1.out
              simp only [List.length_append, be_length, List.length_cons, List.length_nil]; omega
            have HL5 := Aside0.mk hl5
            clear hl5
            go_region_held3 (fun w' => w'.cell? ⟨w.heap.size, 7, none⟩ = some (.string p.text)) (first | go_keep | (rw [(blk_cell (HG4.out.blk HST3.out.pk HST3.out.ne) 7)]; rfl) | (rw [(blk_cell (HG5.out.blk (HG4.out.blk HST3.out.pk HST3.out.ne) (HG4.out.ne HST3.out.lt HST3.out.ne)) 7)]; rfl)) (first | (go_at_call 47; refine (row_any _ (w.heap.size + 1) _ ([p.kind % 256] ++ pkNums (ownOf p.kind) p.num 6) p.text.size 3 ?_ ?_ ?_ ?_).mono ?_; exact HST3.out.lt; exact HST3.out.row; omega; (have := HL.out; simp; omega); rintro e w4 ⟨v4, rfl, hg4⟩; have HG4 := Aside0.mk hg4; clear hg4) | ((have hx4 := HG4; clear hx4; refine step_append_str (by rfl) (.tmp 49) (.tmp 51) 38 9 5 (by rfl) Tryd.underlying38 Tryd.underlying9 infoU8 (w.heap.size + 1) _ _ _ (by rfl) (by rfl) HG4.out.own (Nat.le_trans HST3.out.lt HG4.out.gr.size) HL5.out ?_; intro v5 w5 hg5; have HG5 := Aside0.mk hg5; clear hg5)))
            go_wp2_with (fail)
            go_meet
            have := (HST3.out.below (below_drew (Below.refl _ _))).grew (HG4.out.trans HG5.out)
            simp only [Pk.textPart, hbit, if_true, ← List.append_assoc]
            exact this
          | false =>
            go_wp2
            go_meet
            simp only [Pk.textPart, hbit, Bool.false_eq_true, if_false, List.append_nil]
            exact HST3.out
        case rest =>
          have HST := Aside0.mk hcut
          have c8 := (hcut.cell 8).trans (show (p.cells A c)[8]? = some (.slice A p.lines.length c) from rfl)
          have hlen : ([p.kind % 256] ++ pkNums (ownOf p.kind) p.num 6 ++ p.textPart).length ≤ 100000 := by
            have := HL.out; have := HB1.out
            unfold Pk.textPart
            split <;> simp only [List.length_append, be_length, List.length_cons, List.length_nil, bytesOf_length] <;> omega
          have HL2 := Aside0.mk hlen
          clear hcut t0 HST3 hlen HL
          generalize hpre : [p.kind % 256] ++ pkNums (ownOf p.kind) p.num 6 ++ p.textPart = pre at HST HL2
          have HPRE := Aside0.mk hpre
          clear hpre
          go_upto_if 55 with (fail)
          go_cut [6] (fun s6 wx => BySt w wx p A c s6 (pre ++ p.linesPart))
          case first =>
            cases hbit : (bits .and .i64 (ownOf p.kind) 128 != 0) with
            | false =>
              go_wp2
              go_meet
              simp only [Pk.linesPart, hbit, Bool.false_eq_true, if_false, List.append_nil]
              exact HST.out
            | true =>
              go_wp2_with (go_at_call 47; refine (row_any _ (w.heap.size + 1) _ pre p.lines.length 2 ?_ ?_ ?_ ?_).mono ?_; exact HST.out.lt; exact HST.out.row; omega; (have := HL2.out; omega); rintro e w4 ⟨v4, rfl, hg4⟩; have HG4 := Aside0.mk hg4; have HST4 := Aside0.mk (HST.out.grew hg4); have c84 := (HST4.out.cell 8).trans (show (p.cells A c)[8]? = some (.slice A p.lines.length c) from rfl); clear hg4)
              go_loopg [6, 10, 64] p.lines.length (fun gg s6 _ s64 wr => ∃ k : Nat, k ≤ p.lines.length ∧ p.lines.length - k ≤ gg ∧ s64 = .int .i64 k ∧ Aside0 (BySt w wr p A c s6 (pre ++ be p.lines.length 2 ++ (p.lines.take k).flatMap lineBytes)))
              case atStart => exact ⟨0, by omega, by omega, rfl, ⟨by simpa using HST4.out⟩⟩
              case round =>
                obtain ⟨k, hk, hg, rfl, HST6⟩ := hrel
                have hn1 := HB3.out
                by_cases hlt : k < p.lines.length
                · have hltz : (k : Int) < (p.lines.length : Int) := by omega
                  obtain ⟨ad, rfl, l2⟩ := Kd.at_string (Kd.C_below HX.out HST6.out.bel) k (by omega) (by omega)
                  simp only [Int.toNat_natCast] at l2
                  have hsz := lines_length p.lines k hk
                  have hs1 := sizeTo_succ p.lines k hlt
                  have hs2 := sizeTo_le p.lines (k + 1)
                  have HLEN := Aside0.mk (And.intro hsz (And.intro hs1 hs2))
                  have HSUC := Aside0.mk (lines_succ p.lines k hlt)
                  clear hsz hs1 hs2 c84
                  generalize rdOf ByteArray.empty p.lines k = y at l2 HLEN HSUC
                  go_wp2_with (first | (go_at_call 47; refine (row_any _ (w.heap.size + 1) _ (pre ++ be p.lines.length 2 ++ (p.lines.take k).flatMap lineBytes) y.size 3 ?_ ?_ ?_ ?_).mono ?_; exact HST6.out.lt; exact HST6.out.row; omega; (have := HL2.out; obtain ⟨h1, h2, h3⟩ := HLEN.out; have := HB2.out; simp only [List.length_append, be_length, h1]; omega); rintro e w7 ⟨v7, rfl, hg7⟩; have HG7 := Aside0.mk hg7; clear hg7) | (at_builtin; refine wpl_append_str rfl (.tmp 71) (.tmp 72) 38 9 5 rfl Tryd.underlying38 Tryd.underlying9 infoU8 (w.heap.size + 1) _ _ _ rfl rfl HG7.out.own ?_ ?_ ?_; exact Nat.le_trans HST6.out.lt HG7.out.gr.size; (have := HL2.out; obtain ⟨h1, h2, h3⟩ := HLEN.out; have := HB2.out; simp only [List.length_append, be_length, h1]; omega); intro v8 w8 hg8; have HG8 := Aside0.mk hg8; clear hg8))
                  go_roundg (p.lines.length - (k + 1))
                  case measure => omega
                  case rel =>
                    refine ⟨k + 1, by omega, by omega, by go_num, ⟨?_⟩⟩
                    have := HST6.out.grew (HG7.out.trans HG8.out)
                    rw [HSUC.out]
                    simp only [← List.append_assoc] at this ⊢
                    exact this
                · have hltz : ¬ (k : Int) < (p.lines.length : Int) := by omega
                  have HK := Aside0.mk (show k = p.lines.length by omega)
                  clear hlt hk hg c84
                  go_wp2
                  go_meet
                  have := HST6.out
                  rw [HK.out, List.take_length] at this
                  simp only [Pk.linesPart, hbit, if_true, ← List.append_assoc]
                  exact this
          case rest =>
            have HF := Aside0.mk hcut
            clear hcut c8
            go_wp2
            go_ret2
            refine ⟨_, rfl, ?_, HF.out.bel⟩
            have := own_weaken HF.out.row (Nat.le_succ _)
            unfold Pk.bytes
            rw [HPRE.out]
            exact this
end Go.Proofs.YtgnhkgobocmkoaaDoor
