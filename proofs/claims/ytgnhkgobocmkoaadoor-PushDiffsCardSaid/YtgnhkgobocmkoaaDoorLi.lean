/- Contract of push.Parse. -/
import Derived.Test.YtgnhkgobocmkoaaDoorLh
namespace Go.Proofs.YtgnhkgobocmkoaaDoor
open Go.RowKit Go.Proofs.YtgnhkgobocmkoaaDoorW.PrintWords

def Pk.cellsV (p : Pk) (v : Value) : Array Value := #[.int .i64 p.kind, .int .i64 p.ver, .int .i64 p.frm, .int .i64 p.node, .int .i64 p.tick, .int .i64 p.head, .int .i64 p.tail, .string p.text, v]
def Pk.zero : Pk := ⟨0, 0, 0, 0, 0, 0, 0, ⟨#[]⟩, []⟩
def Pk.ofKind (k : Int) : Pk := { Pk.zero with kind := k }
def Pk.setNum (p : Pk) : Nat → Int → Pk
  | 0, x => { p with ver := x }
  | 1, x => { p with frm := x }
  | 2, x => { p with node := x }
  | 3, x => { p with tick := x }
  | 4, x => { p with head := x }
  | _, x => { p with tail := x }

/-- What Parse holds: the packet so far, and the cursor. -/
structure PaSt (w wx : World) (p : Pk) (v : Value) (r : List Int) (e : Int) : Prop where
  pk : wx.heap[w.heap.size]? = some (.cells (p.cellsV v) 24 (0, 0))
  row : wx.ownsRow (w.heap.size + 2) 9 1 v p.lines.length (encs Value.string p.lines)
  cur : CurSt w wx (w.heap.size + 1) r e
section
variable {w wx wy : World} {p : Pk} {v v' : Value} {r r' : List Int} {e e' : Int}
theorem PaSt.lt (h : PaSt w wx p v r e) : w.heap.size + 2 ≤ wx.heap.size := by
  obtain ⟨A, c, h1, _⟩ := h.cur.blk
  exact blk_lt h1
theorem PaSt.below (h : PaSt w wx p v r e) (hb : Below wx.heap.size wx wy) : PaSt w wy p v r e := ⟨blk_below h.pk hb, pw_own_below h.row hb, h.cur.below hb⟩
theorem PaSt.ne0 (h : PaSt w wx p v r e) : some w.heap.size ≠ v.ownBlock := fun he => by have := own_base h.row _ he.symm; omega
theorem PaSt.ne1 (h : PaSt w wx p v r e) : some (w.heap.size + 1) ≠ v.ownBlock := fun he => by have := own_base h.row _ he.symm; omega
/-- Behind a call on the cursor. -/
theorem PaSt.curs (h : PaSt w wx p v r e) (hc : CurSt w wy (w.heap.size + 1) r' e') (hg : wx.grownBy wy (some (w.heap.size + 1))) : PaSt w wy p v r' e' :=
  ⟨blk_grown h.pk hg (by simp), own_other h.row hg (.inr (Ne.symm h.ne1)), hc⟩
theorem PaSt.put (h : PaSt w wx p v r e) (i : Nat) (u : Value) {p' : Pk} (hp : (p.cellsV v).setIfInBounds i u = p'.cellsV v) (hl : p'.lines = p.lines) : PaSt w (wx.setCell ⟨w.heap.size, i, none⟩ u) p' v r e :=
  ⟨by rw [blk_set h.pk i u, hp], by rw [hl]; exact own_setCell h.row h.ne0 u, h.cur.grown (grown_setCell _ _ _ _) (by simp) (fun k hk => by cases hk; exact Nat.le_refl _)⟩
/-- The packet is another one, without lines. -/
theorem PaSt.clear (h : PaSt w wx p v r e) (q : Pk) (hq : q.lines = []) : PaSt w (wx.setRow w.heap.size (q.cellsV (.slice none 0 0))) q (.slice none 0 0) r e :=
  ⟨setRow_heap _ _ _ _ _ _ h.pk, by rw [hq]; exact own_nil _ _ _ _, h.cur.grown (grown_setRow _ _ _) (by simp) (fun k hk => by cases hk; exact Nat.le_refl _)⟩
theorem PaSt.err (h : PaSt w wx p v r e) : ∃ A c, wx.heap[w.heap.size + 1]? = some (.cells #[.slice A r.length c, .int .i64 e] 98 (0, 0)) := by
  obtain ⟨A, c, h1, _⟩ := h.cur.blk
  exact ⟨A, c, h1⟩
theorem PaSt.cell (h : PaSt w wx p v r e) (i : Nat) : wx.cell? ⟨w.heap.size, i, none⟩ = (p.cellsV v)[i]? := blk_cell h.pk i
end
theorem setNum_cells (p : Pk) (v : Value) (k : Nat) (x : Int) (hk : k < 6) : (p.cellsV v).setIfInBounds (k + 1) (.int .i64 x) = (p.setNum k x).cellsV v := by
  rcases k with _ | _ | _ | _ | _ | _ | k
  all_goals first | rfl | omega
theorem setNum_lines (p : Pk) (k : Nat) (x : Int) : (p.setNum k x).lines = p.lines := by
  rcases k with _ | _ | _ | _ | _ | _ | k <;> rfl

theorem num_cellV (p : Pk) (v : Value) (k : Nat) (hk : k < 6) : (p.cellsV v)[k + 1]? = some (.int .i64 (p.num k)) := by
  rcases k with _ | _ | _ | _ | _ | _ | k
  all_goals first | rfl | omega

/-- One number, if the kind has it. -/
def numStep (own : Int) (s : Pk × List Int × Int) (i : Nat) : Pk × List Int × Int :=
  if bits .and .i64 own (bitAt i) != 0 then (s.1.setNum i (beVal (takeR s.2.1 s.2.2 7).1), (takeR s.2.1 s.2.2 7).2.1, (takeR s.2.1 s.2.2 7).2.2) else s
def numsTo (own : Int) (s : Pk × List Int × Int) : Nat → Pk × List Int × Int
  | 0 => s
  | k + 1 => numStep own (numsTo own s k) k
/-- The text, if the kind has one. -/
def textStep (own : Int) (s : Pk × List Int × Int) : Pk × List Int × Int :=
  if bits .and .i64 own 64 != 0 then ({ s.1 with text := strOfNums (textR s.2.1 s.2.2).1 }, (textR s.2.1 s.2.2).2.1, (textR s.2.1 s.2.2).2.2) else s
def linesR : Nat → Pk × List Int × Int → Pk × List Int × Int
  | 0, s => s
  | n + 1, s =>
    let s' := ({ s.1 with lines := s.1.lines ++ [strOfNums (textR s.2.1 s.2.2).1] }, (textR s.2.1 s.2.2).2.1, (textR s.2.1 s.2.2).2.2)
    if s'.2.2 = 0 then linesR n s' else s'
def linesStep (own : Int) (s : Pk × List Int × Int) : Pk × List Int × Int :=
  if bits .and .i64 own 128 != 0 then linesR (beVal (takeR s.2.1 s.2.2 2).1).toNat (s.1, (takeR s.2.1 s.2.2 2).2.1, limR (takeR s.2.1 s.2.2 2).2.2 (beVal (takeR s.2.1 s.2.2 2).1) 1000) else s
def parseBody (k : Int) (r : List Int) : Pk × List Int × Int := linesStep (ownOf k) (textStep (ownOf k) (numsTo (ownOf k) (Pk.ofKind k, r, 0) 6))
def parseR (b : List Int) : Pk × Int :=
  if (takeR b 0 1).2.2 = 0 then
    if knownB (beVal (takeR b 0 1).1) then
      let s := parseBody (beVal (takeR b 0 1).1) (takeR b 0 1).2.1
      if s.2.2 = 0 then (if s.2.1.length = 0 ∧ s.1.ok = true then (s.1, 0) else (Pk.zero, 4)) else (Pk.zero, s.2.2)
    else (Pk.zero, 4)
  else (Pk.zero, (takeR b 0 1).2.2)

theorem linesR_succ (n : Nat) (p : Pk) (r : List Int) (e : Int) : linesR (n + 1) (p, r, e) = if (textR r e).2.2 = 0 then linesR n ({ p with lines := p.lines ++ [strOfNums (textR r e).1] }, (textR r e).2.1, (textR r e).2.2) else ({ p with lines := p.lines ++ [strOfNums (textR r e).1] }, (textR r e).2.1, (textR r e).2.2) := rfl
theorem textR_len (r : List Int) (e : Int) : (textR r e).1.length ≤ 65536 := by
  unfold textR
  generalize takeR r e 3 = t
  show (takeR t.2.1 (limR t.2.2 (beVal t.1) 65536) (beVal t.1).toNat).1.length ≤ 65536
  unfold takeR
  split
  · rename_i h
    split
    · have : beVal t.1 ≤ 65536 := by
        unfold limR at h
        split at h
        · split at h
          · simp at h
          · omega
        · contradiction
      simp only [List.length_take]
      omega
    · simp
  · simp
theorem strOfNums_size (l : List Int) : (strOfNums l).size = l.length := by simp [strOfNums, ByteArray.size]
theorem sizeTo_all (xs : List ByteArray) : sizeTo xs xs.length = (xs.map ByteArray.size).sum := by unfold sizeTo; rw [List.take_length]
theorem linesR_sizes : ∀ (n : Nat) (s : Pk × List Int × Int), ((linesR n s).1.lines.map ByteArray.size).sum ≤ (s.1.lines.map ByteArray.size).sum + 65536 * n
  | 0, s => by simp [linesR]
  | n + 1, (p, r, e) => by
    rw [linesR_succ]
    have h1 : ((p.lines ++ [strOfNums (textR r e).1]).map ByteArray.size).sum ≤ (p.lines.map ByteArray.size).sum + 65536 := by
      have := textR_len r e
      generalize textR r e = t at this ⊢
      simp only [List.map_append, List.sum_append, List.map_cons, List.map_nil, List.sum_cons, List.sum_nil, strOfNums_size]
      omega
    split
    · have := linesR_sizes n ({ p with lines := p.lines ++ [strOfNums (textR r e).1] }, (textR r e).2.1, (textR r e).2.2)
      refine Nat.le_trans this ?_
      rw [Nat.mul_succ]
      exact Nat.le_trans (Nat.add_le_add_right h1 _) (by rw [Nat.add_assoc, Nat.add_comm 65536]; exact Nat.le_refl _)
    · exact Nat.le_trans h1 (by rw [Nat.mul_succ]; exact Nat.add_le_add_left (Nat.le_add_left _ _) _)

def ParsePost (w : World) (t : Pk × Int) (e' : Ending) (w' : World) : Prop := ∃ A c, e' = .returned (.tuple #[.agg (t.1.cells A c), .int .i64 t.2]) ∧ w'.ownsRow w.heap.size 9 1 (.slice A t.1.lines.length c) t.1.lines.length (encs Value.string t.1.lines) ∧ Below w.heap.size w w'

theorem PaSt.nolines {w wx : World} {p : Pk} {r : List Int} {e : Int} (h : PaSt w wx p (.slice none 0 0) r e) : p.lines.length = 0 := by
  rcases h.row.2 with ⟨_, hn⟩ | ⟨g, cap, cur, hv, _⟩
  · exact hn
  · simp at hv
theorem PaSt.addLine {w wx wy : World} {p : Pk} {v v' : Value} {r : List Int} {e : Int} (h : PaSt w wx p v r e) (s : ByteArray) (hg : Grew wx wy (w.heap.size + 2) 9 1 v v' (p.lines.length + 1) (encs Value.string p.lines ++ [.string s])) : PaSt w (wy.setCell ⟨w.heap.size, 8, none⟩ v') { p with lines := p.lines ++ [s] } v' r e := by
  have hpk := hg.blk h.pk h.ne0
  have hne : some w.heap.size ≠ v'.ownBlock := hg.ne (by have := h.lt; omega) h.ne0
  refine ⟨by rw [blk_set hpk 8]; rfl, ?_, (h.cur.grown hg.gr h.ne1 (fun k hk => by have := own_base h.row k hk; omega)).grown (grown_setCell _ _ _ _) (by simp) (fun k hk => by cases hk; exact Nat.le_refl _)⟩
  have := own_setCell hg.own hne v' (p := ⟨w.heap.size, 8, none⟩)
  rw [show encs Value.string p.lines ++ [Value.string s] = encs Value.string (p.lines ++ [s]) by simp [encs]] at this
  simpa using this
theorem PaSt.post {w wx : World} {p : Pk} {v : Value} {r : List Int} {e : Int} (h : PaSt w wx p v r e) (n : Int) : ParsePost w (p, n) (.returned (.tuple #[.agg (p.cellsV v), .int .i64 n])) wx := by
  obtain ⟨A, c, hv⟩ := own_slice h.row
  have hr := own_weaken h.row (base' := w.heap.size) (by omega)
  subst hv
  exact ⟨A, c, rfl, hr, h.cur.bel⟩
theorem infoP : (Tryd.prog.info? 24).map (·.size) = some 9 := by kernel_rfl
theorem PaSt.body {w wx : World} {p : Pk} {v : Value} {r : List Int} {e : Int} (h : PaSt w wx p v r e) (n : Int) (a : Act) (h1 : a.tmps.getD 2 undef = .pointer (some ⟨w.heap.size, 0, none⟩)) (h2 : a.tmps.getD 3 undef = .int .i64 n) (hd : a.defers = []) : bodyPost Tryd.prog Tryd.f58 (ParsePost w (p, n)) .ret a wx := by
  refine bodyPost_ret (results_ct rfl _ _ w.heap.size 24 _ _ _ h1 h.pk Tryd.underlying24 rfl infoP) hd ?_
  rw [h2]
  exact h.post n

theorem PaSt.start (w : World) (A : Option Addr) (c : Nat) (b : List Int) (h : Bs w A b.length b) (hc : b.length ≤ c) (hb : IsBytes b) :
    PaSt w ((w.alloc (.cells (Pk.zero.cellsV (.slice none 0 0)) 24)).alloc (.cells #[.slice A b.length c, .int .i64 0] 98)) Pk.zero (.slice none 0 0) b 0 :=
  ⟨blk_alloc (heap_alloc_new w _) _, own_nil _ _ _ _, ⟨⟨A, c, by simpa using heap_alloc_new (w.alloc (.cells (Pk.zero.cellsV (.slice none 0 0)) 24)) _, hc, h⟩, by omega, ((Below.refl _ _).alloc (Nat.le_refl _) _).alloc (by simp) _, hb⟩⟩

set_option maxRecDepth 100000 in
set_option maxHeartbeats 8000000 in
theorem parse_any (w : World) (A : Option Addr) (c : Nat) (b : List Int) (h : Bs w A b.length b) (hc : b.length ≤ c) (hb : IsBytes b) :
    Calls Tryd.prog 58 #[.slice A b.length c] w (ParsePost w (parseR b)) := by
  have hst := PaSt.start w A c b h hc hb
  have hn := fun W hW => number_any w W (w.heap.size + 1) b 0 1 (by omega) hW
  generalize hT : parseR b = T
  have HT := Aside0.mk hT
  unfold parseR at HT
  generalize takeR b 0 1 = t at hn HT
  have HST := Aside0.mk hst
  clear hst h hc hb hT
  by_cases he : t.2.2 = 0
  · have hT2 := HT.out
    rw [if_pos he] at hT2
    have HE := Aside0.mk he
    have hn' := fun W hW => hn W hW
    by_cases hk : knownB (beVal t.1) = true
    · rw [if_pos hk] at hT2
      have hT3 := Aside0.mk hT2
      have hkn := fun W => known_any (beVal t.1) W
      have hk' : (decide (1 ≤ beVal t.1) && decide (beVal t.1 ≤ 5)) = true := hk
      rw [hk'] at hkn
      have hidx := index_kinds (beVal t.1) hk
      have he' : (t.2.2 != 0) = false := by simpa using he
      clear hT2 HT he hk hk' hn'
      go_enter Tryd.func58, Tryd.ntmps58
      go_upto_region 7 with (first | (go_at_call 68; refine (hn _ HST.out.cur).mono ?_; rintro e' w1 ⟨rfl, hs, hg⟩; have HST1 := Aside0.mk (HST.out.curs hs hg); clear hs hg; have c10 := (HST1.out.cell 0).trans (show (Pk.zero.cellsV (.slice none 0 0))[0]? = some (.int .i64 0) from rfl); have hf := blk_frozen HST1.out.pk 0; obtain ⟨Ae, ce, hce⟩ := HST1.out.err; have ce1 := (blk_cell hce 1).trans (show (#[Value.slice Ae t.2.1.length ce, .int .i64 t.2.2])[1]? = some (.int .i64 t.2.2) from rfl); clear hce) | (go_at_call 39; refine (hkn _).mono ?_; rintro e w' ⟨rfl, rfl⟩))
      have HST2 := Aside0.mk (show PaSt w (w1.setCell ⟨w.heap.size, 0, none⟩ (.int .i64 (beVal t.1))) (Pk.ofKind (beVal t.1)) (.slice none 0 0) t.2.1 0 from HE.out ▸ HST1.out.put 0 (.int .i64 (beVal t.1)) (p' := (Pk.ofKind (beVal t.1))) rfl rfl)
      clear HST1 c10 hf ce1 hn hkn he'
      generalize w1.setCell ⟨w.heap.size, 0, none⟩ (.int .i64 (beVal t.1)) = w2 at HST2 ⊢
      go_cut [5] (fun s5 wx => s5 = .int .i64 (ownOf (beVal t.1)) ∧ PaSt w wx (Pk.ofKind (beVal t.1)) (.slice none 0 0) t.2.1 0)
      case first =>
        have c20 := (HST2.out.cell 0).trans (show ((Pk.ofKind (beVal t.1)).cellsV (.slice none 0 0))[0]? = some (.int .i64 (beVal t.1)) from rfl)
        go_region_held3 (fun w' => w'.cell? ⟨w.heap.size, 0, none⟩ = some (.int .i64 (beVal t.1))) (first | go_keep | (refine pw_cell_below hb2 ?_; assumption)) (first | (go_at_call 40; refine (kinds_any _).mono ?_; rintro e w3 ⟨rfl, hb2⟩; obtain ⟨hc1, hf1⟩ := bcell hb2))
        all_goals (go_wp2_with (fail); go_meet)
        all_goals exact ⟨rfl, (HST2.out.below (below_drew (Below.refl _ _))).below hb2⟩
      case rest =>
        obtain ⟨rfl, hst⟩ := hcut
        have HST := Aside0.mk hst
        have c0 := (hst.cell 0).trans (show ((Pk.ofKind (beVal t.1)).cellsV (.slice none 0 0))[0]? = some (.int .i64 (beVal t.1)) from rfl)
        have c1 := (hst.cell 1).trans (show ((Pk.ofKind (beVal t.1)).cellsV (.slice none 0 0))[1]? = some (.int .i64 0) from rfl)
        clear hst hidx HST2
        go_wp2_with (go_at_call 42; refine (fields_any _ w.heap.size (beVal t.1) 0 ?_ ?_).mono ?_; exact c0; exact c1; rintro e w3 ⟨rfl, hfl⟩; have HF3 := Aside0.mk hfl.1; have HST3 := Aside0.mk (HST.out.below hfl.2.2); have HLT := Aside0.mk HST.out.lt; clear hfl c0 c1)
        have HX0 := Aside0.mk (rfl : numsTo (ownOf (beVal t.1)) ((Pk.ofKind (beVal t.1)), t.2.1, 0) 0 = ((Pk.ofKind (beVal t.1)), t.2.1, 0))
        go_loopg [7, 37] 6 (fun gg _ s37 wr => ∃ (k : Nat) (p : Pk) (r : List Int) (e : Int), k ≤ 6 ∧ 6 - k ≤ gg ∧ s37 = .int .i64 k ∧ Aside0 (numsTo (ownOf (beVal t.1)) ((Pk.ofKind (beVal t.1)), t.2.1, 0) k = (p, r, e)) ∧ Aside0 (PaSt w wr p (.slice none 0 0) r e) ∧ Aside0 (wr.heap[wc.heap.size]? = some (.cells (fieldCells w.heap.size (leastOf (beVal t.1)) (fromOf (beVal t.1) 0)) 73 (0, 0))))
        case atStart => exact ⟨0, _, _, _, by omega, by omega, rfl, HX0, HST3, HF3⟩
        case round =>
          clear HX0
          obtain ⟨k, p, r, e, hk, hg, rfl, HX, HST4, HF4⟩ := hrel
          by_cases hlt : k < 6
          · have hltz : (k : Int) < 6 := by omega
            obtain ⟨vc, vd, f0, f1, f2, f3⟩ := field_cells w.heap.size k (leastOf (beVal t.1)) (fromOf (beVal t.1) 0) hlt
            have l0 := (blk_cell HF4.out (k * 4)).trans f0
            have l1 := (blk_cell HF4.out (k * 4 + 1)).trans f1
            have l2 := (blk_cell HF4.out (k * 4 + 2)).trans f2
            have l3 := (blk_cell HF4.out (k * 4 + 3)).trans f3
            clear f0 f1 f2 f3 HST3 HF3 HST
            cases hbit : (bits .and .i64 (ownOf (beVal t.1)) (bitAt k) != 0) with
            | true =>
              have HFB := Aside0.mk (heap_alloc_new wr (.cells #[.int .i64 (bitAt k), .pointer (some ⟨w.heap.size, k + 1, none⟩), .int .i64 vc, .int .i64 vd] 73))
              have HS5 := Aside0.mk (HST4.out.below (below_drew ((Below.refl _ _).alloc (Nat.le_refl _) (.cells #[.int .i64 (bitAt k), .pointer (some ⟨w.heap.size, k + 1, none⟩), .int .i64 vc, .int .i64 vd] 73))))
              have hne : wr.heap.size ≠ w.heap.size := by have := HST4.out.lt; omega
              go_wp2_with (fail)
              go_region_held3 (fun w' => w'.cell? ⟨wr.heap.size, 1, none⟩ = some (.pointer (some ⟨w.heap.size, k + 1, none⟩))) (first | go_keep | exact (blk_cell HF6.out 1) | exact (blk_cell (blk_far HF6.out hne _) 1)) (first | (go_at_call 68; refine (number_any w _ (w.heap.size + 1) r e 7 ?_ HS5.out.cur).mono ?_; omega; rintro e' w6 ⟨rfl, hs, hg⟩; have HF6 := Aside0.mk (blk_grown (blk_drew HFB.out) hg (by have := HST4.out.lt; simp; omega)); have HG6 := Aside0.mk (blk_grown (blk_drew (blk_alloc HF4.out (.cells #[.int .i64 (bitAt k), .pointer (some ⟨w.heap.size, k + 1, none⟩), .int .i64 vc, .int .i64 vd] 73))) hg (by have := HLT.out; simp; omega)); have HST6 := Aside0.mk (HS5.out.curs hs hg); clear hs hg; have c6 := (HST6.out.cell (k + 1)).trans (num_cellV p _ k hlt); have f6 := blk_frozen HST6.out.pk (k + 1)))
              go_wp2_with (fail)
              go_roundg (6 - (k + 1))
              case measure => omega
              case rel => exact ⟨k + 1, _, _, _, by omega, by omega, by go_num, ⟨by simp only [numsTo, HX.out, numStep, hbit, if_true]⟩, ⟨HST6.out.put (k + 1) _ (setNum_cells _ _ k _ hlt) (setNum_lines _ _ _)⟩, ⟨blk_far HG6.out (by have := HLT.out; simp; omega) _⟩⟩
            | false =>
              go_wp2
              go_roundg (6 - (k + 1))
              case measure => omega
              case rel => exact ⟨k + 1, p, r, e, by omega, by omega, by go_num, ⟨by simp only [numsTo, HX.out, numStep, hbit, Bool.false_eq_true, if_false]⟩, ⟨HST4.out.below ((Below.refl _ _).alloc (Nat.le_refl _) _)⟩, ⟨blk_alloc HF4.out _⟩⟩
          · have hltz : ¬ (k : Int) < 6 := by omega
            obtain rfl : k = 6 := by omega
            clear hltz hlt hk hg HF4 HF3 HST3 HST
            go_upto_if 54 with (fail)
            go_cut [] (fun wx => PaSt w wx (textStep (ownOf (beVal t.1)) (p, r, e)).1 (.slice none 0 0) (textStep (ownOf (beVal t.1)) (p, r, e)).2.1 (textStep (ownOf (beVal t.1)) (p, r, e)).2.2)
            case first =>
              cases hbit : (bits .and .i64 (ownOf (beVal t.1)) 64 != 0) with
              | true =>
                go_wp2_with (go_at_call 69; refine (text_any w _ (w.heap.size + 1) r e HST4.out.cur).mono ?_; rintro e' w6 ⟨rfl, hs, hg⟩; have HST6 := Aside0.mk (HST4.out.curs hs hg); clear hs hg; have c6 := (HST6.out.cell 7).trans (show (p.cellsV (.slice none 0 0))[7]? = some (.string p.text) from rfl); have f6 := blk_frozen HST6.out.pk 7)
                go_meet
                simp only [textStep, hbit, if_true]
                exact HST6.out.put 7 _ rfl rfl
              | false =>
                go_wp2
                go_meet
                simp only [textStep, hbit, Bool.false_eq_true, if_false]
                exact HST4.out
            case rest =>
              have HSTc := Aside0.mk hcut
              clear hcut HST4
              generalize hts : textStep (ownOf (beVal t.1)) (p, r, e) = ts at HSTc
              obtain ⟨p2, r2, e2⟩ := ts
              have HTS := Aside0.mk hts
              clear hts
              go_upto_if 60 with (fail)
              go_cut [] (fun wx => ∃ v, PaSt w wx (linesStep (ownOf (beVal t.1)) (p2, r2, e2)).1 v (linesStep (ownOf (beVal t.1)) (p2, r2, e2)).2.1 (linesStep (ownOf (beVal t.1)) (p2, r2, e2)).2.2)
              case first =>
                cases hbit : (bits .and .i64 (ownOf (beVal t.1)) 128 != 0) with
                | true =>
                  have hls : linesStep (ownOf (beVal t.1)) (p2, r2, e2) = linesR (beVal (takeR r2 e2 2).1).toNat (p2, (takeR r2 e2 2).2.1, limR (takeR r2 e2 2).2.2 (beVal (takeR r2 e2 2).1) 1000) := by simp only [linesStep, hbit, if_true]
                  have hn2 := number_any w wc (w.heap.size + 1) r2 e2 2 (by omega) HSTc.out.cur
                  have hb2 := beVal_bound _ (takeR_bytes (e := e2) (n := 2) HSTc.out.cur.isb).1
                  have hl2 := (takeR_bytes (e := e2) (n := 2) HSTc.out.cur.isb).2
                  have h00 := HSTc.out.nolines
                  generalize takeR r2 e2 2 = t2 at hls hn2 hb2 hl2
                  obtain ⟨N, hN⟩ : ∃ N : Nat, beVal t2.1 = N := ⟨_, (Int.toNat_of_nonneg hb2.1).symm⟩
                  have hp := pow_le hl2
                  have hN1 : N < 65536 := by
                    have : (256 : Int) ^ 2 = 65536 := rfl
                    omega
                  have hlim := fun W (hW : CurSt w W (w.heap.size + 1) t2.2.1 t2.2.2) => limit_any w W (w.heap.size + 1) t2.2.1 t2.2.2 (beVal t2.1) 1000 hW
                  rw [hN] at hls hlim
                  rw [Int.toNat_natCast] at hls
                  have HN2 := Aside0.mk (show Calls Tryd.prog 68 #[.pointer (some ⟨w.heap.size + 1, 0, none⟩), .int .i64 2] wc (fun e' w' => e' = .returned (.int .i64 N) ∧ CurSt w w' (w.heap.size + 1) t2.2.1 t2.2.2 ∧ wc.grownBy w' (some (w.heap.size + 1))) from hn2.mono (fun e' w' h => by rw [← hN]; exact h))
                  have HLS := Aside0.mk hls
                  have HN1 := Aside0.mk hN1
                  have H00 := Aside0.mk h00
                  clear hn2 hb2 hl2 hp hN hls h00 hN1
                  generalize limR t2.2.2 N 1000 = e3 at HLS hlim
                  go_wp2_with (first | (go_at_call 68; refine HN2.out.mono ?_; rintro e' w6 ⟨rfl, hs, hg⟩; have HST6 := Aside0.mk (HSTc.out.curs hs hg); clear hs hg) | (go_at_call 70; refine (hlim _ HST6.out.cur).mono ?_; rintro e' w7 ⟨rfl, hs, hg⟩; have HST7 := Aside0.mk (HST6.out.curs hs hg); clear hs hg))
                  clear hlim
                  go_loopg [65] N (fun gg s65 wr => ∃ (j : Nat) (p' : Pk) (v' : Value) (r' : List Int) (e' : Int), j ≤ N ∧ N - j ≤ gg ∧ s65 = .int .i64 j ∧ Aside0 (PaSt w wr p' v' r' e') ∧ Aside0 (linesR N (p2, t2.2.1, e3) = linesR (N - j) (p', r', e')) ∧ Aside0 (p'.lines.length ≤ j))
                  case atStart => exact ⟨0, _, _, _, _, by omega, by omega, rfl, HST7, ⟨rfl⟩, ⟨by rw [H00.out]; omega⟩⟩
                  case round =>
                    obtain ⟨j, p', v', r', e', hj, hg, rfl, HST8, HEQ, HLEN⟩ := hrel
                    have hN1 : N < 65536 := HN1.out
                    by_cases hlt : j < N
                    · have hltz : (j : Int) < (N : Int) := by omega
                      have htx := fun W (hW : CurSt w W (w.heap.size + 1) r' e') => text_any w W (w.heap.size + 1) r' e' hW
                      have hls := linesR_succ (N - (j + 1)) p' r' e'
                      rw [show N - (j + 1) + 1 = N - j by omega] at hls
                      generalize textR r' e' = t5 at htx hls
                      generalize hs5 : strOfNums t5.1 = s5 at hls
                      have HS5 := Aside0.mk hs5
                      have HLS5 := Aside0.mk hls
                      have c8 := (HST8.out.cell 8).trans (show (p'.cellsV v')[8]? = some v' from rfl)
                      clear hls hs5 HST7 HST6
                      go_upto_region 19 with (fail)
                      go_cut [] (fun wx => ∃ v, PaSt w wx { p' with lines := p'.lines ++ [s5] } v t5.2.1 t5.2.2)
                      case first =>
                        go_region_law (first | ((refine step_call (by rfl) 69 _ _ _ (by rfl) (enters_of Tryd.func69 (by kernel_rfl) rfl) (by rfl) (htx _ (HST8.out.below (below_drew (Below.refl _ _))).cur) ?_; rintro e' w10 ⟨rfl, hs, hg⟩; refine ⟨_, rfl, ?_⟩; have HST10 := Aside0.mk ((HST8.out.below (below_drew (Below.refl _ _))).curs hs hg); clear hs hg; have c10 := (HST10.out.cell 8).trans (show (p'.cellsV v')[8]? = some v' from rfl); have z10 := blk_lt HST10.out.pk)) | ((have hx4 := HST10; clear hx4; refine step_append (by rfl) (.tmp 68) (.tmp 71) 22 9 (.string ⟨#[]⟩) 1 16 (by rfl) Tryd.underlying22 infoStr (by rfl) (by omega) (by omega) (w.heap.size + 2) _ _ _ [.string (strOfNums t5.1)] (by rfl) (by rfl) (by rfl) (by simp [Value.oneCell']) HST10.out.row HST10.out.lt (by have := HLEN.out; omega) ?_; intro v11 w11 hg11; obtain ⟨A11, k11, rfl⟩ := own_slice hg11.own; have HST11 := Aside0.mk (HST10.out.addLine _ hg11); have c11 := (blk_cell (hg11.blk HST10.out.pk HST10.out.ne0) 8).trans (show (p'.cellsV v')[8]? = some v' from rfl); have f11 := blk_frozen (hg11.blk HST10.out.pk HST10.out.ne0) 8; clear hg11)))
                        all_goals (go_wp2_with (fail); go_meet)
                        all_goals exact ⟨_, HS5.out ▸ HST11.out⟩
                      case rest =>
                        obtain ⟨v10, hst⟩ := hcut
                        have HST12 := Aside0.mk hst
                        obtain ⟨Ae2, ce2, hce2⟩ := HST12.out.err
                        have e2c := (blk_cell hce2 1).trans (show (#[Value.slice Ae2 t5.2.1.length ce2, .int .i64 t5.2.2])[1]? = some (.int .i64 t5.2.2) from rfl)
                        clear hst c8 htx hce2
                        by_cases h5 : t5.2.2 = 0
                        · have h5' : (t5.2.2 != 0) = false := by simpa using h5
                          have H5 := Aside0.mk h5
                          clear h5
                          go_wp2
                          go_roundg (N - (j + 1))
                          case measure => omega
                          case rel =>
                            refine ⟨j + 1, _, _, _, _, by omega, by omega, by go_num, HST12, ⟨?_⟩, ⟨?_⟩⟩
                            · rw [HEQ.out, HLS5.out, if_pos H5.out]
                            · have := HLEN.out
                              simp only [List.length_append, List.length_cons, List.length_nil]
                              omega
                        · have h5' : (t5.2.2 != 0) = true := by simpa using h5
                          have H5 := Aside0.mk h5
                          clear h5
                          go_wp2
                          go_meet
                          rw [HLS.out, HEQ.out, HLS5.out, if_neg H5.out]
                          exact ⟨_, HST12.out⟩
                    · have hltz : ¬ (j : Int) < (N : Int) := by omega
                      have HJ := Aside0.mk (show j = N by omega)
                      clear hlt hj hg
                      go_wp2
                      go_meet
                      rw [HLS.out, HEQ.out, HJ.out, Nat.sub_self]
                      exact ⟨_, HST8.out⟩
                | false =>
                  go_wp2
                  go_meet
                  simp only [linesStep, hbit, Bool.false_eq_true, if_false]
                  exact ⟨_, HSTc.out⟩
              case rest =>
                obtain ⟨v, hst⟩ := hcut
                have HSTb := HSTc.out.nolines
                have hcur : CurSt w _ (w.heap.size + 1) r2 e2 := HSTc.out.cur
                have hsz : (((linesStep (ownOf (beVal t.1)) (p2, r2, e2)).1.lines).map ByteArray.size).sum ≤ 4611686018427387904 := by
                  have hp2 : p2.lines = [] := List.eq_nil_of_length_eq_zero HSTb
                  have hb2 := beVal_bound _ (takeR_bytes (e := e2) (n := 2) hcur.isb).1
                  have hl2 := (takeR_bytes (e := e2) (n := 2) hcur.isb).2
                  have hp := pow_le hl2
                  have hN1 : (beVal (takeR r2 e2 2).1).toNat < 65536 := by
                    have : (256 : Int) ^ 2 = 65536 := rfl
                    omega
                  unfold linesStep
                  split
                  · refine Nat.le_trans (linesR_sizes _ _) ?_
                    simp only [hp2, List.map_nil, List.sum_nil]
                    omega
                  · simp [hp2]
                generalize hls : linesStep (ownOf (beVal t.1)) (p2, r2, e2) = ls at hst hsz
                obtain ⟨p9, r9, e9⟩ := ls
                have hbody : parseBody (beVal t.1) t.2.1 = (p9, r9, e9) := by
                  unfold parseBody
                  rw [HX.out, HTS.out, hls]
                have hT4 := hT3.out
                rw [hbody] at hT4
                have HT4 := Aside0.mk hT4
                have HST9 := Aside0.mk hst
                obtain ⟨A9, c9, h9⟩ := hst.cur.blk
                have e9c := (blk_cell h9.1 1).trans (show (#[Value.slice A9 r9.length c9, .int .i64 e9])[1]? = some (.int .i64 e9) from rfl)
                have r9c := (blk_cell h9.1 0).trans (show (#[Value.slice A9 r9.length c9, .int .i64 e9])[0]? = some (.slice A9 r9.length c9) from rfl)
                have HSZ := Aside0.mk hsz
                clear hst hls hsz HSTc HSTb hcur hbody hT4 hT3 HX HTS h9
                by_cases h0 : e9 = 0
                · have h0' : (e9 != 0) = false := by simpa using h0
                  have hT5 := HT4.out
                  simp only [h0, if_true] at hT5
                  have HT5 := Aside0.mk hT5
                  clear h0 HT4 hT5
                  by_cases hr : r9.length = 0
                  · have hr' : decide (0 < r9.length) = false := decide_eq_false (by omega)
                    obtain ⟨A', c', hv, hrd⟩ := own_reads_of (enc := Value.string) (d := ByteArray.empty) HST9.out.row
                    have hck := check_any wc p9 A' c' (Kd.C_of_reads (h1 := fun _ => rfl) hrd) (by rw [sizeTo_all]; exact HSZ.out)
                    have hT6 := HT5.out
                    simp only [hr, true_and] at hT6
                    have HT6 := Aside0.mk hT6
                    have HR := Aside0.mk hr
                    clear hT6 HT5 hrd hr
                    subst hv
                    cases hok : p9.ok with
                    | true =>
                      rw [hok, show chkOf true = 0 from rfl] at hck
                      have hT7 := HT6.out
                      simp only [hok, if_true] at hT7
                      subst hT7
                      have HCK := Aside0.mk hck
                      clear HT6 hok hck
                      go_wp2_with (first | (go_at_call 15; refine HCK.out.mono ?_; rintro e' w12 ⟨rfl, hb12⟩; have HST12 := Aside0.mk (HST9.out.below hb12); clear hb12) | (refine wpl_store_row rfl 24 (.tmp 2) (.tmp 102) rfl w.heap.size 24 _ (p9.cellsV (.slice A' p9.lines.length c')) rfl rfl infoP (by rfl) HST12.out.pk (by simp [Pk.cellsV, Value.oneCell']) ?_) | (refine wpList_load_row rfl 24 (.tmp 2) rfl w.heap.size rfl 24 _ _ _ HST12.out.pk Tryd.underlying24 rfl infoP ?_) | (refine wpList_load_row rfl 24 (.tmp 2) rfl w.heap.size rfl 24 _ _ _ HST9.out.pk Tryd.underlying24 rfl infoP ?_))
                      rw [setRow_self _ _ _ _ _ HST12.out.pk]
                      exact HST12.out.body _ _ rfl rfl rfl
                    | false =>
                      rw [hok, show chkOf false = 2 from rfl] at hck
                      have hT7 := HT6.out
                      simp only [hok, Bool.false_eq_true, if_false] at hT7
                      subst hT7
                      have HCK := Aside0.mk hck
                      clear HT6 hok hck
                      go_wp2_with (first | (go_at_call 15; refine HCK.out.mono ?_; rintro e' w12 ⟨rfl, hb12⟩; have HST12 := Aside0.mk (HST9.out.below hb12); clear hb12) | (refine wpl_store_row rfl 24 (.tmp 2) (.tmp 101) rfl w.heap.size 24 _ (Pk.zero.cellsV (.slice none 0 0)) rfl rfl infoP (by rfl) HST12.out.pk (by simp [Pk.cellsV, Value.oneCell']) ?_; have HST10 := Aside0.mk (HST12.out.clear Pk.zero rfl)) | (refine wpList_load_row rfl 24 (.tmp 2) rfl w.heap.size rfl 24 _ _ _ HST9.out.pk Tryd.underlying24 rfl infoP ?_))
                      exact HST10.out.body _ _ rfl rfl rfl
                  · have hr' : decide (0 < r9.length) = true := decide_eq_true (by omega)
                    have hT6 := HT5.out
                    simp only [hr, false_and, if_false] at hT6
                    subst hT6
                    clear HT5 hr
                    go_wp2_with (refine wpl_store_row rfl 24 (.tmp 2) (.tmp 101) rfl w.heap.size 24 _ (Pk.zero.cellsV (.slice none 0 0)) rfl rfl infoP (by rfl) HST9.out.pk (by simp [Pk.cellsV, Value.oneCell']) ?_; have HST10 := Aside0.mk (HST9.out.clear Pk.zero rfl))
                    exact HST10.out.body _ _ rfl rfl rfl
                · have h0' : (e9 != 0) = true := by simpa using h0
                  have hT5 := HT4.out
                  simp only [h0, if_false] at hT5
                  subst hT5
                  clear HT4 h0
                  go_wp2_with (refine wpl_store_row rfl 24 (.tmp 2) (.tmp 86) rfl w.heap.size 24 _ (Pk.zero.cellsV (.slice none 0 0)) rfl rfl infoP (by rfl) HST9.out.pk (by simp [Pk.cellsV, Value.oneCell']) ?_; have HST10 := Aside0.mk (HST9.out.clear Pk.zero rfl))
                  exact HST10.out.body _ _ rfl rfl rfl
    · rw [if_neg hk] at hT2
      have hkn := fun W => known_any (beVal t.1) W
      have hk' : (decide (1 ≤ beVal t.1) && decide (beVal t.1 ≤ 5)) = false := by simpa [knownB] using hk
      rw [hk'] at hkn
      have he' : (t.2.2 != 0) = false := by simpa using he
      subst hT2
      clear HT he hk hk' hn'
      go_enter Tryd.func58, Tryd.ntmps58
      go_wp2_with (first | (go_at_call 68; refine (hn _ HST.out.cur).mono ?_; rintro e' w1 ⟨rfl, hs, hg⟩; have HST1 := Aside0.mk (HST.out.curs hs hg); clear hs hg; have c10 := (HST1.out.cell 0).trans (show (Pk.zero.cellsV (.slice none 0 0))[0]? = some (.int .i64 0) from rfl); have hf := blk_frozen HST1.out.pk 0; obtain ⟨Ae, ce, hce⟩ := HST1.out.err; have ce1 := (blk_cell hce 1).trans (show (#[Value.slice Ae t.2.1.length ce, .int .i64 t.2.2])[1]? = some (.int .i64 t.2.2) from rfl); clear hce) | (go_at_call 39; refine (hkn _).mono ?_; rintro e w' ⟨rfl, rfl⟩) | (refine wpl_store_row rfl 24 (.tmp 2) (.tmp 30) rfl w.heap.size 24 _ (Pk.zero.cellsV (.slice none 0 0)) rfl rfl infoP (by rfl) (HST1.out.put 0 (.int .i64 (beVal t.1)) (p' := (Pk.ofKind (beVal t.1))) rfl rfl).pk (by simp [Pk.cellsV, Value.oneCell']) ?_; have HST2 := Aside0.mk ((HST1.out.put 0 (.int .i64 (beVal t.1)) (p' := (Pk.ofKind (beVal t.1))) rfl rfl).clear Pk.zero rfl)))
      exact HST2.out.body _ _ rfl rfl rfl
  · have hT2 := HT.out
    rw [if_neg he] at hT2
    have he' : (t.2.2 != 0) = true := by simpa using he
    subst hT2
    clear HT he
    go_enter Tryd.func58, Tryd.ntmps58
    go_wp2_with (first | (go_at_call 68; refine (hn _ HST.out.cur).mono ?_; rintro e' w1 ⟨rfl, hs, hg⟩; have HST1 := Aside0.mk (HST.out.curs hs hg); clear hs hg; have c10 := (HST1.out.cell 0).trans (show (Pk.zero.cellsV (.slice none 0 0))[0]? = some (.int .i64 0) from rfl); have hf := blk_frozen HST1.out.pk 0; obtain ⟨Ae, ce, hce⟩ := HST1.out.err; have ce1 := (blk_cell hce 1).trans (show (#[Value.slice Ae t.2.1.length ce, .int .i64 t.2.2])[1]? = some (.int .i64 t.2.2) from rfl); clear hce) | (refine wpl_store_row rfl 24 (.tmp 2) (.tmp 20) rfl w.heap.size 24 _ (Pk.zero.cellsV (.slice none 0 0)) rfl rfl infoP (by rfl) (HST1.out.put 0 (.int .i64 (beVal t.1)) (p' := (Pk.ofKind (beVal t.1))) rfl rfl).pk (by simp [Pk.cellsV, Value.oneCell']) ?_; have HST2 := Aside0.mk ((HST1.out.put 0 (.int .i64 (beVal t.1)) (p' := (Pk.ofKind (beVal t.1))) rfl rfl).clear Pk.zero rfl)))
    exact HST2.out.body _ _ rfl rfl rfl
end Go.Proofs.YtgnhkgobocmkoaaDoor
