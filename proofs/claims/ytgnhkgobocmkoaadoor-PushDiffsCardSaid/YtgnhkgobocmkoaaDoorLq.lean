/- push.Diff, the main way. -/
import Derived.Test.YtgnhkgobocmkoaaDoorLp
namespace Go.Proofs.YtgnhkgobocmkoaaDoor
open Go.RowKit Go.Proofs.YtgnhkgobocmkoaaDoorW.PrintWords

theorem linesOf_len (s : ByteArray) : (linesOf s).1.length ≤ 65537 := by
  unfold linesOf
  have h1 := splitL_len s
  have h2 := Lib.countB_le nlB (by decide) s.size s (Nat.le_refl _)
  split
  · simp
  · split
    · simp; omega
    · simp; omega
theorem alike_of (w : World) (A B : Option Addr) (c d n m : Nat) (xs ys : List ByteArray) (hn : xs.length = n) (hm : ys.length = m) (hx : Ss w A n xs) (hy : Ss w B m ys) :
    Calls Tryd.prog 27 #[.slice A n c, .slice B m d] w fun e w' => e = .returned (.int .i64 (alikeOf xs ys)) ∧ Drawn0 w w' := by
  subst hn hm
  exact alike_any w A B c d xs ys hx hy

theorem cloneS_of (w : World) (A : Option Addr) (c n : Nat) (xs : List ByteArray) (hn : xs.length = n) (hx : Ss w A xs.length xs) (hl : xs.length ≤ 4000000) :
    Calls Tryd.prog 28 #[.slice A n c] w (CloneS w xs) := by
  subst hn
  exact cloneS_any w A c xs hx hl

/-- Both texts' ends, cloned. -/
structure DiRows (w wx : World) (v1 v2 : Value) (a b : List ByteArray) : Prop where
  r1 : wx.ownsRow (w.heap.size + 1) 9 1 v1 a.length (encs Value.string a)
  r2 : wx.ownsRow (w.heap.size + 1) 9 1 v2 b.length (encs Value.string b)
  ne : v1.ownBlock = none ∨ v1.ownBlock ≠ v2.ownBlock
  ne' : v2.ownBlock = none ∨ v2.ownBlock ≠ v1.ownBlock
  st : DiSt w wx
theorem DiRows.mk1 {w w4 wa wb : World} {va vb : Value} {a b : List ByteArray} (hs : DiSt w w4) (h1 : wa.ownsRow w4.heap.size 9 1 va a.length (encs Value.string a)) (hb1 : Below w4.heap.size w4 wa)
    (h2 : wb.ownsRow wa.heap.size 9 1 vb b.length (encs Value.string b)) (hb2 : Below wa.heap.size wa wb) : DiRows w wb va vb a b := by
  have h0 := blk_lt hs.res
  have ne : va.ownBlock = none ∨ va.ownBlock ≠ vb.ownBlock := by
    cases hv : va.ownBlock with
    | none => exact .inl rfl
    | some k => exact .inr fun he => by have := own_lt h1 k hv; have := own_base h2 k he.symm; omega
  refine ⟨own_weaken (pw_own_below h1 hb2) (by omega), own_weaken h2 (by have := hb1.size; omega), ne, ?_, (hs.below hb1).below hb2⟩
  cases hv : vb.ownBlock with
  | none => exact .inl rfl
  | some k => exact .inr fun he => by have := own_lt h1 k he.symm; have := own_base h2 k hv; omega
theorem DiRows.swap {w wx : World} {v1 v2 : Value} {a b : List ByteArray} (h : DiRows w wx v1 v2 a b) : DiRows w wx v2 v1 b a := ⟨h.r2, h.r1, h.ne', h.ne, h.st⟩

set_option maxRecDepth 100000 in
set_option maxHeartbeats 4000000 in
theorem diff_ok (w : World) (s r : ByteArray) (m : Int) (hs : s.size < 4294967281) (hr : r.size < 4294967281) (hm : w.cell? ⟨0, 0, none⟩ = some (.int .i64 m)) (h0 : (linesOf s).2 = 0) (he : (linesOf r).2 = 0) :
    Calls Tryd.prog 8 #[.string s, .string r] w (DiffPost w (diffOf s r)) := by
  have hl := fun W hW => lines_any W s m hs hW
  have hl2 := fun W hW => lines_any W r m hr hW
  have hn1 := linesOf_len s
  have hn2 := linesOf_len r
  generalize hD : diffOf s r = D
  unfold diffOf at hD
  rw [if_neg (by simpa using h0), if_neg (by simpa using he)] at hD
  generalize linesOf s = T at hl h0 hD hn1
  generalize linesOf r = U at hl2 he hD hn2
  have HD := Aside0.mk hD
  have HN := Aside0.mk (And.intro hn1 hn2)
  have hz : (T.2 != 0) = false := by simpa using h0
  have hn : (U.2 != 0) = false := by simpa using he
  have HS := Aside0.mk (DiSt.start w)
  have hb0 := World.block_lt_of_cell? w _ hm
  have HM0 := Aside0.mk hm
  have HM := Aside0.mk (pw_cell_below HS.out.bel hm)
  clear he hm h0 hD hn1 hn2
  go_enter Tryd.func8, Tryd.ntmps8
  go_upto_region 8 with (first | (go_at_call 26; have hx4 := HS2; clear hx4; refine (hl2 _ (pw_cell_below HS2.out.bel HM0.out)).mono ?_; rintro e w3 ⟨A3, k3, rfl, ho, hb⟩; have HS3 := Aside0.mk (HS2.out.below hb); have HR3 := Aside0.mk ho; have HR2' := Aside0.mk (pw_own_below HR2.out hb); clear ho hb) | (go_at_call 26; refine (hl _ HM.out).mono ?_; rintro e w2 ⟨A2, k2, rfl, ho, hb⟩; have HS2 := Aside0.mk (HS.out.below (hb.mono (by simp))); have HR2 := Aside0.mk ho; clear ho hb) | (go_at_call 27; obtain ⟨_, _, hv2, hle2, hrd2⟩ := own_reads_of_le (d := ByteArray.empty) HR2'.out; cases hv2; obtain ⟨_, _, hv3, hle3, hrd3⟩ := own_reads_of_le (d := ByteArray.empty) HR3.out; cases hv3; refine (alike_any _ _ _ _ _ _ _ hrd2 hrd3).mono ?_; rintro e w4 ⟨rfl, hd⟩; have HD4 := Aside0.mk hd; clear hd))
  have HS4 := Aside0.mk (HS3.out.below HD4.out.below)
  have HN2 := hrd2.below HD4.out.below
  have HN3 := hrd3.below HD4.out.below
  clear HR2 HR3 HR2' hrd2 hrd3 HD4 HS3 HS2 HS HM HM0 hz hn
  generalize hh : alikeOf T.1 U.1 = h at HD ⊢
  have hle := alikeOf_le T.1 U.1
  rw [hh] at hle
  obtain ⟨i, hi, hi1⟩ := infoStr'
  obtain ⟨B2, t1, t2, t3⟩ := print_drop_of (P := Tryd.prog) Value.string ByteArray.empty 22 9 .i64 Tryd.underlying22 hi hi1 _ _ T.1 (h : Int) (by omega) (by omega) hle2
  obtain ⟨B3, d1, d2, d3⟩ := print_drop_of (P := Tryd.prog) Value.string ByteArray.empty 22 9 .i64 Tryd.underlying22 hi hi1 _ _ U.1 (h : Int) (by omega) (by omega) hle3
  simp only [Int.toNat_natCast] at t1 t2 t3 d1 d2 d3
  have HC2 := Aside0.mk (fun W (hW : Below w4.heap.size w4 W) => cloneS_of W B2 (k2 - h) (T.1.length - h) (T.1.drop h) List.length_drop ((t2 _ HN2).below hW) (by have := HN.out; simp; omega))
  have HC3 := Aside0.mk (fun W (hW : Below w4.heap.size w4 W) => cloneS_of W B3 (k3 - h) (U.1.length - h) (U.1.drop h) List.length_drop ((d2 _ HN3).below hW) (by have := HN.out; simp; omega))
  have HB0 := Aside0.mk (below_drew (Below.refl w4.heap.size w4))
  clear hle hh t2 t3 d2 d3 hi hi1 HN2 HN3 hle2 hle3 HN
  go_cut [6, 7] (fun s6 s7 wx => DiRows w wx s6 s7 (T.1.drop h) (U.1.drop h))
  case first =>
    go_region_held3 (fun w' => True) (trivial) (first
      | (go_at_call 28; (with_reducible refine (HC2.out _ HB2.out).mono ?_); rintro e w6 ⟨v6, rfl, ho6, hb6⟩; have HO6 := Aside0.mk ho6; have HB6 := Aside0.mk hb6; clear ho6 hb6)
      | (go_at_call 28; (with_reducible refine (HC3.out _ HB1.out).mono ?_); rintro e w6 ⟨v6, rfl, ho6, hb6⟩; have HO6 := Aside0.mk ho6; have HB6 := Aside0.mk hb6; clear ho6 hb6)
      | (go_at_call 28; (with_reducible refine (HC2.out _ HB0.out).mono ?_); rintro e w5 ⟨v5, rfl, ho5, hb5⟩; have HO5 := Aside0.mk ho5; have HB1 := Aside0.mk (HB0.out.trans hb5); clear ho5 hb5)
      | (go_at_call 28; (with_reducible refine (HC3.out _ HB0.out).mono ?_); rintro e w5 ⟨v5, rfl, ho5, hb5⟩; have HO5 := Aside0.mk ho5; have HB2 := Aside0.mk (HB0.out.trans hb5); clear ho5 hb5))
    all_goals (go_wp2_with fail; go_meet)
    all_goals first | exact DiRows.mk1 HS4.out HO5.out HB1.out HO6.out HB6.out | exact (DiRows.mk1 HS4.out HO5.out HB2.out HO6.out HB6.out).swap
  case rest =>
    obtain ⟨A6, c6, rfl⟩ := own_slice hcut.r1
    obtain ⟨A7, c7, rfl⟩ := own_slice hcut.r2
    have HR := Aside0.mk hcut
    clear hcut HC2 HC3 HB0 HS4 t1 d1
    generalize List.drop h T.1 = a at HD HR ⊢
    generalize List.drop h U.1 = b at HD HR ⊢
    generalize hna : a.length = na at HR ⊢
    generalize hnb : b.length = nb at HR ⊢
    have HNA := Aside0.mk hna
    have HNB := Aside0.mk hnb
    clear hna hnb
    go_upto_region 11 with (first
      | (go_at_call 29; (with_reducible refine (reverse_any _ _ _ _ (own_other HR.out.r2 HG5.out.gr HR.out.ne')).mono ?_); rintro e w6 ⟨rfl, hg6⟩; have HG6 := Aside0.mk hg6; clear hg6)
      | (go_at_call 29; (with_reducible refine (reverse_any _ _ _ _ HR.out.r1).mono ?_); rintro e w5 ⟨rfl, hg5⟩; have HG5 := Aside0.mk hg5; clear hg5))
    have hr1 := own_other HG5.out.own HG6.out.gr HR.out.ne
    rw [HNA.out] at hr1
    have hr2 := HG6.out.own
    rw [HNB.out] at hr2
    have HAL := Aside0.mk (alike_of w6 A6 A7 c6 c7 na nb a.reverse b.reverse (by rw [List.length_reverse]; exact HNA.out) (by rw [List.length_reverse]; exact HNB.out) (own_reads_of' hr1) (own_reads_of' hr2))
    have hle := alikeOf_le a.reverse b.reverse
    generalize alikeOf a.reverse b.reverse = t at HAL HD hle
    have HR2 := Aside0.mk hr2
    have htn : t ≤ nb := by have := hle.2; rw [List.length_reverse, HNB.out] at this; exact this
    have HST6 := Aside0.mk ((HR.out.st.grown HG5.out.gr (fun k hk => by have := own_base HR.out.r1 k hk; omega)).grown HG6.out.gr (fun k hk => by have := own_base HR.out.r2 k hk; omega))
    clear hr1 hr2 hle
    have hrl : b.reverse.length = nb := by rw [List.length_reverse]; exact HNB.out
    have HRL := Aside0.mk hrl
    obtain ⟨A8, c8, e8, m8, v8⟩ := cut_own w6 (w.heap.size + 1) (.slice A7 nb c7) b.reverse t (by rw [hrl]; exact htn) (by rw [hrl]; exact HR2.out)
    rw [hrl] at e8 m8 v8
    have M8 := Aside0.mk m8
    have V8 := Aside0.mk v8
    clear m8 v8 hrl
    generalize b.reverse = rb at HD HRL HAL HR2 M8 V8
    go_upto_region 14 with (first
      | (go_at_call 27; (with_reducible refine HAL.out.mono ?_); rintro e w7 ⟨rfl, hd7⟩; have HD7 := Aside0.mk hd7; clear hd7)
      | (go_at_call 29; (with_reducible refine (V8.out _ (pw_own_below HR2.out HD7.out.below)).mono ?_); rintro e w8 ⟨rfl, hg8⟩; have HG8 := Aside0.mk hg8; clear hg8))
    have HST8 := Aside0.mk ((HST6.out.below HD7.out.below).grown HG8.out.gr (fun k hk => by have := own_base HR2.out k hk; omega))
    have hm8 := M8.out _ (rb.take t ++ (rb.drop t).reverse) (by have := HRL.out; simp; omega) HG8.out.own
    rw [List.drop_left' (by have := HRL.out; simp; omega)] at hm8
    have HM8 := Aside0.mk hm8
    clear hm8 M8 V8 HAL HR2 HR HG5 HG6 HST6 HD7 HG8 e8
    have hD := HD.out
    have hlen : (rb.drop t).length = nb - t := by rw [List.length_drop, HRL.out]
    have HLEN := Aside0.mk hlen
    rw [hlen] at hD
    clear hlen HD
    by_cases hbig : 1000 < nb - t
    · rw [if_pos hbig] at hD
      subst hD
      have hbz : (1000 : Int) < ((nb - t : Nat) : Int) := by omega
      go_wp2_with (refine wpl_store_row rfl 24 (.tmp 4) (.tmp 55) rfl w.heap.size 24 _ (Pk.zero.cellsV (.slice none 0 0)) rfl rfl infoP (by rfl) HST8.out.res (by simp [Pk.cellsV, Value.oneCell']) ?_)
      exact HST8.out.body Pk.zero none 0 _ _ rfl rfl rfl (Mid.nil _ _)
    · rw [if_neg hbig] at hD
      subst hD
      have hbz : ¬ (1000 : Int) < ((nb - t : Nat) : Int) := by omega
      generalize hl9 : (rb.drop t).reverse = l at HM8 ⊢
      have hll : l.length = nb - t := by rw [← hl9, List.length_reverse]; exact HLEN.out
      have HLL := Aside0.mk hll
      have HEQ := Aside0.mk hl9
      clear hll hl9
      go_wp2_with (refine wpl_store_row rfl 24 (.tmp 4) (.tmp 59) rfl w.heap.size 24 _ (Pk.cellsV { Pk.zero with kind := 2, ver := 2, frm := 1, head := h, tail := t, lines := l } (.slice A8 (nb - t) c8)) rfl rfl infoP (by rfl) HST8.out.res (by simp [Pk.cellsV, Value.oneCell']) ?_)
      have hbody := fun ac h1 h2 hd hS => HST8.out.body { Pk.zero with kind := 2, ver := 2, frm := 1, head := h, tail := t, lines := l } A8 c8 0 ac h1 h2 hd hS
      simp only [HLL.out] at hbody
      rw [HEQ.out]
      refine hbody _ ?_ ?_ ?_ ?_
      · rfl
      · rfl
      · rfl
      · exact (HM8.out.keep fun k hk _ => setRow_other _ _ _ _ (by omega)).lower (Nat.le_succ _)

/-- push.Diff. -/
theorem diff_any (w : World) (s r : ByteArray) (m : Int) (hs : s.size < 4294967281) (hr : r.size < 4294967281) (hm : w.cell? ⟨0, 0, none⟩ = some (.int .i64 m)) :
    Calls Tryd.prog 8 #[.string s, .string r] w (DiffPost w (diffOf s r)) := by
  by_cases h0 : (linesOf s).2 = 0
  · by_cases he : (linesOf r).2 = 0
    · exact diff_ok w s r m hs hr hm h0 he
    · rw [show diffOf s r = (Pk.zero, (linesOf r).2) by unfold diffOf; rw [if_neg (by simpa using h0), if_pos he]]
      exact diff_bad2 w s r m hs hr hm h0 he
  · rw [show diffOf s r = (Pk.zero, (linesOf s).2) by unfold diffOf; rw [if_pos h0]]
    exact diff_bad1 w s r m hs hm h0
end Go.Proofs.YtgnhkgobocmkoaaDoor
