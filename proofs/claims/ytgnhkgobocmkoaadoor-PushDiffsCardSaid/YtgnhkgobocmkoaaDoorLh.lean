/- Contracts of push's cursor. -/
import Derived.Test.YtgnhkgobocmkoaaDoorLg
import Derived.Laws.BitsLemmas
import Derived.IntWalk
namespace Go.Proofs.YtgnhkgobocmkoaaDoor
open Go.RowKit Go.Proofs.YtgnhkgobocmkoaaDoorW.PrintWords

/-- Bytes that are read. -/
abbrev Bs (w : World) (A : Option Addr) (n : Nat) (xs : List Int) : Prop := ReadsOf (Value.int .u8) (0 : Int) w A n xs
def IsBytes (l : List Int) : Prop := ∀ x ∈ l, 0 ≤ x ∧ x < 256
theorem IsBytes.take {l : List Int} (h : IsBytes l) (n : Nat) : IsBytes (l.take n) := fun x hx => h x (List.mem_of_mem_take hx)
theorem IsBytes.drop {l : List Int} (h : IsBytes l) (n : Nat) : IsBytes (l.drop n) := fun x hx => h x (List.mem_of_mem_drop hx)

/-- A cursor at block g: the bytes that are left, the error. -/
structure CurSt (w0 w : World) (g : Nat) (r : List Int) (e : Int) : Prop where
  blk : ∃ A c, w.heap[g]? = some (.cells #[.slice A r.length c, .int .i64 e] 98 (0, 0)) ∧ r.length ≤ c ∧ Bs w0 A r.length r
  ge : w0.heap.size ≤ g
  bel : Below w0.heap.size w0 w
  isb : IsBytes r
theorem CurSt.below {w0 w w' : World} {g : Nat} {r : List Int} {e : Int} (h : CurSt w0 w g r e) (hb : Below w.heap.size w w') : CurSt w0 w' g r e := by
  obtain ⟨⟨A, c, h1, h2, h3⟩, h4, h5, h6⟩ := h
  exact ⟨⟨A, c, blk_below h1 hb, h2, h3⟩, h4, h5.trans (hb.mono h5.size), h6⟩
theorem CurSt.grown {w0 w w' : World} {g : Nat} {r : List Int} {e : Int} (h : CurSt w0 w g r e) {row : Option Nat} (hb : w.grownBy w' row) (hne : some g ≠ row) (hr : ∀ k, row = some k → w0.heap.size ≤ k) : CurSt w0 w' g r e := by
  obtain ⟨⟨A, c, h1, h2, h3⟩, h4, h5, h6⟩ := h
  exact ⟨⟨A, c, blk_grown h1 hb hne, h2, h3⟩, h4, h5.grown hb h5.size hr, h6⟩

def takeR (r : List Int) (e : Int) (n : Nat) : List Int × List Int × Int := if e = 0 then (if n ≤ r.length then (r.take n, r.drop n, 0) else ([], r, 3)) else ([], r, e)

/-- What take leaves. -/
def TakePost (w0 w : World) (g : Nat) (t : List Int × List Int × Int) (e' : Ending) (w' : World) : Prop := ∃ A c, e' = .returned (.slice A t.1.length c) ∧ t.1.length ≤ c ∧ Bs w0 A t.1.length t.1 ∧ CurSt w0 w' g t.2.1 t.2.2 ∧ w.grownBy w' (some g)

theorem infoU8' : ∃ i, Tryd.prog.info? 5 = some i ∧ i.size = 1 := by
  obtain ⟨i, h, hz⟩ := Option.map_eq_some_iff.1 infoU8
  simp only [Prod.mk.injEq] at hz
  exact ⟨i, h, hz.2.1⟩

set_option maxRecDepth 100000 in
set_option maxHeartbeats 2000000 in
theorem take_any (w0 w : World) (g : Nat) (r : List Int) (e : Int) (n : Nat) (h : CurSt w0 w g r e) :
    Calls Tryd.prog 78 #[.pointer (some ⟨g, 0, none⟩), .int .i64 n] w (TakePost w0 w g (takeR r e n)) := by
  obtain ⟨⟨A, c, h1, h2, h3⟩, h4, h5, h6⟩ := h
  have c0 := (blk_cell h1 0).trans (show (#[Value.slice A r.length c, .int .i64 e])[0]? = some (.slice A r.length c) from rfl)
  have c1 := (blk_cell h1 1).trans (show (#[Value.slice A r.length c, .int .i64 e])[1]? = some (.int .i64 e) from rfl)
  have f0 := blk_frozen h1 0
  have f1 := blk_frozen h1 1
  have hmax := h3.2.1
  have H1 := Aside0.mk h1
  have H3 := Aside0.mk h3
  have nilB : Bs w0 none ([] : List Int).length [] := ⟨rfl, by simp, fun h => absurd h (Nat.lt_irrefl 0)⟩
  have NB := Aside0.mk nilB
  clear h1 h3 nilB
  by_cases he : e = 0
  · subst he
    by_cases hn : n ≤ r.length
    · have hr : takeR r 0 n = (r.take n, r.drop n, 0) := by simp [takeR, hn]
      rw [hr]
      obtain ⟨i, hi, hi1⟩ := infoU8'
      obtain ⟨t1, t2, t3⟩ := print_take_of (P := Tryd.prog) (Value.int .u8) (0 : Int) 38 5 .i64 Tryd.underlying38 hi hi1 A c r (n : Int) (by omega) (by omega) h2
      obtain ⟨A', d1, d2, d3⟩ := print_drop_of (P := Tryd.prog) (Value.int .u8) (0 : Int) 38 5 .i64 Tryd.underlying38 hi hi1 A c r (n : Int) (by omega) (by omega) h2
      simp only [Int.toNat_natCast] at t1 t2 t3 d1 d2 d3
      have hnz : (n : Int) ≤ (r.length : Int) := by omega
      have T2 := Aside0.mk (t2 w0 H3.out)
      have D2 := Aside0.mk (d2 w0 H3.out)
      have T3 := Aside0.mk t3
      have D3 := Aside0.mk d3
      have HN := Aside0.mk hn
      clear t2 d2 t3 d3 hi hi1 hr hn
      generalize htk : r.take n = tk at t1 T2 T3
      generalize hdr : r.drop n = dr at d1 D2 D3
      have HDR := Aside0.mk hdr
      clear htk hdr
      go_enter Tryd.func78, Tryd.ntmps78
      go_wp2
      go_ret
      unfold TakePost
      refine ⟨A, c, rfl, T3.out, T2.out, ⟨⟨A', c - n, ?_, D3.out, D2.out⟩, h4, h5.setCell h4 _, HDR.out ▸ h6.drop n⟩, grown_setCell _ _ _ _⟩
      rw [blk_set H1.out 0]
      rfl
    · have hr : takeR r 0 n = ([], r, 3) := by simp [takeR, hn]
      rw [hr]
      have hnz : ¬ (n : Int) ≤ (r.length : Int) := by omega
      clear hr hn
      go_enter Tryd.func78, Tryd.ntmps78
      go_wp2
      go_ret
      unfold TakePost
      refine ⟨none, 0, rfl, Nat.le_refl _, NB.out, ⟨⟨A, c, ?_, h2, H3.out⟩, h4, h5.setCell h4 _, h6⟩, grown_setCell _ _ _ _⟩
      rw [blk_set H1.out 1]
      rfl
  · have hr : takeR r e n = ([], r, e) := by simp [takeR, he]
    rw [hr]
    have he' : (e == 0) = false := by simpa using he
    clear hr
    go_enter Tryd.func78, Tryd.ntmps78
    go_wp2
    go_ret
    unfold TakePost
    exact ⟨none, 0, rfl, Nat.le_refl _, NB.out, ⟨⟨A, c, H1.out, h2, H3.out⟩, h4, h5, h6⟩, World.grownBy.refl _ _⟩

def beVal (l : List Int) : Int := l.foldl (fun n x => n * 256 + x) 0
theorem beVal_snoc (l : List Int) (x : Int) : beVal (l ++ [x]) = beVal l * 256 + x := by simp [beVal]
theorem beVal_from (l : List Int) (h : IsBytes l) : ∀ (a : Int) (m : Nat), 0 ≤ a → a < 256 ^ m → 0 ≤ l.foldl (fun n x => n * 256 + x) a ∧ l.foldl (fun n x => n * 256 + x) a < 256 ^ (m + l.length) := by
  induction l with
  | nil => intro a m h0 h1; exact ⟨h0, h1⟩
  | cons x l ih =>
    intro a m h0 h1
    obtain ⟨h3, h4⟩ := h x (by simp)
    have := ih (fun y hy => h y (by simp [hy])) (a * 256 + x) (m + 1) (by omega) (by rw [Int.pow_succ]; omega)
    simp only [List.foldl_cons, List.length_cons]
    rw [show m + (l.length + 1) = m + 1 + l.length by omega]
    exact this
theorem beVal_bound (l : List Int) (h : IsBytes l) : 0 ≤ beVal l ∧ beVal l < 256 ^ l.length := by
  have := beVal_from l h 0 0 (by omega) (by rw [Int.pow_zero]; omega)
  rwa [Nat.zero_add] at this
theorem pow_le {a b : Nat} (h : a ≤ b) : (256 : Int) ^ a ≤ 256 ^ b := by
  obtain ⟨d, rfl⟩ := Nat.le.dest h
  clear h
  have pos : ∀ m : Nat, (0 : Int) < 256 ^ m := by
    intro m
    induction m with
    | zero => rw [Int.pow_zero]; omega
    | succ m ih => rw [Int.pow_succ]; omega
  induction d with
  | zero => exact Int.le_refl _
  | succ d ih =>
    have := pos (a + d)
    rw [← Nat.add_assoc, Int.pow_succ]
    omega

/-- What number leaves. -/
def NumPost (w0 w : World) (g : Nat) (t : List Int × List Int × Int) (e' : Ending) (w' : World) : Prop := e' = .returned (.int .i64 (beVal t.1)) ∧ CurSt w0 w' g t.2.1 t.2.2 ∧ w.grownBy w' (some g)

theorem takeR_bytes {r : List Int} {e : Int} {n : Nat} (h : IsBytes r) : IsBytes (takeR r e n).1 ∧ (takeR r e n).1.length ≤ n := by
  unfold takeR
  split
  · split
    · exact ⟨h.take n, by simp [List.length_take]; omega⟩
    · exact ⟨(fun x hx => by simp at hx), Nat.zero_le _⟩
  · exact ⟨(fun x hx => by simp at hx), Nat.zero_le _⟩

set_option maxRecDepth 100000 in
set_option maxHeartbeats 2000000 in
theorem number_any (w0 w : World) (g : Nat) (r : List Int) (e : Int) (n : Nat) (hn : n ≤ 7) (h : CurSt w0 w g r e) :
    Calls Tryd.prog 68 #[.pointer (some ⟨g, 0, none⟩), .int .i64 n] w (NumPost w0 w g (takeR r e n)) := by
  have ht := take_any w0 w g r e n h
  obtain ⟨hb, hl⟩ := takeR_bytes (e := e) (n := n) h.isb
  have HB := Aside0.mk hb
  have HL := Aside0.mk hl
  have HN := Aside0.mk hn
  clear h hb hl hn
  generalize takeR r e n = t at ht HB HL
  go_enter Tryd.func68, Tryd.ntmps68
  go_wp2_with (go_at_call 78; refine ht.mono ?_; rintro e' w1 ⟨A, c, rfl, hc, hr, hst, hg⟩; have HC := Aside0.mk hc; have HR := Aside0.mk hr; have HST := Aside0.mk hst; have HG := Aside0.mk hg; clear hc hr hst hg)
  go_loopg [4, 6, 11] t.1.length (fun gg s4 _ s11 wr => ∃ k : Nat, k ≤ t.1.length ∧ t.1.length - k ≤ gg ∧ s11 = .int .i64 k ∧ s4 = .int .i64 (beVal (t.1.take k)) ∧ w1 = wr)
  case atStart => exact ⟨0, by omega, by omega, rfl, rfl, rfl⟩
  case round =>
    obtain ⟨k, hk, hg, rfl, rfl, rfl⟩ := hrel
    have hmx := HR.out.2.1
    by_cases hlt : k < t.1.length
    · have hltz : (k : Int) < (t.1.length : Int) := by omega
      obtain ⟨ad, rfl, l2⟩ := (HR.out.below (HST.out.bel)).at_ k (by omega) (by omega)
      simp only [Int.toNat_natCast] at l2
      obtain ⟨b1, b2⟩ := beVal_bound (t.1.take k) (HB.out.take k)
      have hp := pow_le (a := (t.1.take k).length) (b := 6) (by have := HL.out; have := HN.out; rw [List.length_take]; omega)
      have b3 : beVal (t.1.take k) < 281474976710656 := by omega
      have hx : rdOf 0 t.1 k = t.1[k] := by simp [rdOf, List.getElem?_eq_getElem hlt]
      obtain ⟨x1, x2⟩ := HB.out (rdOf 0 t.1 k) (by rw [hx]; exact List.getElem_mem hlt)
      have HS := Aside0.mk (show beVal (t.1.take (k + 1)) = beVal (t.1.take k) * 256 + rdOf 0 t.1 k by
        rw [List.take_succ_eq_append_getElem hlt, beVal_snoc, hx])
      clear hp b2 hx
      generalize rdOf 0 t.1 k = x at l2 x1 x2 HS
      generalize beVal (t.1.take k) = a at b1 b3 HS ⊢
      have hor : bits .or .i64 (a * 256) x = a * 256 + x := bits_join .i64 63 (by decide) (fun n h0 h1 => IntWalk.i64_in n (by omega)) 8 (a * 256) x (by omega) (by omega) (by omega) (by omega) (by omega) (by omega)
      go_wp2
      go_roundg (t.1.length - (k + 1))
      case measure => omega
      case rel => exact ⟨k + 1, by omega, by omega, by go_num, by rw [HS.out], rfl⟩
    · have hltz : ¬ (k : Int) < (t.1.length : Int) := by omega
      have HK := Aside0.mk (show k = t.1.length by omega)
      clear hk hg hlt
      go_wp2
      go_ret
      refine ⟨?_, HST.out, HG.out⟩
      rw [HK.out, List.take_length]
      rfl

/-- What limit leaves. -/
def LimPost (w0 w : World) (g : Nat) (r : List Int) (n : Int) (e : Int) (e' : Ending) (w' : World) : Prop := e' = .returned (.int .i64 n) ∧ CurSt w0 w' g r e ∧ w.grownBy w' (some g)

def limR (e n most : Int) : Int := if e = 0 then (if most < n then 5 else 0) else e

set_option maxRecDepth 100000 in
theorem limit_any (w0 w : World) (g : Nat) (r : List Int) (e n most : Int) (h : CurSt w0 w g r e) :
    Calls Tryd.prog 70 #[.pointer (some ⟨g, 0, none⟩), .int .i64 n, .int .i64 most] w (LimPost w0 w g r n (limR e n most)) := by
  obtain ⟨⟨A, c, h1, h2, h3⟩, h4, h5, h6⟩ := h
  have c1 := (blk_cell h1 1).trans (show (#[Value.slice A r.length c, .int .i64 e])[1]? = some (.int .i64 e) from rfl)
  have f1 := blk_frozen h1 1
  have H1 := Aside0.mk h1
  have H3 := Aside0.mk h3
  clear h1 h3
  by_cases he : e = 0
  · subst he
    by_cases hn : most < n
    · rw [show limR 0 n most = 5 by simp [limR, hn]]
      go_enter Tryd.func70, Tryd.ntmps70
      go_wp2
      go_ret
      refine ⟨rfl, ⟨⟨A, c, ?_, h2, H3.out⟩, h4, h5.setCell h4 _, h6⟩, grown_setCell _ _ _ _⟩
      rw [blk_set H1.out 1]
      rfl
    · rw [show limR 0 n most = 0 by simp [limR, hn]]
      go_enter Tryd.func70, Tryd.ntmps70
      go_wp2
      go_ret
      exact ⟨rfl, ⟨⟨A, c, H1.out, h2, H3.out⟩, h4, h5, h6⟩, World.grownBy.refl _ _⟩
  · rw [show limR e n most = e by simp [limR, he]]
    have he' : (e == 0) = false := by simpa using he
    go_enter Tryd.func70, Tryd.ntmps70
    go_wp2
    go_ret
    exact ⟨rfl, ⟨⟨A, c, H1.out, h2, H3.out⟩, h4, h5, h6⟩, World.grownBy.refl _ _⟩

/-- What text reads: the text's bytes, what is left, the error. -/
def textR (r : List Int) (e : Int) : List Int × List Int × Int :=
  let t := takeR r e 3
  takeR t.2.1 (limR t.2.2 (beVal t.1) 65536) (beVal t.1).toNat
def TextPost (w0 w : World) (g : Nat) (t : List Int × List Int × Int) (e' : Ending) (w' : World) : Prop := e' = .returned (.string (strOfNums t.1)) ∧ CurSt w0 w' g t.2.1 t.2.2 ∧ w.grownBy w' (some g)

set_option maxRecDepth 100000 in
theorem text_any (w0 w : World) (g : Nat) (r : List Int) (e : Int) (h : CurSt w0 w g r e) :
    Calls Tryd.prog 69 #[.pointer (some ⟨g, 0, none⟩)] w (TextPost w0 w g (textR r e)) := by
  have h1 := number_any w0 w g r e 3 (by omega) h
  have hb := beVal_bound _ (takeR_bytes (e := e) (n := 3) h.isb).1
  unfold textR
  generalize takeR r e 3 = t at h1 hb
  have h2 := fun W (hW : CurSt w0 W g t.2.1 t.2.2) => limit_any w0 W g t.2.1 t.2.2 (beVal t.1) 65536 hW
  have h3 := fun W (hW : CurSt w0 W g t.2.1 (limR t.2.2 (beVal t.1) 65536)) => take_any w0 W g t.2.1 (limR t.2.2 (beVal t.1) 65536) (beVal t.1).toNat hW
  rw [Int.toNat_of_nonneg hb.1] at h3
  clear h hb
  generalize takeR t.2.1 (limR t.2.2 (beVal t.1) 65536) (beVal t.1).toNat = q at h3
  go_enter Tryd.func69, Tryd.ntmps69
  go_wp2_with (first | (go_at_call 68; refine h1.mono ?_; rintro e' w1 ⟨rfl, hs, hg⟩; have HS1 := Aside0.mk hs; have HG1 := Aside0.mk hg; clear hs hg) | (go_at_call 70; refine (h2 _ HS1.out).mono ?_; rintro e' w2 ⟨rfl, hs, hg⟩; have HS2 := Aside0.mk hs; have HG2 := Aside0.mk hg; clear hs hg) | (go_at_call 78; refine (h3 _ HS2.out).mono ?_; rintro e' w3 ⟨A, c, rfl, hc, hr, hs, hg⟩; have HC3 := Aside0.mk hc; have HR3 := Aside0.mk hr; have HS3 := Aside0.mk hs; have HG3 := Aside0.mk hg; have hcv := string_of_reads (P := Tryd.prog) (w := w3) (c := c) Tryd.underlying38 Tryd.underlying5 Tryd.underlying9 (HR3.out.below HS3.out.bel); clear hs hg hc hr))
  go_ret
  exact ⟨rfl, HS3.out, World.grownBy.trans (World.grownBy.trans HG1.out HG2.out) HG3.out⟩
end Go.Proofs.YtgnhkgobocmkoaaDoor
