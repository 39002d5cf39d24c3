/- PushDiffs: a difference, applied to the first text, is the second one; of a text and itself it has no lines: for every three rows of lines, as the statement's guards let them in. Conditions: none beyond the statement's own. -/
import Derived.Test.YtgnhkgobocmkoaaDoorRi
import Derived.Test.YtgnhkgobocmkoaaDoorRz
import Derived.Test.YtgnhkgobocmkoaaDoorTie
import Derived.Test.YtgnhkgobocmkoaaDoorCards
namespace Go.Proofs.YtgnhkgobocmkoaaDoor
open Go.ChangeShapes Go.WideShapes Go.ChangeAt Go.RowKit Go.Proofs.YtgnhkgobocmkoaaDoorW.PrintWords

set_option maxRecDepth 100000 in
theorem pushDiffs_lifted (os : Os) (started : os.Started) (H : Type) (enc : TypeId × Value → H) :
    ReturnsInHanded {} Tryd.checked os 4 .any (fun w args => (Rows.pushDiffsSpec.pre enc Tryd.prog Tryd.f4 Rows.pushDiffsRow.domain false w args ∧ laidMetH Tryd.prog Rows.pushDiffsRow.laid w) ∧ sizedMet enc Tryd.prog Tryd.f4 (OpenSpec.ofChange Rows.pushDiffsSpec) false w args)
      (Rows.pushDiffsSpec.post enc Tryd.prog Tryd.f4 false true false false) := by
  refine returnsInHanded_and_shaped (C := Tryd.checked) (X := fun w _ => laidMetH Tryd.prog Rows.pushDiffsRow.laid w) (fun _ _ _ hh h => h.of_heap hh) ownKnob_none started (by kernel_rfl) Tryd.func4
    (ChangeSpec.witness_shaped (enc := enc) (C := Tryd.checked) (os := os) (X := fun w _ => laidMetH Tryd.prog Rows.pushDiffsRow.laid w) false (World.laidAll Tryd.prog os Rows.pushDiffsRow.laid) #[.slice none 0 0, .agg #[.slice none 0 0, .slice none 0 0], .slice none 0 0] 8 (World.laidAll_os _ _ _)
      (World.shaped_of_ZipB (by kernel_rfl) (by kernel_rfl)) (by kernel_rfl) (by kernel_rfl) (by kernel_rfl)
      (by rw [MakeChecks.laidMetH_plain _ _ _ (by kernel_rfl)]; exact laidMet_laidAll _ (by kernel_rfl) (by kernel_rfl))) ?_
  intro W base args ds gs before hval0 hW _ hsh
  obtain ⟨m, hm⟩ := maxLen_cell hsh
  have hval : ∀ (j : Nat) t v, Tryd.f4.params[j]? = some t → args[j]? = some v → Value.okWide Tryd.prog W .any base t v := hval0
  have hW' := hW
  obtain ⟨p, q, hA0, hV, rfl, hfz, hnd⟩ := hW
  have hA : DataW.TrodAll enc Tryd.prog W 0 (fun _ => true) true Tryd.f4.params.toList args.toList ds p := hA0
  rw [Tryd.params4] at hA hval
  obtain ⟨v0, vs0, d0, ds0, p0, q0, hargs, rfl, rfl, h0, r0⟩ := trodAll_cons hA
  obtain ⟨v1, vs1, d1, ds1, p1, q1, rfl, rfl, rfl, h1, r1⟩ := trodAll_cons r0
  obtain ⟨v2, vs2, d2, ds2, p2, q2, rfl, rfl, rfl, h2, r2⟩ := trodAll_cons r1
  obtain ⟨rfl, rfl, rfl⟩ := trodAll_nil r2
  obtain rfl : args = #[v0, v1, v2] := by cases args; simp_all
  obtain ⟨rfl, rfl⟩ := trodVars_none hV
  have k0 := h0
  have k1 := h1
  have k2 := h2
  have lt0 : ∀ x ∈ p0, x.block < W.heap.size := by obtain ⟨n, hn⟩ := k0; exact DataW.trod_lt n _ _ _ hn
  have lt1 : ∀ x ∈ p1, x.block < W.heap.size := by obtain ⟨n, hn⟩ := k1; exact DataW.trod_lt n _ _ _ hn
  have lt2 : ∀ x ∈ p2, x.block < W.heap.size := by obtain ⟨n, hn⟩ := k2; exact DataW.trod_lt n _ _ _ hn
  obtain ⟨A0, c0, x0, rfl, _, s0, z0⟩ := strs_arg_of (hval 0 22 v0 rfl rfl) h0
  obtain ⟨A3, c3, x3, rfl, _, s3, z3⟩ := strs_arg_of (hval 2 22 v2 rfl rfl) h2
  obtain ⟨A1, c1, x1, A2, c2, x2, rfl, s1, z1, s2, z2⟩ : ∃ A1 c1 x1 A2 c2 x2, v1 = .agg #[.slice A1 (List.length x1) c1, .slice A2 (List.length x2) c2] ∧ Ss W A1 x1.length x1 ∧ (∀ s ∈ x1, s.size ≤ maxLen) ∧ Ss W A2 x2.length x2 ∧ (∀ s ∈ x2, s.size ≤ maxLen) := by
    obtain ⟨fuel, hf⟩ := h1
    obtain ⟨xs, n, _, _, hl, hxl, hel⟩ := DataW.trod_array Tryd.underlying34 hf
    rw [show Tryd.prog.cellsOf 34 = 2 by kernel_rfl] at hl
    rw [show Tryd.prog.cellsOf 22 = 1 by kernel_rfl] at hel
    obtain ⟨e0, e1, he⟩ : ∃ e0 e1, v1.cells.toList = [e0, e1] := by
      match hc : v1.cells.toList, hl with
      | [e0, e1], _ => exact ⟨e0, e1, rfl⟩
    rw [he] at hel
    have g0 := hel 0 (by omega)
    have g1 := hel 1 (by omega)
    simp only [Nat.zero_mul, List.drop_zero, List.take_succ_cons, List.take_zero, Nat.one_mul, List.drop_succ_cons] at g0 g1
    rw [List.getElem?_eq_getElem (by omega)] at g0 g1
    obtain ⟨A1, c1, x1, rfl, _, s1, z1⟩ := strs_arg g0
    obtain ⟨A2, c2, x2, rfl, _, s2, z2⟩ := strs_arg g1
    exact ⟨A1, c1, x1, A2, c2, x2, agg2_of_cells he, s1, z1, s2, z2⟩
  have zz : ∀ {l : List ByteArray}, (∀ s ∈ l, s.size ≤ maxLen) → ∀ s ∈ l, s.size ≤ 9223372036854775807 := fun h s hs => Nat.le_trans (h s hs) (by unfold maxLen; decide)
  clear hA0 hval0
  simp only [List.append_nil] at hW'
  refine (pushDiffs_any W m A0 A1 A2 A3 c0 c1 c2 c3 x0 x1 x2 x3 s0 s1 s2 s3 (zz z0) (zz z1) (zz z2) (zz z3) hm).mono fun e W' ⟨he, bel⟩ => ?_
  subst he
  exact ⟨_, rfl, _, _, _, [], _, [], hW', trodAll_mk1 (shut_bool Tryd.underlying4 _), (trodAll_cons_mk (Below.trod laidOut (by kernel_rfl) (of_decide_eq_true (by kernel_rfl)) k0 bel lt0) (trodAll_cons_mk (Below.trod laidOut (by kernel_rfl) (of_decide_eq_true (by kernel_rfl)) k1 bel lt1) (trodAll_cons_mk (Below.trod laidOut (by kernel_rfl) (of_decide_eq_true (by kernel_rfl)) k2 bel lt2) trodAll_mk0))), rfl, bel.frame _, fun h => by cases h⟩

theorem pushDiffs_row : Rows.PushDiffsSaid :=
  OpenClaim.holds_of_wide 4 Tryd.f4 rfl rfl rfl rfl rfl rfl rfl ⟨rfl, rfl, rfl, rfl, rfl⟩ rfl rfl rfl rfl rfl (by kernel_rfl) Tryd.func4 (by kernel_rfl)
    (of_decide_eq_true (by kernel_rfl)) (by unfold Func.isWrapper; first | (rw [if_pos (by decide +kernel)]; kernel_rfl) | (rw [if_neg (by decide +kernel)]; exact ⟨rfl, rfl⟩))
    (fun os started H enc _ => pushDiffs_lifted os started H enc)

theorem pushDiffs_card : Rows.PushDiffsCardSaid :=
  Claim7.holds_tied_plain_at .later [] [.data, .pinned] true Rows.pushDiffsCard.stood.harness false pushDiffs_row (fun _ h => by cases h) (by kernel_rfl) (fun _ h => by cases h) pushDiffs_row_tie rfl ⟨rfl, rfl⟩ (by kernel_rfl) rfl
    (fun f fn hf hfn => by
      obtain rfl : f = 4 := Option.some.inj ((show Tryd.prog.funcNamed "chinoiserie/chinoiserielaw11.PushDiffs" = some 4 by kernel_rfl).symm.trans hf) |>.symm
      obtain rfl : fn = Tryd.f4 := (Option.some.inj (Tryd.func4.symm.trans hfn)).symm
      exact ⟨by kernel_rfl, fun j t ht => by
        rw [Tryd.params4] at ht
        have hm : t ∈ [22, 34, 22] := by simpa using Array.mem_of_getElem? ht
        have hall : ([22, 34, 22].all fun u => !Tryd.prog.wantsStandIn u) = true := by kernel_rfl
        exact (show Tryd.prog.wantsStandIn t = false by simpa using List.all_eq_true.1 hall t hm)⟩)
    (by kernel_rfl)
#print axioms pushDiffs_card
end Go.Proofs.YtgnhkgobocmkoaaDoor
