/- slices.Reverse on the tail of an owned row; the spec of push.Diff. -/
import Derived.Test.YtgnhkgobocmkoaaDoorLn
namespace Go.Proofs.YtgnhkgobocmkoaaDoor
open Go.RowKit Go.Proofs.YtgnhkgobocmkoaaDoorW.PrintWords

theorem reverse_from (w : World) (base g cap k : Nat) (xs : List ByteArray) (h : w.ownsRow base 9 1 (.slice (some ⟨g, 0, none⟩) xs.length cap) xs.length (encs Value.string xs)) (hk : k ≤ xs.length) (c : Nat) :
    Calls Tryd.prog 29 #[.slice (some ⟨g, k, none⟩) (xs.length - k) c] w fun e w' => e = .returned (.tuple #[]) ∧ Grew w w' base 9 1 (.slice (some ⟨g, 0, none⟩) xs.length cap) (.slice (some ⟨g, 0, none⟩) xs.length cap) xs.length (encs Value.string (xs.take k ++ (xs.drop k).reverse)) := by
  obtain ⟨hl, ⟨hv, hn⟩ | ⟨g', cap', cur, hv, hb, hg, hc, hm, hs, ht⟩⟩ := h
  · cases hv
  · cases hv
    have hcur : ∀ i, i < xs.length → cur[i]? = some (.string (rdOf ByteArray.empty xs i)) := by
      intro i hi
      have h1 : (cur.toList.take (xs.length * 1))[i]? = (encs Value.string xs)[i]? := by rw [ht]
      rw [List.getElem?_take_of_lt (by omega)] at h1
      rw [← Array.getElem?_toList, h1]
      simp [encs, rdOf, List.getElem?_eq_getElem hi]
    have hsz : (xs.drop k).length = xs.length - k := by simp
    have hdr : ∀ i, i < xs.length - k → cur[k + i]? = some (.string (rdOf ByteArray.empty (xs.drop k) i)) := by
      intro i hi
      rw [hcur (k + i) (by omega)]
      simp [rdOf]
      congr 1
    have hst := strs_enc (xs.drop k)
    rw [hsz] at hst
    refine (Tryd.slices_Reverse_string_cells g k (xs.length - k) c (fun i => rdOf ByteArray.empty (xs.drop k) i) w (by unfold maxLen at hm; omega) (fun i hi => (blk_cell hg (k + i)).trans (hdr i hi)) (fun j _ => blk_frozen hg _)).mono ?_
    rintro e w' ⟨rfl, q, rfl⟩
    rw [hst]
    have hle : (encs Value.string (xs.drop k).reverse).length = xs.length - k := by rw [encs_length, List.length_reverse, hsz]
    obtain ⟨cur', h1, h2, h3⟩ := blk_setCells g 9 (encs Value.string (xs.drop k).reverse) k (w.drewN q) cur hg (by rw [hle]; omega)
    refine ⟨rfl, ⟨by rw [encs_length]; simp; omega, .inr ⟨g, cap, cur', rfl, hb, h1, hc, hm, h2.trans hs, ?_⟩⟩, ?_, .inl rfl⟩
    · have ht' : cur.toList.take k = encs Value.string (xs.take k) := by
        have := congrArg (List.take k) ht
        rw [List.take_take, Nat.min_eq_left (by omega)] at this
        rw [this]; simp [encs]
      rw [h3, ht', ← encs_append, List.take_append_of_le_length (by rw [encs_length]; simp; omega), List.take_of_length_le (by rw [encs_length]; simp; omega)]
    · exact World.grownBy.trans (grown_of_below (pw_below_drewN (Below.refl _ _) q) _) (grown_setCells g _ k _)

/-- push.Diff, in plain words. -/
def diffOf (a b : ByteArray) : Pk × Int :=
  if (linesOf a).2 ≠ 0 then (Pk.zero, (linesOf a).2)
  else if (linesOf b).2 ≠ 0 then (Pk.zero, (linesOf b).2)
  else
    let h := alikeOf (linesOf a).1 (linesOf b).1
    let ra := ((linesOf a).1.drop h).reverse
    let rb := ((linesOf b).1.drop h).reverse
    let t := alikeOf ra rb
    if 1000 < (rb.drop t).length then (Pk.zero, 5)
    else ({ Pk.zero with kind := 2, ver := 2, frm := 1, head := h, tail := t, lines := (rb.drop t).reverse }, 0)
end Go.Proofs.YtgnhkgobocmkoaaDoor
