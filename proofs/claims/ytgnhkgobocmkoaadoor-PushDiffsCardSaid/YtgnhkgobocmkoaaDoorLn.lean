/- Contract of slices.Reverse over a row of one's own. -/
import Derived.Test.YtgnhkgobocmkoaaDoorLm
namespace Go.Proofs.YtgnhkgobocmkoaaDoor
open Go.RowKit Go.Proofs.YtgnhkgobocmkoaaDoorW.PrintWords

theorem blk_setCells (g : Nat) (t : TypeId) : ∀ (vs : List Value) (o : Nat) (w : World) (cur : Array Value), w.heap[g]? = some (.cells cur t (0, 0)) → o + vs.length ≤ cur.size →
    ∃ cur' : Array Value, (w.setCells g o vs).heap[g]? = some (.cells cur' t (0, 0)) ∧ cur'.size = cur.size ∧ cur'.toList = cur.toList.take o ++ vs ++ cur.toList.drop (o + vs.length)
  | [], o, w, cur, h, _ => ⟨cur, h, rfl, by simp⟩
  | v :: vs, o, w, cur, h, hl => by
    have hl' : o + 1 + vs.length ≤ cur.size := by simp at hl; omega
    obtain ⟨cur', h1, h2, h3⟩ := blk_setCells g t vs (o + 1) (w.setCell ⟨g, o, none⟩ v) (cur.setIfInBounds o v) (blk_set h o v) (by simpa using hl')
    refine ⟨cur', h1, by simpa using h2, ?_⟩
    rw [h3]
    have ho : o < cur.toList.length := by simp; omega
    simp only [Array.toList_setIfInBounds]
    rw [show (cur.toList.set o v).take (o + 1) = cur.toList.take o ++ [v] from by
      rw [List.take_add_one, List.take_set_of_le (Nat.le_refl _), List.getElem?_set_self ho]; rfl]
    rw [List.drop_set_of_lt (by omega)]
    simp [Nat.add_assoc, Nat.add_comm 1]

theorem grown_setCells (g : Nat) : ∀ (vs : List Value) (o : Nat) (w : World), w.grownBy (w.setCells g o vs) (some g)
  | [], _, _ => World.grownBy.refl _ _
  | v :: vs, o, w => World.grownBy.trans (grown_setCell w g o v) (grown_setCells g vs (o + 1) _)

theorem strs_enc (xs : List ByteArray) : (Lib.strsOf (fun i => rdOf ByteArray.empty xs i) xs.length).reverse.map encStr = encs Value.string xs.reverse := by
  have h : Lib.strsOf (fun i => rdOf ByteArray.empty xs i) xs.length = xs.map (·.data.toList) := by
    apply List.ext_getElem
    · simp [Lib.strsOf]
    · intro i h1 h2
      have h3 : i < xs.length := by simpa using h2
      simp [Lib.strsOf, rdOf, List.getElem?_eq_getElem h3]
  rw [h, ← List.map_reverse]
  simp [encs, encStr]

theorem reverse_any (w : World) (base : Nat) (v : Value) (xs : List ByteArray) (h : w.ownsRow base 9 1 v xs.length (encs Value.string xs)) :
    Calls Tryd.prog 29 #[v] w fun e w' => e = .returned (.tuple #[]) ∧ Grew w w' base 9 1 v v xs.length (encs Value.string xs.reverse) := by
  have h0 := h
  obtain ⟨hl, ⟨rfl, hn⟩ | ⟨g, cap, cur, rfl, hb, hg, hc, hm, hs, ht⟩⟩ := h
  · have hx : xs = [] := List.eq_nil_of_length_eq_zero hn
    subst hx
    refine (Tryd.slices_Reverse_string_empty none 0 w).mono ?_
    rintro e w' ⟨rfl, rfl⟩
    exact ⟨rfl, Grew.refl h0⟩
  · have hcur : ∀ i, i < xs.length → cur[i]? = some (.string (rdOf ByteArray.empty xs i)) := by
      intro i hi
      have h1 : (cur.toList.take (xs.length * 1))[i]? = (encs Value.string xs)[i]? := by rw [ht]
      rw [List.getElem?_take_of_lt (by omega)] at h1
      rw [← Array.getElem?_toList, h1]
      simp [encs, rdOf, List.getElem?_eq_getElem hi]
    refine (Tryd.slices_Reverse_string_cells g 0 xs.length cap (fun i => rdOf ByteArray.empty xs i) w (by unfold maxLen at hm; omega) (fun i hi => by rw [Nat.zero_add]; exact (blk_cell hg i).trans (hcur i hi)) (fun j _ => blk_frozen hg _)).mono ?_
    rintro e w' ⟨rfl, q, rfl⟩
    rw [strs_enc]
    obtain ⟨cur', h1, h2, h3⟩ := blk_setCells g 9 (encs Value.string xs.reverse) 0 (w.drewN q) cur hg (by rw [encs_length, List.length_reverse]; omega)
    refine ⟨rfl, ⟨by rw [encs_length, List.length_reverse, Nat.mul_one], .inr ⟨g, cap, cur', rfl, hb, h1, hc, hm, h2.trans hs, ?_⟩⟩, ?_, .inl rfl⟩
    · rw [h3]
      simp [encs]
    · exact World.grownBy.trans (grown_of_below (pw_below_drewN (Below.refl _ _) q) _) (grown_setCells g _ 0 _)
end Go.Proofs.YtgnhkgobocmkoaaDoor
