/- Contracts of the law's flat and joined. -/
import Derived.Test.YtgnhkgobocmkoaaDoorP2
namespace Go.Proofs.YtgnhkgobocmkoaaDoor
open Go.RowKit Go.Proofs.YtgnhkgobocmkoaaDoorW.PrintWords

/-- A text without line feeds, out of its first 60 bytes. -/
def flatK (s : ByteArray) (k : Nat) : List UInt8 := (s.data.toList.take k).filter (· != 10)
def flatB (s : ByteArray) : ByteArray := ⟨(flatK s 60).toArray⟩
def numsOf (l : List UInt8) : List Int := l.map fun b => (b.toNat : Int)
theorem strOf_numsOf (l : List UInt8) : strOfNums (numsOf l) = ⟨l.toArray⟩ := by
  unfold strOfNums numsOf
  congr 1
  rw [List.map_map]
  have e : ((fun n : Int => n.toNat.toUInt8) ∘ fun b : UInt8 => (b.toNat : Int)) = id := by
    funext b
    simp
  simp only [e, List.map_id]
theorem flatK_succ (s : ByteArray) (k : Nat) (h : k < s.size) : flatK s (k + 1) = flatK s k ++ if ((s[k].toNat : Int) != 10) then [s[k]] else [] := by
  unfold flatK
  have h' : k < s.data.toList.length := by rw [← Lib.size_eq]; exact h
  rw [List.take_succ_eq_append_getElem h', List.filter_append]
  congr 1
  have e : s.data.toList[k] = s[k] := rfl
  rw [e, List.filter_cons, List.filter_nil]
  have e2 : (s[k] != 10) = ((s[k].toNat : Int) != 10) := by
    rw [Bool.eq_iff_iff]
    simp only [bne_iff_ne, ne_eq]
    constructor
    · intro h1 h2
      exact h1 (UInt8.toNat_inj.1 (by show s[k].toNat = 10; omega))
    · intro h1 h2
      exact h1 (by rw [h2]; rfl)
  rw [e2]
theorem flatK_len (s : ByteArray) (k : Nat) : (flatK s k).length ≤ k := Nat.le_trans (List.length_filter_le _ _) (List.length_take_le _ _)
theorem flatK_all (s : ByteArray) (k : Nat) (h : ¬ (k < s.size ∧ k < 60)) (hk : k ≤ 60) : flatK s k = flatK s 60 := by
  rcases Nat.lt_or_ge k 60 with h1 | h1
  · have h2 : s.data.toList.length ≤ k := by rw [← Lib.size_eq]; omega
    unfold flatK
    rw [List.take_of_length_le h2, List.take_of_length_le (by omega)]
  · obtain rfl : k = 60 := by omega
    rfl

set_option maxRecDepth 100000 in
set_option maxHeartbeats 2000000 in
theorem flat_any (w : World) (s : ByteArray) (hs : s.size ≤ 9223372036854775807) :
    Calls Tryd.prog 38 #[.string s] w fun e w' => e = .returned (.string (flatB s)) ∧ Below w.heap.size w w' := by
  go_enter Tryd.func38, Tryd.ntmps38
  go_wp2
  go_loopg [3, 4] 60 (fun gg s3 s4 wr => ∃ k : Nat, k ≤ 60 ∧ 60 - k ≤ gg ∧ s4 = .int .i64 k ∧ Aside0 (wr.ownsRow w.heap.size 5 1 s3 (numsOf (flatK s k)).length (nums .u8 (numsOf (flatK s k)))) ∧ Aside0 (Below w.heap.size w wr))
  case atStart => exact ⟨0, by omega, by omega, rfl, ⟨own_nil _ _ _ _⟩, ⟨Below.refl _ _⟩⟩
  case round =>
    obtain ⟨k, hk, hg, rfl, HR, HB⟩ := hrel
    by_cases hlt : k < s.size ∧ k < 60
    · obtain ⟨hl1, hl2⟩ := hlt
      have hlz1 : (k : Int) < (s.size : Int) := by omega
      have hlz2 : (k : Int) < 60 := by omega
      have HSC := Aside0.mk (flatK_succ s k hl1)
      have HLN := Aside0.mk (flatK_len s k)
      cases hx : ((s[k].toNat : Int) != 10) with
      | true =>
        have HX := Aside0.mk hx
        go_wp2_with (at_builtin; refine wpl_append rfl (.tmp 19) (.tmp 23) 38 5 (.int .u8 0) 1 1 rfl Tryd.underlying38 infoU8 rfl (by omega) (by omega) w.heap.size _ _ _ [.int .u8 (s[k].toNat : Int)] rfl rfl rfl (by simp [Value.oneCell']) HR.out HB.out.size (by have := HLN.out; simp only [numsOf, List.length_map]; omega) ?_; intro v1 w1 hg1; have HG := Aside0.mk hg1; clear hg1)
        go_roundg (60 - (k + 1))
        case measure => omega
        case rel =>
          refine ⟨k + 1, by omega, by omega, by go_num, ⟨?_⟩, ⟨HB.out.trans (HG.out.below HR.out HB.out.size)⟩⟩
          have h1 := HG.out.own
          have h2 := HSC.out
          rw [HX.out, if_pos rfl] at h2
          rw [h2]
          have e : numsOf (flatK s k ++ [s[k]]) = numsOf (flatK s k) ++ [(s[k].toNat : Int)] := by simp [numsOf]
          rw [e, List.length_append, nums_append]
          exact h1
      | false =>
        have HX := Aside0.mk hx
        go_wp2
        go_roundg (60 - (k + 1))
        case measure => omega
        case rel =>
          refine ⟨k + 1, by omega, by omega, by go_num, ⟨?_⟩, HB⟩
          have h2 := HSC.out
          rw [HX.out, if_neg (by simp), List.append_nil] at h2
          rw [h2]
          exact HR.out
    · have HE := Aside0.mk (flatK_all s k hlt hk)
      have hcv := own_string (P := Tryd.prog) Tryd.underlying38 Tryd.underlying5 Tryd.underlying9 HR.out
      rw [strOf_numsOf] at hcv
      by_cases hl1 : k < s.size
      · have hlz1 : (k : Int) < (s.size : Int) := by omega
        have hlz2 : ¬ (k : Int) < 60 := by omega
        clear hlt
        go_wp2
        go_ret
        exact ⟨by unfold flatB; rw [← HE.out]; rfl, HB.out⟩
      · have hlz1 : ¬ (k : Int) < (s.size : Int) := by omega
        clear hlt
        go_wp2
        go_ret
        exact ⟨by unfold flatB; rw [← HE.out]; rfl, HB.out⟩

/-- Lines made flat, 40 at most. -/
def flats (xs : List ByteArray) : List (List UInt8) := (xs.take 40).map (flatK · 60)
def joinedK (xs : List ByteArray) (k : Nat) : ByteArray := ⟨(joinD ((xs.take k).map (flatK · 60))).toArray⟩
def joinedB (xs : List ByteArray) : ByteArray := joinedK xs 40
theorem joinedK_succ (xs : List ByteArray) (k : Nat) (h : k < xs.length) : joinedK xs (k + 1) = joinedK xs k ++ flatB (rdOf ByteArray.empty xs k) ++ ⟨#[10]⟩ := by
  unfold joinedK flatB
  have e : rdOf ByteArray.empty xs k = xs[k] := by simp [rdOf, List.getElem?_eq_getElem h]
  rw [e, List.take_succ_eq_append_getElem h, List.map_append, joinD_append]
  apply ByteArray.ext
  apply Array.ext'
  simp [joinD]
theorem joinedK_size (xs : List ByteArray) (k : Nat) : (joinedK xs k).size ≤ 61 * k := by
  have h : (joinedK xs k).size = (joinD ((xs.take k).map (flatK · 60))).length := by rw [Lib.size_eq]; unfold joinedK; simp
  rw [h]
  have h2 : ∀ l : List (List UInt8), (∀ x ∈ l, x.length ≤ 60) → (joinD l).length ≤ 61 * l.length := by
    intro l
    induction l with
    | nil => simp [joinD]
    | cons x l ih =>
      intro hl
      have h1 := ih (fun y hy => hl y (by simp [hy]))
      have h2 := hl x (by simp)
      have e : joinD (x :: l) = x ++ [10] ++ joinD l := by simp [joinD]
      rw [e]
      simp only [List.length_append, List.length_cons, List.length_nil]
      omega
  refine Nat.le_trans (h2 _ ?_) ?_
  · intro x hx
    obtain ⟨y, _, rfl⟩ := List.mem_map.1 hx
    exact flatK_len y 60
  · rw [List.length_map, List.length_take]
    exact Nat.mul_le_mul_left _ (Nat.min_le_left _ _)
theorem joinedK_all (xs : List ByteArray) (k : Nat) (h : ¬ (k < xs.length ∧ k < 40)) (hk : k ≤ 40) : joinedK xs k = joinedB xs := by
  rcases Nat.lt_or_ge k 40 with h1 | h1
  · have h2 : xs.length ≤ k := by omega
    unfold joinedB joinedK
    rw [List.take_of_length_le h2, List.take_of_length_le (by omega)]
  · obtain rfl : k = 40 := by omega
    rfl
theorem flatB_size (s : ByteArray) : (flatB s).size ≤ 60 := by
  have := flatK_len s 60
  have h : (flatB s).size = (flatK s 60).length := by rw [Lib.size_eq]; unfold flatB; simp
  omega

def JoinedPost (w : World) (xs : List ByteArray) (e : Ending) (w' : World) : Prop := e = .returned (.string (joinedB xs)) ∧ Below w.heap.size w w'
set_option maxRecDepth 100000 in
set_option maxHeartbeats 2000000 in
theorem joined_any (w : World) (A : Option Addr) (c : Nat) (xs : List ByteArray) (hx : Ss w A xs.length xs) (hz : ∀ x ∈ xs, x.size ≤ 9223372036854775807) :
    Calls Tryd.prog 14 #[.slice A xs.length c] w (JoinedPost w xs) := by
  have hmx := hx.2.1
  have HX := Aside0.mk hx
  have HZ := Aside0.mk hz
  clear hx hz
  go_enter Tryd.func14, Tryd.ntmps14
  go_wp2
  go_loopg [3, 4] 40 (fun gg s3 s4 wr => ∃ k : Nat, k ≤ 40 ∧ 40 - k ≤ gg ∧ s4 = .int .i64 k ∧ s3 = .string (joinedK xs k) ∧ Aside0 (Below w.heap.size w wr))
  case atStart => exact ⟨0, by omega, by omega, rfl, rfl, ⟨Below.refl _ _⟩⟩
  case round =>
    obtain ⟨k, hk, hg, rfl, rfl, HB⟩ := hrel
    by_cases hlt : k < xs.length ∧ k < 40
    · obtain ⟨hl1, hl2⟩ := hlt
      have hlz1 : (k : Int) < (xs.length : Int) := by omega
      have hlz2 : (k : Int) < 40 := by omega
      obtain ⟨ad, rfl, l2⟩ := (HX.out.below HB.out).at_ k (by omega) (by omega)
      simp only [Int.toNat_natCast] at l2
      have HSC := Aside0.mk (joinedK_succ xs k hl1)
      have hsz := joinedK_size xs k
      have HY := Aside0.mk (show (rdOf ByteArray.empty xs k).size ≤ 9223372036854775807 by
        have e : rdOf ByteArray.empty xs k = xs[k] := by simp [rdOf, List.getElem?_eq_getElem hl1]
        rw [e]
        exact HZ.out _ (List.getElem_mem hl1))
      generalize rdOf ByteArray.empty xs k = y at l2 HSC HY
      have hfs := flatB_size y
      have HF := Aside0.mk (fun W => flat_any W y HY.out)
      generalize flatB y = f at HF HSC hfs
      generalize joinedK xs k = acc at HSC hsz ⊢
      have h1 : (acc.size : Int) ≤ 2440 := by omega
      have h2 : (f.size : Int) ≤ 60 := by omega
      go_wp2_with (go_at_call 38; (with_reducible refine (HF.out _).mono ?_); rintro e w4 ⟨rfl, hb4⟩; have HB4 := Aside0.mk hb4; clear hb4)
      go_roundg (40 - (k + 1))
      case measure => omega
      case rel => exact ⟨k + 1, by omega, by omega, by go_num, by rw [HSC.out], ⟨HB.out.trans (HB4.out.mono HB.out.size)⟩⟩
    · have HE := Aside0.mk (joinedK_all xs k hlt hk)
      by_cases hl1 : k < xs.length
      · have hlz1 : (k : Int) < (xs.length : Int) := by omega
        have hlz2 : ¬ (k : Int) < 40 := by omega
        clear hlt
        go_wp2
        go_ret
        exact ⟨by rw [HE.out]; rfl, HB.out⟩
      · have hlz1 : ¬ (k : Int) < (xs.length : Int) := by omega
        clear hlt
        go_wp2
        go_ret
        exact ⟨by rw [HE.out]; rfl, HB.out⟩
end Go.Proofs.YtgnhkgobocmkoaaDoor
