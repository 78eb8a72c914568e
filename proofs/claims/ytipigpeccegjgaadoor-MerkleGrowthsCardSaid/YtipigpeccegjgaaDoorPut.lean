/- What word.Put answers of 4 and of 8 bytes, and sha.Pad. No condition but the kinds' own bounds. -/
import Derived.Test.YtipigpeccegjgaaDoorBlock
import Derived.Test.YtipigpeccegjgaaDoorMore
namespace Go.Proofs.YtipigpeccegjgaaDoor
open Go.RowKit

/-- The lowest bytes of a number, the highest first, when the last k are written. -/
def putTo (x : Int) (n k : Nat) : List Int := (List.range n).map fun j => if n ≤ j + k then x / 256 ^ (n - 1 - j) % 256 else 0
def putF (x : Int) (n : Nat) : List Int := putTo x n n
theorem putTo_len (x : Int) (n k : Nat) : (putTo x n k).length = n := by simp [putTo]
theorem putTo_zero (x : Int) (n : Nat) : putTo x n 0 = List.replicate n 0 := by
  unfold putTo
  apply List.ext_getElem (by simp)
  intro i h1 h2
  simp at h1 ⊢
  omega
theorem putTo_set (x : Int) (n k : Nat) (h : k < n) (v : Int) (hv : v = x / 256 ^ k % 256) : (putTo x n k).set (n - 1 - k) v = putTo x n (k + 1) := by
  subst hv
  unfold putTo
  apply List.ext_getElem (by simp)
  intro i h1 h2
  simp only [List.length_set, List.length_map, List.length_range] at h1
  rw [List.getElem_set]
  simp only [List.getElem_map, List.getElem_range]
  by_cases e : n - 1 - k = i
  · rw [if_pos e, if_pos (by omega), show n - 1 - i = k by omega]
  · rw [if_neg e]
    by_cases h3 : n ≤ i + k
    · rw [if_pos h3, if_pos (by omega)]
    · rw [if_neg h3, if_neg (by omega)]
theorem pow_step (x : Int) (k : Nat) : x / 256 ^ k / 256 = x / 256 ^ (k + 1) := by
  rw [Int.ediv_ediv_of_nonneg (by exact Int.le_of_lt (Int.pow_pos (by decide))), Int.pow_succ]

set_option maxHeartbeats 1000000 in
theorem put4_any (w : World) (x : Int) (hx : 0 ≤ x) (hx2 : x < 18446744073709551616) :
    Calls Tryd.prog 53 #[.int .u64 x, .int .i64 4] w fun e w' => e = .returned (.slice (some ⟨w.heap.size, 0, none⟩) 4 4) ∧ Below w.heap.size w w' ∧ Blk w' w.heap.size (nums .u8 (putF x 4)) 5 := by
  obtain ⟨i0, hi, hz0, hz1, hz2⟩ := info_parts u8info
  have hmk := run_make_num Tryd.underlying32 hi hz0 hz1 (by omega) .i64 4 (by omega) (by omega)
  clear hi hz0 hz1 hz2
  have HX2 := Lib.hid hx2
  clear hx2
  go_enter Tryd.func53, Tryd.ntmps53
  go_wp2
  clear hmk
  go_loopw [0, 6] (fun y i wr => ∃ k : Nat, i = .int .i64 (3 - k) ∧ k ≤ 4 ∧ (∃ z : Int, y = .int .u64 z ∧ 0 ≤ z ∧ Hid (z = x / 256 ^ k)) ∧ Below w.heap.size w wr ∧ Blk wr w.heap.size (nums .u8 (putTo x 4 k)) 5) (fun _ i _ => (intOf i + 1).toNat)
  case atStart => exact ⟨0, rfl, by omega, ⟨x, rfl, hx, show x = x / 256 ^ 0 by simp⟩, (Below.refl _ _).alloc (Nat.le_refl _) _, by rw [putTo_zero]; exact Blk.new' _ _ _ _ _ rfl rfl⟩
  case round =>
    obtain ⟨k, rfl, hk, ⟨z, rfl, hz, HZ⟩, hB, hb⟩ := hrel
    by_cases hlt : k < 4
    · have hl := putTo_len x 4 k
      have cb := hb.num (3 - k) (by omega)
      have fb := hb.frozen (3 - k)
      clear hl
      go_wp2
      go_roundw
      case rel =>
        refine ⟨k + 1, ?_, by omega, ⟨z / 256, rfl, by omega, ?_⟩, hB.setCell (by simp) _, ?_⟩
        · congr 1; omega
        · show z / 256 = x / 256 ^ (k + 1)
          rw [HZ.out, pow_step]
        · rw [← putTo_set x 4 k hlt _ (by rw [← HZ.out])]
          exact hb.setNum _ _
      case measure => simp [intOf]; omega
    · have e : k = 4 := by omega
      rw [e] at hb
      clear e
      go_wp2
      go_ret
      exact ⟨rfl, hB, hb⟩
set_option maxHeartbeats 1000000 in
theorem put8_any (w : World) (x : Int) (hx : 0 ≤ x) (hx2 : x < 18446744073709551616) :
    Calls Tryd.prog 53 #[.int .u64 x, .int .i64 8] w fun e w' => e = .returned (.slice (some ⟨w.heap.size, 0, none⟩) 8 8) ∧ Below w.heap.size w w' ∧ Blk w' w.heap.size (nums .u8 (putF x 8)) 5 := by
  obtain ⟨i0, hi, hz0, hz1, hz2⟩ := info_parts u8info
  have hmk := run_make_num Tryd.underlying32 hi hz0 hz1 (by omega) .i64 8 (by omega) (by omega)
  clear hi hz0 hz1 hz2
  have HX2 := Lib.hid hx2
  clear hx2
  go_enter Tryd.func53, Tryd.ntmps53
  go_wp2
  clear hmk
  go_loopw [0, 6] (fun y i wr => ∃ k : Nat, i = .int .i64 (7 - k) ∧ k ≤ 8 ∧ (∃ z : Int, y = .int .u64 z ∧ 0 ≤ z ∧ Hid (z = x / 256 ^ k)) ∧ Below w.heap.size w wr ∧ Blk wr w.heap.size (nums .u8 (putTo x 8 k)) 5) (fun _ i _ => (intOf i + 1).toNat)
  case atStart => exact ⟨0, rfl, by omega, ⟨x, rfl, hx, show x = x / 256 ^ 0 by simp⟩, (Below.refl _ _).alloc (Nat.le_refl _) _, by rw [putTo_zero]; exact Blk.new' _ _ _ _ _ rfl rfl⟩
  case round =>
    obtain ⟨k, rfl, hk, ⟨z, rfl, hz, HZ⟩, hB, hb⟩ := hrel
    by_cases hlt : k < 8
    · have hl := putTo_len x 8 k
      have cb := hb.num (7 - k) (by omega)
      have fb := hb.frozen (7 - k)
      clear hl
      go_wp2
      go_roundw
      case rel =>
        refine ⟨k + 1, ?_, by omega, ⟨z / 256, rfl, by omega, ?_⟩, hB.setCell (by simp) _, ?_⟩
        · congr 1; omega
        · show z / 256 = x / 256 ^ (k + 1)
          rw [HZ.out, pow_step]
        · rw [← putTo_set x 8 k hlt _ (by rw [← HZ.out])]
          exact hb.setNum _ _
      case measure => simp [intOf]; omega
    · have e : k = 8 := by omega
      rw [e] at hb
      clear e
      go_wp2
      go_ret
      exact ⟨rfl, hB, hb⟩
end Go.Proofs.YtipigpeccegjgaaDoor
