/- What clash.leaf and clash.node answer. No condition. -/
import Derived.Test.YtiogopneklmodaaDoorClP
namespace Go.Proofs.YtiogopneklmodaaDoor
open Go.RowKit

set_option maxRecDepth 100000 in
set_option maxHeartbeats 1000000 in
theorem clleaf_any (w : World) (bs : List Int) (A : Option Addr) (c : Nat) (h : Byt w A c bs) (hl : bs.length ≤ 1000000) :
    Calls Tryd.prog 41 #[.slice A bs.length c] w (Gives (leafT bs) w) := by
  have HB := Lib.hid h
  have hG : Grows w [0] (.slice (some ⟨w.heap.size, 0, none⟩) 1 1) (w.alloc (.cells #[.int .u8 0] 5)) := ⟨(Below.refl _ _).alloc (Nat.le_refl _) _, Own.ofBlk (bs := [0]) (Blk.new' _ _ _ _ _ rfl rfl) (Nat.le_refl _) (by rw [List.length_singleton]; decide)⟩
  have hx := h.rd.up hG.1
  clear h
  go_enter Tryd.func41, Tryd.ntmps41
  go_wp2_with ((with_reducible apply st_grow (w0 := w) (xs := [0]) (ys := bs)); rfl; rfl; exact hG; exact HB.out.nn; exact hx; (rw [List.length_singleton]; omega); intro v2 w2 hG2)
  go_ret
  exact hG2.gives

set_option maxRecDepth 100000 in
set_option maxHeartbeats 1000000 in
theorem clnode_any (w : World) (x y : List Int) (hx : x.length = 32) (hy : y.length = 32) :
    Calls Tryd.prog 40 #[.agg (nums .u8 x).toArray, .agg (nums .u8 y).toArray] w (Gives (nodeT x y) w) := by
  have HX := Lib.hid hx
  have HY := Lib.hid hy
  have xl : x.length ≤ 32 := by omega
  have yl : y.length ≤ 32 := by omega
  obtain ⟨W, hW⟩ : ∃ W, W = ((w.alloc (.cells (nums .u8 x).toArray 45)).alloc (.cells (nums .u8 y).toArray 45)) := ⟨_, rfl⟩
  have bx : Blk W w.heap.size (nums .u8 x) 45 := by rw [hW]; exact (Blk.new' _ _ _ _ _ rfl rfl).alloc _
  have by' : Blk W (w.heap.size + 1) (nums .u8 y) 45 := by rw [hW]; exact Blk.new' _ _ _ _ _ rfl (by simp)
  have hB : Below w.heap.size w W := by rw [hW]; exact ((Below.refl _ _).alloc (Nat.le_refl _) _).alloc (by simp) _
  have hz : W.heap.size = w.heap.size + 2 := by rw [hW]; simp
  clear hx hy
  go_enter Tryd.func40, Tryd.ntmps40
  go_upto_region 1 with (fail)
  rw [← hW]
  have HZ := Lib.hid hz
  have hG : Grows W [1] (.slice (some ⟨W.heap.size, 0, none⟩) 1 1) (W.alloc (.cells #[.int .u8 1] 5)) := ⟨(Below.refl _ _).alloc (Nat.le_refl _) _, Own.ofBlk (bs := [1]) (Blk.new' _ _ _ _ _ rfl rfl) (Nat.le_refl _) (by rw [List.length_singleton]; decide)⟩
  have lx := bx.lt
  have ly := by'.lt
  clear hW hz
  go_wp2_with (first | ((with_reducible apply st_allArr); exact Tryd.underlying45; kernel_rfl; rfl) | ((with_reducible apply st_grow (w0 := W) (xs := [1]) (ys := x)); rfl; (rw [HX.out]; rfl); exact hG; (intro h; cases h); exact Rd.ofBlk (bx.alloc _); (rw [List.length_singleton]; omega); intro v2 w2 hG2) | ((with_reducible apply st_grow (w0 := W) (xs := [1] ++ x) (ys := y)); rfl; (rw [HY.out]; rfl); exact hG2; (intro h; cases h); exact Rd.ofBlk (by'.up hG2.1); (rw [List.length_append, List.length_singleton]; omega); intro v3 w3 hG3))
  go_ret
  exact ⟨v3, rfl, hB.trans (hG3.1.mono (by omega)), hG3.2.mono (by omega)⟩

end Go.Proofs.YtiogopneklmodaaDoor
