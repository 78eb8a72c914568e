/- That inquestlaw02.ShaBlocks returns true. Condition: the package's table k reads as its text lays it. -/
import Derived.Test.YtdbjenlmbgmflaaDoorLives
import Derived.Test.YtdbjenlmbgmflaaDoorEql
import Derived.Test.YtdbjenlmbgmflaaDoorGuard
namespace Go.Proofs.YtdbjenlmbgmflaaDoor
open Go.RowKit

set_option maxHeartbeats 4000000 in
set_option maxRecDepth 100000 in
theorem lawblocks_any (w : World) (ss : List Int) (hs : ss.length = 8) (us : U32 ss) (bs : List Int) (hb : bs.length = 64) (ub : U8 bs) (hk : KV w) :
    Calls Tryd.prog 5 #[.agg (nums .u32 ss).toArray, .agg (nums .u8 bs).toArray] w fun e w' => e = .returned (.bool true) ∧ Below w.heap.size w w' := by
  have heq1 := run_eql_nums (P := Tryd.prog) (t := 35) Tryd.underlying35 Tryd.underlying34 (by kernel_rfl) (by kernel_rfl) (blockF ss bs) (blockF ss bs) (blockF_len _ _ hs) (blockF_len _ _ hs)
  have heq2 := run_eql_nums (P := Tryd.prog) (t := 35) Tryd.underlying35 Tryd.underlying34 (by kernel_rfl) (by kernel_rfl) FIRST FIRST rfl rfl
  rw [decide_eq_true rfl] at heq1 heq2
  have HS := Lib.hid hs
  have HN := Lib.hid hb
  have HUS := Lib.hid us
  have HUB := Lib.hid ub
  have HK := Lib.hid hk
  clear hs hb us ub hk
  go_enter Tryd.func5, Tryd.ntmps5
  go_wp2
  refine named_world ?_
  intro w0 hw0
  have hbs : Blk w0 w.heap.size (nums .u32 ss) 35 := by rw [hw0]; exact (Blk.new' _ _ _ _ _ rfl rfl).alloc _
  have hbi : Blk w0 (w.heap.size + 1) (nums .u8 bs) 36 := by rw [hw0]; exact Blk.new' _ _ _ _ _ rfl (by simp)
  have hB0 : Below w.heap.size w w0 := by rw [hw0]; exact ((Below.refl _ _).alloc (Nat.le_refl _) _).alloc (by simp) _
  have hz0 : w0.heap.size = w.heap.size + 2 := by rw [hw0]; simp
  clear hw0
  refine wp_region_C (Same [w.heap.size, w.heap.size + 1] w0) [2, 5, 8, 9, 13] (by kernel_rfl) (by kernel_rfl) (by rintro c a w ⟨_, h, _⟩; cases h) (by rintro a w ⟨h, _⟩; cases h) (Same.refl _ _) ?_
  repeat (refine wd_w (v := ?_) rfl rfl rfl rfl rfl rfl (fun w' hw' K hK => ?_) ?_; rotate_left; (have e1 := hw'.blk hbs (by simp); have e2 := hw'.blk hbi (by simp); go_wp2_with ((first | (apply st_load (n := 8) (cs := nums .u32 ss) (T := 35); rfl; exact e1; exact Tryd.underlying35; rfl; kernel_rfl; (rw [nums_length, HS.out]; exact Nat.le_refl _); (exact row_all _ _ (by rw [nums_length, HS.out]))) | (apply st_load (n := 64) (cs := nums .u8 bs) (T := 36); rfl; exact e2; exact Tryd.underlying36; rfl; kernel_rfl; (rw [nums_length, HN.out]; exact Nat.le_refl _); (exact row_all _ _ (by rw [nums_length, HN.out]))))); exact rfl); simp only [Act.put, List.setIfInBounds_toArray, List.set_cons_zero, List.set_cons_succ])
  refine wd_l rfl rfl (by rintro a w ⟨h, _⟩; cases h) ?_
  go_wp2_with (go_at_call 19; refine (block_any _ ss bs HS.out HN.out (HK.out.below hB0.drew HK.out.lt)).mono ?_; rintro e w1 ⟨rfl, hb1⟩)
  replace hb1 : Below w0.heap.size w0 w1 := ⟨hb1.os, hb1.tape, hb1.output, hb1.size, hb1.block⟩
  have hB1 := hB0.trans (hb1.mono hB0.size)
  have hS1 : Same [w.heap.size, w.heap.size + 1] w0 w1 := (Same.refl _ _).below hb1 (by simp; omega)
  refine ⟨.inr hS1, ?_⟩
  repeat (refine wd_w (v := ?_) rfl rfl rfl rfl rfl rfl (fun w' hw' K hK => ?_) ?_; rotate_left; (have e1 := hw'.blk hbs (by simp); have e2 := hw'.blk hbi (by simp); go_wp2_with ((first | (apply st_load (n := 8) (cs := nums .u32 ss) (T := 35); rfl; exact e1; exact Tryd.underlying35; rfl; kernel_rfl; (rw [nums_length, HS.out]; exact Nat.le_refl _); (exact row_all _ _ (by rw [nums_length, HS.out]))) | (apply st_load (n := 64) (cs := nums .u8 bs) (T := 36); rfl; exact e2; exact Tryd.underlying36; rfl; kernel_rfl; (rw [nums_length, HN.out]; exact Nat.le_refl _); (exact row_all _ _ (by rw [nums_length, HN.out]))))); exact rfl); simp only [Act.put, List.setIfInBounds_toArray, List.set_cons_zero, List.set_cons_succ])
  refine wd_l rfl rfl (by rintro a w ⟨h, _⟩; cases h) ?_
  go_wp2_with (go_at_call 20; refine (refblock_any _ ss bs HS.out HN.out HUS.out HUB.out).mono ?_; rintro e w2 ⟨rfl, hb2⟩)
  have hB2 := hB1.trans (hb2.mono hB1.size)
  have hS2 := hS1.below hb2 (by have := hb1.size; simp; omega)
  refine ⟨.inr hS2, ?_⟩
  repeat (refine wd_q (v := ?_) rfl rfl rfl rfl rfl rfl (fun w' hw' K hK => ?_) ?_; rotate_left; (have e1 := heq1; go_wp2; exact rfl); simp only [Act.put, List.setIfInBounds_toArray, List.set_cons_zero, List.set_cons_succ])
  refine wd_lg rfl rfl (by rintro a w ⟨h, _⟩; cases h) ?_
  go_wp2_with (go_at_call 21; refine (first_any _).mono ?_; rintro e w3 ⟨rfl, hb3⟩)
  have hB3 := hB2.trans (hb3.mono hB2.size)
  have hS3 := hS2.below hb3 (by have := hb1.size; have := hb2.size; simp; omega)
  refine ⟨.inr hS3, ?_⟩
  refine wd_lg rfl rfl (by rintro a w ⟨h, _⟩; cases h) ?_
  go_wp2_with (go_at_call 22; refine (reffirst_any _).mono ?_; rintro e w4 ⟨rfl, hb4⟩)
  have hB4 := hB3.trans (hb4.mono hB3.size)
  have hS4 := hS3.below hb4 (by have := hb1.size; have := hb2.size; have := hb3.size; simp; omega)
  refine ⟨.inr hS4, ?_⟩
  repeat (refine wd_q (v := ?_) rfl rfl rfl rfl rfl rfl (fun w' hw' K hK => ?_) ?_; rotate_left; (have e1 := heq2; go_wp2; exact rfl); simp only [Act.put, List.setIfInBounds_toArray, List.set_cons_zero, List.set_cons_succ])
  refine wd_pick (b := true) (v := .bool true) rfl rfl rfl rfl rfl ?_
  simp only [Act.put, List.setIfInBounds_toArray, List.set_cons_zero, List.set_cons_succ]
  repeat (refine wd_q (v := ?_) rfl rfl rfl rfl rfl rfl (fun w' hw' K hK => ?_) ?_; rotate_left; (skip; go_wp2; exact rfl); simp only [Act.put, List.setIfInBounds_toArray, List.set_cons_zero, List.set_cons_succ])
  refine wd_lg rfl rfl (by rintro a w ⟨h, _⟩; cases h) ?_
  go_wp2_with (go_at_call 16; refine (lives_any _ (HK.out.below hB4 HK.out.lt)).mono ?_; rintro e w5 ⟨rfl, hb5⟩)
  have hB5 := hB4.trans (hb5.mono hB4.size)
  refine ⟨.inr (hS4.below hb5 (by have := hb1.size; have := hb2.size; have := hb3.size; have := hb4.size; simp; omega)), ?_⟩
  refine wd_pick (b := true) (v := .bool true) rfl rfl rfl rfl rfl ?_
  simp only [Act.put, List.setIfInBounds_toArray, List.set_cons_zero, List.set_cons_succ]
  repeat (refine wd_q (v := ?_) rfl rfl rfl rfl rfl rfl (fun w' hw' K hK => ?_) ?_; rotate_left; (skip; go_wp2; exact rfl); simp only [Act.put, List.setIfInBounds_toArray, List.set_cons_zero, List.set_cons_succ])
  refine wd_nil ?_
  go_wp2
  go_ret
  exact ⟨rfl, hB5⟩
end Go.Proofs.YtdbjenlmbgmflaaDoor
