/- That inquestlaw06.MerkleGrows returns true. Condition: the table of layer 2 reads as its text lays it. -/
import Derived.Test.YtipigpeccegjgaaDoorGk
import Derived.Test.YtipigpeccegjgaaDoorLawRoots
namespace Go.Proofs.YtipigpeccegjgaaDoor
open Go.RowKit

set_option maxHeartbeats 8000000 in
set_option maxRecDepth 100000 in
theorem lawgrows_any (w : World) (x : List Int) (hx : x.length = 32) (ux : U8 x) (i : Int) (y : List Int) (hy : y.length = 32) (_uy : U8 y) (n : Int) (_hlo : -9223372036854775808 ≤ n) (hhi : n ≤ 9223372036854775807)
    (ds0 : List (List Int)) (A : Option Addr) (c : Nat) (hd : Dg w A c ds0) (z : Int) (hk : KV w) :
    Calls Tryd.prog 9 #[.agg (nums .u8 x).toArray, .int .i64 i, .agg (nums .u8 y).toArray, .int .i64 n, .slice A ds0.length c, .int .i64 z] w fun e w' => e = .returned (.bool true) ∧ Below w.heap.size w w' := by
  obtain ⟨ds, hds⟩ : ∃ ds, ds = ds0.take 100 := ⟨_, rfl⟩
  have hl : ds.length ≤ 100 := by rw [hds, List.length_take]; omega
  have htt : ds.take 100 = ds := List.take_of_length_le hl
  have hf1 := fun (w : World) (h : Dg w A c ds0) => few_any w ds0 A c h 100 (by decide) 100 rfl
  rw [← hds] at hf1
  have hf2 := fun (w : World) (A : Option Addr) (c : Nat) (h : Dg w A c ds) => few_any w ds A c h 100 (by decide) 100 rfl
  rw [htt] at hf2
  obtain ⟨r, hr⟩ : ∃ r, r = checkGF x i y n ds z := ⟨_, rfl⟩
  have hc1 := fun (w : World) (A : Option Addr) (c : Nat) (h : Dg w A c ds) => checkgrowth_any w x hx ux i y hy n hhi ds A c h z
  have hc2 := fun (w : World) (A : Option Addr) (c : Nat) (h : Dg w A c ds) => refcheckgrowth_any w x hx ux i y hy n hhi ds A c h (by omega) z
  rw [← hr] at hc1 hc2
  have HF1 := Lib.hid hf1
  have HF2 := Lib.hid hf2
  have HC1 := Lib.hid hc1
  have HC2 := Lib.hid hc2
  have HX := Lib.hid hx
  have HY := Lib.hid hy
  have HK := Lib.hid hk
  have HD := Lib.hid hd
  have hB0 : Below w.heap.size w ((w.alloc (.cells (nums .u8 x).toArray 25)).alloc (.cells (nums .u8 y).toArray 25)) := ((Below.refl _ _).alloc (Nat.le_refl _) _).alloc (by simp) _
  have hx0 : Blk ((w.alloc (.cells (nums .u8 x).toArray 25)).alloc (.cells (nums .u8 y).toArray 25)) w.heap.size (nums .u8 x) 25 := (Blk.new' _ _ _ _ _ rfl rfl).alloc _
  have hy0 : Blk ((w.alloc (.cells (nums .u8 x).toArray 25)).alloc (.cells (nums .u8 y).toArray 25)) (w.heap.size + 1) (nums .u8 y) 25 := Blk.new' _ _ _ _ _ rfl (by simp)
  clear hf1 hf2 hc1 hc2 hx hy hk hd hr hds htt
  go_enter Tryd.func9, Tryd.ntmps9
  go_wp2_with fail
  go_at_call 11
  refine (HF1.out _ (HD.out.up hB0)).mono ?_
  rintro e w1 ⟨v1, rfl, hb1, ho1⟩
  obtain ⟨A1, c1, rfl, h1, hx1⟩ := ho1.dg
  have hB := hB0.trans (hb1.mono hB0.size)
  have hbx := hx0.up hb1
  have hby := hy0.up hb1
  clear hB0 hx0 hy0 hx1 ho1 hb1
  go_wp2_with fail
  go_at_call 11
  refine (HF2.out w1 A1 c1 h1).mono ?_
  rintro e w2 ⟨v2, rfl, hb2, ho2⟩
  obtain ⟨A2, c2, rfl, h2, hx2⟩ := ho2.dg
  have hB := (hB.trans (hb2.mono hB.size)).drew
  have hbx := (hbx.up hb2).drew
  have hby := (hby.up hb2).drew
  have h1 := h1.up hb2
  have hC : Below w2.heap.size w2 w2.drew := (Below.refl _ _).drew
  have hS : Same [w.heap.size, w.heap.size + 1] w2 w2.drew := Same.refl _ _
  have hz2 : w.heap.size + 1 < w2.heap.size := hby.lt
  have hrr : (r == r) = true := by simp
  clear hb2 ho2 hx2
  go_wp2_with fail
  refine wp_region_C (Same [w.heap.size, w.heap.size + 1] w2) [6, 13, 18, 21] (by kernel_rfl) (by kernel_rfl) (by intro c a w h; first | (obtain ⟨_, h, _⟩ := h; cases h; done) | (obtain ⟨_, _, h, _⟩ := h; cases h; done) | (obtain ⟨_, _, _, h, _⟩ := h; cases h; done) | (obtain ⟨_, _, _, _, h, _⟩ := h; cases h; done)) (by intro a w h; first | (obtain ⟨h, _⟩ := h; cases h; done) | (obtain ⟨_, h, _⟩ := h; cases h; done) | (obtain ⟨_, _, h, _⟩ := h; cases h; done) | (obtain ⟨_, _, _, h, _⟩ := h; cases h; done)) (Same.refl _ _) ?_
  repeat (refine wd_wg (v := ?_) rfl rfl rfl rfl rfl rfl (fun w' hw' K hK => ?_) ?_; rotate_left; (have e1 := hw'.blk hbx (by simp); have e2 := hw'.blk hby (by simp); go_wp2_with ((first | ((with_reducible apply st_load (n := 32) (cs := nums .u8 (x)) (T := 25)); rfl; exact e1; exact Tryd.underlying25; rfl; kernel_rfl; (rw [nums_length, HX.out]; exact Nat.le_refl _); (exact row_all _ _ (by rw [nums_length, HX.out]))) | ((with_reducible apply st_load (n := 32) (cs := nums .u8 (y)) (T := 25)); rfl; exact e2; exact Tryd.underlying25; rfl; kernel_rfl; (rw [nums_length, HY.out]; exact Nat.le_refl _); (exact row_all _ _ (by rw [nums_length, HY.out]))))); exact rfl); simp only [Act.put, List.setIfInBounds_toArray, List.set_cons_zero, List.set_cons_succ])
  refine wd_l rfl rfl (by intro a w h; first | (obtain ⟨h, _⟩ := h; cases h; done) | (obtain ⟨_, h, _⟩ := h; cases h; done) | (obtain ⟨_, _, h, _⟩ := h; cases h; done) | (obtain ⟨_, _, _, h, _⟩ := h; cases h; done)) ?_
  go_wp2_with fail
  go_at_call 33
  refine (HC1.out _ A2 c2 (h2.up hC) (HK.out.below hB HK.out.lt)).mono ?_
  rintro e w3 ⟨rfl, hb⟩
  have hB := hB.trans (hb.mono hB.size)
  have hC := hC.trans (hb.mono hC.size)
  have hS := hS.below hb (by simp; omega)
  have hz3 : w.heap.size + 1 < w3.heap.size := Nat.lt_of_lt_of_le hz2 hb.size
  go_wp2_with fail
  refine ⟨.inr hS, ?_⟩
  repeat (refine wd_wg (v := ?_) rfl rfl rfl rfl rfl rfl (fun w' hw' K hK => ?_) ?_; rotate_left; (have e1 := hw'.blk hbx (by simp); have e2 := hw'.blk hby (by simp); go_wp2_with ((first | ((with_reducible apply st_load (n := 32) (cs := nums .u8 (x)) (T := 25)); rfl; exact e1; exact Tryd.underlying25; rfl; kernel_rfl; (rw [nums_length, HX.out]; exact Nat.le_refl _); (exact row_all _ _ (by rw [nums_length, HX.out]))) | ((with_reducible apply st_load (n := 32) (cs := nums .u8 (y)) (T := 25)); rfl; exact e2; exact Tryd.underlying25; rfl; kernel_rfl; (rw [nums_length, HY.out]; exact Nat.le_refl _); (exact row_all _ _ (by rw [nums_length, HY.out]))))); exact rfl); simp only [Act.put, List.setIfInBounds_toArray, List.set_cons_zero, List.set_cons_succ])
  refine wd_l rfl rfl (by intro a w h; first | (obtain ⟨h, _⟩ := h; cases h; done) | (obtain ⟨_, h, _⟩ := h; cases h; done) | (obtain ⟨_, _, h, _⟩ := h; cases h; done) | (obtain ⟨_, _, _, h, _⟩ := h; cases h; done)) ?_
  go_wp2_with fail
  go_at_call 34
  refine (HC2.out _ A1 c1 (h1.up hC)).mono ?_
  rintro e w4 ⟨rfl, hb⟩
  have hB := hB.trans (hb.mono hB.size)
  have hC := hC.trans (hb.mono hC.size)
  have hS := hS.below hb (by simp; omega)
  have hz4 : w.heap.size + 1 < w4.heap.size := Nat.lt_of_lt_of_le hz3 hb.size
  go_wp2_with fail
  refine ⟨.inr hS, ?_⟩
  repeat (refine wd_wg (v := ?_) rfl rfl rfl rfl rfl rfl (fun w' hw' K hK => ?_) ?_; rotate_left; (have e3 := hrr; go_wp2_with (fail); exact rfl); simp only [Act.put, List.setIfInBounds_toArray, List.set_cons_zero, List.set_cons_succ])
  refine wd_lg rfl rfl (by intro a w h; first | (obtain ⟨h, _⟩ := h; cases h; done) | (obtain ⟨_, h, _⟩ := h; cases h; done) | (obtain ⟨_, _, h, _⟩ := h; cases h; done) | (obtain ⟨_, _, _, h, _⟩ := h; cases h; done)) ?_
  go_wp2_with fail
  go_at_call 14
  have hcall := samed_any w4 ds ds A2 A1 c2 c1 (h2.up hC) (h1.up hC) (by omega) (by omega)
  rw [decide_eq_true rfl] at hcall
  refine hcall.mono ?_; clear hcall
  rintro e w5 ⟨rfl, hb⟩
  have hB := hB.trans (hb.mono hB.size)
  have hS := hS.below hb (by simp; omega)
  have hz5 : w.heap.size + 1 < w5.heap.size := Nat.lt_of_lt_of_le hz4 hb.size
  go_wp2_with fail
  refine ⟨.inr hS, ?_⟩
  refine wd_pick (b := true) (v := .bool true) rfl rfl rfl rfl rfl ?_
  simp only [Act.put, List.setIfInBounds_toArray, List.set_cons_zero, List.set_cons_succ]
  repeat (refine wd_wg (v := ?_) rfl rfl rfl rfl rfl rfl (fun w' hw' K hK => ?_) ?_; rotate_left; (skip; go_wp2_with (fail); exact rfl); simp only [Act.put, List.setIfInBounds_toArray, List.set_cons_zero, List.set_cons_succ])
  refine wd_lg rfl rfl (by intro a w h; first | (obtain ⟨h, _⟩ := h; cases h; done) | (obtain ⟨_, h, _⟩ := h; cases h; done) | (obtain ⟨_, _, h, _⟩ := h; cases h; done) | (obtain ⟨_, _, _, h, _⟩ := h; cases h; done)) ?_
  go_wp2_with fail
  go_at_call 15
  refine (lives_any w5 (HK.out.below hB HK.out.lt)).mono ?_
  rintro e w6 ⟨rfl, hb⟩
  have hB := hB.trans (hb.mono hB.size)
  have hS := hS.below hb (by simp; omega)
  go_wp2_with fail
  refine ⟨.inr hS, ?_⟩
  refine wd_pick (b := true) (v := .bool true) rfl rfl rfl rfl rfl ?_
  simp only [Act.put, List.setIfInBounds_toArray, List.set_cons_zero, List.set_cons_succ]
  repeat (refine wd_wg (v := ?_) rfl rfl rfl rfl rfl rfl (fun w' hw' K hK => ?_) ?_; rotate_left; (skip; go_wp2_with (fail); exact rfl); simp only [Act.put, List.setIfInBounds_toArray, List.set_cons_zero, List.set_cons_succ])
  refine wd_nil ?_
  go_wp2_with fail
  go_ret
  exact ⟨rfl, hB⟩

end Go.Proofs.YtipigpeccegjgaaDoor
