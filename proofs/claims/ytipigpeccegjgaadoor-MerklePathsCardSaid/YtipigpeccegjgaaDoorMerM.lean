/- What merkle.Node and the reference's answer. Condition: the table of layer 2 reads as its text lays it (merkle's). -/
import Derived.Test.YtipigpeccegjgaaDoorMerN
import Derived.Test.YtipigpeccegjgaaDoorArr
namespace Go.Proofs.YtipigpeccegjgaaDoor
open Go.RowKit

theorem node_laid1 (x : List Int) (hx : x.length = 32) : laid (nums .u8 (1 :: List.replicate 64 0)) 1 (nums .u8 x) = nums .u8 (1 :: (x ++ List.replicate 32 0)) := by
  simp [laid, nums, hx]
theorem node_laid2 (x y : List Int) (hx : x.length = 32) (hy : y.length = 32) : laid (nums .u8 (1 :: (x ++ List.replicate 32 0))) 33 (nums .u8 y) = nums .u8 (1 :: (x ++ y)) := by
  simp [laid, nums, hx, hy]

set_option maxHeartbeats 4000000 in
theorem node_any (w : World) (x y : List Int) (hx : x.length = 32) (hy : y.length = 32) (z : Int) (hk : KV w) :
    Calls Tryd.prog 17 #[.agg (nums .u8 x).toArray, .agg (nums .u8 y).toArray, .int .i64 z] w fun e w' => e = .returned (.agg (nums .u8 (nodeF x y z)).toArray) ∧ Below w.heap.size w w' := by
  have HK := Lib.hid hk
  obtain ⟨all, hall⟩ : ∃ all, all = 1 :: (x ++ y) := ⟨_, rfl⟩
  have halll : all.length = 65 := by rw [hall]; simp [hx, hy]
  obtain ⟨m, hm⟩ : ∃ m, m = nodeF x y z := ⟨_, rfl⟩
  have hlf : cutF (sumF all) z = m := by rw [hm, hall]; rfl
  have hml : m.length = 32 := by rw [hm, nodeF_len]
  have hl1 := node_laid1 x hx
  have hl2 := node_laid2 x y hx hy
  rw [← hall] at hl2
  rw [← hm]
  obtain ⟨b2, hb2⟩ : ∃ b2, b2 = 1 :: (x ++ List.replicate 32 0) := ⟨_, rfl⟩
  have hb2l : b2.length = 65 := by rw [hb2]; simp [hx]
  rw [← hb2] at hl1 hl2
  have HX := Lib.hid hx
  have HY := Lib.hid hy
  have HML := Lib.hid hml
  have HLF := Lib.hid hlf
  have HL1 := Lib.hid hl1
  have HL2 := Lib.hid hl2
  have HALL := Lib.hid halll
  have HB2L := Lib.hid hb2l
  clear hk hall hm hlf hml hl1 hl2 hx hy hb2 halll hb2l
  go_enter Tryd.func17, Tryd.ntmps17
  go_wp2_with fail
  refine named_world ?_
  intro w0 hw0
  have hbx : Blk w0 w.heap.size (nums .u8 x) 25 := by rw [hw0]; exact (((Blk.new' _ _ _ _ _ rfl rfl).alloc _).alloc _).alloc _
  have hby : Blk w0 (w.heap.size + 1) (nums .u8 y) 25 := by rw [hw0]; exact ((Blk.new' _ _ _ _ _ rfl (by simp)).alloc _).alloc _
  have hbr : Blk w0 (w.heap.size + 1 + 1) (nums .u8 (List.replicate 32 0)) 25 := by rw [hw0]; exact (Blk.new' _ _ _ _ _ rfl (by simp)).alloc _
  have hbb : Blk w0 (w.heap.size + 1 + 1 + 1) (nums .u8 (1 :: List.replicate 64 0)) 49 := by rw [hw0]; exact Blk.new' _ _ _ _ _ (by kernel_rfl) (by simp)
  have hB0 : Below w.heap.size w w0 := by rw [hw0]; exact ((((Below.refl _ _).alloc (Nat.le_refl _) _).alloc (by simp) _).alloc (by simp; omega) _).alloc (by simp; omega) _
  clear hw0
  have hB0 := hB0.drew
  have hbx := hbx.drew
  have hby := hby.drew
  have hbr := hbr.drew
  have hbb := hbb.drew
  refine wp_region_C (Same [] w0) [2] (by kernel_rfl) (by kernel_rfl) (by intro c a w h; first | (obtain ⟨_, h, _⟩ := h; cases h; done) | (obtain ⟨_, _, h, _⟩ := h; cases h; done)) (by intro a w h; first | (obtain ⟨h, _⟩ := h; cases h; done) | (obtain ⟨_, h, _⟩ := h; cases h; done)) (Same.refl _ _) ?_
  repeat (refine wd_w (v := ?_) rfl rfl rfl rfl rfl rfl (fun w' hw' K hK => ?_) ?_; rotate_left; (skip; go_wp2_with ((first | (apply st_fromArr (i := 1); exact Tryd.underlying49; kernel_rfl; rfl; rfl; rfl; decide) | (apply st_allArr; exact Tryd.underlying25; kernel_rfl; rfl))); exact rfl); simp only [Act.put, List.setIfInBounds_toArray, List.set_cons_zero, List.set_cons_succ])
  refine wd_last rfl (by kernel_rfl) rfl (by intro a w h; first | (obtain ⟨h, _⟩ := h; cases h; done) | (obtain ⟨_, h, _⟩ := h; cases h; done)) ?_
  go_wp2_with (apply st_copyW (m := 32) (cs := nums .u8 x) (cur := nums .u8 (1 :: List.replicate 64 0)) (T := 49); exact Tryd.underlying32; kernel_rfl; rfl; rfl; exact hbb; (rw [nums_length, HX.out]); rfl; (intro j v hv; rw [Nat.zero_add, hbx.cell]; exact hv); decide; exact nums_one _ _; intro w2 hb2 hw2; rw [HL1.out] at hb2)
  simp only [Act.put, List.setIfInBounds_toArray, List.set_cons_zero, List.set_cons_succ]
  have hB2 := Wrote.below hB0 hw2 (by omega)
  have hby2 := hw2.blk hby (by omega)
  have hbr2 := hw2.blk hbr (by omega)
  have hB2 := hB2.drew
  have hb2 := hb2.drew
  have hby2 := hby2.drew
  have hbr2 := hbr2.drew
  clear hbb hbx hby hbr
  refine wp_region_C (Same [] w2) [2] (by kernel_rfl) (by kernel_rfl) (by intro c a w h; first | (obtain ⟨_, h, _⟩ := h; cases h; done) | (obtain ⟨_, _, h, _⟩ := h; cases h; done)) (by intro a w h; first | (obtain ⟨h, _⟩ := h; cases h; done) | (obtain ⟨_, h, _⟩ := h; cases h; done)) (Same.refl _ _) ?_
  repeat (refine wd_w (v := ?_) rfl rfl rfl rfl rfl rfl (fun w' hw' K hK => ?_) ?_; rotate_left; (skip; go_wp2_with ((first | (apply st_fromArr (i := 33); exact Tryd.underlying49; kernel_rfl; rfl; rfl; rfl; decide) | (apply st_allArr; exact Tryd.underlying25; kernel_rfl; rfl))); exact rfl); simp only [Act.put, List.setIfInBounds_toArray, List.set_cons_zero, List.set_cons_succ])
  refine wd_last rfl (by kernel_rfl) rfl (by intro a w h; first | (obtain ⟨h, _⟩ := h; cases h; done) | (obtain ⟨_, h, _⟩ := h; cases h; done)) ?_
  go_wp2_with (apply st_copyW (m := 32) (cs := nums .u8 y) (cur := nums .u8 b2) (T := 49); exact Tryd.underlying32; kernel_rfl; rfl; rfl; exact hb2; (rw [nums_length, HY.out]); rfl; (intro j v hv; rw [Nat.zero_add, hby2.cell]; exact hv); (rw [nums_length, HB2L.out]; decide); exact nums_one _ _; intro w3 hb3 hw3; (have hb3 := (show Blk w3 _ (laid (nums .u8 b2) 33 (nums .u8 y)) _ from hb3); rw [HL2.out] at hb3))
  have hB3 := Wrote.below hB2 hw3 (by omega)
  have hbr3 := hw3.blk hbr2 (by omega)
  go_at_call 35
  have hcall := sum_any w3 all (some ⟨w.heap.size + 1 + 1 + 1, 0, none⟩) 65 (Rd.ofBlk hb3) (by rw [HALL.out]; decide) (fun h => by cases h) (by rw [HALL.out]; decide) (HK.out.below hB3 HK.out.lt)
  rw [HALL.out] at hcall; refine hcall.mono ?_; clear hcall
  rintro e w4 ⟨rfl, hb4⟩
  have hB4 := hB3.trans (hb4.mono hB3.size)
  have hr4 := hbr3.up hb4
  go_wp2_with fail
  go_at_call 24
  have hcall := cut_any w4 (sumF all) (sumF_len _) z
  rw [HLF.out] at hcall; refine hcall.mono ?_; clear hcall
  rintro e w5 ⟨rfl, hb5⟩
  have hB5 := hB4.trans (hb5.mono hB4.size)
  have hr5 := hr4.up hb5
  go_wp2_with (apply st_storeW (off := 0) (vs := nums .u8 (m)) (cs := nums .u8 (List.replicate 32 0)) (T := 25); rfl; rfl; exact hr5; (rw [nums_length, HML.out]; kernel_rfl); (rw [nums_length, HML.out]; decide); exact nums_one _ _; intro w6 hd6 hw6; rw [laid_all _ _ (by rw [nums_length, HML.out]; rfl)] at hd6)
  refine bodyPost_ret (ret_row rfl _ _ _ (nums .u8 (m)) 25 _ rfl hd6 Tryd.underlying25 rfl (by rw [nums_length, HML.out]; kernel_rfl)) rfl ⟨rfl, Wrote.below hB5 hw6 (by omega)⟩

set_option maxHeartbeats 4000000 in
theorem refnode_any (w : World) (x y : List Int) (hx : x.length = 32) (hy : y.length = 32) (ux : U8 x) (uy : U8 y) (z : Int) :
    Calls Tryd.prog 23 #[.agg (nums .u8 x).toArray, .agg (nums .u8 y).toArray, .int .i64 z] w fun e w' => e = .returned (.agg (nums .u8 (nodeF x y z)).toArray) ∧ Below w.heap.size w w' := by
  obtain ⟨all, hall⟩ : ∃ all, all = ([1] ++ x) ++ y := ⟨_, rfl⟩
  have halll : all.length ≤ 65 := by rw [hall]; simp [hx, hy]
  have hallu : U8 all := by rw [hall]; exact ((u8_cons 1 (by omega) U8.nil).append ux).append uy
  obtain ⟨m, hm⟩ : ∃ m, m = nodeF x y z := ⟨_, rfl⟩
  have hlf : cutF (sumF all) z = m := by rw [hm, hall]; rfl
  have hml : m.length = 32 := by rw [hm, nodeF_len]
  rw [← hm]
  obtain ⟨b2, hb2⟩ : ∃ b2, b2 = [1] ++ x := ⟨_, rfl⟩
  have hb2l : b2.length = 33 := by rw [hb2]; simp [hx]
  rw [← hb2] at hall
  have HX := Lib.hid hx
  have HY := Lib.hid hy
  have HML := Lib.hid hml
  have HLF := Lib.hid hlf
  have HALL := Lib.hid halll
  have HB2L := Lib.hid hb2l
  have HB2 := Lib.hid hb2
  have HALLE := Lib.hid hall
  have HU := Lib.hid hallu
  clear hall hm hlf hml hx hy hb2 halll hb2l hallu
  have hbx : Blk (w.alloc (.cells (nums .u8 x).toArray 25)) w.heap.size (nums .u8 x) 25 := Blk.new' _ _ _ _ _ rfl rfl
  have hby : Blk ((w.alloc (.cells (nums .u8 x).toArray 25)).alloc (.cells (nums .u8 y).toArray 25)) (w.heap.size + 1) (nums .u8 y) 25 := Blk.new' _ _ _ _ _ rfl (by simp)
  have hB0 := ((Below.refl w.heap.size w).alloc (Nat.le_refl _) (.cells (nums .u8 x).toArray 25)).alloc (by simp) (.cells (nums .u8 y).toArray 25)
  have hbx := hbx.alloc (.cells (nums .u8 y).toArray 25)
  have hbr : Blk (((w.alloc (.cells (nums .u8 x).toArray 25)).alloc (.cells (nums .u8 y).toArray 25)).alloc (.cells (nums .u8 (List.replicate 32 0)).toArray 25)) (w.heap.size + 1 + 1) (nums .u8 (List.replicate 32 0)) 25 := Blk.new' _ _ _ _ _ rfl (by simp)
  have hbx := hbx.alloc (.cells (nums .u8 (List.replicate 32 0)).toArray 25)
  have hby := hby.alloc (.cells (nums .u8 (List.replicate 32 0)).toArray 25)
  have hB0 := hB0.alloc (by simp; omega) (.cells (nums .u8 (List.replicate 32 0)).toArray 25)
  obtain ⟨w0, hw0⟩ : ∃ w0, w0 = ((w.alloc (.cells (nums .u8 x).toArray 25)).alloc (.cells (nums .u8 y).toArray 25)).alloc (.cells (nums .u8 (List.replicate 32 0)).toArray 25) := ⟨_, rfl⟩
  have hz0 : w0.heap.size = w.heap.size + 1 + 1 + 1 := by rw [hw0]; simp
  have HW0 := Lib.hid hw0
  rw [← hw0] at hbx hby hbr hB0
  have ho0 : Own (w0.alloc (.cells (nums .u8 [1]).toArray 5)) (w.heap.size + 1 + 1 + 1) (.slice (some ⟨w.heap.size + 1 + 1 + 1, 0, none⟩) 1 1) [1] := Own.ofBlk (Blk.new' _ _ _ 5 _ rfl hz0.symm) (Nat.le_refl _) (by decide)
  have hb1x := hbx.alloc (.cells (nums .u8 [1]).toArray 5)
  have hb1y := hby.alloc (.cells (nums .u8 [1]).toArray 5)
  have hb1r := hbr.alloc (.cells (nums .u8 [1]).toArray 5)
  have hB1 := hB0.alloc (by omega) (.cells (nums .u8 [1]).toArray 5)
  have hz1 : (w0.alloc (.cells (nums .u8 [1]).toArray 5)).heap.size = w.heap.size + 1 + 1 + 1 + 1 := by rw [World.size_alloc, hz0]
  have hu1 : (w0.alloc (.cells (nums .u8 [1]).toArray 5)) = (((w.alloc (.cells (nums .u8 x).toArray 25)).alloc (.cells (nums .u8 y).toArray 25)).alloc (.cells (nums .u8 (List.replicate 32 0)).toArray 25)).alloc (.cells (nums .u8 [1]).toArray 5) := by rw [hw0]
  rw [hu1] at ho0 hb1x hb1y hb1r hB1 hz1
  clear hw0 hu1 hz0 hbx hby hbr hB0
  go_enter Tryd.func23, Tryd.ntmps23
  go_wp2_with (first
    | (apply st_allArr; exact Tryd.underlying25; kernel_rfl; rfl)
    | (apply st_append (v := .slice (some ⟨w.heap.size + 1 + 1 + 1, 0, none⟩) 1 1) (xs := [1]) (ys := x); rfl; (rw [HX.out]; rfl); exact ho0; (intro h; cases h); exact Rd.ofBlk hb1x; (rw [HX.out]; decide); exact hb1r.lt; intro v2 w2 ho2 hg2; rw [← HB2.out] at ho2; have hB2 := below_grown hB1 ho0 hg2 (by omega) hb1r.lt; have hr2 := hb1r.grown hg2 (by simp [Value.ownBlock]); have hy2 := hb1y.grown hg2 (by simp [Value.ownBlock]))
    | (apply st_append (v := v2) (xs := b2) (ys := y); rfl; (rw [HY.out]; rfl); exact ho2; (intro h; cases h); exact Rd.ofBlk hy2; (rw [HB2L.out, HY.out]; decide); exact hr2.lt; intro v3 w3 ho3 hg3; rw [← HALLE.out] at ho3))
  have hB3 := below_grown hB2 ho2 hg3 (by omega) hr2.lt
  have hr3 := hr2.grown hg3 (fun h => by have := (ho2.lt _ h.symm).1; omega)
  obtain ⟨A3, c3, rfl, h3, hc3, hR3, hx3⟩ := ho3.from
  go_at_call 36
  refine (refsum_any w3 all A3 c3 hR3 hc3 (by have := HALL.out; omega) HU.out).mono ?_
  rintro e w4 ⟨rfl, hb4⟩
  have hB4 := hB3.trans (hb4.mono hB3.size)
  have hr4 := hr3.up hb4
  go_wp2_with fail
  go_at_call 25
  have hcall := refcutd_any w4 (sumF all) (sumF_len _) (sumF_range _) z
  rw [HLF.out] at hcall; refine hcall.mono ?_; clear hcall
  rintro e w5 ⟨rfl, hb5⟩
  have hB5 := hB4.trans (hb5.mono hB4.size)
  have hr5 := hr4.up hb5
  go_wp2_with (apply st_storeW (off := 0) (vs := nums .u8 (m)) (cs := nums .u8 (List.replicate 32 0)) (T := 25); rfl; rfl; exact hr5; (rw [nums_length, HML.out]; kernel_rfl); (rw [nums_length, HML.out]; decide); exact nums_one _ _; intro w6 hd6 hw6; rw [laid_all _ _ (by rw [nums_length, HML.out]; rfl)] at hd6)
  refine bodyPost_ret (ret_row rfl _ _ _ (nums .u8 (m)) 25 _ rfl hd6 Tryd.underlying25 rfl (by rw [nums_length, HML.out]; kernel_rfl)) rfl ⟨rfl, Wrote.below hB5 hw6 (by omega)⟩
end Go.Proofs.YtipigpeccegjgaaDoor
