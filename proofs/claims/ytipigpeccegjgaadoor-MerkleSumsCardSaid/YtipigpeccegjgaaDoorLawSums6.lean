/- That inquestlaw06.MerkleSums returns true. Condition: the table of layer 2 reads as its text lays it. -/
import Derived.Test.YtipigpeccegjgaaDoorLawRoots
import Derived.Test.YtipigpeccegjgaaDoorGuardW
namespace Go.Proofs.YtipigpeccegjgaaDoor
open Go.RowKit

set_option maxHeartbeats 8000000 in
set_option maxRecDepth 100000 in
theorem lawsums_any (w : World) (bs0 : List Int) (A : Option Addr) (c : Nat) (hr : Rd w A (nums .u8 bs0)) (hc : bs0.length ≤ c) (hA : A = none → c = 0) (hu : U8 bs0)
    (x : List Int) (hx : x.length = 32) (ux : U8 x) (y : List Int) (hy : y.length = 32) (uy : U8 y) (z : Int) (n : Int) (hlo : -9223372036854775808 ≤ n) (hhi : n ≤ 9223372036854775807) (hk : KV w) :
    Calls Tryd.prog 5 #[.slice A bs0.length c, .agg (nums .u8 x).toArray, .agg (nums .u8 y).toArray, .int .i64 z, .int .i64 n] w fun e w' => e = .returned (.bool true) ∧ Below w.heap.size w w' := by
  obtain ⟨bs, hbl, _, hK, HCUT1⟩ := (Byt.mk hr hc hA hu).cut 500 500 rfl
  have HK := Lib.hid hk
  have hsub1 := fun w => split_any w n hhi hlo
  have hsub2 := fun w => refsplit_any w n hhi hlo
  obtain ⟨s, hs⟩ : ∃ s, s = splitF n := ⟨_, rfl⟩
  rw [← hs] at hsub1 hsub2
  have HS1 := Lib.hid hsub1
  have HS2 := Lib.hid hsub2
  obtain ⟨m1, hm1⟩ : ∃ m1, m1 = leafF bs z := ⟨_, rfl⟩
  have hlm1 : m1.length = 32 := by rw [hm1]; exact leafF_len bs z
  have hem1 := run_eql_nums (P := Tryd.prog) (t := 25) Tryd.underlying25 Tryd.underlying5 (by kernel_rfl) (by kernel_rfl) m1 m1 hlm1 hlm1
  rw [decide_eq_true rfl] at hem1
  obtain ⟨m2, hm2⟩ : ∃ m2, m2 = nodeF x y z := ⟨_, rfl⟩
  have hlm2 : m2.length = 32 := by rw [hm2]; exact nodeF_len x y z
  have hem2 := run_eql_nums (P := Tryd.prog) (t := 25) Tryd.underlying25 Tryd.underlying5 (by kernel_rfl) (by kernel_rfl) m2 m2 hlm2 hlm2
  rw [decide_eq_true rfl] at hem2
  obtain ⟨m3, hm3⟩ : ∃ m3, m3 = cutF x z := ⟨_, rfl⟩
  have hlm3 : m3.length = 32 := by rw [hm3]; exact (cutF_len x z).trans hx
  have hem3 := run_eql_nums (P := Tryd.prog) (t := 25) Tryd.underlying25 Tryd.underlying5 (by kernel_rfl) (by kernel_rfl) m3 m3 hlm3 hlm3
  rw [decide_eq_true rfl] at hem3
  have hc1 := fun (w : World) (A : Option Addr) (c : Nat) (h : Byt w A c bs) => leaf_any w bs A c h (by omega) z
  have hc2 := fun (w : World) (A : Option Addr) (c : Nat) (h : Byt w A c bs) => refleaf_any w bs A c h (by omega) z
  have hc3 := fun (w : World) => node_any w x y hx hy z
  have hc4 := fun (w : World) => refnode_any w x y hx hy ux uy z
  have hc5 := fun (w : World) => cut_any w x hx z
  have hc6 := fun (w : World) => refcutd_any w x hx ux z
  rw [← hm1] at hc1 hc2
  rw [← hm2] at hc3 hc4
  rw [← hm3] at hc5 hc6
  have HC1 := Lib.hid hc1
  have HC2 := Lib.hid hc2
  have HC3 := Lib.hid hc3
  have HC4 := Lib.hid hc4
  have HC5 := Lib.hid hc5
  have HC6 := Lib.hid hc6
  have HEm1 := Lib.hid hem1
  have HEm2 := Lib.hid hem2
  have HEm3 := Lib.hid hem3
  have HX := Lib.hid hx
  have HY := Lib.hid hy
  clear hk hr hc hA hu hsub1 hsub2 hs hm1 hm2 hm3 hlm1 hlm2 hlm3 hem1 hem2 hem3 hc1 hc2 hc3 hc4 hc5 hc6 hx hy ux uy
  go_enter Tryd.func5, Tryd.ntmps5
  go_wp2_with fail
  go_at_call 18
  refine (HCUT1.out _).mono ?_
  rintro e w0 ⟨rfl, hw0⟩
  have hbx : Blk w0 w.heap.size (nums .u8 x) 25 := by rw [← hw0]; exact (Blk.new' _ _ _ _ _ rfl rfl).alloc _
  have hby : Blk w0 (w.heap.size + 1) (nums .u8 y) 25 := by rw [← hw0]; exact Blk.new' _ _ _ _ _ rfl (by simp)
  have hB0 : Below w.heap.size w w0 := by rw [← hw0]; exact ((Below.refl _ _).alloc (Nat.le_refl _) _).alloc (by simp) _
  clear hw0
  have hK0 := hK.up hB0
  go_wp2_with fail
  go_at_call 19
  refine (refcopy_any w0 A c bs hK.nn hK0.rd (by omega)).mono ?_
  rintro e w1 ⟨v1, rfl, hb1, ho1⟩
  obtain ⟨A1, c1, rfl, h1, hx1⟩ := ho1.byt hK.u
  have hbx := (hbx.up hb1).drew
  have hby := (hby.up hb1).drew
  have hB1 := (hB0.trans (hb1.mono hB0.size)).drew
  have hC1 : Below w1.heap.size w1 w1.drew := (Below.refl _ _).drew
  have hz1 : w.heap.size + 1 < w1.heap.size := hby.lt
  have hS1 : Same [w.heap.size, w.heap.size + 1] w1 w1.drew := Same.refl _ _
  go_wp2_with fail
  refine wp_region_C (Same [w.heap.size, w.heap.size + 1] w1) [2, 5, 10, 16, 20, 26, 29, 34, 36, 40] (by kernel_rfl) (by kernel_rfl) (by intro c a w h; first | (obtain ⟨_, h, _⟩ := h; cases h; done) | (obtain ⟨_, _, h, _⟩ := h; cases h; done)) (by intro a w h; first | (obtain ⟨h, _⟩ := h; cases h; done) | (obtain ⟨_, h, _⟩ := h; cases h; done)) (Same.refl _ _) ?_
  have hss : (s == s) = true := by simp
  repeat (refine wd_wg (v := ?_) rfl rfl rfl rfl rfl rfl (fun w' hw' K hK => ?_) ?_; rotate_left; (have e1 := hw'.blk hbx (by simp); have e2 := hw'.blk hby (by simp); go_wp2_with ((first | (apply st_load (n := 32) (cs := nums .u8 x) (T := 25); rfl; exact e1; exact Tryd.underlying25; rfl; kernel_rfl; (rw [nums_length, HX.out]; exact Nat.le_refl _); (exact row_all _ _ (by rw [nums_length, HX.out]))) | (apply st_load (n := 32) (cs := nums .u8 y) (T := 25); rfl; exact e2; exact Tryd.underlying25; rfl; kernel_rfl; (rw [nums_length, HY.out]; exact Nat.le_refl _); (exact row_all _ _ (by rw [nums_length, HY.out]))))); exact rfl); simp only [Act.put, List.setIfInBounds_toArray, List.set_cons_zero, List.set_cons_succ])
  refine wd_l rfl rfl (by intro a w h; first | (obtain ⟨h, _⟩ := h; cases h; done) | (obtain ⟨_, h, _⟩ := h; cases h; done)) ?_
  go_wp2_with fail
  go_at_call 20
  refine (HC1.out _ A1 c1 (h1.up hC1) (HK.out.below hB1 HK.out.lt)).mono ?_
  rintro e w2 ⟨rfl, hb2⟩
  have hB2 := hB1.trans (hb2.mono hB1.size)
  have hC2 := hC1.trans (hb2.mono hC1.size)
  have hS2 := hS1.below hb2 (by simp; omega)
  have hz2 : w.heap.size + 1 < w2.heap.size := Nat.lt_of_lt_of_le hz1 hb2.size
  go_wp2_with fail
  refine ⟨.inr hS2, ?_⟩
  repeat (refine wd_wg (v := ?_) rfl rfl rfl rfl rfl rfl (fun w' hw' K hK => ?_) ?_; rotate_left; (have e1 := hw'.blk hbx (by simp); have e2 := hw'.blk hby (by simp); go_wp2_with ((first | (apply st_load (n := 32) (cs := nums .u8 x) (T := 25); rfl; exact e1; exact Tryd.underlying25; rfl; kernel_rfl; (rw [nums_length, HX.out]; exact Nat.le_refl _); (exact row_all _ _ (by rw [nums_length, HX.out]))) | (apply st_load (n := 32) (cs := nums .u8 y) (T := 25); rfl; exact e2; exact Tryd.underlying25; rfl; kernel_rfl; (rw [nums_length, HY.out]; exact Nat.le_refl _); (exact row_all _ _ (by rw [nums_length, HY.out]))))); exact rfl); simp only [Act.put, List.setIfInBounds_toArray, List.set_cons_zero, List.set_cons_succ])
  refine wd_l rfl rfl (by intro a w h; first | (obtain ⟨h, _⟩ := h; cases h; done) | (obtain ⟨_, h, _⟩ := h; cases h; done)) ?_
  go_wp2_with fail
  go_at_call 21
  refine (HC2.out _ A c (hK.up hB2)).mono ?_
  rintro e w3 ⟨rfl, hb3⟩
  have hB3 := hB2.trans (hb3.mono hB2.size)
  have hC3 := hC2.trans (hb3.mono hC2.size)
  have hS3 := hS2.below hb3 (by simp; omega)
  have hz3 : w.heap.size + 1 < w3.heap.size := Nat.lt_of_lt_of_le hz2 hb3.size
  go_wp2_with fail
  refine ⟨.inr hS3, ?_⟩
  have he1 := HEm1.out
  repeat (refine wd_wg (v := ?_) rfl rfl rfl rfl rfl rfl (fun w' hw' K hK => ?_) ?_; rotate_left; (have e3 := he1; have e1 := hw'.blk hbx (by simp); have e2 := hw'.blk hby (by simp); go_wp2_with ((first | (apply st_load (n := 32) (cs := nums .u8 x) (T := 25); rfl; exact e1; exact Tryd.underlying25; rfl; kernel_rfl; (rw [nums_length, HX.out]; exact Nat.le_refl _); (exact row_all _ _ (by rw [nums_length, HX.out]))) | (apply st_load (n := 32) (cs := nums .u8 y) (T := 25); rfl; exact e2; exact Tryd.underlying25; rfl; kernel_rfl; (rw [nums_length, HY.out]; exact Nat.le_refl _); (exact row_all _ _ (by rw [nums_length, HY.out]))))); exact rfl); simp only [Act.put, List.setIfInBounds_toArray, List.set_cons_zero, List.set_cons_succ])
  refine wd_lg rfl rfl (by intro a w h; first | (obtain ⟨h, _⟩ := h; cases h; done) | (obtain ⟨_, h, _⟩ := h; cases h; done)) ?_
  go_wp2_with fail
  go_at_call 22
  have hcall := refsame_any w3 A1 A c1 c bs bs (h1.up hC3).rd (hK.up hB3).rd (by omega)
  rw [decide_eq_true rfl] at hcall
  refine hcall.mono ?_; clear hcall
  rintro e w4 ⟨rfl, hb4⟩
  have hB4 := hB3.trans (hb4.mono hB3.size)
  have hC4 := hC3.trans (hb4.mono hC3.size)
  have hS4 := hS3.below hb4 (by simp; omega)
  have hz4 : w.heap.size + 1 < w4.heap.size := Nat.lt_of_lt_of_le hz3 hb4.size
  go_wp2_with fail
  refine ⟨.inr hS4, ?_⟩
  refine wd_pick (b := true) (v := .bool true) rfl rfl rfl rfl rfl ?_
  simp only [Act.put, List.setIfInBounds_toArray, List.set_cons_zero, List.set_cons_succ]
  repeat (refine wd_wg (v := ?_) rfl rfl rfl rfl rfl rfl (fun w' hw' K hK => ?_) ?_; rotate_left; (have e1 := hw'.blk hbx (by simp); have e2 := hw'.blk hby (by simp); go_wp2_with ((first | (apply st_load (n := 32) (cs := nums .u8 x) (T := 25); rfl; exact e1; exact Tryd.underlying25; rfl; kernel_rfl; (rw [nums_length, HX.out]; exact Nat.le_refl _); (exact row_all _ _ (by rw [nums_length, HX.out]))) | (apply st_load (n := 32) (cs := nums .u8 y) (T := 25); rfl; exact e2; exact Tryd.underlying25; rfl; kernel_rfl; (rw [nums_length, HY.out]; exact Nat.le_refl _); (exact row_all _ _ (by rw [nums_length, HY.out]))))); exact rfl); simp only [Act.put, List.setIfInBounds_toArray, List.set_cons_zero, List.set_cons_succ])
  refine wd_lg rfl rfl (by intro a w h; first | (obtain ⟨h, _⟩ := h; cases h; done) | (obtain ⟨_, h, _⟩ := h; cases h; done)) ?_
  go_wp2_with fail
  go_at_call 17
  refine (HC3.out _ (HK.out.below hB4 HK.out.lt)).mono ?_
  rintro e w5 ⟨rfl, hb5⟩
  have hB5 := hB4.trans (hb5.mono hB4.size)
  have hC5 := hC4.trans (hb5.mono hC4.size)
  have hS5 := hS4.below hb5 (by simp; omega)
  have hz5 : w.heap.size + 1 < w5.heap.size := Nat.lt_of_lt_of_le hz4 hb5.size
  go_wp2_with fail
  refine ⟨.inr hS5, ?_⟩
  repeat (refine wd_wg (v := ?_) rfl rfl rfl rfl rfl rfl (fun w' hw' K hK => ?_) ?_; rotate_left; (have e1 := hw'.blk hbx (by simp); have e2 := hw'.blk hby (by simp); go_wp2_with ((first | (apply st_load (n := 32) (cs := nums .u8 x) (T := 25); rfl; exact e1; exact Tryd.underlying25; rfl; kernel_rfl; (rw [nums_length, HX.out]; exact Nat.le_refl _); (exact row_all _ _ (by rw [nums_length, HX.out]))) | (apply st_load (n := 32) (cs := nums .u8 y) (T := 25); rfl; exact e2; exact Tryd.underlying25; rfl; kernel_rfl; (rw [nums_length, HY.out]; exact Nat.le_refl _); (exact row_all _ _ (by rw [nums_length, HY.out]))))); exact rfl); simp only [Act.put, List.setIfInBounds_toArray, List.set_cons_zero, List.set_cons_succ])
  refine wd_lg rfl rfl (by intro a w h; first | (obtain ⟨h, _⟩ := h; cases h; done) | (obtain ⟨_, h, _⟩ := h; cases h; done)) ?_
  go_wp2_with fail
  go_at_call 23
  refine (HC4.out _).mono ?_
  rintro e w6 ⟨rfl, hb6⟩
  have hB6 := hB5.trans (hb6.mono hB5.size)
  have hC6 := hC5.trans (hb6.mono hC5.size)
  have hS6 := hS5.below hb6 (by simp; omega)
  have hz6 : w.heap.size + 1 < w6.heap.size := Nat.lt_of_lt_of_le hz5 hb6.size
  go_wp2_with fail
  refine ⟨.inr hS6, ?_⟩
  have he2 := HEm2.out
  repeat (refine wd_wg (v := ?_) rfl rfl rfl rfl rfl rfl (fun w' hw' K hK => ?_) ?_; rotate_left; (have e3 := he2; have e1 := hw'.blk hbx (by simp); have e2 := hw'.blk hby (by simp); go_wp2_with ((first | (apply st_load (n := 32) (cs := nums .u8 x) (T := 25); rfl; exact e1; exact Tryd.underlying25; rfl; kernel_rfl; (rw [nums_length, HX.out]; exact Nat.le_refl _); (exact row_all _ _ (by rw [nums_length, HX.out]))) | (apply st_load (n := 32) (cs := nums .u8 y) (T := 25); rfl; exact e2; exact Tryd.underlying25; rfl; kernel_rfl; (rw [nums_length, HY.out]; exact Nat.le_refl _); (exact row_all _ _ (by rw [nums_length, HY.out]))))); exact rfl); simp only [Act.put, List.setIfInBounds_toArray, List.set_cons_zero, List.set_cons_succ])
  refine wd_pick (b := true) (v := .bool true) rfl rfl rfl rfl rfl ?_
  simp only [Act.put, List.setIfInBounds_toArray, List.set_cons_zero, List.set_cons_succ]
  repeat (refine wd_wg (v := ?_) rfl rfl rfl rfl rfl rfl (fun w' hw' K hK => ?_) ?_; rotate_left; (have e1 := hw'.blk hbx (by simp); have e2 := hw'.blk hby (by simp); go_wp2_with ((first | (apply st_load (n := 32) (cs := nums .u8 x) (T := 25); rfl; exact e1; exact Tryd.underlying25; rfl; kernel_rfl; (rw [nums_length, HX.out]; exact Nat.le_refl _); (exact row_all _ _ (by rw [nums_length, HX.out]))) | (apply st_load (n := 32) (cs := nums .u8 y) (T := 25); rfl; exact e2; exact Tryd.underlying25; rfl; kernel_rfl; (rw [nums_length, HY.out]; exact Nat.le_refl _); (exact row_all _ _ (by rw [nums_length, HY.out]))))); exact rfl); simp only [Act.put, List.setIfInBounds_toArray, List.set_cons_zero, List.set_cons_succ])
  refine wd_lg rfl rfl (by intro a w h; first | (obtain ⟨h, _⟩ := h; cases h; done) | (obtain ⟨_, h, _⟩ := h; cases h; done)) ?_
  go_wp2_with fail
  go_at_call 24
  refine (HC5.out _).mono ?_
  rintro e w7 ⟨rfl, hb7⟩
  have hB7 := hB6.trans (hb7.mono hB6.size)
  have hC7 := hC6.trans (hb7.mono hC6.size)
  have hS7 := hS6.below hb7 (by simp; omega)
  have hz7 : w.heap.size + 1 < w7.heap.size := Nat.lt_of_lt_of_le hz6 hb7.size
  go_wp2_with fail
  refine ⟨.inr hS7, ?_⟩
  repeat (refine wd_wg (v := ?_) rfl rfl rfl rfl rfl rfl (fun w' hw' K hK => ?_) ?_; rotate_left; (have e1 := hw'.blk hbx (by simp); have e2 := hw'.blk hby (by simp); go_wp2_with ((first | (apply st_load (n := 32) (cs := nums .u8 x) (T := 25); rfl; exact e1; exact Tryd.underlying25; rfl; kernel_rfl; (rw [nums_length, HX.out]; exact Nat.le_refl _); (exact row_all _ _ (by rw [nums_length, HX.out]))) | (apply st_load (n := 32) (cs := nums .u8 y) (T := 25); rfl; exact e2; exact Tryd.underlying25; rfl; kernel_rfl; (rw [nums_length, HY.out]; exact Nat.le_refl _); (exact row_all _ _ (by rw [nums_length, HY.out]))))); exact rfl); simp only [Act.put, List.setIfInBounds_toArray, List.set_cons_zero, List.set_cons_succ])
  refine wd_lg rfl rfl (by intro a w h; first | (obtain ⟨h, _⟩ := h; cases h; done) | (obtain ⟨_, h, _⟩ := h; cases h; done)) ?_
  go_wp2_with fail
  go_at_call 25
  refine (HC6.out _).mono ?_
  rintro e w8 ⟨rfl, hb8⟩
  have hB8 := hB7.trans (hb8.mono hB7.size)
  have hC8 := hC7.trans (hb8.mono hC7.size)
  have hS8 := hS7.below hb8 (by simp; omega)
  have hz8 : w.heap.size + 1 < w8.heap.size := Nat.lt_of_lt_of_le hz7 hb8.size
  go_wp2_with fail
  refine ⟨.inr hS8, ?_⟩
  have he3 := HEm3.out
  repeat (refine wd_wg (v := ?_) rfl rfl rfl rfl rfl rfl (fun w' hw' K hK => ?_) ?_; rotate_left; (have e3 := he3; have e1 := hw'.blk hbx (by simp); have e2 := hw'.blk hby (by simp); go_wp2_with ((first | (apply st_load (n := 32) (cs := nums .u8 x) (T := 25); rfl; exact e1; exact Tryd.underlying25; rfl; kernel_rfl; (rw [nums_length, HX.out]; exact Nat.le_refl _); (exact row_all _ _ (by rw [nums_length, HX.out]))) | (apply st_load (n := 32) (cs := nums .u8 y) (T := 25); rfl; exact e2; exact Tryd.underlying25; rfl; kernel_rfl; (rw [nums_length, HY.out]; exact Nat.le_refl _); (exact row_all _ _ (by rw [nums_length, HY.out]))))); exact rfl); simp only [Act.put, List.setIfInBounds_toArray, List.set_cons_zero, List.set_cons_succ])
  refine wd_pick (b := true) (v := .bool true) rfl rfl rfl rfl rfl ?_
  simp only [Act.put, List.setIfInBounds_toArray, List.set_cons_zero, List.set_cons_succ]
  repeat (refine wd_wg (v := ?_) rfl rfl rfl rfl rfl rfl (fun w' hw' K hK => ?_) ?_; rotate_left; (have e1 := hw'.blk hbx (by simp); have e2 := hw'.blk hby (by simp); go_wp2_with ((first | (apply st_load (n := 32) (cs := nums .u8 x) (T := 25); rfl; exact e1; exact Tryd.underlying25; rfl; kernel_rfl; (rw [nums_length, HX.out]; exact Nat.le_refl _); (exact row_all _ _ (by rw [nums_length, HX.out]))) | (apply st_load (n := 32) (cs := nums .u8 y) (T := 25); rfl; exact e2; exact Tryd.underlying25; rfl; kernel_rfl; (rw [nums_length, HY.out]; exact Nat.le_refl _); (exact row_all _ _ (by rw [nums_length, HY.out]))))); exact rfl); simp only [Act.put, List.setIfInBounds_toArray, List.set_cons_zero, List.set_cons_succ])
  refine wd_lg rfl rfl (by intro a w h; first | (obtain ⟨h, _⟩ := h; cases h; done) | (obtain ⟨_, h, _⟩ := h; cases h; done)) ?_
  go_wp2_with fail
  go_at_call 16
  refine (HS1.out _).mono ?_
  rintro e wz ⟨rfl, rfl⟩
  go_wp2_with fail
  refine ⟨.inr hS8, ?_⟩
  repeat (refine wd_wg (v := ?_) rfl rfl rfl rfl rfl rfl (fun w' hw' K hK => ?_) ?_; rotate_left; (have e1 := hw'.blk hbx (by simp); have e2 := hw'.blk hby (by simp); go_wp2_with ((first | (apply st_load (n := 32) (cs := nums .u8 x) (T := 25); rfl; exact e1; exact Tryd.underlying25; rfl; kernel_rfl; (rw [nums_length, HX.out]; exact Nat.le_refl _); (exact row_all _ _ (by rw [nums_length, HX.out]))) | (apply st_load (n := 32) (cs := nums .u8 y) (T := 25); rfl; exact e2; exact Tryd.underlying25; rfl; kernel_rfl; (rw [nums_length, HY.out]; exact Nat.le_refl _); (exact row_all _ _ (by rw [nums_length, HY.out]))))); exact rfl); simp only [Act.put, List.setIfInBounds_toArray, List.set_cons_zero, List.set_cons_succ])
  refine wd_lg rfl rfl (by intro a w h; first | (obtain ⟨h, _⟩ := h; cases h; done) | (obtain ⟨_, h, _⟩ := h; cases h; done)) ?_
  go_wp2_with fail
  go_at_call 26
  refine (HS2.out _).mono ?_
  rintro e wz ⟨rfl, rfl⟩
  go_wp2_with fail
  refine ⟨.inr hS8, ?_⟩
  repeat (refine wd_wg (v := ?_) rfl rfl rfl rfl rfl rfl (fun w' hw' K hK => ?_) ?_; rotate_left; (have e3 := hss; have e1 := hw'.blk hbx (by simp); have e2 := hw'.blk hby (by simp); go_wp2_with ((first | (apply st_load (n := 32) (cs := nums .u8 x) (T := 25); rfl; exact e1; exact Tryd.underlying25; rfl; kernel_rfl; (rw [nums_length, HX.out]; exact Nat.le_refl _); (exact row_all _ _ (by rw [nums_length, HX.out]))) | (apply st_load (n := 32) (cs := nums .u8 y) (T := 25); rfl; exact e2; exact Tryd.underlying25; rfl; kernel_rfl; (rw [nums_length, HY.out]; exact Nat.le_refl _); (exact row_all _ _ (by rw [nums_length, HY.out]))))); exact rfl); simp only [Act.put, List.setIfInBounds_toArray, List.set_cons_zero, List.set_cons_succ])
  refine wd_pick (b := true) (v := .bool true) rfl rfl rfl rfl rfl ?_
  simp only [Act.put, List.setIfInBounds_toArray, List.set_cons_zero, List.set_cons_succ]
  repeat (refine wd_wg (v := ?_) rfl rfl rfl rfl rfl rfl (fun w' hw' K hK => ?_) ?_; rotate_left; (have e1 := hw'.blk hbx (by simp); have e2 := hw'.blk hby (by simp); go_wp2_with ((first | (apply st_load (n := 32) (cs := nums .u8 x) (T := 25); rfl; exact e1; exact Tryd.underlying25; rfl; kernel_rfl; (rw [nums_length, HX.out]; exact Nat.le_refl _); (exact row_all _ _ (by rw [nums_length, HX.out]))) | (apply st_load (n := 32) (cs := nums .u8 y) (T := 25); rfl; exact e2; exact Tryd.underlying25; rfl; kernel_rfl; (rw [nums_length, HY.out]; exact Nat.le_refl _); (exact row_all _ _ (by rw [nums_length, HY.out]))))); exact rfl); simp only [Act.put, List.setIfInBounds_toArray, List.set_cons_zero, List.set_cons_succ])
  refine wd_lg rfl rfl (by intro a w h; first | (obtain ⟨h, _⟩ := h; cases h; done) | (obtain ⟨_, h, _⟩ := h; cases h; done)) ?_
  go_wp2_with fail
  go_at_call 15
  refine (lives_any w8 (HK.out.below hB8 HK.out.lt)).mono ?_
  rintro e w9 ⟨rfl, hb9⟩
  have hB9 := hB8.trans (hb9.mono hB8.size)
  have hC9 := hC8.trans (hb9.mono hC8.size)
  have hS9 := hS8.below hb9 (by simp; omega)
  have hz9 : w.heap.size + 1 < w9.heap.size := Nat.lt_of_lt_of_le hz8 hb9.size
  go_wp2_with fail
  refine ⟨.inr hS9, ?_⟩
  refine wd_pick (b := true) (v := .bool true) rfl rfl rfl rfl rfl ?_
  simp only [Act.put, List.setIfInBounds_toArray, List.set_cons_zero, List.set_cons_succ]
  repeat (refine wd_wg (v := ?_) rfl rfl rfl rfl rfl rfl (fun w' hw' K hK => ?_) ?_; rotate_left; (have e1 := hw'.blk hbx (by simp); have e2 := hw'.blk hby (by simp); go_wp2_with ((first | (apply st_load (n := 32) (cs := nums .u8 x) (T := 25); rfl; exact e1; exact Tryd.underlying25; rfl; kernel_rfl; (rw [nums_length, HX.out]; exact Nat.le_refl _); (exact row_all _ _ (by rw [nums_length, HX.out]))) | (apply st_load (n := 32) (cs := nums .u8 y) (T := 25); rfl; exact e2; exact Tryd.underlying25; rfl; kernel_rfl; (rw [nums_length, HY.out]; exact Nat.le_refl _); (exact row_all _ _ (by rw [nums_length, HY.out]))))); exact rfl); simp only [Act.put, List.setIfInBounds_toArray, List.set_cons_zero, List.set_cons_succ])
  refine wd_nil ?_
  go_wp2_with fail
  go_ret
  exact ⟨rfl, hB9⟩
end Go.Proofs.YtipigpeccegjgaaDoor
