/- What clash.Growth answers. Condition: the table of layer 2 reads as its text lays it. -/
import Derived.Test.YtiogopneklmodaaDoorClS
import Derived.Test.YtiogopneklmodaaDoorClPa
namespace Go.Proofs.YtiogopneklmodaaDoor
open Go.RowKit

set_option maxRecDepth 100000 in
set_option maxHeartbeats 16000000 in
theorem clgrowth_any (w : World) (l : List (List Int)) (A : Option Addr) (c : Nat) (hT : Txts w A c l) (hl : l.length ≤ 1000) (hb : ∀ x ∈ l, x.length ≤ 1000) (m : Int) (old : List Int) (hol : old.length = 32) (uol : U8 old) (ps : List (List Int)) (Ap : Option Addr) (cp : Nat) (hP : Dg w Ap cp ps) (hpl : ps.length ≤ 1000) (z : Int) (hk : KV w) :
    Calls Tryd.prog 23 #[.slice A l.length c, .int .i64 m, .agg (nums .u8 old).toArray, .slice Ap ps.length cp, .int .i64 z] w fun e w' => ∃ v, e = .returned v ∧ Below w.heap.size w w' ∧ ClAns w' v (growMust l m old ps z) z := by
  have HK := Lib.hid hk
  obtain ⟨w0, hw0⟩ : ∃ W, W = (w.alloc (.cells (nums .u8 old).toArray 45)).alloc (.cells (clC [] [] none none 0 0).toArray 25) := ⟨_, rfl⟩
  have hx0 : Blk w0 w.heap.size (nums .u8 old) 45 := by rw [hw0]; exact (Blk.new' _ _ _ _ _ rfl rfl).alloc _
  have hr0 : Blk w0 (w.heap.size + 1) (clC [] [] none none 0 0) 25 := by rw [hw0]; exact Blk.new' _ _ _ _ _ rfl (by simp)
  have hB0 : Below w.heap.size w w0 := by rw [hw0]; exact ((Below.refl _ _).alloc (Nat.le_refl _) _).alloc (by simp) _
  have hw0' : (w.alloc (.cells (nums .u8 old).toArray 45)).alloc (.cells #[.slice none 0 0, .slice none 0 0] 25) = w0 := by rw [hw0]; rfl
  have HW0 := Lib.hid hw0'
  have HDO := Lib.hid (And.intro hol uol)
  clear hk hw0 hw0' hol uol
  by_cases h0 : m < 1
  · rw [growMust_out l m old ps z (by omega)]
    clear hT hP hb hx0
    go_enter Tryd.func23, Tryd.ntmps23
    go_upto_region 1 with (fail)
    rw [HW0.out]
    go_wp2_with ((with_reducible apply st_storeW (off := 0) (vs := clC [] [] none none 0 0) (cs := clC [] [] none none 0 0) (T := 25)); rfl; rfl; exact hr0; exact clSize; (simp [clC]); exact clC_one _ _ _ _ _ _; intro w1 hd1 hw1; rw [laid_all _ _ (by rfl)] at hd1)
    refine bodyPost_ret (ret_row_tmp rfl _ _ _ (clC [] [] none none 0 0) 25 _ rfl hd1 Tryd.underlying25 rfl (by exact clSize)) rfl (by exact (⟨_, rfl, Wrote.below hB0 hw1 (by omega), ClAns.none _ _⟩))
  · by_cases h1 : (l.length : Int) < m
    · rw [growMust_out l m old ps z (by omega)]
      clear hT hP hb hx0
      go_enter Tryd.func23, Tryd.ntmps23
      go_upto_region 1 with (fail)
      rw [HW0.out]
      go_wp2_with ((with_reducible apply st_storeW (off := 0) (vs := clC [] [] none none 0 0) (cs := clC [] [] none none 0 0) (T := 25)); rfl; rfl; exact hr0; exact clSize; (simp [clC]); exact clC_one _ _ _ _ _ _; intro w1 hd1 hw1; rw [laid_all _ _ (by rfl)] at hd1)
      refine bodyPost_ret (ret_row_tmp rfl _ _ _ (clC [] [] none none 0 0) 25 _ rfl hd1 Tryd.underlying25 rfl (by exact clSize)) rfl (by exact (⟨_, rfl, Wrote.below hB0 hw1 (by omega), ClAns.none _ _⟩))
    · obtain ⟨M, rfl⟩ := Int.eq_ofNat_of_zero_le (show 0 ≤ m by omega)
      have hM1 : 1 ≤ M := by omega
      have hMl : M ≤ l.length := by omega
      have HT := Lib.hid hT
      have HP := Lib.hid hP
      have HLB := Lib.hid hb
      have hin := growMust_in l M old ps z hM1 hMl
      have hLu := leavesF_ok l z
      have hLl := leavesF_len l z
      have hlv := fun (W : World) (h : Txts W A c l) => leaves_any W l A c h hl HLB.out z
      obtain ⟨L, hL⟩ : ∃ L, L = leavesF l z := ⟨_, rfl⟩
      rw [← hL] at hLu hLl hlv hin
      have hro := rootF_ok L z hLu
      have hrt := fun (W : World) (h : Dg W (some ⟨w0.heap.size, 0, none⟩) l.length L) => root_any L.length W L (some ⟨w0.heap.size, 0, none⟩) l.length rfl h (by omega) z
      rw [hLl] at hrt
      have htl : (L.take M).length = M := by rw [List.length_take]; omega
      have hrm := fun (W : World) (h : Dg W (some ⟨w0.heap.size, 0, none⟩) l.length (L.take M)) => root_any (L.take M).length W (L.take M) (some ⟨w0.heap.size, 0, none⟩) l.length rfl h (by omega) z
      rw [htl] at hrm
      have hmo := rootF_ok (L.take M) z (hLu.take M)
      have hcp := fun (W : World) (h : Dg W Ap cp ps) => checkgrowth_any W old HDO.out.1 HDO.out.2 M (rootF L z) hro.1 l.length (by omega) ps Ap cp h z
      have hst : checkGF old M (rootF L z) l.length ps z = true → ¬ old = rootF (L.take M) z → GSt L M true ps old z := fun h h2 => GSt.start hLu (by rw [hLl]; exact h) h2
      obtain ⟨R, hR⟩ : ∃ R, R = rootF L z := ⟨_, rfl⟩
      rw [← hR] at hro hrt hcp hst hin
      obtain ⟨RM, hRM⟩ : ∃ RM, RM = rootF (L.take M) z := ⟨_, rfl⟩
      rw [← hRM] at hrm hmo hst hin
      have HMO := Lib.hid hmo.1
      have HL2 := Lib.hid hLu
      have HLL := Lib.hid hLl
      have HLV := Lib.hid hlv
      have HRT := Lib.hid hrt
      have HRM := Lib.hid hrm
      rw [hin]
      clear hT hP hb hL hR hRM hro hrt hrm hmo hlv hLu hLl hin
      by_cases hm : checkGF old M R l.length ps z = false
      · rw [hm, Bool.and_false]
        simp only [hm] at hcp
        have HCP := Lib.hid hcp
        clear hst hcp hm
        go_enter Tryd.func23, Tryd.ntmps23
        go_upto_region 1 with (fail)
        rw [HW0.out]
        have hB := hB0
        have hr := hr0
        have hx := hx0
        go_wp2_with fail
        go_at_call 34
        refine (HLV.out w0 (HT.out.up hB0) (HK.out.below hB0 HK.out.lt)).mono ?_
        rintro e w1 ⟨rfl, hb, hL1⟩
        have hB := hB.trans (hb.mono hB.size)
        have hr := hr.up hb
        have hx := hx.up hb
        have hDL : Dg w1 (some ⟨w0.heap.size, 0, none⟩) l.length L := ⟨Rd.ofBlk hL1, by rw [HLL.out]; exact Nat.le_refl _, nn_some, HL2.out⟩
        have HDL := Lib.hid hDL
        have hDM := hDL.take M (by rw [HLL.out]; exact hMl)
        have HDM := Lib.hid hDM
        clear hDL hDM hL1
        go_wp2_with fail
        --MARKP
        have hxl := hx.lt
        refine wp_region_C (Same [w.heap.size] w1) [4, 9, 17] (by kernel_rfl) (by kernel_rfl) (by intro c a w h; first | (obtain ⟨_, h, _⟩ := h; cases h; done) | (obtain ⟨_, _, h, _⟩ := h; cases h; done) | (obtain ⟨_, _, _, h, _⟩ := h; cases h; done) | (obtain ⟨_, _, _, _, h, _⟩ := h; cases h; done) | (rcases h with ⟨_, ⟨_, _, _, _, h, _⟩ | ⟨_, _, _, _, h, _⟩⟩ <;> cases h; done)) (by intro a w h; first | (obtain ⟨h, _⟩ := h; cases h; done) | (obtain ⟨_, h, _⟩ := h; cases h; done) | (obtain ⟨_, _, h, _⟩ := h; cases h; done) | (obtain ⟨_, _, _, h, _⟩ := h; cases h; done) | (rcases h with ⟨_, _, _, _, h, _⟩ | ⟨_, _, _, _, h, _⟩ <;> cases h; done)) (Same.refl _ _) ?_
        repeat (refine wd_w (v := ?_) rfl rfl rfl rfl rfl rfl (fun w' hw' K hK => ?_) ?_; rotate_left; (have e1 := hw'.blk hx (by simp); go_wp2_with (((with_reducible apply st_load (n := 32) (cs := nums .u8 (old)) (T := 45)); rfl; exact e1; exact Tryd.underlying45; rfl; kernel_rfl; (rw [nums_length, HDO.out.1]; exact Nat.le_refl _); (exact row_all _ _ (by rw [nums_length, HDO.out.1])))); exact rfl); simp only [Act.put, List.setIfInBounds_toArray, List.set_cons_zero, List.set_cons_succ])
        have hB := hB.drew
        have hbd : Below w1.heap.size w1 w1.drew := (Below.refl _ _).drew
        have hsd : w1.drew.heap.size = w1.heap.size := rfl
        refine wd_l rfl rfl (by intro a w h; first | (obtain ⟨h, _⟩ := h; cases h; done) | (obtain ⟨_, h, _⟩ := h; cases h; done) | (obtain ⟨_, _, h, _⟩ := h; cases h; done) | (obtain ⟨_, _, _, h, _⟩ := h; cases h; done) | (rcases h with ⟨_, _, _, _, h, _⟩ | ⟨_, _, _, _, h, _⟩ <;> cases h; done)) ?_
        go_wp2_with fail
        go_at_call 37
        refine (HRT.out _ (HDL.out.up hbd) (HK.out.below hB HK.out.lt)).mono ?_
        rintro e w2 ⟨rfl, hb⟩
        have hB := hB.trans (hb.mono hB.size)
        have hb2 := hbd.trans (hb.mono (Nat.le_refl _))
        go_wp2_with fail
        refine ⟨.inr (fun gg hg => hb2.block gg (by simp at hg; omega)), ?_⟩
        repeat (refine wd_q (v := ?_) rfl rfl rfl rfl rfl rfl (fun w' hw' K hK => ?_) ?_; rotate_left; (skip; go_wp2; exact rfl); simp only [Act.put, List.setIfInBounds_toArray, List.set_cons_zero, List.set_cons_succ])
        refine wd_l rfl rfl (by intro a w h; first | (obtain ⟨h, _⟩ := h; cases h; done) | (obtain ⟨_, h, _⟩ := h; cases h; done) | (obtain ⟨_, _, h, _⟩ := h; cases h; done) | (obtain ⟨_, _, _, h, _⟩ := h; cases h; done) | (rcases h with ⟨_, _, _, _, h, _⟩ | ⟨_, _, _, _, h, _⟩ <;> cases h; done)) ?_
        go_wp2_with fail
        go_at_call 45
        refine (HCP.out _ (HP.out.up hB) (HK.out.below hB HK.out.lt)).mono ?_
        rintro e w3 ⟨rfl, hb⟩
        have hB := hB.trans (hb.mono hB.size)
        have hb3 := hb2.trans (hb.mono hb2.size)
        have hs3 : Same [w.heap.size] w1 w3 := fun gg hg => hb3.block gg (by simp at hg; omega)
        go_wp2_with fail
        refine ⟨.inr (hs3), ?_⟩
        repeat (refine wd_q (v := ?_) rfl rfl rfl rfl rfl rfl (fun w' hw' K hK => ?_) ?_; rotate_left; (skip; go_wp2; exact rfl); simp only [Act.put, List.setIfInBounds_toArray, List.set_cons_zero, List.set_cons_succ])
        --MARKQ
        refine wd_pass rfl rfl ?_
        simp only [Act.put, List.setIfInBounds_toArray, List.set_cons_zero, List.set_cons_succ]
        refine wd_pass rfl rfl ?_
        simp only [Act.put, List.setIfInBounds_toArray, List.set_cons_zero, List.set_cons_succ]
        refine wd_pass rfl rfl ?_
        simp only [Act.put, List.setIfInBounds_toArray, List.set_cons_zero, List.set_cons_succ]
        refine wd_pass rfl rfl ?_
        simp only [Act.put, List.setIfInBounds_toArray, List.set_cons_zero, List.set_cons_succ]
        refine wd_pass rfl rfl ?_
        simp only [Act.put, List.setIfInBounds_toArray, List.set_cons_zero, List.set_cons_succ]
        refine wd_loud_pass rfl rfl ⟨hs3, ?_⟩
        simp only [Act.put, List.setIfInBounds_toArray, List.set_cons_zero, List.set_cons_succ]
        refine wd_pass rfl rfl ?_
        simp only [Act.put, List.setIfInBounds_toArray, List.set_cons_zero, List.set_cons_succ]
        refine wd_pick (b := true) (v := .bool true) rfl rfl rfl rfl rfl ?_
        refine wd_nil ?_
        simp only [Act.put, List.setIfInBounds_toArray, List.set_cons_zero, List.set_cons_succ]
        have hr := hr.up hb3
        go_wp2_with ((with_reducible apply st_storeW (off := 0) (vs := clC [] [] none none 0 0) (cs := clC [] [] none none 0 0) (T := 25)); rfl; rfl; exact hr; exact clSize; (simp [clC]); exact clC_one _ _ _ _ _ _; intro w7 hd7 hw7; rw [laid_all _ _ (by rfl)] at hd7)
        refine bodyPost_ret (ret_row_tmp rfl _ _ _ (clC [] [] none none 0 0) 25 _ rfl hd7 Tryd.underlying25 rfl (by exact clSize)) rfl (by exact (⟨_, rfl, Wrote.below hB hw7 (by omega), ClAns.none _ _⟩))
      · have hm := eq_true_of_ne_false hm
        simp only [hm] at hcp
        have HCP := Lib.hid hcp
        rw [hm, Bool.and_true]
        by_cases hor : old = RM
        · have heq : decide (old = RM) = true := decide_eq_true hor
          rw [heq, Bool.not_true]
          have HEQ := Lib.hid heq
          clear hst hcp hm heq hor
          go_enter Tryd.func23, Tryd.ntmps23
          go_upto_region 1 with (fail)
          rw [HW0.out]
          have hB := hB0
          have hr := hr0
          have hx := hx0
          go_wp2_with fail
          go_at_call 34
          refine (HLV.out w0 (HT.out.up hB0) (HK.out.below hB0 HK.out.lt)).mono ?_
          rintro e w1 ⟨rfl, hb, hL1⟩
          have hB := hB.trans (hb.mono hB.size)
          have hr := hr.up hb
          have hx := hx.up hb
          have hDL : Dg w1 (some ⟨w0.heap.size, 0, none⟩) l.length L := ⟨Rd.ofBlk hL1, by rw [HLL.out]; exact Nat.le_refl _, nn_some, HL2.out⟩
          have HDL := Lib.hid hDL
          have hDM := hDL.take M (by rw [HLL.out]; exact hMl)
          have HDM := Lib.hid hDM
          clear hDL hDM hL1
          go_wp2_with fail
          --MARKP
          have hxl := hx.lt
          refine wp_region_C (Same [w.heap.size] w1) [4, 9, 17] (by kernel_rfl) (by kernel_rfl) (by intro c a w h; first | (obtain ⟨_, h, _⟩ := h; cases h; done) | (obtain ⟨_, _, h, _⟩ := h; cases h; done) | (obtain ⟨_, _, _, h, _⟩ := h; cases h; done) | (obtain ⟨_, _, _, _, h, _⟩ := h; cases h; done) | (rcases h with ⟨_, ⟨_, _, _, _, h, _⟩ | ⟨_, _, _, _, h, _⟩⟩ <;> cases h; done)) (by intro a w h; first | (obtain ⟨h, _⟩ := h; cases h; done) | (obtain ⟨_, h, _⟩ := h; cases h; done) | (obtain ⟨_, _, h, _⟩ := h; cases h; done) | (obtain ⟨_, _, _, h, _⟩ := h; cases h; done) | (rcases h with ⟨_, _, _, _, h, _⟩ | ⟨_, _, _, _, h, _⟩ <;> cases h; done)) (Same.refl _ _) ?_
          repeat (refine wd_w (v := ?_) rfl rfl rfl rfl rfl rfl (fun w' hw' K hK => ?_) ?_; rotate_left; (have e1 := hw'.blk hx (by simp); go_wp2_with (((with_reducible apply st_load (n := 32) (cs := nums .u8 (old)) (T := 45)); rfl; exact e1; exact Tryd.underlying45; rfl; kernel_rfl; (rw [nums_length, HDO.out.1]; exact Nat.le_refl _); (exact row_all _ _ (by rw [nums_length, HDO.out.1])))); exact rfl); simp only [Act.put, List.setIfInBounds_toArray, List.set_cons_zero, List.set_cons_succ])
          have hB := hB.drew
          have hbd : Below w1.heap.size w1 w1.drew := (Below.refl _ _).drew
          have hsd : w1.drew.heap.size = w1.heap.size := rfl
          refine wd_l rfl rfl (by intro a w h; first | (obtain ⟨h, _⟩ := h; cases h; done) | (obtain ⟨_, h, _⟩ := h; cases h; done) | (obtain ⟨_, _, h, _⟩ := h; cases h; done) | (obtain ⟨_, _, _, h, _⟩ := h; cases h; done) | (rcases h with ⟨_, _, _, _, h, _⟩ | ⟨_, _, _, _, h, _⟩ <;> cases h; done)) ?_
          go_wp2_with fail
          go_at_call 37
          refine (HRT.out _ (HDL.out.up hbd) (HK.out.below hB HK.out.lt)).mono ?_
          rintro e w2 ⟨rfl, hb⟩
          have hB := hB.trans (hb.mono hB.size)
          have hb2 := hbd.trans (hb.mono (Nat.le_refl _))
          go_wp2_with fail
          refine ⟨.inr (fun gg hg => hb2.block gg (by simp at hg; omega)), ?_⟩
          repeat (refine wd_q (v := ?_) rfl rfl rfl rfl rfl rfl (fun w' hw' K hK => ?_) ?_; rotate_left; (skip; go_wp2; exact rfl); simp only [Act.put, List.setIfInBounds_toArray, List.set_cons_zero, List.set_cons_succ])
          refine wd_l rfl rfl (by intro a w h; first | (obtain ⟨h, _⟩ := h; cases h; done) | (obtain ⟨_, h, _⟩ := h; cases h; done) | (obtain ⟨_, _, h, _⟩ := h; cases h; done) | (obtain ⟨_, _, _, h, _⟩ := h; cases h; done) | (rcases h with ⟨_, _, _, _, h, _⟩ | ⟨_, _, _, _, h, _⟩ <;> cases h; done)) ?_
          go_wp2_with fail
          go_at_call 45
          refine (HCP.out _ (HP.out.up hB) (HK.out.below hB HK.out.lt)).mono ?_
          rintro e w3 ⟨rfl, hb⟩
          have hB := hB.trans (hb.mono hB.size)
          have hb3 := hb2.trans (hb.mono hb2.size)
          have hs3 : Same [w.heap.size] w1 w3 := fun gg hg => hb3.block gg (by simp at hg; omega)
          go_wp2_with fail
          refine ⟨.inr (hs3), ?_⟩
          repeat (refine wd_q (v := ?_) rfl rfl rfl rfl rfl rfl (fun w' hw' K hK => ?_) ?_; rotate_left; (skip; go_wp2; exact rfl); simp only [Act.put, List.setIfInBounds_toArray, List.set_cons_zero, List.set_cons_succ])
          --MARKQ
          repeat (refine wd_wg (v := ?_) rfl rfl rfl rfl rfl rfl (fun w' hw' K hK => ?_) ?_; rotate_left; (have e1 := hw'.blk hx (by simp); go_wp2_with ((first | ((with_reducible apply st_load (n := 32) (cs := nums .u8 (old)) (T := 45)); rfl; exact e1; exact Tryd.underlying45; rfl; kernel_rfl; (rw [nums_length, HDO.out.1]; exact Nat.le_refl _); (exact row_all _ _ (by rw [nums_length, HDO.out.1]))) | ((with_reducible apply st_toD (sz := 32) (i := M)); exact Tryd.underlying30; kernel_rfl; rfl; rfl; rfl; omega; exact nn_some; exact spot_none))); exact rfl); simp only [Act.put, List.setIfInBounds_toArray, List.set_cons_zero, List.set_cons_succ])
          refine wd_lg rfl rfl (by intro a w h; first | (obtain ⟨h, _⟩ := h; cases h; done) | (obtain ⟨_, h, _⟩ := h; cases h; done) | (obtain ⟨_, _, h, _⟩ := h; cases h; done) | (obtain ⟨_, _, _, h, _⟩ := h; cases h; done) | (rcases h with ⟨_, _, _, _, h, _⟩ | ⟨_, _, _, _, h, _⟩ <;> cases h; done)) ?_
          go_wp2_with fail
          go_at_call 37
          refine (HRM.out _ (HDM.out.up hb3) (HK.out.below hB HK.out.lt)).mono ?_
          rintro e w4 ⟨rfl, hb⟩
          have hB := hB.trans (hb.mono hB.size)
          have hb4 := hb3.trans (hb.mono hb3.size)
          go_wp2_with fail
          refine ⟨.inr (fun gg hg => hb4.block gg (by simp at hg; omega)), ?_⟩
          --MARKEtrue
          refine wd_wg (v := .bool true) rfl rfl rfl rfl rfl rfl (fun w' hw' K hK => ?_) ?_
          · have heq : Sem.run Tryd.prog (Op.equalIn 10000 45 (.agg (nums .u8 old).toArray) (.agg (nums .u8 RM).toArray)) w' = .ok (decide (old = RM)) w' := run_equal_nums (P := Tryd.prog) (t := 45) Tryd.underlying45 Tryd.underlying5 (by kernel_rfl) (by kernel_rfl) old RM HDO.out.1 HMO.out w'
            rw [HEQ.out] at heq
            go_wp2_with fail
            exact rfl
          simp only [Act.put, List.setIfInBounds_toArray, List.set_cons_zero, List.set_cons_succ]
          refine wd_pick (b := false) (v := .bool true) rfl rfl rfl rfl rfl ?_
          refine wd_nil ?_
          simp only [Act.put, List.setIfInBounds_toArray, List.set_cons_zero, List.set_cons_succ]
          have hr := hr.up hb4
          go_wp2_with ((with_reducible apply st_storeW (off := 0) (vs := clC [] [] none none 0 0) (cs := clC [] [] none none 0 0) (T := 25)); rfl; rfl; exact hr; exact clSize; (simp [clC]); exact clC_one _ _ _ _ _ _; intro w7 hd7 hw7; rw [laid_all _ _ (by rfl)] at hd7)
          refine bodyPost_ret (ret_row_tmp rfl _ _ _ (clC [] [] none none 0 0) 25 _ rfl hd7 Tryd.underlying25 rfl (by exact clSize)) rfl (by exact (⟨_, rfl, Wrote.below hB hw7 (by omega), ClAns.none _ _⟩))
        · have heq : decide (old = RM) = false := decide_eq_false hor
          rw [heq, Bool.not_false]
          have HEQ := Lib.hid heq
          have HPS := Lib.hid (hst hm hor)
          clear hst hcp hm heq hor
          go_enter Tryd.func23, Tryd.ntmps23
          go_upto_region 1 with (fail)
          rw [HW0.out]
          have hB := hB0
          have hr := hr0
          have hx := hx0
          go_wp2_with fail
          go_at_call 34
          refine (HLV.out w0 (HT.out.up hB0) (HK.out.below hB0 HK.out.lt)).mono ?_
          rintro e w1 ⟨rfl, hb, hL1⟩
          have hB := hB.trans (hb.mono hB.size)
          have hr := hr.up hb
          have hx := hx.up hb
          have hDL : Dg w1 (some ⟨w0.heap.size, 0, none⟩) l.length L := ⟨Rd.ofBlk hL1, by rw [HLL.out]; exact Nat.le_refl _, nn_some, HL2.out⟩
          have HDL := Lib.hid hDL
          have hDM := hDL.take M (by rw [HLL.out]; exact hMl)
          have HDM := Lib.hid hDM
          clear hDL hDM hL1
          go_wp2_with fail
          --MARKP
          have hxl := hx.lt
          refine wp_region_C (Same [w.heap.size] w1) [4, 9, 17] (by kernel_rfl) (by kernel_rfl) (by intro c a w h; first | (obtain ⟨_, h, _⟩ := h; cases h; done) | (obtain ⟨_, _, h, _⟩ := h; cases h; done) | (obtain ⟨_, _, _, h, _⟩ := h; cases h; done) | (obtain ⟨_, _, _, _, h, _⟩ := h; cases h; done) | (rcases h with ⟨_, ⟨_, _, _, _, h, _⟩ | ⟨_, _, _, _, h, _⟩⟩ <;> cases h; done)) (by intro a w h; first | (obtain ⟨h, _⟩ := h; cases h; done) | (obtain ⟨_, h, _⟩ := h; cases h; done) | (obtain ⟨_, _, h, _⟩ := h; cases h; done) | (obtain ⟨_, _, _, h, _⟩ := h; cases h; done) | (rcases h with ⟨_, _, _, _, h, _⟩ | ⟨_, _, _, _, h, _⟩ <;> cases h; done)) (Same.refl _ _) ?_
          repeat (refine wd_w (v := ?_) rfl rfl rfl rfl rfl rfl (fun w' hw' K hK => ?_) ?_; rotate_left; (have e1 := hw'.blk hx (by simp); go_wp2_with (((with_reducible apply st_load (n := 32) (cs := nums .u8 (old)) (T := 45)); rfl; exact e1; exact Tryd.underlying45; rfl; kernel_rfl; (rw [nums_length, HDO.out.1]; exact Nat.le_refl _); (exact row_all _ _ (by rw [nums_length, HDO.out.1])))); exact rfl); simp only [Act.put, List.setIfInBounds_toArray, List.set_cons_zero, List.set_cons_succ])
          have hB := hB.drew
          have hbd : Below w1.heap.size w1 w1.drew := (Below.refl _ _).drew
          have hsd : w1.drew.heap.size = w1.heap.size := rfl
          refine wd_l rfl rfl (by intro a w h; first | (obtain ⟨h, _⟩ := h; cases h; done) | (obtain ⟨_, h, _⟩ := h; cases h; done) | (obtain ⟨_, _, h, _⟩ := h; cases h; done) | (obtain ⟨_, _, _, h, _⟩ := h; cases h; done) | (rcases h with ⟨_, _, _, _, h, _⟩ | ⟨_, _, _, _, h, _⟩ <;> cases h; done)) ?_
          go_wp2_with fail
          go_at_call 37
          refine (HRT.out _ (HDL.out.up hbd) (HK.out.below hB HK.out.lt)).mono ?_
          rintro e w2 ⟨rfl, hb⟩
          have hB := hB.trans (hb.mono hB.size)
          have hb2 := hbd.trans (hb.mono (Nat.le_refl _))
          go_wp2_with fail
          refine ⟨.inr (fun gg hg => hb2.block gg (by simp at hg; omega)), ?_⟩
          repeat (refine wd_q (v := ?_) rfl rfl rfl rfl rfl rfl (fun w' hw' K hK => ?_) ?_; rotate_left; (skip; go_wp2; exact rfl); simp only [Act.put, List.setIfInBounds_toArray, List.set_cons_zero, List.set_cons_succ])
          refine wd_l rfl rfl (by intro a w h; first | (obtain ⟨h, _⟩ := h; cases h; done) | (obtain ⟨_, h, _⟩ := h; cases h; done) | (obtain ⟨_, _, h, _⟩ := h; cases h; done) | (obtain ⟨_, _, _, h, _⟩ := h; cases h; done) | (rcases h with ⟨_, _, _, _, h, _⟩ | ⟨_, _, _, _, h, _⟩ <;> cases h; done)) ?_
          go_wp2_with fail
          go_at_call 45
          refine (HCP.out _ (HP.out.up hB) (HK.out.below hB HK.out.lt)).mono ?_
          rintro e w3 ⟨rfl, hb⟩
          have hB := hB.trans (hb.mono hB.size)
          have hb3 := hb2.trans (hb.mono hb2.size)
          have hs3 : Same [w.heap.size] w1 w3 := fun gg hg => hb3.block gg (by simp at hg; omega)
          go_wp2_with fail
          refine ⟨.inr (hs3), ?_⟩
          repeat (refine wd_q (v := ?_) rfl rfl rfl rfl rfl rfl (fun w' hw' K hK => ?_) ?_; rotate_left; (skip; go_wp2; exact rfl); simp only [Act.put, List.setIfInBounds_toArray, List.set_cons_zero, List.set_cons_succ])
          --MARKQ
          repeat (refine wd_wg (v := ?_) rfl rfl rfl rfl rfl rfl (fun w' hw' K hK => ?_) ?_; rotate_left; (have e1 := hw'.blk hx (by simp); go_wp2_with ((first | ((with_reducible apply st_load (n := 32) (cs := nums .u8 (old)) (T := 45)); rfl; exact e1; exact Tryd.underlying45; rfl; kernel_rfl; (rw [nums_length, HDO.out.1]; exact Nat.le_refl _); (exact row_all _ _ (by rw [nums_length, HDO.out.1]))) | ((with_reducible apply st_toD (sz := 32) (i := M)); exact Tryd.underlying30; kernel_rfl; rfl; rfl; rfl; omega; exact nn_some; exact spot_none))); exact rfl); simp only [Act.put, List.setIfInBounds_toArray, List.set_cons_zero, List.set_cons_succ])
          refine wd_lg rfl rfl (by intro a w h; first | (obtain ⟨h, _⟩ := h; cases h; done) | (obtain ⟨_, h, _⟩ := h; cases h; done) | (obtain ⟨_, _, h, _⟩ := h; cases h; done) | (obtain ⟨_, _, _, h, _⟩ := h; cases h; done) | (rcases h with ⟨_, _, _, _, h, _⟩ | ⟨_, _, _, _, h, _⟩ <;> cases h; done)) ?_
          go_wp2_with fail
          go_at_call 37
          refine (HRM.out _ (HDM.out.up hb3) (HK.out.below hB HK.out.lt)).mono ?_
          rintro e w4 ⟨rfl, hb⟩
          have hB := hB.trans (hb.mono hB.size)
          have hb4 := hb3.trans (hb.mono hb3.size)
          go_wp2_with fail
          refine ⟨.inr (fun gg hg => hb4.block gg (by simp at hg; omega)), ?_⟩
          --MARKEfalse
          refine wd_wg (v := .bool false) rfl rfl rfl rfl rfl rfl (fun w' hw' K hK => ?_) ?_
          · have heq : Sem.run Tryd.prog (Op.equalIn 10000 45 (.agg (nums .u8 old).toArray) (.agg (nums .u8 RM).toArray)) w' = .ok (decide (old = RM)) w' := run_equal_nums (P := Tryd.prog) (t := 45) Tryd.underlying45 Tryd.underlying5 (by kernel_rfl) (by kernel_rfl) old RM HDO.out.1 HMO.out w'
            rw [HEQ.out] at heq
            go_wp2_with fail
            exact rfl
          simp only [Act.put, List.setIfInBounds_toArray, List.set_cons_zero, List.set_cons_succ]
          refine wd_pick (b := false) (v := .bool false) rfl rfl rfl rfl rfl ?_
          refine wd_nil ?_
          simp only [Act.put, List.setIfInBounds_toArray, List.set_cons_zero, List.set_cons_succ]
          have hr := hr.up hb4
          go_wp2_with fail
          have hdd := hx.up hb4
          have hDL := HDL.out.up hb4
          have HDL := Lib.hid hDL
          have hzr := hr.lt
          have hzd := hdd.lt
          have hk5 := HK.out.below hB HK.out.lt
          have HK5 := Lib.hid hk5
          have h5s := hB.size
          have HP5 := Lib.hid (HP.out.up hB)
          have HB5 := Lib.hid hB
          clear hB hk5 hb4 hb3 hb2 hbd hs3 hx hx0 hr0 hB0 hDL
          --MARKL
          go_loopw [1, 3, 12, 13] (fun vm vp vl vw wr => ∃ (cur p : List (List Int)) (m : Nat) (whole : Bool) (Ac : Option Addr) (cc : Nat) (Aq : Option Addr) (cq : Nat), vm = .int .i64 m ∧ vp = .slice Aq p.length cq ∧ vl = .slice Ac cur.length cc ∧ vw = .bool whole ∧ Hid (GSt cur m whole p old z) ∧ Hid (Dg w4 Ac cc cur) ∧ Hid (Dg w4 Aq cq p) ∧ cur.length ≤ 1000 ∧ p.length ≤ 1000 ∧ Below w4.heap.size w4 wr) (fun _ _ vl _ _ => lenV vl)
          case atStart => exact ⟨L, ps, M, true, _, _, _, _, rfl, rfl, by rw [HLL.out], rfl, HPS, HDL, HP5, by rw [HLL.out]; exact hl, hpl, Below.refl _ _⟩
          case round =>
            obtain ⟨cur, p, m, whole, Ac, cc, Aq, cq, rfl, rfl, rfl, rfl, HS, HDC, HDP, hcl, hpl2, hB⟩ := hrel
            have hlt := HS.out.lt
            have hlt2 := HS.out.lo
            have hpos := HS.out.pos
            obtain ⟨rest, last, q, g1, off, hps, hq, hqq, rfl, hg1, hll, hlu, hc0, htk, hle⟩ := HDP.out.snoc hpos
            obtain ⟨gl, ol, rfl, hgl, _⟩ := HDC.out.get (by omega)
            have hks := kF_spec cur.length (by omega)
            have hS := HS.out
            rw [hps] at hS
            have hcu := hS.u
            have hrd := htk.u
            have ht := HDC.out.take (kF cur.length) (by omega)
            have hdr := HDC.out.drop (kF cur.length) (by omega)
            have hcle := HDC.out.le
            have htl : (cur.take (kF cur.length)).length = kF cur.length := by rw [List.length_take]; omega
            have hdl : (cur.drop (kF cur.length)).length = cur.length - kF cur.length := List.length_drop
            have hlo := rootF_ok (cur.take (kF cur.length)) z (hcu.take _)
            have hro := rootF_ok (cur.drop (kF cur.length)) z (hcu.drop _)
            have hz0 : ¬ kF cur.length = 0 := by omega
            have hadd : (some (⟨gl, ol, none⟩ : Addr)).map (·.add (kF cur.length * 32)) = some ⟨gl, ol + kF cur.length * 32, none⟩ := by simp [Addr.add]; omega
            rw [if_neg (by omega), hadd] at hdr
            have hc1 := fun (W : World) (h : Dg W (some ⟨gl, ol, none⟩) cc (cur.take (kF cur.length))) => root_any _ W _ _ cc rfl h (by omega) z
            have hc2 := fun (W : World) (h : Dg W (some ⟨gl, ol + kF cur.length * 32, none⟩) (cc - kF cur.length) (cur.drop (kF cur.length))) => root_any _ W _ _ _ rfl h (by omega) z
            rw [htl] at hc1
            rw [hdl] at hc2
            have hmlt := HS.out.lt
            have hgw := Nat.lt_of_lt_of_le hg1 hB.size
            by_cases hik : m ≤ kF cur.length
            · obtain ⟨hs2, hne, hgo⟩ := hS.left HDO.out hrd hik
              have hk1 := fun (W : World) (h : Dg W (some ⟨g1, off, none⟩) cq rest) => second_any (kF cur.length) W old m rest (some ⟨g1, off, none⟩) cq whole HDO.out.1 HDO.out.2 h (by omega) z HS.out.lo hik (by omega) hs2
              have hxo := secF_ok (kF cur.length) old m rest whole z HDO.out hrd HS.out.lo hik hs2
              obtain ⟨X, hX⟩ : ∃ X, X = secF old m (kF cur.length) rest whole z := ⟨_, rfl⟩
              rw [← hX] at hne hgo hk1 hxo
              obtain ⟨L1, hL1⟩ : ∃ L1, L1 = rootF (cur.take (kF cur.length)) z := ⟨_, rfl⟩
              obtain ⟨R1, hR1⟩ : ∃ R1, R1 = rootF (cur.drop (kF cur.length)) z := ⟨_, rfl⟩
              rw [← hL1] at hne hc1 hlo hgo
              rw [← hR1] at hne hc2 hro hgo
              rw [← hqq] at hk1
              obtain ⟨K, hK⟩ : ∃ K, K = kF cur.length := ⟨_, rfl⟩
              rw [← hK] at hks hik hc1 hc2 ht hdr htl hdl hgo hk1
              obtain ⟨k1, k2, k3, k4⟩ := hks
              have HSP := Lib.hid k4
              have HC1 := Lib.hid hc1
              have HC2 := Lib.hid hc2
              have HK1 := Lib.hid hk1
              have HT1 := Lib.hid ht
              have HDR := Lib.hid hdr
              have HLO := Lib.hid hlo
              have HRO := Lib.hid hro
              have HXO := Lib.hid hxo
              have HLAST := Lib.hid (And.intro hll hlu)
              have HC0 := Lib.hid hc0
              have HTK := Lib.hid htk
              have HGO := Lib.hid hgo
              have HNEQ := Lib.hid hne
              have HTL := Lib.hid htl
              have HDLL := Lib.hid hdl
              have HPOS := Lib.hid hqq
              rw [hq]
              clear hpos hps hqq hll hlu hc0 htk hS hcu ht hdr htl hdl hlo hro hc1 hc2 hk1 hxo hX hL1 hR1 hK k4 hne hgo hs2 hrd
              go_wp2_with fail
              --MARKR1L
              refine wp_region_CF (Same [g1] wr) [14, 15] [16, 17] (by kernel_rfl) (by kernel_rfl) (by intro c a w h; first | (obtain ⟨_, h, _⟩ := h; cases h; done) | (obtain ⟨_, _, h, _⟩ := h; cases h; done) | (obtain ⟨_, _, _, h, _⟩ := h; cases h; done) | (obtain ⟨_, _, _, _, h, _⟩ := h; cases h; done) | (rcases h with ⟨_, ⟨_, _, _, _, h, _⟩ | ⟨_, _, _, _, h, _⟩⟩ <;> cases h; done)) (by intro a w h; first | (obtain ⟨h, _⟩ := h; cases h; done) | (obtain ⟨_, h, _⟩ := h; cases h; done) | (obtain ⟨_, _, h, _⟩ := h; cases h; done) | (obtain ⟨_, _, _, h, _⟩ := h; cases h; done) | (rcases h with ⟨_, _, _, _, h, _⟩ | ⟨_, _, _, _, h, _⟩ <;> cases h; done)) (Same.refl _ _) ?_
              repeat (refine wd_w (v := ?_) rfl rfl rfl rfl rfl rfl (fun w' hw' K hK => ?_) ?_; rotate_left; (have e1 : ∀ j v, (nums .u8 last)[j]? = some v → w'.cell? ⟨g1, off + q * 32 + j, none⟩ = some v := fun j v hv => (hw'.cell g1 (by simp) _).trans ((hB.cell (p := ⟨g1, off + q * 32 + j, none⟩) hg1).trans (HC0.out j v hv)); go_wp2_with ((first | ((with_reducible apply st_loadCells (cs := nums .u8 (last))); rfl; exact e1; exact Tryd.underlying45; rfl; (rw [nums_length, HLAST.out.1]; kernel_rfl)) | ((with_reducible apply st_toD (sz := 32) (i := q)); exact Tryd.underlying30; kernel_rfl; rfl; rfl; rfl; omega; exact nn_some; exact spot_none))); exact rfl); simp only [Act.put, List.setIfInBounds_toArray, List.set_cons_zero, List.set_cons_succ])
              refine wd_qc (v := .int .i64 K) (f := 38) (args := #[.int .i64 cur.length]) rfl rfl (by kernel_rfl) (fun W => by go_simp) (fun W => by have hcall := split_any W cur.length (by omega) (by omega); rw [HSP.out] at hcall; exact hcall) ?_
              simp only [Act.put, List.setIfInBounds_toArray, List.set_cons_zero, List.set_cons_succ]
              refine wd_l rfl rfl (by intro a w h; first | (obtain ⟨h, _⟩ := h; cases h; done) | (obtain ⟨_, h, _⟩ := h; cases h; done) | (obtain ⟨_, _, h, _⟩ := h; cases h; done) | (obtain ⟨_, _, _, h, _⟩ := h; cases h; done) | (rcases h with ⟨_, _, _, _, h, _⟩ | ⟨_, _, _, _, h, _⟩ <;> cases h; done)) ?_
              go_wp2
              refine ⟨.inr ((Same.refl _ _).drewR.alloc (by simp; omega) _), ?_⟩
              refine wd_l rfl rfl (by intro a w h; first | (obtain ⟨h, _⟩ := h; cases h; done) | (obtain ⟨_, h, _⟩ := h; cases h; done) | (obtain ⟨_, _, h, _⟩ := h; cases h; done) | (obtain ⟨_, _, _, h, _⟩ := h; cases h; done) | (rcases h with ⟨_, _, _, _, h, _⟩ | ⟨_, _, _, _, h, _⟩ <;> cases h; done)) ?_
              have hl0 : Blk (wr.drew.alloc (.cells (nums .u8 (List.replicate 32 0)).toArray 45)) wr.heap.size (nums .u8 (List.replicate 32 0)) 45 := Blk.new' _ _ _ _ _ rfl rfl
              go_wp2_with ((with_reducible apply st_storeW (off := 0) (vs := nums .u8 (last)) (cs := nums .u8 (List.replicate 32 0)) (T := 45)); rfl; rfl; exact hl0; (rw [nums_length, HLAST.out.1]; kernel_rfl); (rw [nums_length, HLAST.out.1]; decide); exact nums_one _ _; intro w6 hd6 hw6; rw [laid_all _ _ (by rw [nums_length, HLAST.out.1]; rfl)] at hd6)
              refine ⟨.inr (((Same.refl _ _).drewR.alloc (by simp; omega) _).wrote hw6 (by simp; omega)), ?_⟩
              refine wd_assign (v := .slice (some ⟨g1, off, none⟩) q cq) rfl rfl rfl rfl ?_
              simp only [Act.put, List.setIfInBounds_toArray, List.set_cons_zero, List.set_cons_succ]
              refine wd_assign (v := .int .i64 K) rfl rfl rfl rfl ?_
              refine wd_nil ?_
              simp only [Act.put, List.setIfInBounds_toArray, List.set_cons_zero, List.set_cons_succ]
              have h5r := hB.size
              have hB := Wrote.below ((hB.drew).alloc hB.size _) hw6 hB.size
              have hla := hd6
              have hlal := hla.lt
              clear hl0
              go_wp2_with fail
              --MARKR2L
              refine wp_region_R 12 [10, 11] (.cells (nums .u8 (List.replicate 32 0)).toArray 45) [12, 13] (by kernel_rfl) (by kernel_rfl) (by intro c a w h; first | (obtain ⟨_, h, _⟩ := h; cases h; done) | (obtain ⟨_, _, h, _⟩ := h; cases h; done) | (obtain ⟨_, _, _, h, _⟩ := h; cases h; done) | (obtain ⟨_, _, _, _, h, _⟩ := h; cases h; done) | (rcases h with ⟨_, ⟨_, _, _, _, h, _⟩ | ⟨_, _, _, _, h, _⟩⟩ <;> cases h; done)) (by intro a w h; first | (obtain ⟨h, _⟩ := h; cases h; done) | (obtain ⟨_, h, _⟩ := h; cases h; done) | (obtain ⟨_, _, h, _⟩ := h; cases h; done) | (obtain ⟨_, _, _, h, _⟩ := h; cases h; done) | (rcases h with ⟨_, _, _, _, h, _⟩ | ⟨_, _, _, _, h, _⟩ <;> cases h; done)) ?_
              simp only [List.take_succ_cons, List.take_zero, List.drop_succ_cons, List.drop_zero]
              have hB := hB.drew
              have hla := hla.drew
              repeat (refine wr_w (v := ?_) rfl rfl rfl rfl rfl (fun w' hw' K hK => ?_) ?_; rotate_left; (skip; go_wp2_with (((with_reducible apply st_toD (sz := 32) (i := K)); exact Tryd.underlying30; kernel_rfl; rfl; rfl; rfl; omega; exact nn_some; exact spot_none)); exact rfl); simp only [Act.put, List.setIfInBounds_toArray, List.set_cons_zero, List.set_cons_succ])
              --MARKA
              refine wr_call (v := .agg (nums .u8 L1).toArray) (f := 37) (args := #[.slice (some ⟨gl, ol, none⟩) K cc, .int .i64 z]) rfl rfl (by kernel_rfl) (fun W => by go_simp) (fun W hW => HC1.out W (HT1.out.up (hB.trans (hW.mono hB.size))) (HK5.out.below (hB.trans (hW.mono hB.size)) HK5.out.lt)) ?_
              simp only [Act.put, List.setIfInBounds_toArray, List.set_cons_zero, List.set_cons_succ]
              repeat (refine wr_w (v := ?_) rfl rfl rfl rfl rfl (fun w' hw' K hK => ?_) ?_; rotate_left; (skip; go_wp2_with (fail); exact rfl); simp only [Act.put, List.setIfInBounds_toArray, List.set_cons_zero, List.set_cons_succ])
              refine wr_call (v := .agg (nums .u8 R1).toArray) (f := 37) (args := #[.slice (some ⟨gl, ol + K * 32, none⟩) (cur.length - K) (cc - K), .int .i64 z]) rfl rfl (by kernel_rfl) (fun W => by go_simp) (fun W hW => HC2.out W (HDR.out.up (hB.trans (hW.mono hB.size))) (HK5.out.below (hB.trans (hW.mono hB.size)) HK5.out.lt)) ?_
              simp only [Act.put, List.setIfInBounds_toArray, List.set_cons_zero, List.set_cons_succ]
              --MARKB
              refine wr_make rfl rfl (fun W => by go_simp; rfl) (fun g18 hg18 hn18 => ?_)
              simp only [Act.put, List.setIfInBounds_toArray, List.set_cons_zero, List.set_cons_succ]
              refine wr_make rfl rfl (fun W => by go_simp; rfl) (fun g19 hg19 hn19 => ?_)
              simp only [Act.put, List.setIfInBounds_toArray, List.set_cons_zero, List.set_cons_succ]
              refine wr_nil (fun w8 hG hU => ?_)
              have hg18 : w6.heap.size ≤ g18 := hg18
              have hg19 : w6.heap.size ≤ g19 := hg19
              have hne19 : g19 ≠ g18 := by simpa using hn19
              have hz9 : Blk w8 g18 (nums .u8 (List.replicate 32 0)) 45 := hU g18 (by simp)
              have hz10 : Blk w8 g19 (nums .u8 (List.replicate 32 0)) 45 := hU g19 (by simp)
              have h56 := hB.size
              have hs66 : w6.drew.heap.size = w6.heap.size := rfl
              have hB := hB.trans (hG.mono hB.size)
              have hla := hla.up hG
              have hlal := hla.lt
              --MARKR3L
              refine wd_l rfl rfl (by intro a w h; first | (obtain ⟨h, _⟩ := h; cases h; done) | (obtain ⟨_, h, _⟩ := h; cases h; done) | (obtain ⟨_, _, h, _⟩ := h; cases h; done) | (obtain ⟨_, _, _, h, _⟩ := h; cases h; done) | (rcases h with ⟨_, _, _, _, h, _⟩ | ⟨_, _, _, _, h, _⟩ <;> cases h; done)) ?_
              go_wp2_with ((with_reducible apply st_storeW (off := 0) (vs := nums .u8 (L1)) (cs := nums .u8 (List.replicate 32 0)) (T := 45)); rfl; rfl; exact hz9; (rw [nums_length, HLO.out.1]; kernel_rfl); (rw [nums_length, HLO.out.1]; decide); exact nums_one _ _; intro w9 hd9 hw9; rw [laid_all _ _ (by rw [nums_length, HLO.out.1]; rfl)] at hd9)
              have hG := Wrote.below hG hw9 (by omega)
              refine ⟨.inr hG, ?_⟩
              have hz10 := hw9.blk hz10 (by omega)
              refine wd_l rfl rfl (by intro a w h; first | (obtain ⟨h, _⟩ := h; cases h; done) | (obtain ⟨_, h, _⟩ := h; cases h; done) | (obtain ⟨_, _, h, _⟩ := h; cases h; done) | (obtain ⟨_, _, _, h, _⟩ := h; cases h; done) | (rcases h with ⟨_, _, _, _, h, _⟩ | ⟨_, _, _, _, h, _⟩ <;> cases h; done)) ?_
              go_wp2_with ((with_reducible apply st_storeW (off := 0) (vs := nums .u8 (R1)) (cs := nums .u8 (List.replicate 32 0)) (T := 45)); rfl; rfl; exact hz10; (rw [nums_length, HRO.out.1]; kernel_rfl); (rw [nums_length, HRO.out.1]; decide); exact nums_one _ _; intro w10 hd10 hw10; rw [laid_all _ _ (by rw [nums_length, HRO.out.1]; rfl)] at hd10)
              refine ⟨.inr (Wrote.below hG hw10 (by omega)), ?_⟩
              refine wd_nil ?_
              have hle1 := hw10.blk hd9 (by omega)
              have hri1 := hd10
              have hla := hw10.blk (hw9.blk hla (by omega)) (by omega)
              have hB := Wrote.below (Wrote.below hB hw9 (by omega)) hw10 (by omega)
              clear hz9 hz10 hd9 hd10
              have hri1l := hri1.lt
              have hle1l := hle1.lt
              have hlal := hla.lt
              go_wp2_with fail
              --MARKR4L
              refine wp_region_R 4 [2, 3] (.cells (nums .u8 (List.replicate 32 0)).toArray 45) [4, 5] (by kernel_rfl) (by kernel_rfl) (by intro c a w h; first | (obtain ⟨_, h, _⟩ := h; cases h; done) | (obtain ⟨_, _, h, _⟩ := h; cases h; done) | (obtain ⟨_, _, _, h, _⟩ := h; cases h; done) | (obtain ⟨_, _, _, _, h, _⟩ := h; cases h; done) | (rcases h with ⟨_, ⟨_, _, _, _, h, _⟩ | ⟨_, _, _, _, h, _⟩⟩ <;> cases h; done)) (by intro a w h; first | (obtain ⟨h, _⟩ := h; cases h; done) | (obtain ⟨_, h, _⟩ := h; cases h; done) | (obtain ⟨_, _, h, _⟩ := h; cases h; done) | (obtain ⟨_, _, _, h, _⟩ := h; cases h; done) | (rcases h with ⟨_, _, _, _, h, _⟩ | ⟨_, _, _, _, h, _⟩ <;> cases h; done)) ?_
              simp only [List.take_succ_cons, List.take_zero, List.drop_succ_cons, List.drop_zero]
              have hB := hB.drew
              repeat (refine wr_w (v := ?_) rfl rfl rfl rfl rfl (fun w' hw' K hK => ?_) ?_; rotate_left; (have e2 := hla.drew.up hw'; go_wp2_with (((with_reducible apply st_load (n := 32) (cs := nums .u8 (last)) (T := 45)); rfl; exact e2; exact Tryd.underlying45; rfl; kernel_rfl; (rw [nums_length, HLAST.out.1]; exact Nat.le_refl _); (exact row_all _ _ (by rw [nums_length, HLAST.out.1])))); exact rfl); simp only [Act.put, List.setIfInBounds_toArray, List.set_cons_zero, List.set_cons_succ])
              refine wr_make rfl rfl (fun W => by go_simp; rfl) (fun g20 hg20 hn20 => ?_)
              simp only [Act.put, List.setIfInBounds_toArray, List.set_cons_zero, List.set_cons_succ]
              refine wr_make rfl rfl (fun W => by go_simp; rfl) (fun g21 hg21 hn21 => ?_)
              simp only [Act.put, List.setIfInBounds_toArray, List.set_cons_zero, List.set_cons_succ]
              refine wr_nil (fun w11 hG hU => ?_)
              have hg20 : w10.heap.size ≤ g20 := hg20
              have hg21 : w10.heap.size ≤ g21 := hg21
              have hne21 : g21 ≠ g20 := by simpa using hn21
              have hz11 : Blk w11 g20 (nums .u8 (List.replicate 32 0)) 45 := hU g20 (by simp)
              have hz12 : Blk w11 g21 (nums .u8 (List.replicate 32 0)) 45 := hU g21 (by simp)
              have h510 := hB.size
              have hs1010 : w10.drew.heap.size = w10.heap.size := rfl
              have hB := hB.trans (hG.mono hB.size)
              have hle1 := hle1.drew.up hG
              have hri1 := hri1.drew.up hG
              have hla := hla.drew.up hG
              --MARKS
              refine wd_l rfl rfl (by intro a w h; first | (obtain ⟨h, _⟩ := h; cases h; done) | (obtain ⟨_, h, _⟩ := h; cases h; done) | (obtain ⟨_, _, h, _⟩ := h; cases h; done) | (obtain ⟨_, _, _, h, _⟩ := h; cases h; done) | (rcases h with ⟨_, _, _, _, h, _⟩ | ⟨_, _, _, _, h, _⟩ <;> cases h; done)) ?_
              go_wp2_with ((with_reducible apply st_storeW (off := 0) (vs := nums .u8 (last)) (cs := nums .u8 (List.replicate 32 0)) (T := 45)); rfl; rfl; exact hz11; (rw [nums_length, HLAST.out.1]; kernel_rfl); (rw [nums_length, HLAST.out.1]; decide); exact nums_one _ _; intro w11 hd11 hw11; rw [laid_all _ _ (by rw [nums_length, HLAST.out.1]; rfl)] at hd11)
              have hG := Wrote.below hG hw11 (by omega)
              refine ⟨.inr hG, ?_⟩
              have hz12 := hw11.blk hz12 (by omega)
              refine wd_l rfl rfl (by intro a w h; first | (obtain ⟨h, _⟩ := h; cases h; done) | (obtain ⟨_, h, _⟩ := h; cases h; done) | (obtain ⟨_, _, h, _⟩ := h; cases h; done) | (obtain ⟨_, _, _, h, _⟩ := h; cases h; done) | (rcases h with ⟨_, _, _, _, h, _⟩ | ⟨_, _, _, _, h, _⟩ <;> cases h; done)) ?_
              go_wp2_with ((with_reducible apply st_storeW (off := 0) (vs := nums .u8 (last)) (cs := nums .u8 (List.replicate 32 0)) (T := 45)); rfl; rfl; exact hz12; (rw [nums_length, HLAST.out.1]; kernel_rfl); (rw [nums_length, HLAST.out.1]; decide); exact nums_one _ _; intro w12 hd12 hw12; rw [laid_all _ _ (by rw [nums_length, HLAST.out.1]; rfl)] at hd12)
              refine ⟨.inr (Wrote.below hG hw12 (by omega)), ?_⟩
              refine wd_nil ?_
              have hx := hw12.blk hd11 (by omega)
              have hy := hd12
              have hle1 := hw12.blk (hw11.blk hle1 (by omega)) (by omega)
              have hri1 := hw12.blk (hw11.blk hri1 (by omega)) (by omega)
              have hla := hw12.blk (hw11.blk hla (by omega)) (by omega)
              have hB := Wrote.below (Wrote.below hB hw11 (by omega)) hw12 (by omega)
              have hxl := hx.lt
              have hyl := hy.lt
              have hdw := hdd.up hB
              clear hz11 hz12 hd11 hd12
              --MARKR5L
              go_wp2_with ((with_reducible apply st_load (n := 32) (cs := nums .u8 (old)) (T := 45)); rfl; exact hdw; exact Tryd.underlying45; rfl; kernel_rfl; (rw [nums_length, HDO.out.1]; exact Nat.le_refl _); (exact row_all _ _ (by rw [nums_length, HDO.out.1])))
              go_at_call 46
              refine (HK1.out _ (HTK.out.up hB) (HK5.out.below hB HK5.out.lt)).mono ?_
              rintro e w13 ⟨rfl, hb⟩
              have hB := hB.trans (hb.mono hB.size)
              have hx := hx.up hb
              have hy := hy.up hb
              have hle1 := hle1.up hb
              have hri1 := hri1.up hb
              clear hla hdw
              --MARKR6L
              have hlal := hle1.lt
              have hlar := hri1.lt
              have hneq1 := run_neq_nums (P := Tryd.prog) (t := 45) Tryd.underlying45 Tryd.underlying5 (by kernel_rfl) (by kernel_rfl) X L1 HXO.out.1 HLO.out.1
              have hneq2 := run_neq_nums (P := Tryd.prog) (t := 45) Tryd.underlying45 Tryd.underlying5 (by kernel_rfl) (by kernel_rfl) last R1 HLAST.out.1 HRO.out.1
              by_cases hh1 : X = L1
              · rw [decide_eq_true hh1, Bool.not_true] at hneq1
                by_cases hh2 : last = R1
                · rw [decide_eq_true hh2, Bool.not_true] at hneq2
                  have HNXT := Lib.hid (HGO.out hh1 hh2)
                  clear hh1 hh2
                  go_wp2_with (first | ((with_reducible apply st_met); rfl) | (((with_reducible apply st_storeW (off := 0) (vs := nums .u8 (X)) (cs := nums .u8 (last)) (T := 45)); rfl; rfl; exact hx; (rw [nums_length, HXO.out.1]; kernel_rfl); (rw [nums_length, HXO.out.1, nums_length, HLAST.out.1]; decide); exact nums_one _ _; intro w14 hd14 hw14; rw [laid_all _ _ (by rw [nums_length, nums_length, HXO.out.1, HLAST.out.1])] at hd14); have hx := hd14; have hy := hw14.blk hy (by omega); have hle1 := hw14.blk hle1 (by omega); have hri1 := hw14.blk hri1 (by omega); have hyl2 := hy.lt; have hB := Wrote.below hB hw14 (by omega)) | ((with_reducible apply st_load (n := 32) (cs := nums .u8 (X)) (T := 45)); rfl; exact hx; exact Tryd.underlying45; rfl; kernel_rfl; (rw [nums_length, HXO.out.1]; exact Nat.le_refl _); (exact row_all _ _ (by rw [nums_length, HXO.out.1]))) | ((with_reducible apply st_load (n := 32) (cs := nums .u8 (L1)) (T := 45)); rfl; exact hle1; exact Tryd.underlying45; rfl; kernel_rfl; (rw [nums_length, HLO.out.1]; exact Nat.le_refl _); (exact row_all _ _ (by rw [nums_length, HLO.out.1]))) | ((with_reducible apply st_load (n := 32) (cs := nums .u8 (last)) (T := 45)); rfl; exact hy; exact Tryd.underlying45; rfl; kernel_rfl; (rw [nums_length, HLAST.out.1]; exact Nat.le_refl _); (exact row_all _ _ (by rw [nums_length, HLAST.out.1]))) | ((with_reducible apply st_load (n := 32) (cs := nums .u8 (R1)) (T := 45)); rfl; exact hri1; exact Tryd.underlying45; rfl; kernel_rfl; (rw [nums_length, HRO.out.1]; exact Nat.le_refl _); (exact row_all _ _ (by rw [nums_length, HRO.out.1]))))
                  go_wp2_with ((with_reducible apply st_toD (sz := 32) (i := K)); exact Tryd.underlying30; kernel_rfl; rfl; rfl; rfl; omega; exact nn_some; exact spot_none)
                  --MARKCL
                  go_roundw
                  case rel => exact ⟨cur.take K, rest, m, whole, _, _, _, _, rfl, by rw [HPOS.out], by rw [HTL.out], rfl, HNXT, HT1, HTK, by rw [HTL.out]; omega, by rw [← HPOS.out]; omega, hB⟩
                  case measure => simp [lenV]; omega
                · rw [decide_eq_false hh2, Bool.not_false] at hneq2
                  have HCLA := Lib.hid (HNEQ.out (fun e => hh2 e.2))
                  clear hh1 hh2
                  go_wp2_with (first | ((with_reducible apply st_met); rfl) | (((with_reducible apply st_storeW (off := 0) (vs := nums .u8 (X)) (cs := nums .u8 (last)) (T := 45)); rfl; rfl; exact hx; (rw [nums_length, HXO.out.1]; kernel_rfl); (rw [nums_length, HXO.out.1, nums_length, HLAST.out.1]; decide); exact nums_one _ _; intro w14 hd14 hw14; rw [laid_all _ _ (by rw [nums_length, nums_length, HXO.out.1, HLAST.out.1])] at hd14); have hx := hd14; have hy := hw14.blk hy (by omega); have hle1 := hw14.blk hle1 (by omega); have hri1 := hw14.blk hri1 (by omega); have hyl2 := hy.lt; have hB := Wrote.below hB hw14 (by omega)) | ((with_reducible apply st_load (n := 32) (cs := nums .u8 (X)) (T := 45)); rfl; exact hx; exact Tryd.underlying45; rfl; kernel_rfl; (rw [nums_length, HXO.out.1]; exact Nat.le_refl _); (exact row_all _ _ (by rw [nums_length, HXO.out.1]))) | ((with_reducible apply st_load (n := 32) (cs := nums .u8 (L1)) (T := 45)); rfl; exact hle1; exact Tryd.underlying45; rfl; kernel_rfl; (rw [nums_length, HLO.out.1]; exact Nat.le_refl _); (exact row_all _ _ (by rw [nums_length, HLO.out.1]))) | ((with_reducible apply st_load (n := 32) (cs := nums .u8 (last)) (T := 45)); rfl; exact hy; exact Tryd.underlying45; rfl; kernel_rfl; (rw [nums_length, HLAST.out.1]; exact Nat.le_refl _); (exact row_all _ _ (by rw [nums_length, HLAST.out.1]))) | ((with_reducible apply st_load (n := 32) (cs := nums .u8 (R1)) (T := 45)); rfl; exact hri1; exact Tryd.underlying45; rfl; kernel_rfl; (rw [nums_length, HRO.out.1]; exact Nat.le_refl _); (exact row_all _ _ (by rw [nums_length, HRO.out.1]))))
                  --MARKN
                  refine wp_region_C (Same [g20, g21, g18, g19] w14) [2, 5, 7] (by kernel_rfl) (by kernel_rfl) (by intro c a w h; first | (obtain ⟨_, h, _⟩ := h; cases h; done) | (obtain ⟨_, _, h, _⟩ := h; cases h; done) | (obtain ⟨_, _, _, h, _⟩ := h; cases h; done) | (obtain ⟨_, _, _, _, h, _⟩ := h; cases h; done) | (rcases h with ⟨_, ⟨_, _, _, _, h, _⟩ | ⟨_, _, _, _, h, _⟩⟩ <;> cases h; done)) (by intro a w h; first | (obtain ⟨h, _⟩ := h; cases h; done) | (obtain ⟨_, h, _⟩ := h; cases h; done) | (obtain ⟨_, _, h, _⟩ := h; cases h; done) | (obtain ⟨_, _, _, h, _⟩ := h; cases h; done) | (rcases h with ⟨_, _, _, _, h, _⟩ | ⟨_, _, _, _, h, _⟩ <;> cases h; done)) (Same.refl _ _) ?_
                  repeat (refine wd_w (v := ?_) rfl rfl rfl rfl rfl rfl (fun w' hw' K hK => ?_) ?_; rotate_left; (have e1 := hw'.blk hx (by simp); have e2 := hw'.blk hy (by simp); go_wp2_with ((first | ((with_reducible apply st_load (n := 32) (cs := nums .u8 (X)) (T := 45)); rfl; exact e1; exact Tryd.underlying45; rfl; kernel_rfl; (rw [nums_length, HXO.out.1]; exact Nat.le_refl _); (exact row_all _ _ (by rw [nums_length, HXO.out.1]))) | ((with_reducible apply st_load (n := 32) (cs := nums .u8 (last)) (T := 45)); rfl; exact e2; exact Tryd.underlying45; rfl; kernel_rfl; (rw [nums_length, HLAST.out.1]; exact Nat.le_refl _); (exact row_all _ _ (by rw [nums_length, HLAST.out.1]))))); exact rfl); simp only [Act.put, List.setIfInBounds_toArray, List.set_cons_zero, List.set_cons_succ])
                  have hB := hB.drew
                  have hr := (hr.up hB)
                  have h5n := hB.size
                  have q1 := hx.lt
                  have q2 := hy.lt
                  have q3 := hle1.lt
                  have q4 := hri1.lt
                  refine wd_l rfl rfl (by intro a w h; first | (obtain ⟨h, _⟩ := h; cases h; done) | (obtain ⟨_, h, _⟩ := h; cases h; done) | (obtain ⟨_, _, h, _⟩ := h; cases h; done) | (obtain ⟨_, _, _, h, _⟩ := h; cases h; done) | (rcases h with ⟨_, _, _, _, h, _⟩ | ⟨_, _, _, _, h, _⟩ <;> cases h; done)) ?_
                  go_wp2_with fail
                  go_at_call 40
                  refine (clnode_any _ X last HXO.out.1 HLAST.out.1).mono ?_
                  rintro e w20 ⟨v1, rfl, hb, ho1⟩
                  have hB := hB.trans (hb.mono hB.size)
                  have hr := hr.up hb
                  obtain ⟨B1, e1, rfl, hy1, hn1⟩ := ho1.byt (U8.cons (by decide) (U8.append HXO.out.2 HLAST.out.2))
                  have hs20 : Same [g20, g21, g18, g19] w14 w20 := fun gg hg => (hb.block gg (by simp at hg; have : w14.drew.heap.size = w14.heap.size := rfl; omega))
                  go_wp2_with fail
                  refine ⟨.inr (hs20), ?_⟩
                  repeat (refine wd_w (v := ?_) rfl rfl rfl rfl rfl rfl (fun w' hw' K hK => ?_) ?_; rotate_left; (have e1 := hw'.blk hle1 (by simp); have e2 := hw'.blk hri1 (by simp); go_wp2_with ((first | ((with_reducible apply st_load (n := 32) (cs := nums .u8 (L1)) (T := 45)); rfl; exact e1; exact Tryd.underlying45; rfl; kernel_rfl; (rw [nums_length, HLO.out.1]; exact Nat.le_refl _); (exact row_all _ _ (by rw [nums_length, HLO.out.1]))) | ((with_reducible apply st_load (n := 32) (cs := nums .u8 (R1)) (T := 45)); rfl; exact e2; exact Tryd.underlying45; rfl; kernel_rfl; (rw [nums_length, HRO.out.1]; exact Nat.le_refl _); (exact row_all _ _ (by rw [nums_length, HRO.out.1]))))); exact rfl); simp only [Act.put, List.setIfInBounds_toArray, List.set_cons_zero, List.set_cons_succ])
                  have h20 := hb.size
                  refine wd_l rfl rfl (by intro a w h; first | (obtain ⟨h, _⟩ := h; cases h; done) | (obtain ⟨_, h, _⟩ := h; cases h; done) | (obtain ⟨_, _, h, _⟩ := h; cases h; done) | (obtain ⟨_, _, _, h, _⟩ := h; cases h; done) | (rcases h with ⟨_, _, _, _, h, _⟩ | ⟨_, _, _, _, h, _⟩ <;> cases h; done)) ?_
                  go_wp2_with fail
                  go_at_call 40
                  refine (clnode_any _ L1 R1 HLO.out.1 HRO.out.1).mono ?_
                  rintro e w21 ⟨v2, rfl, hb, ho2⟩
                  have hB := hB.trans (hb.mono hB.size)
                  have hr := hr.up hb
                  obtain ⟨B2, e2, rfl, hy2, hn2⟩ := ho2.byt (U8.cons (by decide) (U8.append HLO.out.2 HRO.out.2))
                  have hy1 := hy1.up hb
                  have hs21 : Same [g20, g21, g18, g19] w14 w21 := fun gg hg => (hb.block gg (by simp at hg; have : w14.drew.heap.size = w14.heap.size := rfl; omega)).trans (hs20 gg hg)
                  go_wp2_with fail
                  refine ⟨.inr (hs21), ?_⟩
                  repeat (refine wd_q (v := ?_) rfl rfl rfl rfl rfl rfl (fun w' hw' K hK => ?_) ?_; rotate_left; (skip; go_wp2; exact rfl); simp only [Act.put, List.setIfInBounds_toArray, List.set_cons_zero, List.set_cons_succ])
                  refine wd_l rfl rfl (by intro a w h; first | (obtain ⟨h, _⟩ := h; cases h; done) | (obtain ⟨_, h, _⟩ := h; cases h; done) | (obtain ⟨_, _, h, _⟩ := h; cases h; done) | (obtain ⟨_, _, _, h, _⟩ := h; cases h; done) | (rcases h with ⟨_, _, _, _, h, _⟩ | ⟨_, _, _, _, h, _⟩ <;> cases h; done)) ?_
                  go_wp2_with ((with_reducible apply st_storeW (off := 0) (vs := clC (nodeT X last) (nodeT L1 R1) B1 B2 e1 e2) (cs := clC [] [] none none 0 0) (T := 25)); rfl; rfl; exact hr; exact clSize; (simp [clC]); exact clC_one _ _ _ _ _ _; intro w22 hd22 hw22; rw [laid_all _ _ (by rfl)] at hd22)
                  refine ⟨.inr (hs21.wrote hw22 (by simp; omega)), ?_⟩
                  refine wd_assign (v := .bool true) rfl rfl rfl rfl ?_
                  refine wd_nil ?_
                  simp only [Act.put, List.setIfInBounds_toArray, List.set_cons_zero, List.set_cons_succ]
                  have hB22 := Wrote.below (HB5.out.trans (hB.mono h5s)) hw22 (by omega)
                  go_wp2_with fail
                  --MARKM
                  refine bodyPost_ret (ret_row_tmp rfl _ _ _ (clC (nodeT X last) (nodeT L1 R1) B1 B2 e1 e2) 25 _ rfl hd22 Tryd.underlying25 rfl (by exact clSize)) rfl (by exact (⟨_, rfl, hB22, ClAns.some (hy1.wrote hw22 (fun a ha => by have := hn1 a ha; have : w14.drew.heap.size = w14.heap.size := rfl; omega)) (hy2.wrote hw22 (fun a ha => by have := hn2 a ha; omega)) (by simp [nodeT, HXO.out.1, HLAST.out.1]) (by simp [nodeT, HLO.out.1, HRO.out.1]) HCLA.out⟩))
              · rw [decide_eq_false hh1, Bool.not_false] at hneq1
                have HCLA := Lib.hid (HNEQ.out (fun e => hh1 e.1))
                clear hh1 hneq2
                go_wp2_with (first | ((with_reducible apply st_met); rfl) | (((with_reducible apply st_storeW (off := 0) (vs := nums .u8 (X)) (cs := nums .u8 (last)) (T := 45)); rfl; rfl; exact hx; (rw [nums_length, HXO.out.1]; kernel_rfl); (rw [nums_length, HXO.out.1, nums_length, HLAST.out.1]; decide); exact nums_one _ _; intro w14 hd14 hw14; rw [laid_all _ _ (by rw [nums_length, nums_length, HXO.out.1, HLAST.out.1])] at hd14); have hx := hd14; have hy := hw14.blk hy (by omega); have hle1 := hw14.blk hle1 (by omega); have hri1 := hw14.blk hri1 (by omega); have hyl2 := hy.lt; have hB := Wrote.below hB hw14 (by omega)) | ((with_reducible apply st_load (n := 32) (cs := nums .u8 (X)) (T := 45)); rfl; exact hx; exact Tryd.underlying45; rfl; kernel_rfl; (rw [nums_length, HXO.out.1]; exact Nat.le_refl _); (exact row_all _ _ (by rw [nums_length, HXO.out.1]))) | ((with_reducible apply st_load (n := 32) (cs := nums .u8 (L1)) (T := 45)); rfl; exact hle1; exact Tryd.underlying45; rfl; kernel_rfl; (rw [nums_length, HLO.out.1]; exact Nat.le_refl _); (exact row_all _ _ (by rw [nums_length, HLO.out.1]))) | ((with_reducible apply st_load (n := 32) (cs := nums .u8 (last)) (T := 45)); rfl; exact hy; exact Tryd.underlying45; rfl; kernel_rfl; (rw [nums_length, HLAST.out.1]; exact Nat.le_refl _); (exact row_all _ _ (by rw [nums_length, HLAST.out.1]))) | ((with_reducible apply st_load (n := 32) (cs := nums .u8 (R1)) (T := 45)); rfl; exact hri1; exact Tryd.underlying45; rfl; kernel_rfl; (rw [nums_length, HRO.out.1]; exact Nat.le_refl _); (exact row_all _ _ (by rw [nums_length, HRO.out.1]))))
                --MARKN
                refine wp_region_C (Same [g20, g21, g18, g19] w14) [2, 5, 7] (by kernel_rfl) (by kernel_rfl) (by intro c a w h; first | (obtain ⟨_, h, _⟩ := h; cases h; done) | (obtain ⟨_, _, h, _⟩ := h; cases h; done) | (obtain ⟨_, _, _, h, _⟩ := h; cases h; done) | (obtain ⟨_, _, _, _, h, _⟩ := h; cases h; done) | (rcases h with ⟨_, ⟨_, _, _, _, h, _⟩ | ⟨_, _, _, _, h, _⟩⟩ <;> cases h; done)) (by intro a w h; first | (obtain ⟨h, _⟩ := h; cases h; done) | (obtain ⟨_, h, _⟩ := h; cases h; done) | (obtain ⟨_, _, h, _⟩ := h; cases h; done) | (obtain ⟨_, _, _, h, _⟩ := h; cases h; done) | (rcases h with ⟨_, _, _, _, h, _⟩ | ⟨_, _, _, _, h, _⟩ <;> cases h; done)) (Same.refl _ _) ?_
                repeat (refine wd_w (v := ?_) rfl rfl rfl rfl rfl rfl (fun w' hw' K hK => ?_) ?_; rotate_left; (have e1 := hw'.blk hx (by simp); have e2 := hw'.blk hy (by simp); go_wp2_with ((first | ((with_reducible apply st_load (n := 32) (cs := nums .u8 (X)) (T := 45)); rfl; exact e1; exact Tryd.underlying45; rfl; kernel_rfl; (rw [nums_length, HXO.out.1]; exact Nat.le_refl _); (exact row_all _ _ (by rw [nums_length, HXO.out.1]))) | ((with_reducible apply st_load (n := 32) (cs := nums .u8 (last)) (T := 45)); rfl; exact e2; exact Tryd.underlying45; rfl; kernel_rfl; (rw [nums_length, HLAST.out.1]; exact Nat.le_refl _); (exact row_all _ _ (by rw [nums_length, HLAST.out.1]))))); exact rfl); simp only [Act.put, List.setIfInBounds_toArray, List.set_cons_zero, List.set_cons_succ])
                have hB := hB.drew
                have hr := (hr.up hB)
                have h5n := hB.size
                have q1 := hx.lt
                have q2 := hy.lt
                have q3 := hle1.lt
                have q4 := hri1.lt
                refine wd_l rfl rfl (by intro a w h; first | (obtain ⟨h, _⟩ := h; cases h; done) | (obtain ⟨_, h, _⟩ := h; cases h; done) | (obtain ⟨_, _, h, _⟩ := h; cases h; done) | (obtain ⟨_, _, _, h, _⟩ := h; cases h; done) | (rcases h with ⟨_, _, _, _, h, _⟩ | ⟨_, _, _, _, h, _⟩ <;> cases h; done)) ?_
                go_wp2_with fail
                go_at_call 40
                refine (clnode_any _ X last HXO.out.1 HLAST.out.1).mono ?_
                rintro e w20 ⟨v1, rfl, hb, ho1⟩
                have hB := hB.trans (hb.mono hB.size)
                have hr := hr.up hb
                obtain ⟨B1, e1, rfl, hy1, hn1⟩ := ho1.byt (U8.cons (by decide) (U8.append HXO.out.2 HLAST.out.2))
                have hs20 : Same [g20, g21, g18, g19] w14 w20 := fun gg hg => (hb.block gg (by simp at hg; have : w14.drew.heap.size = w14.heap.size := rfl; omega))
                go_wp2_with fail
                refine ⟨.inr (hs20), ?_⟩
                repeat (refine wd_w (v := ?_) rfl rfl rfl rfl rfl rfl (fun w' hw' K hK => ?_) ?_; rotate_left; (have e1 := hw'.blk hle1 (by simp); have e2 := hw'.blk hri1 (by simp); go_wp2_with ((first | ((with_reducible apply st_load (n := 32) (cs := nums .u8 (L1)) (T := 45)); rfl; exact e1; exact Tryd.underlying45; rfl; kernel_rfl; (rw [nums_length, HLO.out.1]; exact Nat.le_refl _); (exact row_all _ _ (by rw [nums_length, HLO.out.1]))) | ((with_reducible apply st_load (n := 32) (cs := nums .u8 (R1)) (T := 45)); rfl; exact e2; exact Tryd.underlying45; rfl; kernel_rfl; (rw [nums_length, HRO.out.1]; exact Nat.le_refl _); (exact row_all _ _ (by rw [nums_length, HRO.out.1]))))); exact rfl); simp only [Act.put, List.setIfInBounds_toArray, List.set_cons_zero, List.set_cons_succ])
                have h20 := hb.size
                refine wd_l rfl rfl (by intro a w h; first | (obtain ⟨h, _⟩ := h; cases h; done) | (obtain ⟨_, h, _⟩ := h; cases h; done) | (obtain ⟨_, _, h, _⟩ := h; cases h; done) | (obtain ⟨_, _, _, h, _⟩ := h; cases h; done) | (rcases h with ⟨_, _, _, _, h, _⟩ | ⟨_, _, _, _, h, _⟩ <;> cases h; done)) ?_
                go_wp2_with fail
                go_at_call 40
                refine (clnode_any _ L1 R1 HLO.out.1 HRO.out.1).mono ?_
                rintro e w21 ⟨v2, rfl, hb, ho2⟩
                have hB := hB.trans (hb.mono hB.size)
                have hr := hr.up hb
                obtain ⟨B2, e2, rfl, hy2, hn2⟩ := ho2.byt (U8.cons (by decide) (U8.append HLO.out.2 HRO.out.2))
                have hy1 := hy1.up hb
                have hs21 : Same [g20, g21, g18, g19] w14 w21 := fun gg hg => (hb.block gg (by simp at hg; have : w14.drew.heap.size = w14.heap.size := rfl; omega)).trans (hs20 gg hg)
                go_wp2_with fail
                refine ⟨.inr (hs21), ?_⟩
                repeat (refine wd_q (v := ?_) rfl rfl rfl rfl rfl rfl (fun w' hw' K hK => ?_) ?_; rotate_left; (skip; go_wp2; exact rfl); simp only [Act.put, List.setIfInBounds_toArray, List.set_cons_zero, List.set_cons_succ])
                refine wd_l rfl rfl (by intro a w h; first | (obtain ⟨h, _⟩ := h; cases h; done) | (obtain ⟨_, h, _⟩ := h; cases h; done) | (obtain ⟨_, _, h, _⟩ := h; cases h; done) | (obtain ⟨_, _, _, h, _⟩ := h; cases h; done) | (rcases h with ⟨_, _, _, _, h, _⟩ | ⟨_, _, _, _, h, _⟩ <;> cases h; done)) ?_
                go_wp2_with ((with_reducible apply st_storeW (off := 0) (vs := clC (nodeT X last) (nodeT L1 R1) B1 B2 e1 e2) (cs := clC [] [] none none 0 0) (T := 25)); rfl; rfl; exact hr; exact clSize; (simp [clC]); exact clC_one _ _ _ _ _ _; intro w22 hd22 hw22; rw [laid_all _ _ (by rfl)] at hd22)
                refine ⟨.inr (hs21.wrote hw22 (by simp; omega)), ?_⟩
                refine wd_assign (v := .bool true) rfl rfl rfl rfl ?_
                refine wd_nil ?_
                simp only [Act.put, List.setIfInBounds_toArray, List.set_cons_zero, List.set_cons_succ]
                have hB22 := Wrote.below (HB5.out.trans (hB.mono h5s)) hw22 (by omega)
                go_wp2_with fail
                --MARKM
                refine bodyPost_ret (ret_row_tmp rfl _ _ _ (clC (nodeT X last) (nodeT L1 R1) B1 B2 e1 e2) 25 _ rfl hd22 Tryd.underlying25 rfl (by exact clSize)) rfl (by exact (⟨_, rfl, hB22, ClAns.some (hy1.wrote hw22 (fun a ha => by have := hn1 a ha; have : w14.drew.heap.size = w14.heap.size := rfl; omega)) (hy2.wrote hw22 (fun a ha => by have := hn2 a ha; omega)) (by simp [nodeT, HXO.out.1, HLAST.out.1]) (by simp [nodeT, HLO.out.1, HRO.out.1]) HCLA.out⟩))
            · obtain ⟨hs2, hne, hgo⟩ := hS.right hll hik
              have hk1 := fun (W : World) (h : Dg W (some ⟨g1, off, none⟩) cq rest) => second_any (cur.length - kF cur.length) W old (m - kF cur.length) rest (some ⟨g1, off, none⟩) cq false HDO.out.1 HDO.out.2 h (by omega) z (by omega) (by omega) (by omega) hs2
              rw [show ((cur.length - kF cur.length : Nat) : Int) = (cur.length : Int) - (kF cur.length : Int) by omega, show ((m - kF cur.length : Nat) : Int) = (m : Int) - (kF cur.length : Int) by omega] at hk1
              have hxo := secF_ok (cur.length - kF cur.length) old (m - kF cur.length) rest false z HDO.out hrd (by omega) (by omega) hs2
              obtain ⟨X, hX⟩ : ∃ X, X = secF old (m - kF cur.length) (cur.length - kF cur.length) rest false z := ⟨_, rfl⟩
              rw [← hX] at hne hgo hk1 hxo
              obtain ⟨L1, hL1⟩ : ∃ L1, L1 = rootF (cur.take (kF cur.length)) z := ⟨_, rfl⟩
              obtain ⟨R1, hR1⟩ : ∃ R1, R1 = rootF (cur.drop (kF cur.length)) z := ⟨_, rfl⟩
              rw [← hL1] at hne hc1 hlo hgo
              rw [← hR1] at hne hc2 hro hgo
              rw [← hqq] at hk1
              obtain ⟨K, hK⟩ : ∃ K, K = kF cur.length := ⟨_, rfl⟩
              rw [← hK] at hks hik hc1 hc2 ht hdr htl hdl hgo hk1
              obtain ⟨k1, k2, k3, k4⟩ := hks
              have HSP := Lib.hid k4
              have HC1 := Lib.hid hc1
              have HC2 := Lib.hid hc2
              have HK1 := Lib.hid hk1
              have HT1 := Lib.hid ht
              have HDR := Lib.hid hdr
              have HLO := Lib.hid hlo
              have HRO := Lib.hid hro
              have HXO := Lib.hid hxo
              have HLAST := Lib.hid (And.intro hll hlu)
              have HC0 := Lib.hid hc0
              have HTK := Lib.hid htk
              have HGO := Lib.hid hgo
              have HNEQ := Lib.hid hne
              have HTL := Lib.hid htl
              have HDLL := Lib.hid hdl
              have HPOS := Lib.hid hqq
              rw [hq]
              clear hpos hps hqq hll hlu hc0 htk hS hcu ht hdr htl hdl hlo hro hc1 hc2 hk1 hxo hX hL1 hR1 hK k4 hne hgo hs2 hrd
              go_wp2_with fail
              --MARKR1R
              refine wp_region_CF (Same [g1] wr) [14, 15] [16, 17] (by kernel_rfl) (by kernel_rfl) (by intro c a w h; first | (obtain ⟨_, h, _⟩ := h; cases h; done) | (obtain ⟨_, _, h, _⟩ := h; cases h; done) | (obtain ⟨_, _, _, h, _⟩ := h; cases h; done) | (obtain ⟨_, _, _, _, h, _⟩ := h; cases h; done) | (rcases h with ⟨_, ⟨_, _, _, _, h, _⟩ | ⟨_, _, _, _, h, _⟩⟩ <;> cases h; done)) (by intro a w h; first | (obtain ⟨h, _⟩ := h; cases h; done) | (obtain ⟨_, h, _⟩ := h; cases h; done) | (obtain ⟨_, _, h, _⟩ := h; cases h; done) | (obtain ⟨_, _, _, h, _⟩ := h; cases h; done) | (rcases h with ⟨_, _, _, _, h, _⟩ | ⟨_, _, _, _, h, _⟩ <;> cases h; done)) (Same.refl _ _) ?_
              repeat (refine wd_w (v := ?_) rfl rfl rfl rfl rfl rfl (fun w' hw' K hK => ?_) ?_; rotate_left; (have e1 : ∀ j v, (nums .u8 last)[j]? = some v → w'.cell? ⟨g1, off + q * 32 + j, none⟩ = some v := fun j v hv => (hw'.cell g1 (by simp) _).trans ((hB.cell (p := ⟨g1, off + q * 32 + j, none⟩) hg1).trans (HC0.out j v hv)); go_wp2_with ((first | ((with_reducible apply st_loadCells (cs := nums .u8 (last))); rfl; exact e1; exact Tryd.underlying45; rfl; (rw [nums_length, HLAST.out.1]; kernel_rfl)) | ((with_reducible apply st_toD (sz := 32) (i := q)); exact Tryd.underlying30; kernel_rfl; rfl; rfl; rfl; omega; exact nn_some; exact spot_none))); exact rfl); simp only [Act.put, List.setIfInBounds_toArray, List.set_cons_zero, List.set_cons_succ])
              refine wd_qc (v := .int .i64 K) (f := 38) (args := #[.int .i64 cur.length]) rfl rfl (by kernel_rfl) (fun W => by go_simp) (fun W => by have hcall := split_any W cur.length (by omega) (by omega); rw [HSP.out] at hcall; exact hcall) ?_
              simp only [Act.put, List.setIfInBounds_toArray, List.set_cons_zero, List.set_cons_succ]
              refine wd_l rfl rfl (by intro a w h; first | (obtain ⟨h, _⟩ := h; cases h; done) | (obtain ⟨_, h, _⟩ := h; cases h; done) | (obtain ⟨_, _, h, _⟩ := h; cases h; done) | (obtain ⟨_, _, _, h, _⟩ := h; cases h; done) | (rcases h with ⟨_, _, _, _, h, _⟩ | ⟨_, _, _, _, h, _⟩ <;> cases h; done)) ?_
              go_wp2
              refine ⟨.inr ((Same.refl _ _).drewR.alloc (by simp; omega) _), ?_⟩
              refine wd_l rfl rfl (by intro a w h; first | (obtain ⟨h, _⟩ := h; cases h; done) | (obtain ⟨_, h, _⟩ := h; cases h; done) | (obtain ⟨_, _, h, _⟩ := h; cases h; done) | (obtain ⟨_, _, _, h, _⟩ := h; cases h; done) | (rcases h with ⟨_, _, _, _, h, _⟩ | ⟨_, _, _, _, h, _⟩ <;> cases h; done)) ?_
              have hl0 : Blk (wr.drew.alloc (.cells (nums .u8 (List.replicate 32 0)).toArray 45)) wr.heap.size (nums .u8 (List.replicate 32 0)) 45 := Blk.new' _ _ _ _ _ rfl rfl
              go_wp2_with ((with_reducible apply st_storeW (off := 0) (vs := nums .u8 (last)) (cs := nums .u8 (List.replicate 32 0)) (T := 45)); rfl; rfl; exact hl0; (rw [nums_length, HLAST.out.1]; kernel_rfl); (rw [nums_length, HLAST.out.1]; decide); exact nums_one _ _; intro w6 hd6 hw6; rw [laid_all _ _ (by rw [nums_length, HLAST.out.1]; rfl)] at hd6)
              refine ⟨.inr (((Same.refl _ _).drewR.alloc (by simp; omega) _).wrote hw6 (by simp; omega)), ?_⟩
              refine wd_assign (v := .slice (some ⟨g1, off, none⟩) q cq) rfl rfl rfl rfl ?_
              simp only [Act.put, List.setIfInBounds_toArray, List.set_cons_zero, List.set_cons_succ]
              refine wd_assign (v := .int .i64 K) rfl rfl rfl rfl ?_
              refine wd_nil ?_
              simp only [Act.put, List.setIfInBounds_toArray, List.set_cons_zero, List.set_cons_succ]
              have h5r := hB.size
              have hB := Wrote.below ((hB.drew).alloc hB.size _) hw6 hB.size
              have hla := hd6
              have hlal := hla.lt
              clear hl0
              go_wp2_with fail
              --MARKR2R
              refine wp_region_R 12 [10, 11] (.cells (nums .u8 (List.replicate 32 0)).toArray 45) [12, 13] (by kernel_rfl) (by kernel_rfl) (by intro c a w h; first | (obtain ⟨_, h, _⟩ := h; cases h; done) | (obtain ⟨_, _, h, _⟩ := h; cases h; done) | (obtain ⟨_, _, _, h, _⟩ := h; cases h; done) | (obtain ⟨_, _, _, _, h, _⟩ := h; cases h; done) | (rcases h with ⟨_, ⟨_, _, _, _, h, _⟩ | ⟨_, _, _, _, h, _⟩⟩ <;> cases h; done)) (by intro a w h; first | (obtain ⟨h, _⟩ := h; cases h; done) | (obtain ⟨_, h, _⟩ := h; cases h; done) | (obtain ⟨_, _, h, _⟩ := h; cases h; done) | (obtain ⟨_, _, _, h, _⟩ := h; cases h; done) | (rcases h with ⟨_, _, _, _, h, _⟩ | ⟨_, _, _, _, h, _⟩ <;> cases h; done)) ?_
              simp only [List.take_succ_cons, List.take_zero, List.drop_succ_cons, List.drop_zero]
              have hB := hB.drew
              have hla := hla.drew
              repeat (refine wr_w (v := ?_) rfl rfl rfl rfl rfl (fun w' hw' K hK => ?_) ?_; rotate_left; (skip; go_wp2_with (((with_reducible apply st_toD (sz := 32) (i := K)); exact Tryd.underlying30; kernel_rfl; rfl; rfl; rfl; omega; exact nn_some; exact spot_none)); exact rfl); simp only [Act.put, List.setIfInBounds_toArray, List.set_cons_zero, List.set_cons_succ])
              --MARKA
              refine wr_call (v := .agg (nums .u8 L1).toArray) (f := 37) (args := #[.slice (some ⟨gl, ol, none⟩) K cc, .int .i64 z]) rfl rfl (by kernel_rfl) (fun W => by go_simp) (fun W hW => HC1.out W (HT1.out.up (hB.trans (hW.mono hB.size))) (HK5.out.below (hB.trans (hW.mono hB.size)) HK5.out.lt)) ?_
              simp only [Act.put, List.setIfInBounds_toArray, List.set_cons_zero, List.set_cons_succ]
              repeat (refine wr_w (v := ?_) rfl rfl rfl rfl rfl (fun w' hw' K hK => ?_) ?_; rotate_left; (skip; go_wp2_with (fail); exact rfl); simp only [Act.put, List.setIfInBounds_toArray, List.set_cons_zero, List.set_cons_succ])
              refine wr_call (v := .agg (nums .u8 R1).toArray) (f := 37) (args := #[.slice (some ⟨gl, ol + K * 32, none⟩) (cur.length - K) (cc - K), .int .i64 z]) rfl rfl (by kernel_rfl) (fun W => by go_simp) (fun W hW => HC2.out W (HDR.out.up (hB.trans (hW.mono hB.size))) (HK5.out.below (hB.trans (hW.mono hB.size)) HK5.out.lt)) ?_
              simp only [Act.put, List.setIfInBounds_toArray, List.set_cons_zero, List.set_cons_succ]
              --MARKB
              refine wr_make rfl rfl (fun W => by go_simp; rfl) (fun g18 hg18 hn18 => ?_)
              simp only [Act.put, List.setIfInBounds_toArray, List.set_cons_zero, List.set_cons_succ]
              refine wr_make rfl rfl (fun W => by go_simp; rfl) (fun g19 hg19 hn19 => ?_)
              simp only [Act.put, List.setIfInBounds_toArray, List.set_cons_zero, List.set_cons_succ]
              refine wr_nil (fun w8 hG hU => ?_)
              have hg18 : w6.heap.size ≤ g18 := hg18
              have hg19 : w6.heap.size ≤ g19 := hg19
              have hne19 : g19 ≠ g18 := by simpa using hn19
              have hz9 : Blk w8 g18 (nums .u8 (List.replicate 32 0)) 45 := hU g18 (by simp)
              have hz10 : Blk w8 g19 (nums .u8 (List.replicate 32 0)) 45 := hU g19 (by simp)
              have h56 := hB.size
              have hs66 : w6.drew.heap.size = w6.heap.size := rfl
              have hB := hB.trans (hG.mono hB.size)
              have hla := hla.up hG
              have hlal := hla.lt
              --MARKR3R
              refine wd_l rfl rfl (by intro a w h; first | (obtain ⟨h, _⟩ := h; cases h; done) | (obtain ⟨_, h, _⟩ := h; cases h; done) | (obtain ⟨_, _, h, _⟩ := h; cases h; done) | (obtain ⟨_, _, _, h, _⟩ := h; cases h; done) | (rcases h with ⟨_, _, _, _, h, _⟩ | ⟨_, _, _, _, h, _⟩ <;> cases h; done)) ?_
              go_wp2_with ((with_reducible apply st_storeW (off := 0) (vs := nums .u8 (L1)) (cs := nums .u8 (List.replicate 32 0)) (T := 45)); rfl; rfl; exact hz9; (rw [nums_length, HLO.out.1]; kernel_rfl); (rw [nums_length, HLO.out.1]; decide); exact nums_one _ _; intro w9 hd9 hw9; rw [laid_all _ _ (by rw [nums_length, HLO.out.1]; rfl)] at hd9)
              have hG := Wrote.below hG hw9 (by omega)
              refine ⟨.inr hG, ?_⟩
              have hz10 := hw9.blk hz10 (by omega)
              refine wd_l rfl rfl (by intro a w h; first | (obtain ⟨h, _⟩ := h; cases h; done) | (obtain ⟨_, h, _⟩ := h; cases h; done) | (obtain ⟨_, _, h, _⟩ := h; cases h; done) | (obtain ⟨_, _, _, h, _⟩ := h; cases h; done) | (rcases h with ⟨_, _, _, _, h, _⟩ | ⟨_, _, _, _, h, _⟩ <;> cases h; done)) ?_
              go_wp2_with ((with_reducible apply st_storeW (off := 0) (vs := nums .u8 (R1)) (cs := nums .u8 (List.replicate 32 0)) (T := 45)); rfl; rfl; exact hz10; (rw [nums_length, HRO.out.1]; kernel_rfl); (rw [nums_length, HRO.out.1]; decide); exact nums_one _ _; intro w10 hd10 hw10; rw [laid_all _ _ (by rw [nums_length, HRO.out.1]; rfl)] at hd10)
              refine ⟨.inr (Wrote.below hG hw10 (by omega)), ?_⟩
              refine wd_nil ?_
              have hle1 := hw10.blk hd9 (by omega)
              have hri1 := hd10
              have hla := hw10.blk (hw9.blk hla (by omega)) (by omega)
              have hB := Wrote.below (Wrote.below hB hw9 (by omega)) hw10 (by omega)
              clear hz9 hz10 hd9 hd10
              have hri1l := hri1.lt
              have hle1l := hle1.lt
              have hlal := hla.lt
              go_wp2_with fail
              --MARKR4R
              refine wp_region_R 4 [2, 3] (.cells (nums .u8 (List.replicate 32 0)).toArray 45) [4, 5] (by kernel_rfl) (by kernel_rfl) (by intro c a w h; first | (obtain ⟨_, h, _⟩ := h; cases h; done) | (obtain ⟨_, _, h, _⟩ := h; cases h; done) | (obtain ⟨_, _, _, h, _⟩ := h; cases h; done) | (obtain ⟨_, _, _, _, h, _⟩ := h; cases h; done) | (rcases h with ⟨_, ⟨_, _, _, _, h, _⟩ | ⟨_, _, _, _, h, _⟩⟩ <;> cases h; done)) (by intro a w h; first | (obtain ⟨h, _⟩ := h; cases h; done) | (obtain ⟨_, h, _⟩ := h; cases h; done) | (obtain ⟨_, _, h, _⟩ := h; cases h; done) | (obtain ⟨_, _, _, h, _⟩ := h; cases h; done) | (rcases h with ⟨_, _, _, _, h, _⟩ | ⟨_, _, _, _, h, _⟩ <;> cases h; done)) ?_
              simp only [List.take_succ_cons, List.take_zero, List.drop_succ_cons, List.drop_zero]
              have hB := hB.drew
              repeat (refine wr_w (v := ?_) rfl rfl rfl rfl rfl (fun w' hw' K hK => ?_) ?_; rotate_left; (have e2 := hla.drew.up hw'; go_wp2_with (((with_reducible apply st_load (n := 32) (cs := nums .u8 (last)) (T := 45)); rfl; exact e2; exact Tryd.underlying45; rfl; kernel_rfl; (rw [nums_length, HLAST.out.1]; exact Nat.le_refl _); (exact row_all _ _ (by rw [nums_length, HLAST.out.1])))); exact rfl); simp only [Act.put, List.setIfInBounds_toArray, List.set_cons_zero, List.set_cons_succ])
              refine wr_make rfl rfl (fun W => by go_simp; rfl) (fun g20 hg20 hn20 => ?_)
              simp only [Act.put, List.setIfInBounds_toArray, List.set_cons_zero, List.set_cons_succ]
              refine wr_make rfl rfl (fun W => by go_simp; rfl) (fun g21 hg21 hn21 => ?_)
              simp only [Act.put, List.setIfInBounds_toArray, List.set_cons_zero, List.set_cons_succ]
              refine wr_nil (fun w11 hG hU => ?_)
              have hg20 : w10.heap.size ≤ g20 := hg20
              have hg21 : w10.heap.size ≤ g21 := hg21
              have hne21 : g21 ≠ g20 := by simpa using hn21
              have hz11 : Blk w11 g20 (nums .u8 (List.replicate 32 0)) 45 := hU g20 (by simp)
              have hz12 : Blk w11 g21 (nums .u8 (List.replicate 32 0)) 45 := hU g21 (by simp)
              have h510 := hB.size
              have hs1010 : w10.drew.heap.size = w10.heap.size := rfl
              have hB := hB.trans (hG.mono hB.size)
              have hle1 := hle1.drew.up hG
              have hri1 := hri1.drew.up hG
              have hla := hla.drew.up hG
              --MARKS
              refine wd_l rfl rfl (by intro a w h; first | (obtain ⟨h, _⟩ := h; cases h; done) | (obtain ⟨_, h, _⟩ := h; cases h; done) | (obtain ⟨_, _, h, _⟩ := h; cases h; done) | (obtain ⟨_, _, _, h, _⟩ := h; cases h; done) | (rcases h with ⟨_, _, _, _, h, _⟩ | ⟨_, _, _, _, h, _⟩ <;> cases h; done)) ?_
              go_wp2_with ((with_reducible apply st_storeW (off := 0) (vs := nums .u8 (last)) (cs := nums .u8 (List.replicate 32 0)) (T := 45)); rfl; rfl; exact hz11; (rw [nums_length, HLAST.out.1]; kernel_rfl); (rw [nums_length, HLAST.out.1]; decide); exact nums_one _ _; intro w11 hd11 hw11; rw [laid_all _ _ (by rw [nums_length, HLAST.out.1]; rfl)] at hd11)
              have hG := Wrote.below hG hw11 (by omega)
              refine ⟨.inr hG, ?_⟩
              have hz12 := hw11.blk hz12 (by omega)
              refine wd_l rfl rfl (by intro a w h; first | (obtain ⟨h, _⟩ := h; cases h; done) | (obtain ⟨_, h, _⟩ := h; cases h; done) | (obtain ⟨_, _, h, _⟩ := h; cases h; done) | (obtain ⟨_, _, _, h, _⟩ := h; cases h; done) | (rcases h with ⟨_, _, _, _, h, _⟩ | ⟨_, _, _, _, h, _⟩ <;> cases h; done)) ?_
              go_wp2_with ((with_reducible apply st_storeW (off := 0) (vs := nums .u8 (last)) (cs := nums .u8 (List.replicate 32 0)) (T := 45)); rfl; rfl; exact hz12; (rw [nums_length, HLAST.out.1]; kernel_rfl); (rw [nums_length, HLAST.out.1]; decide); exact nums_one _ _; intro w12 hd12 hw12; rw [laid_all _ _ (by rw [nums_length, HLAST.out.1]; rfl)] at hd12)
              refine ⟨.inr (Wrote.below hG hw12 (by omega)), ?_⟩
              refine wd_nil ?_
              have hx := hw12.blk hd11 (by omega)
              have hy := hd12
              have hle1 := hw12.blk (hw11.blk hle1 (by omega)) (by omega)
              have hri1 := hw12.blk (hw11.blk hri1 (by omega)) (by omega)
              have hla := hw12.blk (hw11.blk hla (by omega)) (by omega)
              have hB := Wrote.below (Wrote.below hB hw11 (by omega)) hw12 (by omega)
              have hxl := hx.lt
              have hyl := hy.lt
              have hdw := hdd.up hB
              clear hz11 hz12 hd11 hd12
              --MARKR5R
              go_wp2_with ((with_reducible apply st_load (n := 32) (cs := nums .u8 (old)) (T := 45)); rfl; exact hdw; exact Tryd.underlying45; rfl; kernel_rfl; (rw [nums_length, HDO.out.1]; exact Nat.le_refl _); (exact row_all _ _ (by rw [nums_length, HDO.out.1])))
              go_at_call 46
              refine (HK1.out _ (HTK.out.up hB) (HK5.out.below hB HK5.out.lt)).mono ?_
              rintro e w13 ⟨rfl, hb⟩
              have hB := hB.trans (hb.mono hB.size)
              have hx := hx.up hb
              have hy := hy.up hb
              have hle1 := hle1.up hb
              have hri1 := hri1.up hb
              clear hla hdw
              --MARKR6R
              have hlal := hle1.lt
              have hlar := hri1.lt
              have hneq1 := run_neq_nums (P := Tryd.prog) (t := 45) Tryd.underlying45 Tryd.underlying5 (by kernel_rfl) (by kernel_rfl) last L1 HLAST.out.1 HLO.out.1
              have hneq2 := run_neq_nums (P := Tryd.prog) (t := 45) Tryd.underlying45 Tryd.underlying5 (by kernel_rfl) (by kernel_rfl) X R1 HXO.out.1 HRO.out.1
              by_cases hh1 : last = L1
              · rw [decide_eq_true hh1, Bool.not_true] at hneq1
                by_cases hh2 : X = R1
                · rw [decide_eq_true hh2, Bool.not_true] at hneq2
                  have HNXT := Lib.hid (HGO.out hh1 hh2)
                  clear hh1 hh2
                  go_wp2_with (first | ((with_reducible apply st_met); rfl) | (((with_reducible apply st_storeW (off := 0) (vs := nums .u8 (X)) (cs := nums .u8 (last)) (T := 45)); rfl; rfl; exact hy; (rw [nums_length, HXO.out.1]; kernel_rfl); (rw [nums_length, HXO.out.1, nums_length, HLAST.out.1]; decide); exact nums_one _ _; intro w14 hd14 hw14; rw [laid_all _ _ (by rw [nums_length, nums_length, HXO.out.1, HLAST.out.1])] at hd14); have hx := hw14.blk hx (by omega); have hy := hd14; have hle1 := hw14.blk hle1 (by omega); have hri1 := hw14.blk hri1 (by omega); have hyl2 := hy.lt; have hB := Wrote.below hB hw14 (by omega)) | ((with_reducible apply st_load (n := 32) (cs := nums .u8 (last)) (T := 45)); rfl; exact hx; exact Tryd.underlying45; rfl; kernel_rfl; (rw [nums_length, HLAST.out.1]; exact Nat.le_refl _); (exact row_all _ _ (by rw [nums_length, HLAST.out.1]))) | ((with_reducible apply st_load (n := 32) (cs := nums .u8 (L1)) (T := 45)); rfl; exact hle1; exact Tryd.underlying45; rfl; kernel_rfl; (rw [nums_length, HLO.out.1]; exact Nat.le_refl _); (exact row_all _ _ (by rw [nums_length, HLO.out.1]))) | ((with_reducible apply st_load (n := 32) (cs := nums .u8 (X)) (T := 45)); rfl; exact hy; exact Tryd.underlying45; rfl; kernel_rfl; (rw [nums_length, HXO.out.1]; exact Nat.le_refl _); (exact row_all _ _ (by rw [nums_length, HXO.out.1]))) | ((with_reducible apply st_load (n := 32) (cs := nums .u8 (R1)) (T := 45)); rfl; exact hri1; exact Tryd.underlying45; rfl; kernel_rfl; (rw [nums_length, HRO.out.1]; exact Nat.le_refl _); (exact row_all _ _ (by rw [nums_length, HRO.out.1]))))
                  go_wp2_with fail
                  --MARKCR
                  go_roundw
                  case rel => exact ⟨cur.drop K, rest, m - K, false, _, _, _, _, by rw [show ((m - K : Nat) : Int) = (m : Int) - (K : Int) by omega], by rw [HPOS.out], by rw [HDLL.out], rfl, HNXT, HDR, HTK, by rw [HDLL.out]; omega, by rw [← HPOS.out]; omega, hB⟩
                  case measure => simp [lenV]; omega
                · rw [decide_eq_false hh2, Bool.not_false] at hneq2
                  have HCLA := Lib.hid (HNEQ.out (fun e => hh2 e.2))
                  clear hh1 hh2
                  go_wp2_with (first | ((with_reducible apply st_met); rfl) | (((with_reducible apply st_storeW (off := 0) (vs := nums .u8 (X)) (cs := nums .u8 (last)) (T := 45)); rfl; rfl; exact hy; (rw [nums_length, HXO.out.1]; kernel_rfl); (rw [nums_length, HXO.out.1, nums_length, HLAST.out.1]; decide); exact nums_one _ _; intro w14 hd14 hw14; rw [laid_all _ _ (by rw [nums_length, nums_length, HXO.out.1, HLAST.out.1])] at hd14); have hx := hw14.blk hx (by omega); have hy := hd14; have hle1 := hw14.blk hle1 (by omega); have hri1 := hw14.blk hri1 (by omega); have hyl2 := hy.lt; have hB := Wrote.below hB hw14 (by omega)) | ((with_reducible apply st_load (n := 32) (cs := nums .u8 (last)) (T := 45)); rfl; exact hx; exact Tryd.underlying45; rfl; kernel_rfl; (rw [nums_length, HLAST.out.1]; exact Nat.le_refl _); (exact row_all _ _ (by rw [nums_length, HLAST.out.1]))) | ((with_reducible apply st_load (n := 32) (cs := nums .u8 (L1)) (T := 45)); rfl; exact hle1; exact Tryd.underlying45; rfl; kernel_rfl; (rw [nums_length, HLO.out.1]; exact Nat.le_refl _); (exact row_all _ _ (by rw [nums_length, HLO.out.1]))) | ((with_reducible apply st_load (n := 32) (cs := nums .u8 (X)) (T := 45)); rfl; exact hy; exact Tryd.underlying45; rfl; kernel_rfl; (rw [nums_length, HXO.out.1]; exact Nat.le_refl _); (exact row_all _ _ (by rw [nums_length, HXO.out.1]))) | ((with_reducible apply st_load (n := 32) (cs := nums .u8 (R1)) (T := 45)); rfl; exact hri1; exact Tryd.underlying45; rfl; kernel_rfl; (rw [nums_length, HRO.out.1]; exact Nat.le_refl _); (exact row_all _ _ (by rw [nums_length, HRO.out.1]))))
                  --MARKN
                  refine wp_region_C (Same [g20, g21, g18, g19] w14) [2, 5, 7] (by kernel_rfl) (by kernel_rfl) (by intro c a w h; first | (obtain ⟨_, h, _⟩ := h; cases h; done) | (obtain ⟨_, _, h, _⟩ := h; cases h; done) | (obtain ⟨_, _, _, h, _⟩ := h; cases h; done) | (obtain ⟨_, _, _, _, h, _⟩ := h; cases h; done) | (rcases h with ⟨_, ⟨_, _, _, _, h, _⟩ | ⟨_, _, _, _, h, _⟩⟩ <;> cases h; done)) (by intro a w h; first | (obtain ⟨h, _⟩ := h; cases h; done) | (obtain ⟨_, h, _⟩ := h; cases h; done) | (obtain ⟨_, _, h, _⟩ := h; cases h; done) | (obtain ⟨_, _, _, h, _⟩ := h; cases h; done) | (rcases h with ⟨_, _, _, _, h, _⟩ | ⟨_, _, _, _, h, _⟩ <;> cases h; done)) (Same.refl _ _) ?_
                  repeat (refine wd_w (v := ?_) rfl rfl rfl rfl rfl rfl (fun w' hw' K hK => ?_) ?_; rotate_left; (have e1 := hw'.blk hx (by simp); have e2 := hw'.blk hy (by simp); go_wp2_with ((first | ((with_reducible apply st_load (n := 32) (cs := nums .u8 (last)) (T := 45)); rfl; exact e1; exact Tryd.underlying45; rfl; kernel_rfl; (rw [nums_length, HLAST.out.1]; exact Nat.le_refl _); (exact row_all _ _ (by rw [nums_length, HLAST.out.1]))) | ((with_reducible apply st_load (n := 32) (cs := nums .u8 (X)) (T := 45)); rfl; exact e2; exact Tryd.underlying45; rfl; kernel_rfl; (rw [nums_length, HXO.out.1]; exact Nat.le_refl _); (exact row_all _ _ (by rw [nums_length, HXO.out.1]))))); exact rfl); simp only [Act.put, List.setIfInBounds_toArray, List.set_cons_zero, List.set_cons_succ])
                  have hB := hB.drew
                  have hr := (hr.up hB)
                  have h5n := hB.size
                  have q1 := hx.lt
                  have q2 := hy.lt
                  have q3 := hle1.lt
                  have q4 := hri1.lt
                  refine wd_l rfl rfl (by intro a w h; first | (obtain ⟨h, _⟩ := h; cases h; done) | (obtain ⟨_, h, _⟩ := h; cases h; done) | (obtain ⟨_, _, h, _⟩ := h; cases h; done) | (obtain ⟨_, _, _, h, _⟩ := h; cases h; done) | (rcases h with ⟨_, _, _, _, h, _⟩ | ⟨_, _, _, _, h, _⟩ <;> cases h; done)) ?_
                  go_wp2_with fail
                  go_at_call 40
                  refine (clnode_any _ last X HLAST.out.1 HXO.out.1).mono ?_
                  rintro e w20 ⟨v1, rfl, hb, ho1⟩
                  have hB := hB.trans (hb.mono hB.size)
                  have hr := hr.up hb
                  obtain ⟨B1, e1, rfl, hy1, hn1⟩ := ho1.byt (U8.cons (by decide) (U8.append HLAST.out.2 HXO.out.2))
                  have hs20 : Same [g20, g21, g18, g19] w14 w20 := fun gg hg => (hb.block gg (by simp at hg; have : w14.drew.heap.size = w14.heap.size := rfl; omega))
                  go_wp2_with fail
                  refine ⟨.inr (hs20), ?_⟩
                  repeat (refine wd_w (v := ?_) rfl rfl rfl rfl rfl rfl (fun w' hw' K hK => ?_) ?_; rotate_left; (have e1 := hw'.blk hle1 (by simp); have e2 := hw'.blk hri1 (by simp); go_wp2_with ((first | ((with_reducible apply st_load (n := 32) (cs := nums .u8 (L1)) (T := 45)); rfl; exact e1; exact Tryd.underlying45; rfl; kernel_rfl; (rw [nums_length, HLO.out.1]; exact Nat.le_refl _); (exact row_all _ _ (by rw [nums_length, HLO.out.1]))) | ((with_reducible apply st_load (n := 32) (cs := nums .u8 (R1)) (T := 45)); rfl; exact e2; exact Tryd.underlying45; rfl; kernel_rfl; (rw [nums_length, HRO.out.1]; exact Nat.le_refl _); (exact row_all _ _ (by rw [nums_length, HRO.out.1]))))); exact rfl); simp only [Act.put, List.setIfInBounds_toArray, List.set_cons_zero, List.set_cons_succ])
                  have h20 := hb.size
                  refine wd_l rfl rfl (by intro a w h; first | (obtain ⟨h, _⟩ := h; cases h; done) | (obtain ⟨_, h, _⟩ := h; cases h; done) | (obtain ⟨_, _, h, _⟩ := h; cases h; done) | (obtain ⟨_, _, _, h, _⟩ := h; cases h; done) | (rcases h with ⟨_, _, _, _, h, _⟩ | ⟨_, _, _, _, h, _⟩ <;> cases h; done)) ?_
                  go_wp2_with fail
                  go_at_call 40
                  refine (clnode_any _ L1 R1 HLO.out.1 HRO.out.1).mono ?_
                  rintro e w21 ⟨v2, rfl, hb, ho2⟩
                  have hB := hB.trans (hb.mono hB.size)
                  have hr := hr.up hb
                  obtain ⟨B2, e2, rfl, hy2, hn2⟩ := ho2.byt (U8.cons (by decide) (U8.append HLO.out.2 HRO.out.2))
                  have hy1 := hy1.up hb
                  have hs21 : Same [g20, g21, g18, g19] w14 w21 := fun gg hg => (hb.block gg (by simp at hg; have : w14.drew.heap.size = w14.heap.size := rfl; omega)).trans (hs20 gg hg)
                  go_wp2_with fail
                  refine ⟨.inr (hs21), ?_⟩
                  repeat (refine wd_q (v := ?_) rfl rfl rfl rfl rfl rfl (fun w' hw' K hK => ?_) ?_; rotate_left; (skip; go_wp2; exact rfl); simp only [Act.put, List.setIfInBounds_toArray, List.set_cons_zero, List.set_cons_succ])
                  refine wd_l rfl rfl (by intro a w h; first | (obtain ⟨h, _⟩ := h; cases h; done) | (obtain ⟨_, h, _⟩ := h; cases h; done) | (obtain ⟨_, _, h, _⟩ := h; cases h; done) | (obtain ⟨_, _, _, h, _⟩ := h; cases h; done) | (rcases h with ⟨_, _, _, _, h, _⟩ | ⟨_, _, _, _, h, _⟩ <;> cases h; done)) ?_
                  go_wp2_with ((with_reducible apply st_storeW (off := 0) (vs := clC (nodeT last X) (nodeT L1 R1) B1 B2 e1 e2) (cs := clC [] [] none none 0 0) (T := 25)); rfl; rfl; exact hr; exact clSize; (simp [clC]); exact clC_one _ _ _ _ _ _; intro w22 hd22 hw22; rw [laid_all _ _ (by rfl)] at hd22)
                  refine ⟨.inr (hs21.wrote hw22 (by simp; omega)), ?_⟩
                  refine wd_assign (v := .bool true) rfl rfl rfl rfl ?_
                  refine wd_nil ?_
                  simp only [Act.put, List.setIfInBounds_toArray, List.set_cons_zero, List.set_cons_succ]
                  have hB22 := Wrote.below (HB5.out.trans (hB.mono h5s)) hw22 (by omega)
                  go_wp2_with fail
                  --MARKM
                  refine bodyPost_ret (ret_row_tmp rfl _ _ _ (clC (nodeT last X) (nodeT L1 R1) B1 B2 e1 e2) 25 _ rfl hd22 Tryd.underlying25 rfl (by exact clSize)) rfl (by exact (⟨_, rfl, hB22, ClAns.some (hy1.wrote hw22 (fun a ha => by have := hn1 a ha; have : w14.drew.heap.size = w14.heap.size := rfl; omega)) (hy2.wrote hw22 (fun a ha => by have := hn2 a ha; omega)) (by simp [nodeT, HLAST.out.1, HXO.out.1]) (by simp [nodeT, HLO.out.1, HRO.out.1]) HCLA.out⟩))
              · rw [decide_eq_false hh1, Bool.not_false] at hneq1
                have HCLA := Lib.hid (HNEQ.out (fun e => hh1 e.1))
                clear hh1 hneq2
                go_wp2_with (first | ((with_reducible apply st_met); rfl) | (((with_reducible apply st_storeW (off := 0) (vs := nums .u8 (X)) (cs := nums .u8 (last)) (T := 45)); rfl; rfl; exact hy; (rw [nums_length, HXO.out.1]; kernel_rfl); (rw [nums_length, HXO.out.1, nums_length, HLAST.out.1]; decide); exact nums_one _ _; intro w14 hd14 hw14; rw [laid_all _ _ (by rw [nums_length, nums_length, HXO.out.1, HLAST.out.1])] at hd14); have hx := hw14.blk hx (by omega); have hy := hd14; have hle1 := hw14.blk hle1 (by omega); have hri1 := hw14.blk hri1 (by omega); have hyl2 := hy.lt; have hB := Wrote.below hB hw14 (by omega)) | ((with_reducible apply st_load (n := 32) (cs := nums .u8 (last)) (T := 45)); rfl; exact hx; exact Tryd.underlying45; rfl; kernel_rfl; (rw [nums_length, HLAST.out.1]; exact Nat.le_refl _); (exact row_all _ _ (by rw [nums_length, HLAST.out.1]))) | ((with_reducible apply st_load (n := 32) (cs := nums .u8 (L1)) (T := 45)); rfl; exact hle1; exact Tryd.underlying45; rfl; kernel_rfl; (rw [nums_length, HLO.out.1]; exact Nat.le_refl _); (exact row_all _ _ (by rw [nums_length, HLO.out.1]))) | ((with_reducible apply st_load (n := 32) (cs := nums .u8 (X)) (T := 45)); rfl; exact hy; exact Tryd.underlying45; rfl; kernel_rfl; (rw [nums_length, HXO.out.1]; exact Nat.le_refl _); (exact row_all _ _ (by rw [nums_length, HXO.out.1]))) | ((with_reducible apply st_load (n := 32) (cs := nums .u8 (R1)) (T := 45)); rfl; exact hri1; exact Tryd.underlying45; rfl; kernel_rfl; (rw [nums_length, HRO.out.1]; exact Nat.le_refl _); (exact row_all _ _ (by rw [nums_length, HRO.out.1]))))
                --MARKN
                refine wp_region_C (Same [g20, g21, g18, g19] w14) [2, 5, 7] (by kernel_rfl) (by kernel_rfl) (by intro c a w h; first | (obtain ⟨_, h, _⟩ := h; cases h; done) | (obtain ⟨_, _, h, _⟩ := h; cases h; done) | (obtain ⟨_, _, _, h, _⟩ := h; cases h; done) | (obtain ⟨_, _, _, _, h, _⟩ := h; cases h; done) | (rcases h with ⟨_, ⟨_, _, _, _, h, _⟩ | ⟨_, _, _, _, h, _⟩⟩ <;> cases h; done)) (by intro a w h; first | (obtain ⟨h, _⟩ := h; cases h; done) | (obtain ⟨_, h, _⟩ := h; cases h; done) | (obtain ⟨_, _, h, _⟩ := h; cases h; done) | (obtain ⟨_, _, _, h, _⟩ := h; cases h; done) | (rcases h with ⟨_, _, _, _, h, _⟩ | ⟨_, _, _, _, h, _⟩ <;> cases h; done)) (Same.refl _ _) ?_
                repeat (refine wd_w (v := ?_) rfl rfl rfl rfl rfl rfl (fun w' hw' K hK => ?_) ?_; rotate_left; (have e1 := hw'.blk hx (by simp); have e2 := hw'.blk hy (by simp); go_wp2_with ((first | ((with_reducible apply st_load (n := 32) (cs := nums .u8 (last)) (T := 45)); rfl; exact e1; exact Tryd.underlying45; rfl; kernel_rfl; (rw [nums_length, HLAST.out.1]; exact Nat.le_refl _); (exact row_all _ _ (by rw [nums_length, HLAST.out.1]))) | ((with_reducible apply st_load (n := 32) (cs := nums .u8 (X)) (T := 45)); rfl; exact e2; exact Tryd.underlying45; rfl; kernel_rfl; (rw [nums_length, HXO.out.1]; exact Nat.le_refl _); (exact row_all _ _ (by rw [nums_length, HXO.out.1]))))); exact rfl); simp only [Act.put, List.setIfInBounds_toArray, List.set_cons_zero, List.set_cons_succ])
                have hB := hB.drew
                have hr := (hr.up hB)
                have h5n := hB.size
                have q1 := hx.lt
                have q2 := hy.lt
                have q3 := hle1.lt
                have q4 := hri1.lt
                refine wd_l rfl rfl (by intro a w h; first | (obtain ⟨h, _⟩ := h; cases h; done) | (obtain ⟨_, h, _⟩ := h; cases h; done) | (obtain ⟨_, _, h, _⟩ := h; cases h; done) | (obtain ⟨_, _, _, h, _⟩ := h; cases h; done) | (rcases h with ⟨_, _, _, _, h, _⟩ | ⟨_, _, _, _, h, _⟩ <;> cases h; done)) ?_
                go_wp2_with fail
                go_at_call 40
                refine (clnode_any _ last X HLAST.out.1 HXO.out.1).mono ?_
                rintro e w20 ⟨v1, rfl, hb, ho1⟩
                have hB := hB.trans (hb.mono hB.size)
                have hr := hr.up hb
                obtain ⟨B1, e1, rfl, hy1, hn1⟩ := ho1.byt (U8.cons (by decide) (U8.append HLAST.out.2 HXO.out.2))
                have hs20 : Same [g20, g21, g18, g19] w14 w20 := fun gg hg => (hb.block gg (by simp at hg; have : w14.drew.heap.size = w14.heap.size := rfl; omega))
                go_wp2_with fail
                refine ⟨.inr (hs20), ?_⟩
                repeat (refine wd_w (v := ?_) rfl rfl rfl rfl rfl rfl (fun w' hw' K hK => ?_) ?_; rotate_left; (have e1 := hw'.blk hle1 (by simp); have e2 := hw'.blk hri1 (by simp); go_wp2_with ((first | ((with_reducible apply st_load (n := 32) (cs := nums .u8 (L1)) (T := 45)); rfl; exact e1; exact Tryd.underlying45; rfl; kernel_rfl; (rw [nums_length, HLO.out.1]; exact Nat.le_refl _); (exact row_all _ _ (by rw [nums_length, HLO.out.1]))) | ((with_reducible apply st_load (n := 32) (cs := nums .u8 (R1)) (T := 45)); rfl; exact e2; exact Tryd.underlying45; rfl; kernel_rfl; (rw [nums_length, HRO.out.1]; exact Nat.le_refl _); (exact row_all _ _ (by rw [nums_length, HRO.out.1]))))); exact rfl); simp only [Act.put, List.setIfInBounds_toArray, List.set_cons_zero, List.set_cons_succ])
                have h20 := hb.size
                refine wd_l rfl rfl (by intro a w h; first | (obtain ⟨h, _⟩ := h; cases h; done) | (obtain ⟨_, h, _⟩ := h; cases h; done) | (obtain ⟨_, _, h, _⟩ := h; cases h; done) | (obtain ⟨_, _, _, h, _⟩ := h; cases h; done) | (rcases h with ⟨_, _, _, _, h, _⟩ | ⟨_, _, _, _, h, _⟩ <;> cases h; done)) ?_
                go_wp2_with fail
                go_at_call 40
                refine (clnode_any _ L1 R1 HLO.out.1 HRO.out.1).mono ?_
                rintro e w21 ⟨v2, rfl, hb, ho2⟩
                have hB := hB.trans (hb.mono hB.size)
                have hr := hr.up hb
                obtain ⟨B2, e2, rfl, hy2, hn2⟩ := ho2.byt (U8.cons (by decide) (U8.append HLO.out.2 HRO.out.2))
                have hy1 := hy1.up hb
                have hs21 : Same [g20, g21, g18, g19] w14 w21 := fun gg hg => (hb.block gg (by simp at hg; have : w14.drew.heap.size = w14.heap.size := rfl; omega)).trans (hs20 gg hg)
                go_wp2_with fail
                refine ⟨.inr (hs21), ?_⟩
                repeat (refine wd_q (v := ?_) rfl rfl rfl rfl rfl rfl (fun w' hw' K hK => ?_) ?_; rotate_left; (skip; go_wp2; exact rfl); simp only [Act.put, List.setIfInBounds_toArray, List.set_cons_zero, List.set_cons_succ])
                refine wd_l rfl rfl (by intro a w h; first | (obtain ⟨h, _⟩ := h; cases h; done) | (obtain ⟨_, h, _⟩ := h; cases h; done) | (obtain ⟨_, _, h, _⟩ := h; cases h; done) | (obtain ⟨_, _, _, h, _⟩ := h; cases h; done) | (rcases h with ⟨_, _, _, _, h, _⟩ | ⟨_, _, _, _, h, _⟩ <;> cases h; done)) ?_
                go_wp2_with ((with_reducible apply st_storeW (off := 0) (vs := clC (nodeT last X) (nodeT L1 R1) B1 B2 e1 e2) (cs := clC [] [] none none 0 0) (T := 25)); rfl; rfl; exact hr; exact clSize; (simp [clC]); exact clC_one _ _ _ _ _ _; intro w22 hd22 hw22; rw [laid_all _ _ (by rfl)] at hd22)
                refine ⟨.inr (hs21.wrote hw22 (by simp; omega)), ?_⟩
                refine wd_assign (v := .bool true) rfl rfl rfl rfl ?_
                refine wd_nil ?_
                simp only [Act.put, List.setIfInBounds_toArray, List.set_cons_zero, List.set_cons_succ]
                have hB22 := Wrote.below (HB5.out.trans (hB.mono h5s)) hw22 (by omega)
                go_wp2_with fail
                --MARKM
                refine bodyPost_ret (ret_row_tmp rfl _ _ _ (clC (nodeT last X) (nodeT L1 R1) B1 B2 e1 e2) 25 _ rfl hd22 Tryd.underlying25 rfl (by exact clSize)) rfl (by exact (⟨_, rfl, hB22, ClAns.some (hy1.wrote hw22 (fun a ha => by have := hn1 a ha; have : w14.drew.heap.size = w14.heap.size := rfl; omega)) (hy2.wrote hw22 (fun a ha => by have := hn2 a ha; omega)) (by simp [nodeT, HLAST.out.1, HXO.out.1]) (by simp [nodeT, HLO.out.1, HRO.out.1]) HCLA.out⟩))

end Go.Proofs.YtiogopneklmodaaDoor
