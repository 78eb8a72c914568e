/- What inquestref07.Growth answers. No condition. -/
import Derived.Test.YtiogopneklmodaaDoorLeaves7
import Derived.Test.YtiogopneklmodaaDoorClG
import Derived.Test.YtiogopneklmodaaDoorGk
import Derived.Test.YtiogopneklmodaaDoorGh
namespace Go.Proofs.YtiogopneklmodaaDoor
open Go.RowKit

set_option maxRecDepth 100000 in
set_option maxHeartbeats 8000000 in
theorem refgrowth_any7 (w : World) (l : List (List Int)) (A : Option Addr) (c : Nat) (hT : Txts w A c l) (hl : l.length ≤ 1000) (hb : ∀ x ∈ l, x.length ≤ 1000) (m : Int) (old : List Int) (hol : old.length = 32) (uol : U8 old) (ps : List (List Int)) (Ap : Option Addr) (cp : Nat) (hP : Dg w Ap cp ps) (hpl : ps.length ≤ 1000) (z : Int) :
    Calls Tryd.prog 24 #[.slice A l.length c, .int .i64 m, .agg (nums .u8 old).toArray, .slice Ap ps.length cp, .int .i64 z] w fun e w' => e = .returned (.bool (growMust l m old ps z)) ∧ Below w.heap.size w w' := by
  obtain ⟨w0, hw0⟩ : ∃ W, W = w.alloc (.cells (nums .u8 old).toArray 45) := ⟨_, rfl⟩
  have hx0 : Blk w0 w.heap.size (nums .u8 old) 45 := by rw [hw0]; exact Blk.new' _ _ _ _ _ rfl rfl
  have hB0 : Below w.heap.size w w0 := by rw [hw0]; exact (Below.refl _ _).alloc (Nat.le_refl _) _
  have HW0 := Lib.hid hw0
  have HDO := Lib.hid (And.intro hol uol)
  clear hw0 hol uol
  by_cases h0 : m < 1
  · rw [growMust_out l m old ps z (by omega)]
    clear hT hP hb hx0
    go_enter Tryd.func24, Tryd.ntmps24
    go_upto_region 1 with (fail)
    rw [← HW0.out]
    go_wp2_with fail
    go_ret
    exact ⟨rfl, hB0⟩
  · by_cases h1 : (l.length : Int) < m
    · rw [growMust_out l m old ps z (by omega)]
      clear hT hP hb hx0
      go_enter Tryd.func24, Tryd.ntmps24
      go_upto_region 1 with (fail)
      rw [← HW0.out]
      go_wp2_with fail
      go_ret
      exact ⟨rfl, hB0⟩
    · obtain ⟨M, rfl⟩ := Int.eq_ofNat_of_zero_le (show 0 ≤ m by omega)
      have hM1 : 1 ≤ M := by omega
      have hMl : M ≤ l.length := by omega
      have HT := Lib.hid hT
      have HP := Lib.hid hP
      have HLB := Lib.hid hb
      have hin := growMust_in l M old ps z hM1 hMl
      have hLu := leavesF_ok l z
      have hLl := leavesF_len l z
      have hlv := fun (W : World) (h : Txts W A c l) => refleaves_any W l A c h hl HLB.out z
      obtain ⟨L, hL⟩ : ∃ L, L = leavesF l z := ⟨_, rfl⟩
      rw [← hL] at hLu hLl hlv hin
      have hro := rootF_ok L z hLu
      have hrt := fun (W : World) (A : Option Addr) (c : Nat) (h : Dg W A c L) => refroot_any L.length W L A c rfl h (by omega) z
      rw [hLl] at hrt
      have htl : (L.take M).length = M := by rw [List.length_take]; omega
      have hrm := fun (W : World) (A : Option Addr) (c : Nat) (h : Dg W A c (L.take M)) => refroot_any (L.take M).length W (L.take M) A c rfl h (by omega) z
      rw [htl] at hrm
      have hmo := rootF_ok (L.take M) z (hLu.take M)
      have hcp := fun (W : World) (h : Dg W Ap cp ps) => refcheckgrowth_any W old HDO.out.1 HDO.out.2 M (rootF L z) hro.1 l.length (by omega) ps Ap cp h hpl z
      obtain ⟨R, hR⟩ : ∃ R, R = rootF L z := ⟨_, rfl⟩
      rw [← hR] at hro hrt hcp hin
      obtain ⟨RM, hRM⟩ : ∃ RM, RM = rootF (L.take M) z := ⟨_, rfl⟩
      rw [← hRM] at hrm hmo hin
      have HMO := Lib.hid hmo.1
      have HLL := Lib.hid hLl
      have HLV := Lib.hid hlv
      have HRT := Lib.hid hrt
      have HRM := Lib.hid hrm
      have HCP := Lib.hid hcp
      rw [hin]
      clear hT hP hb hL hR hRM hro hrt hrm hmo hlv hLu hLl hin hcp
      by_cases hor : old = RM
      · have heq : decide (old = RM) = true := decide_eq_true hor
        rw [heq, Bool.not_true, Bool.false_and]
        have HEQ := Lib.hid heq
        clear heq hor
        go_enter Tryd.func24, Tryd.ntmps24
        go_upto_region 1 with (fail)
        rw [← HW0.out]
        go_wp2_with fail
        go_at_call 25
        refine (HLV.out _ (HT.out.up hB0)).mono ?_
        rintro e w1 ⟨v, rfl, hb, ho⟩
        have hB := hB0.trans (hb.mono hB0.size)
        have hx := hx0.up hb
        obtain ⟨AL, cL, rfl, hDL, _⟩ := ho.dg
        have hDle := hDL.le
        rw [HLL.out] at hDle ⊢
        have hDM := hDL.take M (by rw [HLL.out]; exact hMl)
        obtain ⟨gL, oL, rfl, _⟩ := hDL.get (by rw [HLL.out]; omega)
        have HDL := Lib.hid hDL
        have HDM := Lib.hid hDM
        clear hDL hDM ho
        go_wp2_with fail
        --MARKA
        have hxl := hx.lt
        have hB := hB.drew
        have hbd : Below w1.heap.size w1 w1.drew := (Below.refl _ _).drew
        have hsd : w1.drew.heap.size = w1.heap.size := rfl
        refine wp_region_C (Same [w.heap.size] w1) [5, 12, 17] (by kernel_rfl) (by kernel_rfl) (by intro c a w h; first | (obtain ⟨_, h, _⟩ := h; cases h; done) | (obtain ⟨_, _, h, _⟩ := h; cases h; done) | (obtain ⟨_, _, _, h, _⟩ := h; cases h; done) | (obtain ⟨_, _, _, _, h, _⟩ := h; cases h; done) | (rcases h with ⟨_, ⟨_, _, _, _, h, _⟩ | ⟨_, _, _, _, h, _⟩⟩ <;> cases h; done)) (by intro a w h; first | (obtain ⟨h, _⟩ := h; cases h; done) | (obtain ⟨_, h, _⟩ := h; cases h; done) | (obtain ⟨_, _, h, _⟩ := h; cases h; done) | (obtain ⟨_, _, _, h, _⟩ := h; cases h; done) | (rcases h with ⟨_, _, _, _, h, _⟩ | ⟨_, _, _, _, h, _⟩ <;> cases h; done)) (Same.refl _ _) ?_
        repeat (refine wd_w (v := ?_) rfl rfl rfl rfl rfl rfl (fun w' hw' K hK => ?_) ?_; rotate_left; (have e1 := hw'.blk hx (by simp); go_wp2_with ((first | ((with_reducible apply st_load (n := 32) (cs := nums .u8 (old)) (T := 45)); rfl; exact e1; exact Tryd.underlying45; rfl; kernel_rfl; (rw [nums_length, HDO.out.1]; exact Nat.le_refl _); (exact row_all _ _ (by rw [nums_length, HDO.out.1]))) | ((with_reducible apply st_toD (sz := 32) (i := M)); exact Tryd.underlying30; kernel_rfl; rfl; rfl; rfl; omega; exact nn_some; exact spot_none))); exact rfl); simp only [Act.put, List.setIfInBounds_toArray, List.set_cons_zero, List.set_cons_succ])
        refine wd_l rfl rfl (by intro a w h; first | (obtain ⟨h, _⟩ := h; cases h; done) | (obtain ⟨_, h, _⟩ := h; cases h; done) | (obtain ⟨_, _, h, _⟩ := h; cases h; done) | (obtain ⟨_, _, _, h, _⟩ := h; cases h; done) | (rcases h with ⟨_, _, _, _, h, _⟩ | ⟨_, _, _, _, h, _⟩ <;> cases h; done)) ?_
        go_wp2_with fail
        go_at_call 28
        refine (HRM.out _ _ _ (HDM.out.up hbd)).mono ?_
        rintro e w2 ⟨rfl, hb⟩
        have hB := hB.trans (hb.mono hB.size)
        have hb2 := hbd.trans (hb.mono (Nat.le_refl _))
        have hs2 : Same [w.heap.size] w1 w2 := fun gg hg => hb2.block gg (by simp at hg; omega)
        go_wp2_with fail
        refine ⟨.inr (hs2), ?_⟩
        refine wd_w (v := .bool false) rfl rfl rfl rfl rfl rfl (fun w' hw' K hK => ?_) ?_
        · have heq : Sem.run Tryd.prog (Op.equalIn 10000 45 (.agg (nums .u8 old).toArray) (.agg (nums .u8 RM).toArray)) w' = .ok (decide (old = RM)) w' := run_equal_nums (P := Tryd.prog) (t := 45) Tryd.underlying45 Tryd.underlying5 (by kernel_rfl) (by kernel_rfl) old RM HDO.out.1 HMO.out w'
          rw [HEQ.out] at heq
          go_wp2_with fail
          exact rfl
        simp only [Act.put, List.setIfInBounds_toArray, List.set_cons_zero, List.set_cons_succ]
        repeat (refine wd_q (v := ?_) rfl rfl rfl rfl rfl rfl (fun w' hw' K hK => ?_) ?_; rotate_left; (skip; go_wp2; exact rfl); simp only [Act.put, List.setIfInBounds_toArray, List.set_cons_zero, List.set_cons_succ])
        refine wd_pass rfl rfl ?_
        simp only [Act.put, List.setIfInBounds_toArray, List.set_cons_zero, List.set_cons_succ]
        refine wd_pass rfl rfl ?_
        simp only [Act.put, List.setIfInBounds_toArray, List.set_cons_zero, List.set_cons_succ]
        refine wd_pass rfl rfl ?_
        simp only [Act.put, List.setIfInBounds_toArray, List.set_cons_zero, List.set_cons_succ]
        refine wd_pass rfl rfl ?_
        simp only [Act.put, List.setIfInBounds_toArray, List.set_cons_zero, List.set_cons_succ]
        refine wd_loud_pass rfl rfl ⟨hs2, ?_⟩
        simp only [Act.put, List.setIfInBounds_toArray, List.set_cons_zero, List.set_cons_succ]
        refine wd_pass rfl rfl ?_
        simp only [Act.put, List.setIfInBounds_toArray, List.set_cons_zero, List.set_cons_succ]
        refine wd_pass rfl rfl ?_
        simp only [Act.put, List.setIfInBounds_toArray, List.set_cons_zero, List.set_cons_succ]
        refine wd_pass rfl rfl ?_
        simp only [Act.put, List.setIfInBounds_toArray, List.set_cons_zero, List.set_cons_succ]
        refine wd_pass rfl rfl ?_
        simp only [Act.put, List.setIfInBounds_toArray, List.set_cons_zero, List.set_cons_succ]
        refine wd_loud_pass rfl rfl ⟨hs2, ?_⟩
        simp only [Act.put, List.setIfInBounds_toArray, List.set_cons_zero, List.set_cons_succ]
        refine wd_pick (b := false) (v := .bool false) rfl rfl rfl rfl rfl ?_
        simp only [Act.put, List.setIfInBounds_toArray, List.set_cons_zero, List.set_cons_succ]
        repeat (refine wd_q (v := ?_) rfl rfl rfl rfl rfl rfl (fun w' hw' K hK => ?_) ?_; rotate_left; (skip; go_wp2; exact rfl); simp only [Act.put, List.setIfInBounds_toArray, List.set_cons_zero, List.set_cons_succ])
        refine wd_nil ?_
        go_wp2_with fail
        go_ret
        exact ⟨rfl, hB⟩
      · have heq : decide (old = RM) = false := decide_eq_false hor
        rw [heq, Bool.not_false, Bool.true_and]
        have HEQ := Lib.hid heq
        clear heq hor
        go_enter Tryd.func24, Tryd.ntmps24
        go_upto_region 1 with (fail)
        rw [← HW0.out]
        go_wp2_with fail
        go_at_call 25
        refine (HLV.out _ (HT.out.up hB0)).mono ?_
        rintro e w1 ⟨v, rfl, hb, ho⟩
        have hB := hB0.trans (hb.mono hB0.size)
        have hx := hx0.up hb
        obtain ⟨AL, cL, rfl, hDL, _⟩ := ho.dg
        have hDle := hDL.le
        rw [HLL.out] at hDle ⊢
        have hDM := hDL.take M (by rw [HLL.out]; exact hMl)
        obtain ⟨gL, oL, rfl, _⟩ := hDL.get (by rw [HLL.out]; omega)
        have HDL := Lib.hid hDL
        have HDM := Lib.hid hDM
        clear hDL hDM ho
        go_wp2_with fail
        --MARKA
        have hxl := hx.lt
        have hB := hB.drew
        have hbd : Below w1.heap.size w1 w1.drew := (Below.refl _ _).drew
        have hsd : w1.drew.heap.size = w1.heap.size := rfl
        refine wp_region_C (Same [w.heap.size] w1) [5, 12, 17] (by kernel_rfl) (by kernel_rfl) (by intro c a w h; first | (obtain ⟨_, h, _⟩ := h; cases h; done) | (obtain ⟨_, _, h, _⟩ := h; cases h; done) | (obtain ⟨_, _, _, h, _⟩ := h; cases h; done) | (obtain ⟨_, _, _, _, h, _⟩ := h; cases h; done) | (rcases h with ⟨_, ⟨_, _, _, _, h, _⟩ | ⟨_, _, _, _, h, _⟩⟩ <;> cases h; done)) (by intro a w h; first | (obtain ⟨h, _⟩ := h; cases h; done) | (obtain ⟨_, h, _⟩ := h; cases h; done) | (obtain ⟨_, _, h, _⟩ := h; cases h; done) | (obtain ⟨_, _, _, h, _⟩ := h; cases h; done) | (rcases h with ⟨_, _, _, _, h, _⟩ | ⟨_, _, _, _, h, _⟩ <;> cases h; done)) (Same.refl _ _) ?_
        repeat (refine wd_w (v := ?_) rfl rfl rfl rfl rfl rfl (fun w' hw' K hK => ?_) ?_; rotate_left; (have e1 := hw'.blk hx (by simp); go_wp2_with ((first | ((with_reducible apply st_load (n := 32) (cs := nums .u8 (old)) (T := 45)); rfl; exact e1; exact Tryd.underlying45; rfl; kernel_rfl; (rw [nums_length, HDO.out.1]; exact Nat.le_refl _); (exact row_all _ _ (by rw [nums_length, HDO.out.1]))) | ((with_reducible apply st_toD (sz := 32) (i := M)); exact Tryd.underlying30; kernel_rfl; rfl; rfl; rfl; omega; exact nn_some; exact spot_none))); exact rfl); simp only [Act.put, List.setIfInBounds_toArray, List.set_cons_zero, List.set_cons_succ])
        refine wd_l rfl rfl (by intro a w h; first | (obtain ⟨h, _⟩ := h; cases h; done) | (obtain ⟨_, h, _⟩ := h; cases h; done) | (obtain ⟨_, _, h, _⟩ := h; cases h; done) | (obtain ⟨_, _, _, h, _⟩ := h; cases h; done) | (rcases h with ⟨_, _, _, _, h, _⟩ | ⟨_, _, _, _, h, _⟩ <;> cases h; done)) ?_
        go_wp2_with fail
        go_at_call 28
        refine (HRM.out _ _ _ (HDM.out.up hbd)).mono ?_
        rintro e w2 ⟨rfl, hb⟩
        have hB := hB.trans (hb.mono hB.size)
        have hb2 := hbd.trans (hb.mono (Nat.le_refl _))
        have hs2 : Same [w.heap.size] w1 w2 := fun gg hg => hb2.block gg (by simp at hg; omega)
        go_wp2_with fail
        refine ⟨.inr (hs2), ?_⟩
        refine wd_w (v := .bool true) rfl rfl rfl rfl rfl rfl (fun w' hw' K hK => ?_) ?_
        · have heq : Sem.run Tryd.prog (Op.equalIn 10000 45 (.agg (nums .u8 old).toArray) (.agg (nums .u8 RM).toArray)) w' = .ok (decide (old = RM)) w' := run_equal_nums (P := Tryd.prog) (t := 45) Tryd.underlying45 Tryd.underlying5 (by kernel_rfl) (by kernel_rfl) old RM HDO.out.1 HMO.out w'
          rw [HEQ.out] at heq
          go_wp2_with fail
          exact rfl
        simp only [Act.put, List.setIfInBounds_toArray, List.set_cons_zero, List.set_cons_succ]
        repeat (refine wd_q (v := ?_) rfl rfl rfl rfl rfl rfl (fun w' hw' K hK => ?_) ?_; rotate_left; (skip; go_wp2; exact rfl); simp only [Act.put, List.setIfInBounds_toArray, List.set_cons_zero, List.set_cons_succ])
        --MARKB
        repeat (refine wd_wg (v := ?_) rfl rfl rfl rfl rfl rfl (fun w' hw' K hK => ?_) ?_; rotate_left; (have e1 := hw'.blk hx (by simp); go_wp2_with (((with_reducible apply st_load (n := 32) (cs := nums .u8 (old)) (T := 45)); rfl; exact e1; exact Tryd.underlying45; rfl; kernel_rfl; (rw [nums_length, HDO.out.1]; exact Nat.le_refl _); (exact row_all _ _ (by rw [nums_length, HDO.out.1])))); exact rfl); simp only [Act.put, List.setIfInBounds_toArray, List.set_cons_zero, List.set_cons_succ])
        refine wd_lg rfl rfl (by intro a w h; first | (obtain ⟨h, _⟩ := h; cases h; done) | (obtain ⟨_, h, _⟩ := h; cases h; done) | (obtain ⟨_, _, h, _⟩ := h; cases h; done) | (obtain ⟨_, _, _, h, _⟩ := h; cases h; done) | (rcases h with ⟨_, _, _, _, h, _⟩ | ⟨_, _, _, _, h, _⟩ <;> cases h; done)) ?_
        go_wp2_with fail
        go_at_call 28
        refine (HRT.out _ _ _ (HDL.out.up hb2)).mono ?_
        rintro e w3 ⟨rfl, hb⟩
        have hB := hB.trans (hb.mono hB.size)
        have hb3 := hb2.trans (hb.mono hb2.size)
        go_wp2_with fail
        refine ⟨.inr (fun gg hg => hb3.block gg (by simp at hg; omega)), ?_⟩
        repeat (refine wd_wg (v := ?_) rfl rfl rfl rfl rfl rfl (fun w' hw' K hK => ?_) ?_; rotate_left; (skip; go_wp2_with (fail); exact rfl); simp only [Act.put, List.setIfInBounds_toArray, List.set_cons_zero, List.set_cons_succ])
        refine wd_lg rfl rfl (by intro a w h; first | (obtain ⟨h, _⟩ := h; cases h; done) | (obtain ⟨_, h, _⟩ := h; cases h; done) | (obtain ⟨_, _, h, _⟩ := h; cases h; done) | (obtain ⟨_, _, _, h, _⟩ := h; cases h; done) | (rcases h with ⟨_, _, _, _, h, _⟩ | ⟨_, _, _, _, h, _⟩ <;> cases h; done)) ?_
        go_wp2_with fail
        go_at_call 47
        refine (HCP.out _ (HP.out.up hB)).mono ?_
        rintro e w4 ⟨rfl, hb⟩
        have hB := hB.trans (hb.mono hB.size)
        have hb4 := hb3.trans (hb.mono hb3.size)
        go_wp2_with fail
        refine ⟨.inr (fun gg hg => hb4.block gg (by simp at hg; omega)), ?_⟩
        obtain ⟨r, hr⟩ : ∃ r, r = checkGF old M R l.length ps z := ⟨_, rfl⟩
        rw [← hr]
        refine wd_pick (b := true) (v := .bool r) rfl rfl rfl rfl rfl ?_
        simp only [Act.put, List.setIfInBounds_toArray, List.set_cons_zero, List.set_cons_succ]
        repeat (refine wd_q (v := ?_) rfl rfl rfl rfl rfl rfl (fun w' hw' K hK => ?_) ?_; rotate_left; (skip; go_wp2; exact rfl); simp only [Act.put, List.setIfInBounds_toArray, List.set_cons_zero, List.set_cons_succ])
        refine wd_nil ?_
        go_wp2_with fail
        --MARKC
        go_ret
        exact ⟨by rw [← hr]; rfl, hB⟩

end Go.Proofs.YtiogopneklmodaaDoor
