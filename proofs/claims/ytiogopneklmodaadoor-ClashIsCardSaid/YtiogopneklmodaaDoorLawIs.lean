/- That inquestlaw07.ClashIs returns true. Condition: the table of layer 2 reads as its text lays it. -/
import Derived.Test.YtiogopneklmodaaDoorLv7
namespace Go.Proofs.YtiogopneklmodaaDoor
open Go.RowKit

set_option maxRecDepth 100000 in
set_option maxHeartbeats 8000000 in
theorem lawis_any (w : World) (bs0 : List Int) (A : Option Addr) (c : Nat) (hr : Rd w A (nums .u8 bs0)) (hc : bs0.length ≤ c) (hA : A = none → c = 0) (hu : U8 bs0)
    (bs1 : List Int) (B : Option Addr) (d : Nat) (hr1 : Rd w B (nums .u8 bs1)) (hc1 : bs1.length ≤ d) (hB1 : B = none → d = 0) (hu1 : U8 bs1) (z : Int) (hk : KV w) :
    Calls Tryd.prog 3 #[.slice A bs0.length c, .slice B bs1.length d, .int .i64 z] w fun e w' => e = .returned (.bool true) ∧ Below w.heap.size w w' := by
  obtain ⟨a, hal, _, hya, HCUT1⟩ := (Byt.mk hr hc hA hu).cut 200 200 rfl
  obtain ⟨b, hbl, _, hyb, HCUT2⟩ := (Byt.mk hr1 hc1 hB1 hu1).cut 200 200 rfl
  have HK := Lib.hid hk
  have HYA := Lib.hid hya
  have HYB := Lib.hid hyb
  have k1 := fun (W : World) (h1 : Byt W A c a) (h2 : Byt W B d b) => clis_any W a b A B c d h1 h2 (by omega) (by omega) z
  have k2 := fun (W : World) (h1 : Byt W A c a) (h2 : Byt W B d b) => refis_any W a b A B c d h1 h2 (by omega) (by omega) z
  have k3 := fun (W : World) (h1 : Byt W A c a) => clis_any W a a A A c c h1 h1 (by omega) (by omega) z
  have hno : decide (IsF a a z) = false := decide_eq_false (fun h => h.1 rfl)
  rw [hno] at k3
  obtain ⟨r, hr⟩ : ∃ r, r = decide (IsF a b z) := ⟨_, rfl⟩
  rw [← hr] at k1 k2
  have K1 := Lib.hid k1
  have K2 := Lib.hid k2
  have K3 := Lib.hid k3
  clear hk hr hc hA hu hr1 hc1 hB1 hu1 k1 k2 k3 hno hya hyb
  go_enter Tryd.func3, Tryd.ntmps3
  go_wp2_with fail
  go_at_call 8
  refine (HCUT1.out _).mono ?_
  rintro e wz ⟨rfl, rfl⟩
  go_wp2_with fail
  go_at_call 8
  refine (HCUT2.out _).mono ?_
  rintro e wz ⟨rfl, rfl⟩
  have hz : Blk (w.alloc (.cells (clC [] [] none none 0 0).toArray 25)) w.heap.size (clC [] [] none none 0 0) 25 := Blk.new' _ _ _ _ _ rfl rfl
  go_wp2_with ((with_reducible apply st_storeW (off := 0) (vs := clC a b A B c d) (cs := clC [] [] none none 0 0) (T := 25)); rfl; rfl; exact hz; exact clSize; (simp [clC]); exact clC_one _ _ _ _ _ _; intro w1 hd1 hw1; rw [laid_all _ _ (by rfl)] at hd1)
  --MARKA
  have hB := Wrote.below ((Below.refl w.heap.size w).alloc (Nat.le_refl _) (.cells (clC [] [] none none 0 0).toArray 25)) hw1 (Nat.le_refl _)
  have hq := hd1
  have hql := hq.lt
  have c0 := hd1.cell 0
  simp only [clC, List.getElem?_cons_zero] at c0
  clear hz
  refine wp_region_C (Same [w.heap.size] w1) [2, 5, 14, 18] (by kernel_rfl) (by kernel_rfl) (by intro c a w h; first | (obtain ⟨_, h, _⟩ := h; cases h; done) | (obtain ⟨_, _, h, _⟩ := h; cases h; done) | (obtain ⟨_, _, _, h, _⟩ := h; cases h; done) | (obtain ⟨_, _, _, _, h, _⟩ := h; cases h; done) | (rcases h with ⟨_, ⟨_, _, _, _, h, _⟩ | ⟨_, _, _, _, h, _⟩⟩ <;> cases h; done)) (by intro a w h; first | (obtain ⟨h, _⟩ := h; cases h; done) | (obtain ⟨_, h, _⟩ := h; cases h; done) | (obtain ⟨_, _, h, _⟩ := h; cases h; done) | (obtain ⟨_, _, _, h, _⟩ := h; cases h; done) | (rcases h with ⟨_, _, _, _, h, _⟩ | ⟨_, _, _, _, h, _⟩ <;> cases h; done)) (Same.refl _ _) ?_
  repeat (refine wd_w (v := ?_) rfl rfl rfl rfl rfl rfl (fun w' hw' K hK => ?_) ?_; rotate_left; (have e1 := hw'.blk hd1 (by simp); go_wp2_with (((with_reducible apply st_load (n := 2) (cs := clC a b A B c d) (T := 25)); rfl; exact e1; exact Tryd.underlying25; rfl; exact clSize; (exact Nat.le_refl 2); (exact row_all _ _ rfl))); exact rfl); simp only [Act.put, List.setIfInBounds_toArray, List.set_cons_zero, List.set_cons_succ])
  have hB := hB.drew
  have hb1 : Below w1.heap.size w1 w1.drew := (Below.refl _ _).drew
  refine wd_l rfl rfl (by intro a w h; first | (obtain ⟨h, _⟩ := h; cases h; done) | (obtain ⟨_, h, _⟩ := h; cases h; done) | (obtain ⟨_, _, h, _⟩ := h; cases h; done) | (obtain ⟨_, _, _, h, _⟩ := h; cases h; done) | (rcases h with ⟨_, _, _, _, h, _⟩ | ⟨_, _, _, _, h, _⟩ <;> cases h; done)) ?_
  go_wp2_with fail
  go_at_call 9
  refine (K1.out _ (HYA.out.up hB) (HYB.out.up hB) (HK.out.below hB HK.out.lt)).mono ?_
  rintro e w2 ⟨rfl, hb⟩
  have hB := hB.trans (hb.mono hB.size)
  have hb2 := hb1.trans (hb.mono (Nat.le_refl _))
  go_wp2_with fail
  refine ⟨.inr (fun gg hg => hb2.block gg (by simp at hg; omega)), ?_⟩
  repeat (refine wd_w (v := ?_) rfl rfl rfl rfl rfl rfl (fun w' hw' K hK => ?_) ?_; rotate_left; (have e1 := hw'.blk hd1 (by simp); go_wp2_with (((with_reducible apply st_load (n := 2) (cs := clC a b A B c d) (T := 25)); rfl; exact e1; exact Tryd.underlying25; rfl; exact clSize; (exact Nat.le_refl 2); (exact row_all _ _ rfl))); exact rfl); simp only [Act.put, List.setIfInBounds_toArray, List.set_cons_zero, List.set_cons_succ])
  refine wd_l rfl rfl (by intro a w h; first | (obtain ⟨h, _⟩ := h; cases h; done) | (obtain ⟨_, h, _⟩ := h; cases h; done) | (obtain ⟨_, _, h, _⟩ := h; cases h; done) | (obtain ⟨_, _, _, h, _⟩ := h; cases h; done) | (rcases h with ⟨_, _, _, _, h, _⟩ | ⟨_, _, _, _, h, _⟩ <;> cases h; done)) ?_
  go_wp2_with fail
  go_at_call 10
  refine (K2.out _ (HYA.out.up hB) (HYB.out.up hB)).mono ?_
  rintro e w3 ⟨rfl, hb⟩
  have hB := hB.trans (hb.mono hB.size)
  have hb3 := hb2.trans (hb.mono hb2.size)
  go_wp2_with fail
  refine ⟨.inr (fun gg hg => hb3.block gg (by simp at hg; omega)), ?_⟩
  --MARKB
  refine wd_w (v := .bool true) rfl rfl rfl rfl rfl rfl (fun w' hw' K hK => ?_) ?_
  · cases r <;> (go_wp2; exact rfl)
  simp only [Act.put, List.setIfInBounds_toArray, List.set_cons_zero, List.set_cons_succ]
  repeat (refine wd_q (v := ?_) rfl rfl rfl rfl rfl rfl (fun w' hw' K hK => ?_) ?_; rotate_left; (skip; go_wp2; exact rfl); simp only [Act.put, List.setIfInBounds_toArray, List.set_cons_zero, List.set_cons_succ])
  repeat (refine wd_wg (v := ?_) rfl rfl rfl rfl rfl rfl (fun w' hw' K hK => ?_) ?_; rotate_left; (have e1 := (hw'.cell w.heap.size (by simp) 0).trans c0; go_wp2_with (fail); exact rfl); simp only [Act.put, List.setIfInBounds_toArray, List.set_cons_zero, List.set_cons_succ])
  --MARKC
  refine wd_lg rfl rfl (by intro a w h; first | (obtain ⟨h, _⟩ := h; cases h; done) | (obtain ⟨_, h, _⟩ := h; cases h; done) | (obtain ⟨_, _, h, _⟩ := h; cases h; done) | (obtain ⟨_, _, _, h, _⟩ := h; cases h; done) | (rcases h with ⟨_, _, _, _, h, _⟩ | ⟨_, _, _, _, h, _⟩ <;> cases h; done)) ?_
  go_wp2_with fail
  go_at_call 9
  refine (K3.out _ (HYA.out.up hB) (HK.out.below hB HK.out.lt)).mono ?_
  rintro e w4 ⟨rfl, hb⟩
  have hB := hB.trans (hb.mono hB.size)
  have hb4 := hb3.trans (hb.mono hb3.size)
  go_wp2_with fail
  refine ⟨.inr (fun gg hg => hb4.block gg (by simp at hg; omega)), ?_⟩
  repeat (refine wd_wg (v := ?_) rfl rfl rfl rfl rfl rfl (fun w' hw' K hK => ?_) ?_; rotate_left; (skip; go_wp2_with (fail); exact rfl); simp only [Act.put, List.setIfInBounds_toArray, List.set_cons_zero, List.set_cons_succ])
  --MARKD
  refine wd_pick (b := true) (v := .bool true) rfl rfl rfl rfl rfl ?_
  simp only [Act.put, List.setIfInBounds_toArray, List.set_cons_zero, List.set_cons_succ]
  repeat (refine wd_q (v := ?_) rfl rfl rfl rfl rfl rfl (fun w' hw' K hK => ?_) ?_; rotate_left; (skip; go_wp2; exact rfl); simp only [Act.put, List.setIfInBounds_toArray, List.set_cons_zero, List.set_cons_succ])
  refine wd_lg rfl rfl (by intro a w h; first | (obtain ⟨h, _⟩ := h; cases h; done) | (obtain ⟨_, h, _⟩ := h; cases h; done) | (obtain ⟨_, _, h, _⟩ := h; cases h; done) | (obtain ⟨_, _, _, h, _⟩ := h; cases h; done) | (rcases h with ⟨_, _, _, _, h, _⟩ | ⟨_, _, _, _, h, _⟩ <;> cases h; done)) ?_
  go_wp2_with fail
  go_at_call 11
  refine (lives_any _ (HK.out.below hB HK.out.lt)).mono ?_
  rintro e w5 ⟨rfl, hb⟩
  have hB := hB.trans (hb.mono hB.size)
  have hb5 := hb4.trans (hb.mono hb4.size)
  go_wp2_with fail
  refine ⟨.inr (fun gg hg => hb5.block gg (by simp at hg; omega)), ?_⟩
  refine wd_pick (b := true) (v := .bool true) rfl rfl rfl rfl rfl ?_
  simp only [Act.put, List.setIfInBounds_toArray, List.set_cons_zero, List.set_cons_succ]
  repeat (refine wd_q (v := ?_) rfl rfl rfl rfl rfl rfl (fun w' hw' K hK => ?_) ?_; rotate_left; (skip; go_wp2; exact rfl); simp only [Act.put, List.setIfInBounds_toArray, List.set_cons_zero, List.set_cons_succ])
  refine wd_nil ?_
  go_wp2_with fail
  go_ret
  exact ⟨rfl, hB⟩

end Go.Proofs.YtiogopneklmodaaDoor
