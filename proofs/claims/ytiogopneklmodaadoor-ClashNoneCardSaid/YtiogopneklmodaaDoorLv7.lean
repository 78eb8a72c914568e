/- That inquestlaw07.lives returns true. Condition: the table of layer 2 reads as its text lays it. -/
import Derived.Test.YtiogopneklmodaaDoorClPa
import Derived.Test.YtiogopneklmodaaDoorRefIs
namespace Go.Proofs.YtiogopneklmodaaDoor
open Go.RowKit

theorem cut0 (d : List Int) (z : Int) (h : z ≤ 0) : cutF d z = List.replicate d.length 0 := by
  unfold cutF cutB
  apply List.ext_getElem
  · simp
  · intro i h1 h2
    have hc : clip z = 0 := by unfold clip; omega
    simp only [List.getElem_map, List.getElem_range, List.getElem_replicate, hc, byteCut]
    rw [if_pos (by omega)]
theorem leaf0 (b : List Int) : leafF b 0 = List.replicate 32 0 := by rw [leaf_def, cut0 _ _ (Int.le_refl _), sumF_len]
theorem must_one : pathMust [[97]] 0 [98] [] 0 = true := by
  rw [pathMust_in _ _ _ _ _ (by omega) (by simp) (by simp)]
  have h := checkPF_in (rootF (leavesF [[97]] 0) 0) (leafF [98] 0) (([[97]] : List (List Int)).length : Int) 0 (leafF [98] 0) [] 0 (by omega) (by simp) (by rw [show ((([[97]] : List (List Int)).length : Int)).toNat = 1 from rfl, stepsF_small 1 _ (by omega)]; rfl) (by rw [show ((([[97]] : List (List Int)).length : Int)).toNat = 1 from rfl, stepsF_small 1 _ (by omega)]; rfl)
  rw [h, show leavesF [[97]] 0 = [leafF [97] 0] from rfl, rootF_one, leaf0, leaf0]
  exact decide_eq_true rfl

set_option maxRecDepth 100000 in
set_option maxHeartbeats 4000000 in
theorem lives_any (w : World) (hk : KV w) : Calls Tryd.prog 11 #[] w fun e w' => e = .returned (.bool true) ∧ Below w.heap.size w w' := by
  have HK := Lib.hid hk
  clear hk
  obtain ⟨W, hW⟩ : ∃ W, W = (((w.alloc (.cells #[.int .u8 97] 5)).alloc (.cells #[.slice (some ⟨w.heap.size, 0, none⟩) 1 1] 22)).alloc (.cells #[.int .u8 98] 5)) := ⟨_, rfl⟩
  have bA : Blk W w.heap.size (nums .u8 [97]) 5 := by rw [hW]; exact ((Blk.new' _ _ _ _ _ rfl rfl).alloc _).alloc _
  have bT : Blk W (w.heap.size + 1) [.slice (some ⟨w.heap.size, 0, none⟩) 1 1] 22 := by rw [hW]; exact (Blk.new' _ _ _ _ _ rfl (by simp)).alloc _
  have bB : Blk W (w.heap.size + 1 + 1) (nums .u8 [98]) 5 := by rw [hW]; exact Blk.new' _ _ _ _ _ rfl (by simp)
  have hB : Below w.heap.size w W := by rw [hW]; exact ((((Below.refl _ _).alloc (Nat.le_refl _) _).alloc (by simp) _).alloc (by simp; omega) _)
  have hlt := bT.lt
  have hT : Txts W (some ⟨w.heap.size + 1, 0, none⟩) 1 [[97]] := ⟨by simp, nn_some, .inr ⟨w.heap.size + 1, 0, rfl, hlt, fun j hj => by
    have hj0 : j = 0 := by simpa using hj
    subst hj0
    refine ⟨some ⟨w.heap.size, 0, none⟩, 1, ?_, ⟨Rd.ofBlk bA, Nat.le_refl _, nn_some, U8.cons (by decide) U8.nil⟩⟩
    rw [bT.cell]; rfl⟩⟩
  have hcall := clpath_any W [[97]] (some ⟨w.heap.size + 1, 0, none⟩) 1 hT (by simp) (fun x hx => by simp at hx; subst hx; simp) 0 [98] (some ⟨w.heap.size + 1 + 1, 0, none⟩) 1 ⟨Rd.ofBlk bB, Nat.le_refl _, nn_some, U8.cons (by decide) U8.nil⟩ (by simp) [] none 0 (Dg.nil W) (by simp) 0 (HK.out.below hB HK.out.lt)
  rw [must_one] at hcall
  have HCALL := Lib.hid hcall
  have HW := Lib.hid hW
  clear hcall hT hlt bA bT bB hW
  go_enter Tryd.func11, Tryd.ntmps11
  go_wp2_with fail
  go_at_call 15
  rw [← HW.out]
  refine HCALL.out.mono ?_
  rintro e w2 ⟨v, rfl, hb, a, b, A, B, c, d, rfl, hya, hyb, _, hIs, la, lb⟩
  have hB := hB.trans (hb.mono hB.size)
  have hz : Blk (w2.alloc (.cells (clC [] [] none none 0 0).toArray 25)) w2.heap.size (clC [] [] none none 0 0) 25 := Blk.new' _ _ _ _ _ rfl rfl
  have hi : decide (IsF a b 0) = true := decide_eq_true (hIs rfl)
  have HI := Lib.hid hi
  clear hIs hi
  go_wp2_with (first | ((with_reducible apply st_storeW (off := 0) (vs := clC a b A B c d) (cs := clC [] [] none none 0 0) (T := 25)); rfl; rfl; exact hz; exact clSize; (simp [clC]); exact clC_one _ _ _ _ _ _; intro w3 hd3 hw3; rw [laid_all _ _ (by rfl)] at hd3) | ((with_reducible apply st_met); rfl) | ((with_reducible apply st_load (n := 2) (cs := clC a b A B c d) (T := 25)); rfl; exact hd3; exact Tryd.underlying25; rfl; exact clSize; (exact Nat.le_refl 2); (exact row_all _ _ rfl)))
  --MARKA
  have hb3 := Wrote.below ((Below.refl w2.heap.size w2).alloc (Nat.le_refl _) (.cells (clC [] [] none none 0 0).toArray 25)) hw3 (Nat.le_refl _)
  have hB := hB.trans (hb3.mono hB.size)
  have hq := hd3
  have k1 := refis_any w3 a b A B c d (hya.up hb3) (hyb.up hb3) (by omega) (by omega) 0
  rw [HI.out] at k1
  go_at_call 10
  refine k1.mono ?_
  clear k1
  rintro e w4 ⟨rfl, hb4⟩
  have hB := hB.trans (hb4.mono hB.size)
  have hq := hq.up hb4
  have hya := (hya.up hb3).up hb4
  have hyb := (hyb.up hb3).up hb4
  go_wp2_with (first | ((with_reducible apply st_met); rfl) | ((with_reducible apply st_load (n := 2) (cs := clC a b A B c d) (T := 25)); rfl; exact hq; exact Tryd.underlying25; rfl; exact clSize; (exact Nat.le_refl 2); (exact row_all _ _ rfl)))
  go_at_call 9
  have k2 := clis_any w4 a b A B c d hya hyb (by omega) (by omega) 0 (HK.out.below hB HK.out.lt)
  rw [HI.out] at k2
  refine k2.mono ?_
  clear k2
  rintro e w5 ⟨rfl, hb5⟩
  have hB := hB.trans (hb5.mono hB.size)
  go_wp2_with fail
  go_ret
  exact ⟨rfl, hB⟩

end Go.Proofs.YtiogopneklmodaaDoor
