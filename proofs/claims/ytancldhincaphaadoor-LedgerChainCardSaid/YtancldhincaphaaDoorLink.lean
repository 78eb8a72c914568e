/- What inquestlaw21.link answers: what the last link of a chain is the sum of. No condition. -/
import Derived.Test.YtancldhincaphaaDoorRefA
import Derived.Test.YtancldhincaphaaDoorRobust
namespace Go.Proofs.YtancldhincaphaaDoor
open Go.RowKit
set_option maxRecDepth 100000

def linkL (T : List (List Int)) (b : List Int) : List Int := 1 :: (lchainF T ++ leafF b 256)
theorem linkL_u8 (T : List (List Int)) (b : List Int) : U8 (linkL T b) := by
  have h1 : U8 [1] := U8.of fun x hx => by rw [List.mem_singleton.1 hx]; omega
  exact h1.append ((lchainF_ok T).2.append (leafF_range b 256))
theorem linkL_len (T : List (List Int)) (b : List Int) : (linkL T b).length = 65 := by simp [linkL, (lchainF_ok T).1, leafF_len]
theorem linkL_sum (T : List (List Int)) (b : List Int) : cutF (sumF (linkL T b)) 256 = lchainF (T ++ [b]) := by rw [lchainF_snoc]; rfl

set_option maxRecDepth 100000 in
set_option maxHeartbeats 8000000 in
theorem link_any (w : World) (T : List (List Int)) (b : List Int) (A : Option Addr) (c : Nat) (hT : Txts w A c (T ++ [b])) (hl : T.length ≤ 64) (hb : ∀ x ∈ T ++ [b], x.length ≤ 1000) :
    Calls Tryd.prog 25 #[.slice A (T.length + 1) c] w (Gives (linkL T b) w) := by
  obtain ⟨g, o, rfl, hg, hc⟩ := hT.get (by simp)
  obtain ⟨B, d, hcell, hbyt⟩ := hc T.length (by simp)
  have hlast : (T ++ [b])[T.length]'(by simp) = b := by simp
  rw [hlast] at hcell hbyt
  have hbl : b.length ≤ 1000 := hb b (by simp)
  have htk := hT.take T.length
  rw [List.take_append_of_le_length (Nat.le_refl _), List.take_length] at htk
  have hchain := fun (W : World) (h : Txts W (some ⟨g, o, none⟩) c T) => refchain_any W T (some ⟨g, o, none⟩) c h (by omega) (fun x hx => hb x (by simp [hx]))
  have hleaf := fun (W : World) (h : Byt W B d b) => refleaf_any W b B d h (by omega) 256
  have hcT : T.length ≤ c := htk.le
  have hxo := lchainF_ok T
  have hyo : (leafF b 256).length = 32 ∧ U8 (leafF b 256) := ⟨leafF_len _ _, leafF_range _ _⟩
  have hlk : linkL T b = ([1] ++ lchainF T) ++ leafF b 256 := rfl
  rw [hlk]
  obtain ⟨X, hX⟩ : ∃ X, X = lchainF T := ⟨_, rfl⟩
  obtain ⟨Y, hY⟩ : ∃ Y, Y = leafF b 256 := ⟨_, rfl⟩
  rw [← hX] at hchain hxo ⊢
  rw [← hY] at hleaf hyo ⊢
  have HCH := Lib.hid hchain
  have HLF := Lib.hid hleaf
  have HXL := Lib.hid hxo.1
  have HYL := Lib.hid hyo.1
  have HTK := Lib.hid htk
  have HBY := Lib.hid hbyt
  have HB32 := Lib.hid hbl
  clear hc hbyt htk hchain hleaf hxo hyo hlk hX hY hT hb hlast hbl
  go_enter Tryd.func25, Tryd.ntmps25
  go_wp2_with fail
  --MARK1
  refine wp_region_R 11 [9, 10] (.cells (nums .u8 (List.replicate 32 0)).toArray 24) [11, 12] (by kernel_rfl) (by kernel_rfl) (by intro c a w h; first | (obtain ⟨_, h, _⟩ := h; cases h; done) | (obtain ⟨_, _, h, _⟩ := h; cases h; done) | (obtain ⟨_, _, _, h, _⟩ := h; cases h; done) | (obtain ⟨_, _, _, _, h, _⟩ := h; cases h; done) | (rcases h with ⟨_, ⟨_, _, _, _, h, _⟩ | ⟨_, _, _, _, h, _⟩⟩ <;> cases h; done)) (by intro a w h; first | (obtain ⟨h, _⟩ := h; cases h; done) | (obtain ⟨_, h, _⟩ := h; cases h; done) | (obtain ⟨_, _, h, _⟩ := h; cases h; done) | (obtain ⟨_, _, _, h, _⟩ := h; cases h; done) | (rcases h with ⟨_, _, _, _, h, _⟩ | ⟨_, _, _, _, h, _⟩ <;> cases h; done)) ?_
  simp only [List.take_succ_cons, List.take_zero, List.drop_succ_cons, List.drop_zero]
  repeat (refine wr_w (v := ?_) rfl rfl rfl rfl rfl (fun w' hw' K hK => ?_) ?_; rotate_left; (skip; go_wp2_with (((with_reducible apply st_toD (sz := 1) (i := T.length)); exact Tryd.underlying43; kernel_rfl; rfl; rfl; rfl; exact hcT; exact nn_some; exact spot_none)); exact rfl); simp only [Act.put, List.setIfInBounds_toArray, List.set_cons_zero, List.set_cons_succ])
  --MARK2
  refine wr_call (v := .agg (nums .u8 X).toArray) (f := 51) (args := #[.slice (some ⟨g, o, none⟩) T.length c]) rfl rfl (by kernel_rfl) (fun W => by go_simp) (fun W hW => HCH.out W (HTK.out.up ((Below.refl _ _).drew.trans hW))) ?_
  simp only [Act.put, List.setIfInBounds_toArray, List.set_cons_zero, List.set_cons_succ]
  repeat (refine wr_w (v := ?_) rfl rfl rfl rfl rfl (fun w' hw' K hK => ?_) ?_; rotate_left; (have e1 := ((Below.refl w.heap.size w).drew.trans hw' |>.cell (p := ⟨g, o + T.length, none⟩) hg).trans hcell; go_wp2_with (fail); exact rfl); simp only [Act.put, List.setIfInBounds_toArray, List.set_cons_zero, List.set_cons_succ])
  --MARK3
  refine wr_call (v := .agg (nums .u8 Y).toArray) (f := 52) (args := #[.slice B b.length d, .int .i64 256]) rfl rfl (by kernel_rfl) (fun W => by go_simp) (fun W hW => HLF.out W (HBY.out.up ((Below.refl _ _).drew.trans hW))) ?_
  simp only [Act.put, List.setIfInBounds_toArray, List.set_cons_zero, List.set_cons_succ]
  --MARK4
  refine wr_make rfl rfl (fun W => by go_simp; rfl) (fun g1 hg1 hn1 => ?_)
  simp only [Act.put, List.setIfInBounds_toArray, List.set_cons_zero, List.set_cons_succ]
  refine wr_make rfl rfl (fun W => by go_simp; rfl) (fun g2 hg2 hn2 => ?_)
  simp only [Act.put, List.setIfInBounds_toArray, List.set_cons_zero, List.set_cons_succ]
  refine wr_nil (fun w1 hG hU => ?_)
  have hg1 : w.heap.size ≤ g1 := hg1
  have hg2 : w.heap.size ≤ g2 := hg2
  have hne : g2 ≠ g1 := by simpa using hn2
  have hz1 : Blk w1 g1 (nums .u8 (List.replicate 32 0)) 24 := hU g1 (by simp)
  have hz2 : Blk w1 g2 (nums .u8 (List.replicate 32 0)) 24 := hU g2 (by simp)
  have hB1 : Below w.heap.size w w1 := (Below.refl w.heap.size w).drew.trans hG
  have hds : w.drew.heap.size = w.heap.size := rfl
  --MARK5
  refine wd_l rfl rfl (by intro a w h; first | (obtain ⟨h, _⟩ := h; cases h; done) | (obtain ⟨_, h, _⟩ := h; cases h; done) | (obtain ⟨_, _, h, _⟩ := h; cases h; done) | (obtain ⟨_, _, _, h, _⟩ := h; cases h; done) | (rcases h with ⟨_, _, _, _, h, _⟩ | ⟨_, _, _, _, h, _⟩ <;> cases h; done)) ?_
  go_wp2_with ((with_reducible apply st_storeW (off := 0) (vs := nums .u8 (X)) (cs := nums .u8 (List.replicate 32 0)) (T := 24)); rfl; rfl; exact hz1; (rw [nums_length, HXL.out]; kernel_rfl); (rw [nums_length, HXL.out]; decide); exact nums_one _ _; intro w3 hd3 hw3; rw [laid_all _ _ (by rw [nums_length, HXL.out]; rfl)] at hd3)
  have hG := Wrote.below hG hw3 (by omega)
  refine ⟨.inr hG, ?_⟩
  have hz2 := hw3.blk hz2 (by omega)
  have hB3 := Wrote.below hB1 hw3 (by omega)
  refine wd_l rfl rfl (by intro a w h; first | (obtain ⟨h, _⟩ := h; cases h; done) | (obtain ⟨_, h, _⟩ := h; cases h; done) | (obtain ⟨_, _, h, _⟩ := h; cases h; done) | (obtain ⟨_, _, _, h, _⟩ := h; cases h; done) | (rcases h with ⟨_, _, _, _, h, _⟩ | ⟨_, _, _, _, h, _⟩ <;> cases h; done)) ?_
  go_wp2_with ((with_reducible apply st_storeW (off := 0) (vs := nums .u8 (Y)) (cs := nums .u8 (List.replicate 32 0)) (T := 24)); rfl; rfl; exact hz2; (rw [nums_length, HYL.out]; kernel_rfl); (rw [nums_length, HYL.out]; decide); exact nums_one _ _; intro w4 hd4 hw4; rw [laid_all _ _ (by rw [nums_length, HYL.out]; rfl)] at hd4)
  refine ⟨.inr (Wrote.below hG hw4 (by omega)), ?_⟩
  refine wd_nil ?_
  have hx4 := hw4.blk hd3 (by omega)
  have hB4 := Wrote.below hB3 hw4 (by omega)
  have hx4l := hx4.lt
  have hy4l := hd4.lt
  --MARK6
  have hrow : Blk (w4.alloc (.cells #[.int .u8 1] 5)) w4.heap.size (nums .u8 [1]) 5 := Blk.new' _ _ _ _ _ rfl rfl
  have hba : Below w4.heap.size w4 (w4.alloc (.cells #[.int .u8 1] 5)) := (Below.refl _ _).alloc (Nat.le_refl _) _
  have hG5 : Grows w4 [1] (.slice (some ⟨w4.heap.size, 0, none⟩) 1 1) (w4.alloc (.cells #[.int .u8 1] 5)) := ⟨hba, Own.ofBlk hrow (Nat.le_refl _) (by decide)⟩
  have hx5 := hx4.up hba
  have hy5 := hd4.up hba
  go_wp2_with (first | ((with_reducible apply st_allArr); exact Tryd.underlying24; kernel_rfl; rfl) | ((with_reducible apply st_grow (w0 := w4) (xs := [1]) (ys := X)); rfl; (rw [HXL.out]; rfl); exact hG5; (intro h; cases h); exact (Rd.ofBlk hx5); (rw [HXL.out]; decide); intro v6 w6 hG6; have hy6 := hd4.up hG6.1) | ((with_reducible apply st_grow (w0 := w4) (xs := [1] ++ X) (ys := Y)); rfl; (rw [HYL.out]; rfl); exact hG6; (intro h; cases h); exact (Rd.ofBlk hy6); (rw [List.length_append, HXL.out, HYL.out]; decide); intro v7 w7 hG7))
  --MARK7
  go_ret
  exact ⟨v7, rfl, hB4.trans (hG7.1.mono hB4.size), hG7.2.mono hB4.size⟩

end Go.Proofs.YtancldhincaphaaDoor
