/- That inquestlaw20.EntryLines returns true. No condition. -/
import Derived.Test.YtepicdcmcagipaaEntLn
import Derived.Test.YtepicdcmcagipaaLawTexts
namespace Go.Proofs.Ytepicdcmcagipaa
open Go.RowKit

set_option maxRecDepth 100000 in
set_option maxHeartbeats 8000000 in
theorem lawlines_any (w : World) (e0 : Ent) (A0 : Option Addr) (c0 : Nat) (he0 : EntB e0) (hn0 : Nts w A0 c0 e0.ord) (hl0 : e0.ord.length ≤ 9223372036854775807) (k : Int) (_ : -9223372036854775808 ≤ k) (_ : k ≤ 9223372036854775807) :
    Calls Try.prog 5 #[.agg (entC e0 A0 c0).toArray, .int .i64 k] w fun r w' => r = .returned (.bool true) ∧ Below w.heap.size w w' := by
  obtain ⟨e, he⟩ : ∃ e, e = cutE e0 := ⟨_, rfl⟩
  have heB : EntB e := by rw [he]; exact cutE_B he0
  have hel : e.ord.length ≤ 70 := by rw [he]; exact cutE_len e0
  have k1 := fun W h => cut20_any W e0 he0 A0 c0 h hl0
  rw [← he] at k1
  have k3 := fun W A c h => line_any W e heB A c h (by omega)
  have k4 := fun W A c h => refline_any W e heB A c h (by omega)
  have k5 := fun W => word_any W k
  have k6 := fun W => refword_any W k
  obtain ⟨S, hS⟩ : ∃ S, S = strOfNums (lineL e) := ⟨_, rfl⟩
  obtain ⟨V, hV⟩ : ∃ V, V = strOfNums (wordL k) := ⟨_, rfl⟩
  rw [← hS] at k3 k4
  rw [← hV] at k5 k6
  have HK1 := Lib.hid k1
  have HK3 := Lib.hid k3
  have HK4 := Lib.hid k4
  have HK5 := Lib.hid k5
  have HK6 := Lib.hid k6
  have HEB := Lib.hid heB
  have HN0 := Lib.hid hn0
  have hb0 : Below w.heap.size w (w.alloc (.cells (entC e0 A0 c0).toArray 28)) := (Below.refl _ _).alloc (Nat.le_refl _) _
  have hx : Blk (w.alloc (.cells (entC e0 A0 c0).toArray 28)) w.heap.size (entC e0 A0 c0) 28 := Blk.new' _ _ _ _ _ rfl rfl
  have hl0' := entC_len he0 A0 c0
  have ho0 := entC_one (e := e0) A0 c0
  obtain ⟨CS0, hCS0⟩ : ∃ CS, CS = entC e0 A0 c0 := ⟨_, rfl⟩
  rw [← hCS0] at hl0' ho0 hx hb0 ⊢
  have HL0 := Lib.hid hl0'
  have HO0 := Lib.hid ho0
  have HC0 := Lib.hid hCS0
  clear hl0' ho0 hCS0
  clear k1 k3 k4 k5 k6 he heB hn0 he0 hS hV
  go_enter Try.func5, Try.ntmps5
  go_wp2_with ((with_reducible apply st_load (n := 69) (cs := CS0) (T := 28)); rfl; exact hx; exact Try.underlying28; rfl; exact entSize; (rw [HL0.out]; decide); exact row_all _ _ HL0.out)
  go_at_call 6
  have hb0' := hb0
  rw [HC0.out] at hb0'
  have hcall := HK1.out _ (HN0.out.up hb0')
  rw [← HC0.out] at hcall
  refine hcall.mono ?_
  clear hcall
  rintro r w1 ⟨A1, c1, rfl, hg1⟩
  have hb1 := hg1.1
  have hx := hx.up hb1
  have hBB := hb0.trans (hb1.mono hb0.size)
  have hown : OwnC w1 (w.heap.size + 1) 3 (.slice A1 e.ord.length c1) (nums .i64 e.ord) := by have := hg1.2; simpa using this
  clear hg1 hb1 hb0 hb0'
  have hver := entC_ver HEB.out A1 c1
  have hl1 := entC_len HEB.out A1 c1
  have ho1 := entC_one (e := e) A1 c1
  obtain ⟨CS1, hCS1⟩ : ∃ CS, CS = entC e A1 c1 := ⟨_, rfl⟩
  rw [← hCS1] at hl1 ho1 hver ⊢
  have HL1 := Lib.hid hl1
  have HO1 := Lib.hid ho1
  have HC1 := Lib.hid hCS1
  clear hl1 ho1 hCS1
  have HV := Lib.hid hver
  clear hver
  go_wp2_with ((with_reducible apply st_storeW (off := 0) (vs := CS1) (cs := CS0) (T := 28)); rfl; rfl; exact hx; (rw [HL1.out]; exact entSize); (rw [HL1.out, HL0.out]; decide); exact HO1.out; intro w2 hd2 hw2; rw [laid_all _ _ (by rw [HL1.out, HL0.out])] at hd2; have hown := OwnC.farWrote hown hw2 (by omega); have hBB := Wrote.below hBB hw2 (Nat.le_refl _))
  clear hw2 hx
  have hE := hd2
  have nE : Nts w2 A1 c1 e.ord := by obtain ⟨A', c', hv, h1, h2, h3, _⟩ := OwnC.from hown; rw [nums_length] at hv h1; injection hv with v1 _ v3; subst v1; subst v3; exact ⟨h3, h1, h2⟩
  clear hown hd2
  have hz := hE.lt
  refine wp_region_C (Same [w.heap.size] w2) [2, 5, 9, 11, 15] (by kernel_rfl) (by kernel_rfl) (by intro c a w h; first | (obtain ⟨_, h, _⟩ := h; cases h; done) | (obtain ⟨_, _, h, _⟩ := h; cases h; done) | (obtain ⟨_, _, _, h, _⟩ := h; cases h; done) | (obtain ⟨_, _, _, _, h, _⟩ := h; cases h; done) | (rcases h with ⟨_, ⟨_, _, _, _, h, _⟩ | ⟨_, _, _, _, h, _⟩⟩ <;> cases h; done)) (by intro a w h; first | (obtain ⟨h, _⟩ := h; cases h; done) | (obtain ⟨_, h, _⟩ := h; cases h; done) | (obtain ⟨_, _, h, _⟩ := h; cases h; done) | (obtain ⟨_, _, _, h, _⟩ := h; cases h; done) | (rcases h with ⟨_, _, _, _, h, _⟩ | ⟨_, _, _, _, h, _⟩ <;> cases h; done)) (Same.refl _ _) ?_
  repeat (refine wd_w (v := ?_) rfl rfl rfl rfl rfl rfl (fun w' hw' K hK => ?_) ?_; rotate_left; (have eE := hw'.blk hE (by simp); go_wp2_with (((with_reducible apply st_load (n := 3) (cs := CS1) (T := 28)); rfl; exact eE; exact Try.underlying26; rfl; exact verSize; (rw [HL1.out]; decide); exact HV.out)); exact rfl); simp only [Act.put, List.setIfInBounds_toArray, List.set_cons_zero, List.set_cons_succ])
  refine wd_l rfl rfl (by intro a w h; first | (obtain ⟨h, _⟩ := h; cases h; done) | (obtain ⟨_, h, _⟩ := h; cases h; done) | (obtain ⟨_, _, h, _⟩ := h; cases h; done) | (obtain ⟨_, _, _, h, _⟩ := h; cases h; done) | (rcases h with ⟨_, _, _, _, h, _⟩ | ⟨_, _, _, _, h, _⟩ <;> cases h; done)) ?_
  go_wp2_with fail
  go_at_call 18
  refine (HK3.out _ A1 c1 (nE.up (Below.refl _ _).drew)).mono ?_
  rintro r w3 ⟨rfl, hb3⟩
  have hB3 : Below w2.heap.size w2 w3 := (Below.refl _ _).drew.trans (hb3.mono (Nat.le_refl _))
  go_wp2_with fail
  refine ⟨.inr (fun gg hg => hB3.block gg (by simp at hg; omega)), ?_⟩
  repeat (refine wd_w (v := ?_) rfl rfl rfl rfl rfl rfl (fun w' hw' K hK => ?_) ?_; rotate_left; (have eE := hw'.blk hE (by simp); go_wp2_with (((with_reducible apply st_load (n := 3) (cs := CS1) (T := 28)); rfl; exact eE; exact Try.underlying26; rfl; exact verSize; (rw [HL1.out]; decide); exact HV.out)); exact rfl); simp only [Act.put, List.setIfInBounds_toArray, List.set_cons_zero, List.set_cons_succ])
  refine wd_l rfl rfl (by intro a w h; first | (obtain ⟨h, _⟩ := h; cases h; done) | (obtain ⟨_, h, _⟩ := h; cases h; done) | (obtain ⟨_, _, h, _⟩ := h; cases h; done) | (obtain ⟨_, _, _, h, _⟩ := h; cases h; done) | (rcases h with ⟨_, _, _, _, h, _⟩ | ⟨_, _, _, _, h, _⟩ <;> cases h; done)) ?_
  go_wp2_with fail
  go_at_call 19
  refine (HK4.out _ A1 c1 (nE.up hB3)).mono ?_
  rintro r w4 ⟨rfl, hb4⟩
  have hB4 : Below w2.heap.size w2 w4 := hB3.trans (hb4.mono hB3.size)
  go_wp2_with fail
  refine ⟨.inr (fun gg hg => hB4.block gg (by simp at hg; omega)), ?_⟩
  repeat (refine wd_q (v := ?_) rfl rfl rfl rfl rfl rfl (fun w' hw' K hK => ?_) ?_; rotate_left; (skip; go_wp2; exact rfl); simp only [Act.put, List.setIfInBounds_toArray, List.set_cons_zero, List.set_cons_succ])
  repeat (refine wd_wg (v := ?_) rfl rfl rfl rfl rfl rfl (fun w' hw' K hK => ?_) ?_; rotate_left; (skip; go_wp2_with (fail); exact rfl); simp only [Act.put, List.setIfInBounds_toArray, List.set_cons_zero, List.set_cons_succ])
  refine wd_lg rfl rfl (by intro a w h; first | (obtain ⟨h, _⟩ := h; cases h; done) | (obtain ⟨_, h, _⟩ := h; cases h; done) | (obtain ⟨_, _, h, _⟩ := h; cases h; done) | (obtain ⟨_, _, _, h, _⟩ := h; cases h; done) | (rcases h with ⟨_, _, _, _, h, _⟩ | ⟨_, _, _, _, h, _⟩ <;> cases h; done)) ?_
  go_wp2_with fail
  go_at_call 20
  refine (HK5.out _).mono ?_
  rintro r w5 ⟨rfl, hb5⟩
  have hB5 : Below w2.heap.size w2 w5 := hB4.trans (hb5.mono hB4.size)
  go_wp2_with fail
  refine ⟨.inr (fun gg hg => hB5.block gg (by simp at hg; omega)), ?_⟩
  repeat (refine wd_wg (v := ?_) rfl rfl rfl rfl rfl rfl (fun w' hw' K hK => ?_) ?_; rotate_left; (skip; go_wp2_with (fail); exact rfl); simp only [Act.put, List.setIfInBounds_toArray, List.set_cons_zero, List.set_cons_succ])
  refine wd_lg rfl rfl (by intro a w h; first | (obtain ⟨h, _⟩ := h; cases h; done) | (obtain ⟨_, h, _⟩ := h; cases h; done) | (obtain ⟨_, _, h, _⟩ := h; cases h; done) | (obtain ⟨_, _, _, h, _⟩ := h; cases h; done) | (rcases h with ⟨_, _, _, _, h, _⟩ | ⟨_, _, _, _, h, _⟩ <;> cases h; done)) ?_
  go_wp2_with fail
  go_at_call 21
  refine (HK6.out _).mono ?_
  rintro r w6 ⟨rfl, hb6⟩
  have hB6 : Below w2.heap.size w2 w6 := hB5.trans (hb6.mono hB5.size)
  go_wp2_with fail
  refine ⟨.inr (fun gg hg => hB6.block gg (by simp at hg; omega)), ?_⟩
  repeat (refine wd_wg (v := ?_) rfl rfl rfl rfl rfl rfl (fun w' hw' K hK => ?_) ?_; rotate_left; (skip; go_wp2_with (fail); exact rfl); simp only [Act.put, List.setIfInBounds_toArray, List.set_cons_zero, List.set_cons_succ])
  refine wd_pick (b := true) (v := .bool true) rfl rfl rfl rfl rfl ?_
  simp only [Act.put, List.setIfInBounds_toArray, List.set_cons_zero, List.set_cons_succ]
  repeat (refine wd_q (v := ?_) rfl rfl rfl rfl rfl rfl (fun w' hw' K hK => ?_) ?_; rotate_left; (skip; go_wp2; exact rfl); simp only [Act.put, List.setIfInBounds_toArray, List.set_cons_zero, List.set_cons_succ])
  refine wd_lg rfl rfl (by intro a w h; first | (obtain ⟨h, _⟩ := h; cases h; done) | (obtain ⟨_, h, _⟩ := h; cases h; done) | (obtain ⟨_, _, h, _⟩ := h; cases h; done) | (obtain ⟨_, _, _, h, _⟩ := h; cases h; done) | (rcases h with ⟨_, _, _, _, h, _⟩ | ⟨_, _, _, _, h, _⟩ <;> cases h; done)) ?_
  go_wp2_with fail
  go_at_call 17
  refine (lives20_any _).mono ?_
  rintro r w7 ⟨rfl, hb7⟩
  have hB7 : Below w2.heap.size w2 w7 := hB6.trans (hb7.mono hB6.size)
  go_wp2_with fail
  refine ⟨.inr (fun gg hg => hB7.block gg (by simp at hg; omega)), ?_⟩
  refine wd_pick (b := true) (v := .bool true) rfl rfl rfl rfl rfl ?_
  simp only [Act.put, List.setIfInBounds_toArray, List.set_cons_zero, List.set_cons_succ]
  repeat (refine wd_q (v := ?_) rfl rfl rfl rfl rfl rfl (fun w' hw' K hK => ?_) ?_; rotate_left; (skip; go_wp2; exact rfl); simp only [Act.put, List.setIfInBounds_toArray, List.set_cons_zero, List.set_cons_succ])
  refine wd_nil ?_
  go_wp2_with fail
  go_ret
  exact ⟨rfl, hBB.trans (hB7.mono hBB.size)⟩

end Go.Proofs.Ytepicdcmcagipaa
