/- What inquestref07.Is answers (for a seat without clash). No condition. -/
import Derived.Test.YtancldhincaphaaDoorGe
import Derived.Test.YtancldhincaphaaDoorGg
import Derived.Test.YtancldhincaphaaDoorGi
namespace Go.Proofs.YtancldhincaphaaDoor
open Go.RowKit
set_option maxRecDepth 100000

def IsF (A B : List Int) (w : Int) : Prop := A ≠ B ∧ cutF (sumF A) w = cutF (sumF B) w
instance (A B : List Int) (w : Int) : Decidable (IsF A B w) := by unfold IsF; infer_instance
/-- A clash in memory: two texts. -/
def clC (a b : List Int) (A B : Option Addr) (c d : Nat) : List Value := [.slice A a.length c, .slice B b.length d]
set_option maxRecDepth 100000 in
set_option maxHeartbeats 4000000 in
theorem refis_any (w : World) (a b : List Int) (A B : Option Addr) (c d : Nat) (ha : Byt w A c a) (hb : Byt w B d b) (la : a.length ≤ 1000000) (lb : b.length ≤ 1000000) (z : Int) :
    Calls Tryd.prog 26 #[.agg (clC a b A B c d).toArray, .int .i64 z] w fun e w' => e = .returned (.bool (decide (IsF a b z))) ∧ Below w.heap.size w w' := by
  have HA := Lib.hid ha
  have HB := Lib.hid hb
  have hx0 : Blk (w.alloc (.cells (clC a b A B c d).toArray 57)) w.heap.size (clC a b A B c d) 57 := Blk.new' _ _ _ _ _ rfl rfl
  have hB0 : Below w.heap.size w (w.alloc (.cells (clC a b A B c d).toArray 57)) := (Below.refl _ _).alloc (Nat.le_refl _) _
  obtain ⟨X, hX⟩ : ∃ X, X = cutF (sumF a) z := ⟨_, rfl⟩
  obtain ⟨Y, hY⟩ : ∃ Y, Y = cutF (sumF b) z := ⟨_, rfl⟩
  have hXl : X.length = 32 := by rw [hX]; exact cutF_sum _ _
  have hYl : Y.length = 32 := by rw [hY]; exact cutF_sum _ _
  have k1 := fun W h1 hn => refsum_any W a A c h1 hn (by omega) ha.u
  have k2 := fun W h1 hn => refsum_any W b B d h1 hn (by omega) hb.u
  have k3 := fun W => refcutd_any W (sumF a) (sumF_len a) (sumF_range a) z
  have k4 := fun W => refcutd_any W (sumF b) (sumF_len b) (sumF_range b) z
  rw [← hX] at k3
  rw [← hY] at k4
  have hfin : decide (IsF a b z) = (!decide (a = b) && decide (X = Y)) := by
    rw [hX, hY]; unfold IsF
    by_cases h : a = b <;> simp [h]
  rw [hfin]
  have K1 := Lib.hid k1
  have K2 := Lib.hid k2
  have K3 := Lib.hid k3
  have K4 := Lib.hid k4
  have HXL := Lib.hid hXl
  have HYL := Lib.hid hYl
  clear ha hb k1 k2 k3 k4 hX hY hXl hYl hfin
  simp only [clC] at hx0 hB0 ⊢
  by_cases hab : a = b
  · have hd : decide (a = b) = true := decide_eq_true hab
    rw [hd, Bool.not_true, Bool.false_and]
    have HD := Lib.hid hd
    clear hd hab
    go_enter Tryd.func26, Tryd.ntmps26
    go_wp2_with fail
    refine named_world ?_
    intro w1 hw1
    rw [← hw1] at hx0 hB0
    clear hw1
    have c0 := hx0.cell 0
    have c1 := hx0.cell 1
    simp only [List.getElem?_cons_zero, List.getElem?_cons_succ] at c0 c1
    have hz1 := hx0.lt
    have hz0 := hB0.size
    refine wp_region_C (Same [w.heap.size] w1) [4, 9, 11, 14, 16] (by kernel_rfl) (by kernel_rfl) (by intro c a w h; first | (obtain ⟨_, h, _⟩ := h; cases h; done) | (obtain ⟨_, _, h, _⟩ := h; cases h; done) | (obtain ⟨_, _, _, h, _⟩ := h; cases h; done) | (obtain ⟨_, _, _, _, h, _⟩ := h; cases h; done) | (rcases h with ⟨_, ⟨_, _, _, _, h, _⟩ | ⟨_, _, _, _, h, _⟩⟩ <;> cases h; done)) (by intro a w h; first | (obtain ⟨h, _⟩ := h; cases h; done) | (obtain ⟨_, h, _⟩ := h; cases h; done) | (obtain ⟨_, _, h, _⟩ := h; cases h; done) | (obtain ⟨_, _, _, h, _⟩ := h; cases h; done) | (rcases h with ⟨_, _, _, _, h, _⟩ | ⟨_, _, _, _, h, _⟩ <;> cases h; done)) (Same.refl _ _) ?_
    repeat (refine wd_q (v := ?_) rfl rfl rfl rfl rfl rfl (fun w' hw' K hK => ?_) ?_; rotate_left; (have e1 := (hw'.cell w.heap.size (by simp) _).trans c0; have e2 := (hw'.cell w.heap.size (by simp) _).trans c1; go_wp2; exact rfl); simp only [Act.put, List.setIfInBounds_toArray, List.set_cons_zero, List.set_cons_succ])
    refine wd_l rfl rfl (by intro a w h; first | (obtain ⟨h, _⟩ := h; cases h; done) | (obtain ⟨_, h, _⟩ := h; cases h; done) | (obtain ⟨_, _, h, _⟩ := h; cases h; done) | (obtain ⟨_, _, _, h, _⟩ := h; cases h; done) | (rcases h with ⟨_, _, _, _, h, _⟩ | ⟨_, _, _, _, h, _⟩ <;> cases h; done)) ?_
    go_wp2_with fail
    go_at_call 12
    have hcall := refsame_any w1.drew A B c d a b (HA.out.up (hB0.trans (Below.refl _ _).drew)).rd (HB.out.up (hB0.trans (Below.refl _ _).drew)).rd (by omega)
    rw [HD.out] at hcall
    refine hcall.mono ?_
    clear hcall
    rintro e w9 ⟨rfl, hb9⟩
    have hB9 : Below w1.heap.size w1 w9 := (Below.refl _ _).drew.trans (hb9.mono (Nat.le_refl _))
    have hs9 : Same [w.heap.size] w1 w9 := fun gg hg => hB9.block gg (by simp at hg; omega)
    go_wp2_with fail
    refine ⟨.inr hs9, ?_⟩
    repeat (refine wd_q (v := ?_) rfl rfl rfl rfl rfl rfl (fun w' hw' K hK => ?_) ?_; rotate_left; (skip; go_wp2; exact rfl); simp only [Act.put, List.setIfInBounds_toArray, List.set_cons_zero, List.set_cons_succ])
    refine wd_pass rfl rfl ?_
    simp only [Act.put, List.setIfInBounds_toArray, List.set_cons_zero, List.set_cons_succ]
    refine wd_pass rfl rfl ?_
    simp only [Act.put, List.setIfInBounds_toArray, List.set_cons_zero, List.set_cons_succ]
    refine wd_loud_pass rfl rfl ⟨hs9, ?_⟩
    simp only [Act.put, List.setIfInBounds_toArray, List.set_cons_zero, List.set_cons_succ]
    refine wd_pass rfl rfl ?_
    simp only [Act.put, List.setIfInBounds_toArray, List.set_cons_zero, List.set_cons_succ]
    refine wd_loud_pass rfl rfl ⟨hs9, ?_⟩
    simp only [Act.put, List.setIfInBounds_toArray, List.set_cons_zero, List.set_cons_succ]
    refine wd_pass rfl rfl ?_
    simp only [Act.put, List.setIfInBounds_toArray, List.set_cons_zero, List.set_cons_succ]
    refine wd_pass rfl rfl ?_
    simp only [Act.put, List.setIfInBounds_toArray, List.set_cons_zero, List.set_cons_succ]
    refine wd_loud_pass rfl rfl ⟨hs9, ?_⟩
    simp only [Act.put, List.setIfInBounds_toArray, List.set_cons_zero, List.set_cons_succ]
    refine wd_pass rfl rfl ?_
    simp only [Act.put, List.setIfInBounds_toArray, List.set_cons_zero, List.set_cons_succ]
    refine wd_loud_pass rfl rfl ⟨hs9, ?_⟩
    simp only [Act.put, List.setIfInBounds_toArray, List.set_cons_zero, List.set_cons_succ]
    refine wd_pass rfl rfl ?_
    simp only [Act.put, List.setIfInBounds_toArray, List.set_cons_zero, List.set_cons_succ]
    refine wd_pick (b := false) (v := .bool false) rfl rfl rfl rfl rfl ?_
    simp only [Act.put, List.setIfInBounds_toArray, List.set_cons_zero, List.set_cons_succ]
    repeat (refine wd_q (v := ?_) rfl rfl rfl rfl rfl rfl (fun w' hw' K hK => ?_) ?_; rotate_left; (skip; go_wp2; exact rfl); simp only [Act.put, List.setIfInBounds_toArray, List.set_cons_zero, List.set_cons_succ])
    refine wd_nil ?_
    go_wp2_with fail
    --MARK1
    go_ret
    exact ⟨rfl, hB0.trans (hB9.mono hB0.size)⟩
  · have hd : decide (a = b) = false := decide_eq_false hab
    rw [hd, Bool.not_false, Bool.true_and]
    have HD := Lib.hid hd
    clear hd hab
    go_enter Tryd.func26, Tryd.ntmps26
    go_wp2_with fail
    refine named_world ?_
    intro w1 hw1
    rw [← hw1] at hx0 hB0
    clear hw1
    have c0 := hx0.cell 0
    have c1 := hx0.cell 1
    simp only [List.getElem?_cons_zero, List.getElem?_cons_succ] at c0 c1
    have hz1 := hx0.lt
    have hz0 := hB0.size
    refine wp_region_C (Same [w.heap.size] w1) [4, 9, 11, 14, 16] (by kernel_rfl) (by kernel_rfl) (by intro c a w h; first | (obtain ⟨_, h, _⟩ := h; cases h; done) | (obtain ⟨_, _, h, _⟩ := h; cases h; done) | (obtain ⟨_, _, _, h, _⟩ := h; cases h; done) | (obtain ⟨_, _, _, _, h, _⟩ := h; cases h; done) | (rcases h with ⟨_, ⟨_, _, _, _, h, _⟩ | ⟨_, _, _, _, h, _⟩⟩ <;> cases h; done)) (by intro a w h; first | (obtain ⟨h, _⟩ := h; cases h; done) | (obtain ⟨_, h, _⟩ := h; cases h; done) | (obtain ⟨_, _, h, _⟩ := h; cases h; done) | (obtain ⟨_, _, _, h, _⟩ := h; cases h; done) | (rcases h with ⟨_, _, _, _, h, _⟩ | ⟨_, _, _, _, h, _⟩ <;> cases h; done)) (Same.refl _ _) ?_
    repeat (refine wd_q (v := ?_) rfl rfl rfl rfl rfl rfl (fun w' hw' K hK => ?_) ?_; rotate_left; (have e1 := (hw'.cell w.heap.size (by simp) _).trans c0; have e2 := (hw'.cell w.heap.size (by simp) _).trans c1; go_wp2; exact rfl); simp only [Act.put, List.setIfInBounds_toArray, List.set_cons_zero, List.set_cons_succ])
    refine wd_l rfl rfl (by intro a w h; first | (obtain ⟨h, _⟩ := h; cases h; done) | (obtain ⟨_, h, _⟩ := h; cases h; done) | (obtain ⟨_, _, h, _⟩ := h; cases h; done) | (obtain ⟨_, _, _, h, _⟩ := h; cases h; done) | (rcases h with ⟨_, _, _, _, h, _⟩ | ⟨_, _, _, _, h, _⟩ <;> cases h; done)) ?_
    go_wp2_with fail
    go_at_call 12
    have hcall := refsame_any w1.drew A B c d a b (HA.out.up (hB0.trans (Below.refl _ _).drew)).rd (HB.out.up (hB0.trans (Below.refl _ _).drew)).rd (by omega)
    rw [HD.out] at hcall
    refine hcall.mono ?_
    clear hcall
    rintro e w9 ⟨rfl, hb9⟩
    have hB9 : Below w1.heap.size w1 w9 := (Below.refl _ _).drew.trans (hb9.mono (Nat.le_refl _))
    have hs9 : Same [w.heap.size] w1 w9 := fun gg hg => hB9.block gg (by simp at hg; omega)
    go_wp2_with fail
    refine ⟨.inr hs9, ?_⟩
    repeat (refine wd_q (v := ?_) rfl rfl rfl rfl rfl rfl (fun w' hw' K hK => ?_) ?_; rotate_left; (skip; go_wp2; exact rfl); simp only [Act.put, List.setIfInBounds_toArray, List.set_cons_zero, List.set_cons_succ])
    repeat (refine wd_wg (v := ?_) rfl rfl rfl rfl rfl rfl (fun w' hw' K hK => ?_) ?_; rotate_left; (have e1 := (hw'.cell w.heap.size (by simp) _).trans c0; go_wp2_with (fail); exact rfl); simp only [Act.put, List.setIfInBounds_toArray, List.set_cons_zero, List.set_cons_succ])
    refine wd_lg rfl rfl (by intro a w h; first | (obtain ⟨h, _⟩ := h; cases h; done) | (obtain ⟨_, h, _⟩ := h; cases h; done) | (obtain ⟨_, _, h, _⟩ := h; cases h; done) | (obtain ⟨_, _, _, h, _⟩ := h; cases h; done) | (rcases h with ⟨_, _, _, _, h, _⟩ | ⟨_, _, _, _, h, _⟩ <;> cases h; done)) ?_
    go_wp2_with fail
    go_at_call 27
    refine (K1.out _ (HA.out.up (hB0.trans (hB9.mono hB0.size))).rd HA.out.nn).mono ?_
    rintro e w2 ⟨rfl, hb2⟩
    have hB2 : Below w1.heap.size w1 w2 := hB9.trans (hb2.mono hB9.size)
    go_wp2_with fail
    refine ⟨.inr (fun gg hg => hB2.block gg (by simp at hg; omega)), ?_⟩
    repeat (refine wd_wg (v := ?_) rfl rfl rfl rfl rfl rfl (fun w' hw' K hK => ?_) ?_; rotate_left; (skip; go_wp2_with (fail); exact rfl); simp only [Act.put, List.setIfInBounds_toArray, List.set_cons_zero, List.set_cons_succ])
    refine wd_lg rfl rfl (by intro a w h; first | (obtain ⟨h, _⟩ := h; cases h; done) | (obtain ⟨_, h, _⟩ := h; cases h; done) | (obtain ⟨_, _, h, _⟩ := h; cases h; done) | (obtain ⟨_, _, _, h, _⟩ := h; cases h; done) | (rcases h with ⟨_, _, _, _, h, _⟩ | ⟨_, _, _, _, h, _⟩ <;> cases h; done)) ?_
    go_wp2_with fail
    go_at_call 53
    refine (K3.out _).mono ?_
    rintro e w3 ⟨rfl, hb3⟩
    have hB3 : Below w1.heap.size w1 w3 := hB2.trans (hb3.mono hB2.size)
    go_wp2_with fail
    refine ⟨.inr (fun gg hg => hB3.block gg (by simp at hg; omega)), ?_⟩
    repeat (refine wd_wg (v := ?_) rfl rfl rfl rfl rfl rfl (fun w' hw' K hK => ?_) ?_; rotate_left; (have e1 := (hw'.cell w.heap.size (by simp) _).trans c1; go_wp2_with (fail); exact rfl); simp only [Act.put, List.setIfInBounds_toArray, List.set_cons_zero, List.set_cons_succ])
    refine wd_lg rfl rfl (by intro a w h; first | (obtain ⟨h, _⟩ := h; cases h; done) | (obtain ⟨_, h, _⟩ := h; cases h; done) | (obtain ⟨_, _, h, _⟩ := h; cases h; done) | (obtain ⟨_, _, _, h, _⟩ := h; cases h; done) | (rcases h with ⟨_, _, _, _, h, _⟩ | ⟨_, _, _, _, h, _⟩ <;> cases h; done)) ?_
    go_wp2_with fail
    go_at_call 27
    refine (K2.out _ (HB.out.up (hB0.trans (hB3.mono hB0.size))).rd HB.out.nn).mono ?_
    rintro e w4 ⟨rfl, hb4⟩
    have hB4 : Below w1.heap.size w1 w4 := hB3.trans (hb4.mono hB3.size)
    go_wp2_with fail
    refine ⟨.inr (fun gg hg => hB4.block gg (by simp at hg; omega)), ?_⟩
    repeat (refine wd_wg (v := ?_) rfl rfl rfl rfl rfl rfl (fun w' hw' K hK => ?_) ?_; rotate_left; (skip; go_wp2_with (fail); exact rfl); simp only [Act.put, List.setIfInBounds_toArray, List.set_cons_zero, List.set_cons_succ])
    refine wd_lg rfl rfl (by intro a w h; first | (obtain ⟨h, _⟩ := h; cases h; done) | (obtain ⟨_, h, _⟩ := h; cases h; done) | (obtain ⟨_, _, h, _⟩ := h; cases h; done) | (obtain ⟨_, _, _, h, _⟩ := h; cases h; done) | (rcases h with ⟨_, _, _, _, h, _⟩ | ⟨_, _, _, _, h, _⟩ <;> cases h; done)) ?_
    go_wp2_with fail
    go_at_call 53
    refine (K4.out _).mono ?_
    rintro e w5 ⟨rfl, hb5⟩
    have hB5 : Below w1.heap.size w1 w5 := hB4.trans (hb5.mono hB4.size)
    go_wp2_with fail
    refine ⟨.inr (fun gg hg => hB5.block gg (by simp at hg; omega)), ?_⟩
    --MARK2
    refine wd_wg (v := .bool (decide (X = Y))) rfl rfl rfl rfl rfl rfl (fun w' hw' K hK => ?_) ?_
    · have heq : Sem.run Tryd.prog (Op.equalIn 10000 24 (.agg (nums .u8 X).toArray) (.agg (nums .u8 Y).toArray)) w' = .ok (decide (X = Y)) w' := run_equal_nums (P := Tryd.prog) (t := 24) Tryd.underlying24 Tryd.underlying5 (by kernel_rfl) (by kernel_rfl) X Y HXL.out HYL.out w'
      go_wp2_with fail
      --MARK5
      exact rfl
    simp only [Act.put, List.setIfInBounds_toArray, List.set_cons_zero, List.set_cons_succ]
    --MARK3
    refine wd_pick (b := true) (v := .bool (decide (X = Y))) rfl rfl rfl rfl rfl ?_
    simp only [Act.put, List.setIfInBounds_toArray, List.set_cons_zero, List.set_cons_succ]
    repeat (refine wd_q (v := ?_) rfl rfl rfl rfl rfl rfl (fun w' hw' K hK => ?_) ?_; rotate_left; (skip; go_wp2; exact rfl); simp only [Act.put, List.setIfInBounds_toArray, List.set_cons_zero, List.set_cons_succ])
    refine wd_nil ?_
    go_wp2_with fail
    --MARK4
    go_ret
    exact ⟨rfl, hB0.trans (hB5.mono hB0.size)⟩

end Go.Proofs.YtancldhincaphaaDoor
