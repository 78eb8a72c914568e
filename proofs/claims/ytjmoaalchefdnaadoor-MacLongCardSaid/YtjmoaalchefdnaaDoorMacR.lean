/- What inquestref03.Sum and Key answer, and inquestlaw03.lives. Condition: the table of layer 2 reads as its text lays it; lengths below 2^38. -/
import Derived.Test.YtjmoaalchefdnaaDoorMacK
namespace Go.Proofs.YtjmoaalchefdnaaDoor
open Go.RowKit

set_option maxHeartbeats 4000000 in
theorem refmac_any (w : World) (key : List Int) (A : Option Addr) (c : Nat) (hr : Rd w A (nums .u8 key)) (hA : A = none → c = 0) (hl : key.length ≤ 274877906944) (hu : U8 key)
    (text : List Int) (B : Option Addr) (d : Nat) (hr2 : Rd w B (nums .u8 text)) (hB : B = none → d = 0) (hl2 : text.length ≤ 274877906944) (hu2 : U8 text) :
    Calls Tryd.prog 12 #[.slice A key.length c, .slice B text.length d] w fun e w' => e = .returned (.agg (nums .u8 (macF key text)).toArray) ∧ Below w.heap.size w w' := by
  have HR := Lib.hid hr
  have HA := Lib.hid hA
  have HU := Lib.hid hu
  have HR2 := Lib.hid hr2
  have HB := Lib.hid hB
  have HU2 := Lib.hid hu2
  have hkl := k64_len key
  have hin : inF key text = sumF (xorL (k64 key) 54 ++ text) := rfl
  have hmac : macF key text = sumF (xorL (k64 key) 92 ++ inF key text) := rfl
  have hinl := inF_len key text
  have hml := macF_len key text
  obtain ⟨ks, hks⟩ : ∃ ks, ks = k64 key := ⟨_, rfl⟩
  obtain ⟨s1, hs1⟩ : ∃ s, s = inF key text := ⟨_, rfl⟩
  obtain ⟨m, hm⟩ : ∃ m, m = macF key text := ⟨_, rfl⟩
  have hpad := refpadded_any (key := key) (A := A) (c := c) (hA := hA) (hl := hl) (hu := hu)
  rw [← hks] at hkl hin hmac hpad
  rw [← hs1] at hin hmac hinl
  rw [← hm] at hmac hml ⊢
  have hxl : (xorL ks 54).length = 64 := by rw [xorL_len, hkl]
  have hxl2 : (xorL ks 92).length = 64 := by rw [xorL_len, hkl]
  have hsu : U8 s1 := by rw [hs1]; exact sumF_range _
  have HPAD := Lib.hid hpad
  have HKL := Lib.hid hkl
  have HIN := Lib.hid hin
  have HMAC := Lib.hid hmac
  have HINL := Lib.hid hinl
  have HML := Lib.hid hml
  have HXL := Lib.hid hxl
  have HXL2 := Lib.hid hxl2
  have HSU := Lib.hid hsu
  obtain ⟨y1, hy1⟩ : ∃ y, xorL ks 54 ++ text = y := ⟨_, rfl⟩
  have hy1l : y1.length ≤ 274877907100 := by rw [← hy1, List.length_append, hxl]; omega
  have hy1u : U8 y1 := by rw [← hy1]; exact (xorL_range _ _).append hu2
  rw [hy1] at HIN
  have HY1 := Lib.hid hy1
  have HY1U := Lib.hid hy1u
  obtain ⟨y2, hy2⟩ : ∃ y, xorL ks 92 ++ s1 = y := ⟨_, rfl⟩
  have hy2l : y2.length ≤ 200 := by rw [← hy2, List.length_append, hxl2, hinl]; omega
  have hy2u : U8 y2 := by rw [← hy2]; exact (xorL_range _ _).append hsu
  rw [hy2] at HMAC
  have HY2 := Lib.hid hy2
  have HY2U := Lib.hid hy2u
  clear hr hA hu hr2 hB hu2 hkl hin hmac hinl hml hks hs1 hm hpad hxl hxl2 hsu hy1 hy1u hy2 hy2u
  have hB0 : Below w.heap.size w (w.alloc (.cells (nums .u8 (List.replicate 32 0)).toArray 26)) := (Below.refl _ _).alloc (Nat.le_refl _) _
  have hr0 : Blk (w.alloc (.cells (nums .u8 (List.replicate 32 0)).toArray 26)) w.heap.size (nums .u8 (List.replicate 32 0)) 26 := Blk.new' _ _ _ _ _ rfl rfl
  have hz0 : (w.alloc (.cells (nums .u8 (List.replicate 32 0)).toArray 26)).heap.size = w.heap.size + 1 := World.size_alloc _ _
  go_enter Tryd.func12, Tryd.ntmps12
  go_wp2_with (first
    | (go_at_call 25; refine (HPAD.out _ (HR.out.up hB0)).mono ?_; rintro e w1 ⟨v1, rfl, hb1, ho1⟩; obtain ⟨A1, c1, rfl, h1, hA1, hR1, hx1⟩ := ho1.from; have hB1 := hB0.trans (hb1.mono (by rw [World.size_alloc]; omega)); have hr1 := hr0.up hb1; have hz1 := hB1.size)
    | (go_at_call 27; refine (refwith_any w1 ks A1 c1 hR1 (by rw [HKL.out]; decide) 54).mono ?_; rintro e w2 ⟨v2, rfl, hb2, ho2⟩; have hG2 : Grows w1 (xorL ks 54) v2 w2 := ⟨hb2, ho2⟩; have hB2 := hB1.trans (hb2.mono hB1.size); clear hb2 ho2)
    | (apply st_grow (w0 := w1) (xs := xorL ks 54) (ys := text); rfl; rfl; exact hG2; exact HB.out; exact HR2.out.up hB2; (rw [HXL.out]; omega); intro v3 w3 hG3; rw [HY1.out] at hG3; obtain ⟨A3, c3, rfl, h3, hA3, hR3, hx3⟩ := hG3.2.from; have hB3 := hB1.trans (hG3.1.mono hB1.size); have hr3 := hr1.up hG3.1)
    | (go_at_call 26; refine (refsum_any w3 y1 A3 c3 hR3 hA3 (by omega) HY1U.out).mono ?_; rintro e w4 ⟨rfl, hb4⟩; rw [← HIN.out]; have hB4 := hB3.trans (hb4.mono hB3.size); have hr4 := hr3.up hb4; have hR1c := (hR1.up hG3.1).up hb4)
    | (apply st_storeW (off := 0) (vs := nums .u8 s1) (cs := nums .u8 (List.replicate 32 0)) (T := 26); rfl; rfl; exact Blk.new' w4 _ _ _ _ rfl rfl; (rw [nums_length, HINL.out]; kernel_rfl); (rw [nums_length, HINL.out]; decide); exact nums_one _ _; intro w5 hb5 hw5; rw [laid_all _ _ (by rw [nums_length, HINL.out]; rfl)] at hb5; have hB5 := Wrote.below (hB4.alloc hB4.size _) hw5 hB4.size; have hr5 := hw5.blk (hr4.alloc _) (by have := hr4.lt; omega); have hB45 : Below w4.heap.size w4 w5 := Wrote.below ((Below.refl _ _).alloc (Nat.le_refl _) _) hw5 (Nat.le_refl _); have hR1d := hR1c.up hB45))
  have hr5lt := hr5.lt
  have hb5lt := hb5.lt
  clear hw5 hB45 hR1c hr4 hB4 hb4 hr3 hB3 hG3 hR3 hA3 hx3 h3 hr1 hB1 hB2 hG2 hb1 ho1 hx1 hR1 hB0 hr0
  refine wp_region_C (Same [] w5) [1, 3, 4, 5] (by kernel_rfl) (by kernel_rfl) (by intro c a w h; first | (obtain ⟨_, h, _⟩ := h; cases h; done) | (obtain ⟨_, _, h, _⟩ := h; cases h; done)) (by intro a w h; first | (obtain ⟨h, _⟩ := h; cases h; done) | (obtain ⟨_, h, _⟩ := h; cases h; done)) (Same.refl _ _) ?_
  repeat (refine wd_q (v := ?_) rfl rfl rfl rfl rfl rfl (fun w' hw' K hK => ?_) ?_; rotate_left; (skip; go_wp2; exact rfl); simp only [Act.put, List.setIfInBounds_toArray, List.set_cons_zero, List.set_cons_succ])
  refine wd_l rfl rfl (by intro a w h; first | (obtain ⟨h, _⟩ := h; cases h; done) | (obtain ⟨_, h, _⟩ := h; cases h; done)) ?_
  go_wp2_with (go_at_call 27; refine (refwith_any w5.drew ks A1 c1 hR1d (by rw [HKL.out]; decide) 92).mono ?_; rintro e w6 ⟨v6, rfl, hb6, ho6⟩)
  have hG6 : Grows w5 (xorL ks 92) v6 w6 := ⟨⟨hb6.os, hb6.tape, hb6.output, hb6.size, hb6.block⟩, ho6⟩
  refine ⟨.inr (fun g hg => by cases hg), ?_⟩
  repeat (refine wd_w (v := ?_) rfl rfl rfl rfl rfl rfl (fun w' hw' K hK => ?_) ?_; rotate_left; (skip; go_wp2_with ((apply st_allArr; exact Tryd.underlying26; kernel_rfl; rfl)); exact rfl); simp only [Act.put, List.setIfInBounds_toArray, List.set_cons_zero, List.set_cons_succ])
  refine wd_l rfl rfl (by intro a w h; first | (obtain ⟨h, _⟩ := h; cases h; done) | (obtain ⟨_, h, _⟩ := h; cases h; done)) ?_
  go_wp2_with (apply st_grow (w0 := w5) (xs := xorL ks 92) (ys := s1); rfl; (rw [HINL.out]; rfl); exact hG6; (intro h; cases h); exact Rd.ofBlk (hb5.up hG6.1); (rw [HXL2.out, HINL.out]; decide); intro v7 w7 hG7; rw [HY2.out] at hG7)
  obtain ⟨A7, c7, rfl, h7, hA7, hR7, hx7⟩ := hG7.2.from
  refine ⟨.inr (fun g hg => by cases hg), ?_⟩
  simp only [Act.put, List.setIfInBounds_toArray, List.set_cons_zero, List.set_cons_succ]
  refine wd_l rfl rfl (by intro a w h; first | (obtain ⟨h, _⟩ := h; cases h; done) | (obtain ⟨_, h, _⟩ := h; cases h; done)) ?_
  go_wp2_with (go_at_call 26; refine (refsum_any w7 y2 A7 c7 hR7 hA7 (by omega) HY2U.out).mono ?_; rintro e w8 ⟨rfl, hb8⟩; rw [← HMAC.out])
  refine ⟨.inr (fun g hg => by cases hg), ?_⟩
  refine wd_last rfl (by kernel_rfl) rfl (by intro a w h; first | (obtain ⟨h, _⟩ := h; cases h; done) | (obtain ⟨_, h, _⟩ := h; cases h; done)) ?_
  have hr8 := (hr5.up hG7.1).up hb8
  have hB8 := (hB5.trans (hG7.1.mono hB5.size)).trans (hb8.mono (by have := hB5.size; have := hG7.1.size; omega))
  go_wp2_with (apply st_storeW (off := 0) (vs := nums .u8 m) (cs := nums .u8 (List.replicate 32 0)) (T := 26); rfl; rfl; exact hr8; (rw [nums_length, HML.out]; kernel_rfl); (rw [nums_length, HML.out]; decide); exact nums_one _ _; intro w9 hr9 hw9; rw [laid_all _ _ (by rw [nums_length, HML.out]; rfl)] at hr9)
  refine bodyPost_ret (ret_row rfl _ _ _ (nums .u8 m) 26 _ rfl hr9 Tryd.underlying26 rfl (by rw [nums_length, HML.out]; kernel_rfl)) rfl ⟨rfl, Wrote.below hB8 hw9 (Nat.le_refl _)⟩
end Go.Proofs.YtjmoaalchefdnaaDoor
