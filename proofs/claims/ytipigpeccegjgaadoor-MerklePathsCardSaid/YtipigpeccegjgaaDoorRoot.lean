/- What merkle.Root answers. Condition: the table of layer 2 reads as its text lays it. -/
import Derived.Test.YtipigpeccegjgaaDoorDig
namespace Go.Proofs.YtipigpeccegjgaaDoor
open Go.RowKit

set_option maxHeartbeats 4000000 in
theorem root_any (n : Nat) : ∀ (w : World) (ds : List (List Int)) (A : Option Addr) (c : Nat), ds.length = n → Dg w A c ds → ds.length ≤ 1000000 → ∀ (z : Int), KV w →
    Calls Tryd.prog 12 #[.slice A ds.length c, .int .i64 z] w fun e w' => e = .returned (.agg (nums .u8 (rootF ds z)).toArray) ∧ Below w.heap.size w w' := by
  induction n using Nat.strongRecOn with
  | ind n ih =>
    intro w ds A c hn hd hl z hk
    subst hn
    have HK := Lib.hid hk
    have hok := rootF_ok ds z hd.u
    have hB0 : Below w.heap.size w (w.alloc (.cells (nums .u8 (List.replicate 32 0)).toArray 25)) := (Below.refl _ _).alloc (Nat.le_refl _) _
    have hr0 : Blk (w.alloc (.cells (nums .u8 (List.replicate 32 0)).toArray 25)) w.heap.size (nums .u8 (List.replicate 32 0)) 25 := Blk.new' _ _ _ _ _ rfl rfl
    by_cases h0 : ds.length = 0
    · have hds : ds = [] := List.eq_nil_of_length_eq_zero h0
      subst hds
      obtain ⟨m, hm⟩ : ∃ m, m = rootF [] z := ⟨_, rfl⟩
      have hlf : cutF (sumF []) z = m := by rw [hm, rootF_nil]
      rw [← hm] at hok ⊢
      have HML := Lib.hid hok.1
      have HLF := Lib.hid hlf
      clear hk hlf hm hok ih
      go_enter Tryd.func12, Tryd.ntmps12
      go_wp2_with fail
      go_at_call 35
      refine (sum_any _ [] none 0 (Rd.nil _ _) (Nat.le_refl _) (fun _ => rfl) (by decide) (HK.out.below hB0 HK.out.lt)).mono ?_
      rintro e w1 ⟨rfl, hb1⟩
      have hB1 := hB0.trans (hb1.mono hB0.size)
      have hr1 := hr0.up hb1
      go_wp2_with fail
      go_at_call 24
      have hcall := cut_any w1 (sumF []) (sumF_len _) z
      rw [HLF.out] at hcall; refine hcall.mono ?_; clear hcall
      rintro e w2 ⟨rfl, hb2⟩
      have hB2 := hB1.trans (hb2.mono hB1.size)
      have hr2 := hr1.up hb2
      go_wp2_with (apply st_storeW (off := 0) (vs := nums .u8 (m)) (cs := nums .u8 (List.replicate 32 0)) (T := 25); rfl; rfl; exact hr2; (rw [nums_length, HML.out]; kernel_rfl); (rw [nums_length, HML.out]; decide); exact nums_one _ _; intro w3 hd3 hw3; rw [laid_all _ _ (by rw [nums_length, HML.out]; rfl)] at hd3)
      refine bodyPost_ret (ret_row rfl _ _ _ (nums .u8 (m)) 25 _ rfl hd3 Tryd.underlying25 rfl (by rw [nums_length, HML.out]; kernel_rfl)) rfl ⟨rfl, Wrote.below hB2 hw3 (Nat.le_refl _)⟩
    · by_cases h1 : ds.length = 1
      · obtain ⟨d, hds⟩ := List.length_eq_one_iff.1 h1
        subst hds
        rw [rootF_one] at hok ⊢
        obtain ⟨g, off, rfl, hg, hcells⟩ := hd.get (by simp)
        have hc0 : ∀ j v, (nums .u8 d)[j]? = some v → w.cell? ⟨g, off + j, none⟩ = some v := fun j v hv => by
          have := hcells 0 (by simp) j v hv
          rwa [Nat.zero_mul, Nat.add_zero] at this
        have hc1 : ∀ j v, (nums .u8 d)[j]? = some v → (w.alloc (.cells (nums .u8 (List.replicate 32 0)).toArray 25)).cell? ⟨g, off + j, none⟩ = some v := fun j v hv => by
          rw [hB0.cell (p := ⟨g, off + j, none⟩) hg]; exact hc0 j v hv
        have HML := Lib.hid hok.1
        clear hk hc0 hcells hok ih
        go_enter Tryd.func12, Tryd.ntmps12
        go_wp2_with (first | (apply st_loadCells (cs := nums .u8 d); rfl; exact hc1; exact Tryd.underlying25; rfl; (rw [nums_length, HML.out]; kernel_rfl)) | (apply st_storeW (off := 0) (vs := nums .u8 (d)) (cs := nums .u8 (List.replicate 32 0)) (T := 25); rfl; rfl; exact hr0; (rw [nums_length, HML.out]; kernel_rfl); (rw [nums_length, HML.out]; decide); exact nums_one _ _; intro w3 hd3 hw3; rw [laid_all _ _ (by rw [nums_length, HML.out]; rfl)] at hd3))
        refine bodyPost_ret (ret_row rfl _ _ _ (nums .u8 (d)) 25 _ rfl hd3 Tryd.underlying25 rfl (by rw [nums_length, HML.out]; kernel_rfl)) rfl ⟨rfl, Wrote.below hB0 hw3 (Nat.le_refl _)⟩
      · have hks := kF_spec ds.length (by omega)
        obtain ⟨k, hkk⟩ : ∃ k, k = kF ds.length := ⟨_, rfl⟩
        rw [← hkk] at hks
        obtain ⟨k1, k2, k3, k4⟩ := hks
        obtain ⟨m, hm⟩ : ∃ m, m = rootF ds z := ⟨_, rfl⟩
        have hm2 : nodeF (rootF (ds.take k) z) (rootF (ds.drop k) z) z = m := by rw [hm, hkk, rootF_big ds z (by omega)]
        rw [← hm] at hok ⊢
        have ht := hd.take k (by omega)
        have hdr := hd.drop k (by omega)
        have htl : (ds.take k).length = k := by rw [List.length_take]; omega
        have hdl : (ds.drop k).length = ds.length - k := by rw [List.length_drop]
        have hc1 := fun (w : World) (h : Dg w A c (ds.take k)) => ih k (by omega) w (ds.take k) A c htl h (by omega) z
        obtain ⟨A2, hA2⟩ : ∃ A2 : Option Addr, A2 = (if c = k then A else A.map (·.add (k * 32))) := ⟨_, rfl⟩
        rw [← hA2] at hdr
        have HA2 := Lib.hid hA2
        clear hA2
        have hc2 := fun (w : World) (h : Dg w A2 (c - k) (ds.drop k)) => ih (ds.length - k) (by omega) w (ds.drop k) A2 (c - k) hdl h (by omega) z
        rw [htl] at hc1
        rw [hdl] at hc2
        obtain ⟨x, hx⟩ : ∃ x, x = rootF (ds.take k) z := ⟨_, rfl⟩
        obtain ⟨y, hy⟩ : ∃ y, y = rootF (ds.drop k) z := ⟨_, rfl⟩
        have hxo := rootF_ok (ds.take k) z (hd.u.take k)
        have hyo := rootF_ok (ds.drop k) z (hd.u.drop k)
        rw [← hx] at hc1 hm2 hxo
        rw [← hy] at hc2 hm2 hyo
        have HC1 := Lib.hid hc1
        have HC2 := Lib.hid hc2
        have HM2 := Lib.hid hm2
        have HXO := Lib.hid hxo
        have HYO := Lib.hid hyo
        have HML := Lib.hid hok.1
        have HT := Lib.hid ht
        have HDR := Lib.hid hdr
        have HSP := Lib.hid k4
        have hdle := hd.le
        have hdnn := hd.nn
        have hspot : ∀ ad, A = some ad → ad.spot = none := fun ad he => by
          obtain ⟨g, off, hA, _⟩ := hd.get (by omega)
          rw [hA] at he; injection he with he; rw [← he]
        have HNN := Lib.hid hdnn
        have HSPOT := Lib.hid hspot
        clear ih hk hkk hm hm2 hc1 hc2 hx hy hxo hyo hok ht hdr htl hdl hd k4 hdnn hspot
        go_enter Tryd.func12, Tryd.ntmps12
        go_wp2_with fail
        go_at_call 16
        refine (split_any _ ds.length (by omega) (by omega)).mono ?_
        rw [HSP.out]
        rintro e w1 ⟨rfl, hw1⟩
        have hB1 : Below w.heap.size w w1 := by rw [← hw1]; exact hB0
        have hr1 : Blk w1 w.heap.size (nums .u8 (List.replicate 32 0)) 25 := by rw [← hw1]; exact hr0
        clear hw1 hB0 hr0
        go_wp2_with fail
        have hB1 := hB1.drew
        have hr1 := hr1.drew
        refine wp_region_C (Same [] w1) [4, 9, 11, 12] (by kernel_rfl) (by kernel_rfl) (by intro c a w h; first | (obtain ⟨_, h, _⟩ := h; cases h; done) | (obtain ⟨_, _, h, _⟩ := h; cases h; done)) (by intro a w h; first | (obtain ⟨h, _⟩ := h; cases h; done) | (obtain ⟨_, h, _⟩ := h; cases h; done)) (Same.refl _ _) ?_
        repeat (refine wd_w (v := ?_) rfl rfl rfl rfl rfl rfl (fun w' hw' K hK => ?_) ?_; rotate_left; (skip; go_wp2_with ((apply st_toD (sz := 32) (i := k); exact Tryd.underlying22; kernel_rfl; rfl; rfl; rfl; omega; exact HNN.out; exact HSPOT.out)); exact rfl); simp only [Act.put, List.setIfInBounds_toArray, List.set_cons_zero, List.set_cons_succ])
        refine wd_l rfl rfl (by intro a w h; first | (obtain ⟨h, _⟩ := h; cases h; done) | (obtain ⟨_, h, _⟩ := h; cases h; done)) ?_
        go_wp2_with fail
        go_at_call 12
        refine (HC1.out _ (HT.out.up hB1) (HK.out.below hB1 HK.out.lt)).mono ?_
        rintro e w2 ⟨rfl, hb2⟩
        have hB2 := hB1.trans (hb2.mono hB1.size)
        have hr2 := hr1.up hb2
        go_wp2_with fail
        refine ⟨.inr (fun g hg => by simp at hg), ?_⟩
        repeat (refine wd_w (v := ?_) rfl rfl rfl rfl rfl rfl (fun w' hw' K hK => ?_) ?_; rotate_left; (skip; go_wp2_with ((apply st_fromD (sz := 32) (A2 := A2) (i := k); exact Tryd.underlying22; kernel_rfl; rfl; rfl; rfl; omega; exact HA2.out)); exact rfl); simp only [Act.put, List.setIfInBounds_toArray, List.set_cons_zero, List.set_cons_succ])
        refine wd_l rfl rfl (by intro a w h; first | (obtain ⟨h, _⟩ := h; cases h; done) | (obtain ⟨_, h, _⟩ := h; cases h; done)) ?_
        go_wp2_with fail
        go_at_call 12
        refine (HC2.out _ (HDR.out.up hB2) (HK.out.below hB2 HK.out.lt)).mono ?_
        rintro e w3 ⟨rfl, hb3⟩
        have hB3 := hB2.trans (hb3.mono hB2.size)
        have hr3 := hr2.up hb3
        go_wp2_with fail
        refine ⟨.inr (fun g hg => by simp at hg), ?_⟩
        repeat (refine wd_q (v := ?_) rfl rfl rfl rfl rfl rfl (fun w' hw' K hK => ?_) ?_; rotate_left; (skip; go_wp2; exact rfl); simp only [Act.put, List.setIfInBounds_toArray, List.set_cons_zero, List.set_cons_succ])
        refine wd_l rfl rfl (by intro a w h; first | (obtain ⟨h, _⟩ := h; cases h; done) | (obtain ⟨_, h, _⟩ := h; cases h; done)) ?_
        go_wp2_with fail
        go_at_call 17
        have hcall := node_any w3 x y HXO.out.1 HYO.out.1 z (HK.out.below hB3 HK.out.lt)
        rw [HM2.out] at hcall; refine hcall.mono ?_; clear hcall
        rintro e w4 ⟨rfl, hb4⟩
        have hB4 := hB3.trans (hb4.mono hB3.size)
        have hr4 := hr3.up hb4
        go_wp2_with fail
        refine ⟨.inr (fun g hg => by simp at hg), ?_⟩
        repeat (refine wd_q (v := ?_) rfl rfl rfl rfl rfl rfl (fun w' hw' K hK => ?_) ?_; rotate_left; (skip; go_wp2; exact rfl); simp only [Act.put, List.setIfInBounds_toArray, List.set_cons_zero, List.set_cons_succ])
        refine wd_last rfl (by kernel_rfl) rfl (by intro a w h; first | (obtain ⟨h, _⟩ := h; cases h; done) | (obtain ⟨_, h, _⟩ := h; cases h; done)) ?_
        go_wp2_with (apply st_storeW (off := 0) (vs := nums .u8 (m)) (cs := nums .u8 (List.replicate 32 0)) (T := 25); rfl; rfl; exact hr4; (rw [nums_length, HML.out]; kernel_rfl); (rw [nums_length, HML.out]; decide); exact nums_one _ _; intro w5 hd5 hw5; rw [laid_all _ _ (by rw [nums_length, HML.out]; rfl)] at hd5)
        refine bodyPost_ret (ret_row rfl _ _ _ (nums .u8 (m)) 25 _ rfl hd5 Tryd.underlying25 rfl (by rw [nums_length, HML.out]; kernel_rfl)) rfl ⟨rfl, Wrote.below hB4 hw5 (Nat.le_refl _)⟩
end Go.Proofs.YtipigpeccegjgaaDoor
