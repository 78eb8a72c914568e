/- That inquestlaw06.MerkleShown returns true. Condition: the table of layer 2 reads as its text lays it. -/
import Derived.Test.YtipigpeccegjgaaDoorGi
import Derived.Test.YtipigpeccegjgaaDoorGk
import Derived.Test.YtipigpeccegjgaaDoorGj
import Derived.Test.YtipigpeccegjgaaDoorLawRoots
namespace Go.Proofs.YtipigpeccegjgaaDoor
open Go.RowKit

theorem checkPF_shown (ds : List (List Int)) (z : Int) (k : Nat) (hk : k < ds.length) : checkPF (rootF ds z) ds.length k (ds.getD k []) (pathF ds k z) z = true := by
  obtain ⟨h1, h2⟩ := path_shown ds.length ds k z rfl hk
  unfold checkPF
  rw [Int.toNat_natCast]
  exact decide_eq_true ⟨by omega, by omega, h1, h2⟩
theorem checkGF_shown (ds : List (List Int)) (z : Int) (k : Nat) (hk : k < ds.length) : checkGF (rootF (ds.take (k + 1)) z) ((k + 1 : Nat) : Int) (rootF ds z) ds.length (growthF ds (k + 1) z true) z = true := by
  obtain ⟨h1, h2⟩ := growth_shown ds.length ds (k + 1) z true (rootF (ds.take (k + 1)) z) rfl (by omega) (by omega) (fun _ => rfl)
  unfold checkGF
  rw [Int.toNat_natCast, Int.toNat_natCast]
  exact decide_eq_true ⟨by omega, by omega, h1, h2⟩
theorem shown_len (ds : List (List Int)) (z : Int) (k b : Nat) (hk : k < ds.length) (hb : ds.length ≤ 2 ^ b) : (pathF ds k z).length ≤ b ∧ (growthF ds (k + 1) z true).length ≤ b + 1 := by
  have h1 := (path_shown ds.length ds k z rfl hk).1
  have h2 := (growth_shown ds.length ds (k + 1) z true (rootF (ds.take (k + 1)) z) rfl (by omega) (by omega) (fun _ => rfl)).1
  have h3 := stepsF_len b ds.length k hb
  have h4 := gstepsF_len b (k + 1) ds.length hb
  unfold needF at h2
  split at h2 <;> omega

set_option maxHeartbeats 8000000 in
set_option maxRecDepth 100000 in
theorem lawshown_any (w : World) (ds0 : List (List Int)) (A : Option Addr) (c : Nat) (hd : Dg w A c ds0) (z : Int) (hk : KV w) :
    Calls Tryd.prog 10 #[.slice A ds0.length c, .int .i64 z] w fun e w' => e = .returned (.bool true) ∧ Below w.heap.size w w' := by
  obtain ⟨ds, hds⟩ : ∃ ds, ds = ds0.take 24 := ⟨_, rfl⟩
  have hl : ds.length ≤ 24 := by rw [hds, List.length_take]; omega
  have hf1 := few_any w ds0 A c hd 24 (by decide) 24 rfl
  rw [← hds] at hf1
  have hu : Dgs ds := by rw [hds]; exact hd.u.take 24
  have hcp := fun k h => checkPF_shown ds z k h
  have hcg := fun k h => checkGF_shown ds z k h
  have hro := rootF_ok ds z hu
  have hroot := fun (w : World) (A : Option Addr) (c : Nat) (h : Dg w A c ds) => root_any ds.length w ds A c rfl h (by omega) z
  obtain ⟨R, hR⟩ : ∃ R, R = rootF ds z := ⟨_, rfl⟩
  rw [← hR] at hcp hcg hro hroot
  have HF1 := Lib.hid hf1
  have HCP := Lib.hid hcp
  have HCG := Lib.hid hcg
  have HRO := Lib.hid hro
  have HROOT := Lib.hid hroot
  have HK := Lib.hid hk
  have HU := Lib.hid hu
  clear hf1 hcp hcg hro hroot hk hR hds hd hu
  go_enter Tryd.func10, Tryd.ntmps10
  go_wp2_with fail
  go_at_call 11
  refine HF1.out.mono ?_
  rintro e w1 ⟨v1, rfl, hB, ho1⟩
  obtain ⟨A1, c1, rfl, h1, hx1⟩ := ho1.dg
  clear ho1 hx1
  go_wp2_with fail
  go_loopw [5] (fun v wr => wr = w1 ∧ ∃ b : Nat, v = .int .i64 b ∧ b ≤ 5 ∧ Hid (b = 0 ∨ 2 ^ (b - 1) < ds.length)) (fun v _ => 6 - (intOf v).toNat)
  case atStart => exact ⟨rfl, 0, rfl, by omega, .inl rfl⟩
  case round =>
    obtain ⟨rfl, b, rfl, hb, HBB⟩ := hrel
    obtain ⟨K, hK⟩ : ∃ K : Nat, K = 2 ^ b := ⟨_, rfl⟩
    have hwr : wrap64 ((2 : Int) ^ b) = (K : Int) := by
      rw [hK]
      have h : ∀ m : Fin 6, wrap64 ((2 : Int) ^ m.val) = ((2 ^ m.val : Nat) : Int) := by decide +kernel
      exact h ⟨b, by omega⟩
    have hb4 : K < ds.length → b ≤ 4 := fun h => by
      have h32 : 2 ^ b < 2 ^ 5 := by rw [← hK]; omega
      have := (Nat.pow_lt_pow_iff_right (by decide : 1 < 2)).1 h32
      omega
    have HKE := Lib.hid hK
    clear hK
    by_cases hlt : K < ds.length
    · have hb4 := hb4 hlt
      go_wp2_with fail
      go_roundw
      case rel => exact ⟨trivial, b + 1, by go_num, by omega, .inr (by rw [Nat.add_sub_cancel, ← HKE.out]; exact hlt)⟩
      case measure => simp [intOf]; omega
    · have hpow : ds.length ≤ 2 ^ b := by rw [← HKE.out]; omega
      have hsl := fun k hk => shown_len ds z k b hk hpow
      have HSL := Lib.hid hsl
      rename World => w1
      clear hb4 hsl hpow
      go_wp2_with fail
      go_at_call 12
      refine (HROOT.out w1 A1 c1 h1 (HK.out.below hB HK.out.lt)).mono ?_
      rintro e w2 ⟨rfl, hb2⟩
      have hB := hB.trans (hb2.mono hB.size)
      have h2 := h1.up hb2
      have hr0 : Blk (w2.alloc (.cells (nums .u8 (List.replicate 32 0)).toArray 25)) w2.heap.size (nums .u8 (List.replicate 32 0)) 25 := Blk.new' _ _ _ _ _ rfl rfl
      have hB23 := (Below.refl w2.heap.size w2).alloc (Nat.le_refl _) (.cells (nums .u8 (List.replicate 32 0)).toArray 25)
      clear h1 hb2 hlt
      go_wp2_with ((with_reducible apply st_storeW (off := 0) (vs := nums .u8 (R)) (cs := nums .u8 (List.replicate 32 0)) (T := 25)); rfl; rfl; exact hr0; (rw [nums_length, HRO.out.1]; kernel_rfl); (rw [nums_length, HRO.out.1]; decide); exact nums_one _ _; intro w3 hd3 hw3; rw [laid_all _ _ (by rw [nums_length, HRO.out.1]; rfl)] at hd3)
      have hB23 := Wrote.below hB23 hw3 (Nat.le_refl _)
      go_loopw [7] (fun v wr => ∃ k : Nat, v = .int .i64 k ∧ k ≤ ds.length ∧ Below w2.heap.size w2 wr ∧ Blk wr w2.heap.size (nums .u8 R) 25) (fun v _ => ds.length - (intOf v).toNat)
      case atStart => exact ⟨0, rfl, by omega, hB23, hd3⟩
      case round =>
        clear hB23 hd3 hw3 hr0
        obtain ⟨k, rfl, hkl, hBr, hdr⟩ := hrel
        by_cases hlt : k < ds.length
        · have hbk := HK.out.below (hB.trans (hBr.mono hB.size)) HK.out.lt
          obtain ⟨hs1, hs2⟩ := HSL.out k hlt
          have hcp := HCP.out k hlt
          have hcg := HCG.out k hlt
          have hpo := pathF_ok ds.length ds k z rfl HU.out
          have hgo := growthF_ok ds.length ds (k + 1) z true rfl HU.out
          have hr1 := fun (w : World) (h : Dg w A1 c1 ds) => Path_any w ds A1 c1 h (by omega) k z
          have hr2 := fun (w : World) (h : Dg w A1 c1 ds) => Growth_any w ds A1 c1 h (by omega) ((k : Int) + 1) z
          have e1 : pathR ds k z = (pathF ds k z, 0) := by unfold pathR; rw [if_pos ⟨by omega, by omega⟩]
          have e2 : growthR ds ((k : Int) + 1) z = (growthF ds (k + 1) z true, 0) := by
            unfold growthR; rw [if_pos ⟨by omega, by omega⟩, show ((k : Int) + 1).toNat = k + 1 by omega]
          rw [e1] at hr1
          rw [e2] at hr2
          obtain ⟨p, hp⟩ : ∃ p, p = pathF ds k z := ⟨_, rfl⟩
          obtain ⟨g, hg⟩ : ∃ g, g = growthF ds (k + 1) z true := ⟨_, rfl⟩
          rw [← hp] at hr1 hs1 hcp hpo
          rw [← hg] at hr2 hs2 hcg hgo
          have htk := h2.take (k + 1) (by omega)
          have htl : (ds.take (k + 1)).length = k + 1 := by rw [List.length_take]; omega
          have htr := fun (w : World) (h : Dg w A1 c1 (ds.take (k + 1))) => root_any (k + 1) w (ds.take (k + 1)) A1 c1 htl h (by omega) z
          rw [htl] at htr
          have hto := rootF_ok (ds.take (k + 1)) z (HU.out.take _)
          obtain ⟨T, hT⟩ : ∃ T, T = rootF (ds.take (k + 1)) z := ⟨_, rfl⟩
          rw [← hT] at htr hto hcg
          have hxu := h2.u.at k hlt
          have hxe : ds.getD k [] = ds[k] := by rw [List.getD_eq_getElem?_getD, List.getElem?_eq_getElem hlt]; rfl
          rw [hxe] at hcp
          obtain ⟨gb, off, rfl, hgb, hcells⟩ := h2.get (by omega)
          have hc0 := hcells k hlt
          obtain ⟨x, hx⟩ : ∃ x, x = ds[k] := ⟨_, rfl⟩
          rw [← hx] at hxu hcp hc0
          have hch1 := fun (w : World) (A : Option Addr) (c : Nat) (h : Dg w A c p) => checkpath_any w R HRO.out.1 ds.length k (by omega) x hxu.1 hxu.2 p A c h z
          have hch2 := fun (w : World) (A : Option Addr) (c : Nat) (h : Dg w A c g) => checkgrowth_any w T hto.1 hto.2 ((k + 1 : Nat) : Int) R HRO.out.1 ds.length (by omega) g A c h z
          rw [hcp] at hch1
          rw [hcg] at hch2
          rw [show ((k + 1 : Nat) : Int) = (k : Int) + 1 by omega] at hch2
          have HR1 := Lib.hid hr1
          have HR2 := Lib.hid hr2
          have HTR := Lib.hid htr
          have HTO := Lib.hid hto
          have HTK := Lib.hid htk
          have HXU := Lib.hid hxu
          have HC0 := Lib.hid hc0
          have HCH1 := Lib.hid hch1
          have HCH2 := Lib.hid hch2
          have hle := h2.le
          have H2 := Lib.hid h2
          clear hcp hcg hpo hgo hr1 hr2 e1 e2 hp hg htk htl htr hto hT hxu hxe hcells hc0 hx hch1 hch2
          have hBw := hB.trans (hBr.mono hB.size)
          clear h2 hbk
          go_wp2_with fail
          go_at_call 27
          refine (HR1.out wr (H2.out.up hBr) (HK.out.below hBw HK.out.lt)).mono ?_
          rintro e w4 ⟨v4, rfl, hb, ho4⟩
          obtain ⟨A4, c4, rfl, h4, hx4⟩ := ho4.dg
          have hBw := hBw.trans (hb.mono hBw.size)
          have hBr := hBr.trans (hb.mono hBr.size)
          have hdr := hdr.up hb
          clear ho4 hx4
          go_wp2_with fail
          go_at_call 29
          refine (HR2.out w4 (H2.out.up hBr) (HK.out.below hBw HK.out.lt)).mono ?_
          rintro e w5 ⟨v5, rfl, hb, ho5⟩
          obtain ⟨A5, c5, rfl, h5, hx5⟩ := ho5.dg
          have hBw := (hBw.trans (hb.mono hBw.size)).drew
          have hBr := (hBr.trans (hb.mono hBr.size)).drew
          have hdr := (hdr.up hb)
          have h4 := h4.up hb
          have hdl := hdr.lt
          have hgw : gb < w5.heap.size := by have := hBr.size; exact Nat.lt_of_lt_of_le hgb this
          have hS : Same [w2.heap.size, gb] w5 w5.drew := Same.refl _ _
          have hC : Below w5.heap.size w5 w5.drew := (Below.refl _ _).drew
          have HCC : Hid (∀ j v, (nums .u8 x)[j]? = some v → w5.cell? ⟨gb, off + k * 32 + j, none⟩ = some v) := fun j v hv => (hBr.cell (p := ⟨gb, off + k * 32 + j, none⟩) hgb).trans (HC0.out j v hv)
          clear ho5 hx5 HR1 HR2
          go_wp2_with fail
          refine wp_region_C (Same [w2.heap.size, gb] w5) [10, 18, 26] (by kernel_rfl) (by kernel_rfl) (by intro c a w h; first | (obtain ⟨_, h, _⟩ := h; cases h; done) | (obtain ⟨_, _, h, _⟩ := h; cases h; done) | (obtain ⟨_, _, _, h, _⟩ := h; cases h; done) | (obtain ⟨_, _, _, _, h, _⟩ := h; cases h; done)) (by intro a w h; first | (obtain ⟨h, _⟩ := h; cases h; done) | (obtain ⟨_, h, _⟩ := h; cases h; done) | (obtain ⟨_, _, h, _⟩ := h; cases h; done) | (obtain ⟨_, _, _, h, _⟩ := h; cases h; done)) (Same.refl _ _) ?_
          repeat (refine wd_wg (v := ?_) rfl rfl rfl rfl rfl rfl (fun w' hw' K hK => ?_) ?_; rotate_left; (have e1 := hw'.blk hdr (by simp); have e2 : ∀ j v, (nums .u8 x)[j]? = some v → w'.cell? ⟨gb, off + k * 32 + j, none⟩ = some v := fun j v hv => (hw'.cell gb (by simp) _).trans (HCC.out j v hv); go_wp2_with ((first | ((with_reducible apply st_load (n := 32) (cs := nums .u8 (R)) (T := 25)); rfl; exact e1; exact Tryd.underlying25; rfl; kernel_rfl; (rw [nums_length, HRO.out.1]; exact Nat.le_refl _); (exact row_all _ _ (by rw [nums_length, HRO.out.1]))) | ((with_reducible apply st_loadCells (cs := nums .u8 (x))); rfl; exact e2; exact Tryd.underlying25; rfl; (rw [nums_length, HXU.out.1]; kernel_rfl)))); exact rfl); simp only [Act.put, List.setIfInBounds_toArray, List.set_cons_zero, List.set_cons_succ])
          refine wd_l rfl rfl (by intro a w h; first | (obtain ⟨h, _⟩ := h; cases h; done) | (obtain ⟨_, h, _⟩ := h; cases h; done) | (obtain ⟨_, _, h, _⟩ := h; cases h; done) | (obtain ⟨_, _, _, h, _⟩ := h; cases h; done)) ?_
          go_wp2_with fail
          go_at_call 31
          refine (HCH1.out _ A4 c4 (h4.up hC) (HK.out.below hBw HK.out.lt)).mono ?_
          rintro e w6 ⟨rfl, hb⟩
          have hBw := hBw.trans (hb.mono hBw.size)
          have hBr := hBr.trans (hb.mono hBr.size)
          have hS := hS.below hb (by have := hC.size; simp; omega)
          have hC := hC.trans (hb.mono hC.size)
          go_wp2_with fail
          refine ⟨.inr hS, ?_⟩
          repeat (refine wd_wg (v := ?_) rfl rfl rfl rfl rfl rfl (fun w' hw' K hK => ?_) ?_; rotate_left; (skip; go_wp2_with (((with_reducible apply st_toD (sz := 32) (i := k + 1)); exact Tryd.underlying22; kernel_rfl; rfl; rfl; rfl; omega; exact nn_some; exact spot_none)); exact rfl); simp only [Act.put, List.setIfInBounds_toArray, List.set_cons_zero, List.set_cons_succ])
          refine wd_lg rfl rfl (by intro a w h; first | (obtain ⟨h, _⟩ := h; cases h; done) | (obtain ⟨_, h, _⟩ := h; cases h; done) | (obtain ⟨_, _, h, _⟩ := h; cases h; done) | (obtain ⟨_, _, _, h, _⟩ := h; cases h; done)) ?_
          go_wp2_with fail
          go_at_call 12
          refine (HTR.out _ (HTK.out.up hBr) (HK.out.below hBw HK.out.lt)).mono ?_
          rintro e w7 ⟨rfl, hb⟩
          have hBw := hBw.trans (hb.mono hBw.size)
          have hBr := hBr.trans (hb.mono hBr.size)
          have hS := hS.below hb (by have := hC.size; simp; omega)
          have hC := hC.trans (hb.mono hC.size)
          go_wp2_with fail
          refine ⟨.inr hS, ?_⟩
          repeat (refine wd_wg (v := ?_) rfl rfl rfl rfl rfl rfl (fun w' hw' K hK => ?_) ?_; rotate_left; (have e1 := hw'.blk hdr (by simp); go_wp2_with (((with_reducible apply st_load (n := 32) (cs := nums .u8 (R)) (T := 25)); rfl; exact e1; exact Tryd.underlying25; rfl; kernel_rfl; (rw [nums_length, HRO.out.1]; exact Nat.le_refl _); (exact row_all _ _ (by rw [nums_length, HRO.out.1])))); exact rfl); simp only [Act.put, List.setIfInBounds_toArray, List.set_cons_zero, List.set_cons_succ])
          refine wd_lg rfl rfl (by intro a w h; first | (obtain ⟨h, _⟩ := h; cases h; done) | (obtain ⟨_, h, _⟩ := h; cases h; done) | (obtain ⟨_, _, h, _⟩ := h; cases h; done) | (obtain ⟨_, _, _, h, _⟩ := h; cases h; done)) ?_
          go_wp2_with fail
          go_at_call 33
          refine (HCH2.out _ A5 c5 (h5.up hC) (HK.out.below hBw HK.out.lt)).mono ?_
          rintro e w8 ⟨rfl, hb⟩
          have hBw := hBw.trans (hb.mono hBw.size)
          have hBr := hBr.trans (hb.mono hBr.size)
          have hS := hS.below hb (by have := hC.size; simp; omega)
          have hC := hC.trans (hb.mono hC.size)
          have hdr := hdr.up hC
          go_wp2_with fail
          refine ⟨.inr hS, ?_⟩
          repeat (refine wd_wg (v := ?_) rfl rfl rfl rfl rfl rfl (fun w' hw' K hK => ?_) ?_; rotate_left; (skip; go_wp2_with (fail); exact rfl); simp only [Act.put, List.setIfInBounds_toArray, List.set_cons_zero, List.set_cons_succ])
          refine wd_pick (b := false) (v := .bool false) rfl rfl rfl rfl rfl ?_
          simp only [Act.put, List.setIfInBounds_toArray, List.set_cons_zero, List.set_cons_succ]
          refine wd_nil ?_
          go_wp2_with fail
          go_roundw
          case rel => exact ⟨k + 1, by go_num, by omega, hBr, hdr⟩
          case measure => simp [intOf]; omega
        · have hBw := hB.trans (hBr.mono hB.size)
          go_wp2_with fail
          go_at_call 15
          refine (lives_any wr (HK.out.below hBw HK.out.lt)).mono ?_
          rintro e w9 ⟨rfl, hb⟩
          go_wp2_with fail
          go_ret
          exact ⟨rfl, hBw.trans (hb.mono hBw.size)⟩

end Go.Proofs.YtipigpeccegjgaaDoor
