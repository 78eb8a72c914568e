/- That inquestlaw06.MerkleJoins returns true. Condition: the table of layer 2 reads as its text lays it. -/
import Derived.Test.YtipigpeccegjgaaDoorLawRoots
import Derived.Test.YtipigpeccegjgaaDoorGuardW
namespace Go.Proofs.YtipigpeccegjgaaDoor
open Go.RowKit

theorem two_pow_and6 : ∀ a : Fin 6, bits .and .i64 ((2 ^ a.val : Nat) : Int) (((2 ^ a.val : Nat) : Int) - 1) = 0 := by decide +kernel
theorem two_pow_and (a : Nat) (h : 2 ^ a < 64) : bits .and .i64 ((2 ^ a : Nat) : Int) (((2 ^ a : Nat) : Int) - 1) = 0 := by
  by_cases ha : a < 6
  · exact two_pow_and6 ⟨a, ha⟩
  · have := Nat.pow_le_pow_right (n := 2) (by decide) (show 6 ≤ a by omega)
    omega
theorem split_0 : splitF 0 = 0 := by decide +kernel
theorem split_1 : splitF 1 = 0 := by decide +kernel

set_option maxHeartbeats 4000000 in
theorem lawjoins_any (w : World) (ds0 : List (List Int)) (A : Option Addr) (c : Nat) (hd : Dg w A c ds0) (z : Int) (hk : KV w) :
    Calls Tryd.prog 4 #[.slice A ds0.length c, .int .i64 z] w fun e w' => e = .returned (.bool true) ∧ Below w.heap.size w w' := by
  obtain ⟨ds, hds⟩ : ∃ ds, ds = ds0.take 40 := ⟨_, rfl⟩
  have hl : ds.length ≤ 40 := by rw [hds, List.length_take]; omega
  have hf1 := few_any w ds0 A c hd 40 (by decide) 40 rfl
  rw [← hds] at hf1
  have hu : Dgs ds := by rw [hds]; exact hd.u.take 40
  obtain ⟨m, hm⟩ : ∃ m, m = rootF ds z := ⟨_, rfl⟩
  have hml : m.length = 32 := by rw [hm]; exact (rootF_ok ds z hu).1
  have heq := run_eql_nums (P := Tryd.prog) (t := 25) Tryd.underlying25 Tryd.underlying5 (by kernel_rfl) (by kernel_rfl) m m hml hml
  rw [decide_eq_true rfl] at heq
  have hr1 := fun (w : World) (A : Option Addr) (c : Nat) (h : Dg w A c ds) => root_any ds.length w ds A c rfl h (by omega) z
  rw [← hm] at hr1
  have HF1 := Lib.hid hf1
  have HR1 := Lib.hid hr1
  have HEQ := Lib.hid heq
  have HK := Lib.hid hk
  have HML := Lib.hid hml
  clear hf1 hr1 heq hk hml hds hd
  by_cases h2 : ds.length < 2
  · by_cases h0 : ds.length = 0
    · have hds : ds = [] := List.eq_nil_of_length_eq_zero h0
      subst hds
      clear hm hu
      go_enter Tryd.func4, Tryd.ntmps4
      go_wp2_with fail
      go_at_call 11
      refine HF1.out.mono ?_
      rintro e w1 ⟨v1, rfl, hb1, ho1⟩
      obtain ⟨A1, c1, rfl, h1, hx1⟩ := ho1.dg
      go_wp2_with fail
      have hB1 := hb1.drew
      refine wp_region_C (Same [] w1) [6, 15, 19] (by kernel_rfl) (by kernel_rfl) (by intro c a w h; first | (obtain ⟨_, h, _⟩ := h; cases h; done) | (obtain ⟨_, _, h, _⟩ := h; cases h; done)) (by intro a w h; first | (obtain ⟨h, _⟩ := h; cases h; done) | (obtain ⟨_, h, _⟩ := h; cases h; done)) (Same.refl _ _) ?_
      repeat (refine wd_q (v := ?_) rfl rfl rfl rfl rfl rfl (fun w' hw' K hK => ?_) ?_; rotate_left; (skip; go_wp2; exact rfl); simp only [Act.put, List.setIfInBounds_toArray, List.set_cons_zero, List.set_cons_succ])
      iterate 2 (refine wd_pass rfl rfl ?_; simp only [Act.put, List.setIfInBounds_toArray, List.set_cons_zero, List.set_cons_succ])
      refine wd_loud_pass rfl rfl ⟨fun g hg => by simp at hg, ?_⟩
      simp only [Act.put, List.setIfInBounds_toArray, List.set_cons_zero, List.set_cons_succ]
      iterate 4 (refine wd_pass rfl rfl ?_; simp only [Act.put, List.setIfInBounds_toArray, List.set_cons_zero, List.set_cons_succ])
      refine wd_pick (b := true) (v := .bool true) rfl rfl rfl rfl rfl ?_
      simp only [Act.put, List.setIfInBounds_toArray, List.set_cons_zero, List.set_cons_succ]
      repeat (refine wd_q (v := ?_) rfl rfl rfl rfl rfl rfl (fun w' hw' K hK => ?_) ?_; rotate_left; (skip; go_wp2; exact rfl); simp only [Act.put, List.setIfInBounds_toArray, List.set_cons_zero, List.set_cons_succ])
      refine wd_lg rfl rfl (by intro a w h; first | (obtain ⟨h, _⟩ := h; cases h; done) | (obtain ⟨_, h, _⟩ := h; cases h; done)) ?_
      go_wp2_with fail
      go_at_call 16
      refine (split_any _ 0 (by decide) (by decide)).mono ?_
      rw [split_0]
      rintro e wz ⟨rfl, rfl⟩
      go_wp2_with fail
      refine ⟨.inr (fun g hg => by simp at hg), ?_⟩
      repeat (refine wd_q (v := ?_) rfl rfl rfl rfl rfl rfl (fun w' hw' K hK => ?_) ?_; rotate_left; (skip; go_wp2; exact rfl); simp only [Act.put, List.setIfInBounds_toArray, List.set_cons_zero, List.set_cons_succ])
      refine wd_pick (b := true) (v := .bool true) rfl rfl rfl rfl rfl ?_
      simp only [Act.put, List.setIfInBounds_toArray, List.set_cons_zero, List.set_cons_succ]
      repeat (refine wd_q (v := ?_) rfl rfl rfl rfl rfl rfl (fun w' hw' K hK => ?_) ?_; rotate_left; (skip; go_wp2; exact rfl); simp only [Act.put, List.setIfInBounds_toArray, List.set_cons_zero, List.set_cons_succ])
      refine wd_lg rfl rfl (by intro a w h; first | (obtain ⟨h, _⟩ := h; cases h; done) | (obtain ⟨_, h, _⟩ := h; cases h; done)) ?_
      go_wp2_with fail
      go_at_call 15
      refine (lives_any _ (HK.out.below hB1 HK.out.lt)).mono ?_
      rintro e w2 ⟨rfl, hb2⟩
      have hB2 := hB1.trans (hb2.mono hB1.size)
      go_wp2_with fail
      refine ⟨.inr (fun g hg => by simp at hg), ?_⟩
      refine wd_pick (b := true) (v := .bool true) rfl rfl rfl rfl rfl ?_
      simp only [Act.put, List.setIfInBounds_toArray, List.set_cons_zero, List.set_cons_succ]
      repeat (refine wd_q (v := ?_) rfl rfl rfl rfl rfl rfl (fun w' hw' K hK => ?_) ?_; rotate_left; (skip; go_wp2; exact rfl); simp only [Act.put, List.setIfInBounds_toArray, List.set_cons_zero, List.set_cons_succ])
      refine wd_nil ?_
      go_wp2_with fail
      go_ret
      exact ⟨rfl, hB2⟩
    · have h1l : ds.length = 1 := by omega
      obtain ⟨d, hds⟩ := List.length_eq_one_iff.1 h1l
      subst hds
      rw [rootF_one] at hm
      subst hm
      clear hu h0 h1l
      go_enter Tryd.func4, Tryd.ntmps4
      go_wp2_with fail
      go_at_call 11
      refine HF1.out.mono ?_
      rintro e w1 ⟨v1, rfl, hb1, ho1⟩
      obtain ⟨A1, c1, rfl, h1, hx1⟩ := ho1.dg
      have h1 : Dg w1.drew A1 c1 [m] := ⟨h1.rd, h1.le, h1.nn, h1.u⟩
      have hB1 := hb1.drew
      have HD := Lib.hid h1
      obtain ⟨g, off, rfl, hg, hcells⟩ := h1.get (by simp)
      have hc0 : ∀ j v, (nums .u8 m)[j]? = some v → w1.drew.cell? ⟨g, off + j, none⟩ = some v := fun j v hv => by
        have := hcells 0 (by simp) j v hv
        rwa [Nat.zero_mul, Nat.add_zero] at this
      have HC0 := Lib.hid hc0
      clear h1 hcells hc0
      go_wp2_with fail
      refine wp_region_C (Same [g] w1) [6, 15, 19] (by kernel_rfl) (by kernel_rfl) (by intro c a w h; first | (obtain ⟨_, h, _⟩ := h; cases h; done) | (obtain ⟨_, _, h, _⟩ := h; cases h; done)) (by intro a w h; first | (obtain ⟨h, _⟩ := h; cases h; done) | (obtain ⟨_, h, _⟩ := h; cases h; done)) (Same.refl _ _) ?_
      repeat (refine wd_q (v := ?_) rfl rfl rfl rfl rfl rfl (fun w' hw' K hK => ?_) ?_; rotate_left; (skip; go_wp2; exact rfl); simp only [Act.put, List.setIfInBounds_toArray, List.set_cons_zero, List.set_cons_succ])
      refine wd_lg rfl rfl (by intro a w h; first | (obtain ⟨h, _⟩ := h; cases h; done) | (obtain ⟨_, h, _⟩ := h; cases h; done)) ?_
      go_wp2_with fail
      go_at_call 12
      refine (HR1.out _ _ _ HD.out (HK.out.below hB1 HK.out.lt)).mono ?_
      rintro e w2 ⟨rfl, hb2⟩
      have hB2 := hB1.trans (hb2.mono hB1.size)
      have hS2 : Same [g] w1 w2 := fun k hk => (by rw [List.mem_singleton] at hk; subst hk; exact hb2.block _ hg)
      go_wp2_with fail
      refine ⟨.inr hS2, ?_⟩
      have heq := HEQ.out
      repeat (refine wd_wg (v := ?_) rfl rfl rfl rfl rfl rfl (fun w' hw' K hK => ?_) ?_; rotate_left; (have e1 := heq; have e2 : ∀ j v, (nums .u8 m)[j]? = some v → w'.cell? ⟨g, off + j, none⟩ = some v := fun j v hv => (hw'.cell g (by simp) _).trans (HC0.out j v hv); go_wp2_with ((apply st_loadCells (cs := nums .u8 m); rfl; exact e2; exact Tryd.underlying25; rfl; (rw [nums_length, HML.out]; kernel_rfl))); exact rfl); simp only [Act.put, List.setIfInBounds_toArray, List.set_cons_zero, List.set_cons_succ])
      refine wd_pick (b := false) (v := .bool true) rfl rfl rfl rfl rfl ?_
      simp only [Act.put, List.setIfInBounds_toArray, List.set_cons_zero, List.set_cons_succ]
      repeat (refine wd_q (v := ?_) rfl rfl rfl rfl rfl rfl (fun w' hw' K hK => ?_) ?_; rotate_left; (skip; go_wp2; exact rfl); simp only [Act.put, List.setIfInBounds_toArray, List.set_cons_zero, List.set_cons_succ])
      refine wd_lg rfl rfl (by intro a w h; first | (obtain ⟨h, _⟩ := h; cases h; done) | (obtain ⟨_, h, _⟩ := h; cases h; done)) ?_
      go_wp2_with fail
      go_at_call 16
      refine (split_any _ 1 (by decide) (by decide)).mono ?_
      rw [split_1]
      rintro e wz ⟨rfl, rfl⟩
      go_wp2_with fail
      refine ⟨.inr hS2, ?_⟩
      repeat (refine wd_q (v := ?_) rfl rfl rfl rfl rfl rfl (fun w' hw' K hK => ?_) ?_; rotate_left; (skip; go_wp2; exact rfl); simp only [Act.put, List.setIfInBounds_toArray, List.set_cons_zero, List.set_cons_succ])
      refine wd_pick (b := true) (v := .bool true) rfl rfl rfl rfl rfl ?_
      simp only [Act.put, List.setIfInBounds_toArray, List.set_cons_zero, List.set_cons_succ]
      repeat (refine wd_q (v := ?_) rfl rfl rfl rfl rfl rfl (fun w' hw' K hK => ?_) ?_; rotate_left; (skip; go_wp2; exact rfl); simp only [Act.put, List.setIfInBounds_toArray, List.set_cons_zero, List.set_cons_succ])
      refine wd_lg rfl rfl (by intro a w h; first | (obtain ⟨h, _⟩ := h; cases h; done) | (obtain ⟨_, h, _⟩ := h; cases h; done)) ?_
      go_wp2_with fail
      go_at_call 15
      refine (lives_any _ (HK.out.below hB2 HK.out.lt)).mono ?_
      rintro e w3 ⟨rfl, hb3⟩
      have hB3 := hB2.trans (hb3.mono hB2.size)
      go_wp2_with fail
      refine ⟨.inr (hS2.below hb3 (by intro k hk; rw [List.mem_singleton] at hk; subst hk; have := hb2.size; omega)), ?_⟩
      refine wd_pick (b := true) (v := .bool true) rfl rfl rfl rfl rfl ?_
      simp only [Act.put, List.setIfInBounds_toArray, List.set_cons_zero, List.set_cons_succ]
      repeat (refine wd_q (v := ?_) rfl rfl rfl rfl rfl rfl (fun w' hw' K hK => ?_) ?_; rotate_left; (skip; go_wp2; exact rfl); simp only [Act.put, List.setIfInBounds_toArray, List.set_cons_zero, List.set_cons_succ])
      refine wd_nil ?_
      go_wp2_with fail
      go_ret
      exact ⟨rfl, hB3⟩
  · have hks := kF_spec ds.length (by omega)
    obtain ⟨a, ha1, ha2, ha3⟩ := splitF_spec ds.length (by omega)
    obtain ⟨k, hkk⟩ : ∃ k, k = kF ds.length := ⟨_, rfl⟩
    rw [← hkk] at hks
    obtain ⟨k1, k2, k3, k4⟩ := hks
    have hka : ((2 ^ a : Nat) : Int) = k := by rw [← ha1, k4]
    have hband : bits .and .i64 (k : Int) ((k : Int) - 1) = 0 := by rw [← hka]; exact two_pow_and a (by omega)
    have hm2 : nodeF (rootF (ds.take k) z) (rootF (ds.drop k) z) z = m := by rw [hm, hkk, rootF_big ds z (by omega)]
    have htl : (ds.take k).length = k := by rw [List.length_take]; omega
    have hdl : (ds.drop k).length = ds.length - k := by rw [List.length_drop]
    have hxo := rootF_ok (ds.take k) z (hu.take k)
    have hyo := rootF_ok (ds.drop k) z (hu.drop k)
    have hr2 := fun (w : World) (A : Option Addr) (c : Nat) (h : Dg w A c (ds.take k)) => root_any k w (ds.take k) A c htl h (by omega) z
    have hr3 := fun (w : World) (A : Option Addr) (c : Nat) (h : Dg w A c (ds.drop k)) => root_any (ds.length - k) w (ds.drop k) A c hdl h (by omega) z
    rw [htl] at hr2
    rw [hdl] at hr3
    obtain ⟨x, hx⟩ : ∃ x, x = rootF (ds.take k) z := ⟨_, rfl⟩
    obtain ⟨y, hy⟩ : ∃ y, y = rootF (ds.drop k) z := ⟨_, rfl⟩
    rw [← hx] at hr2 hm2 hxo
    rw [← hy] at hr3 hm2 hyo
    have HR2 := Lib.hid hr2
    have HR3 := Lib.hid hr3
    have HM2 := Lib.hid hm2
    have HXO := Lib.hid hxo
    have HYO := Lib.hid hyo
    have HSP := Lib.hid k4
    clear hkk hka ha1 ha2 ha3 hm hm2 hr2 hr3 hx hy hxo hyo k4 hu htl hdl
    go_enter Tryd.func4, Tryd.ntmps4
    go_wp2_with fail
    go_at_call 11
    refine HF1.out.mono ?_
    rintro e w1 ⟨v1, rfl, hb1, ho1⟩
    obtain ⟨A1, c1, rfl, h1, hx1⟩ := ho1.dg
    have hle := h1.le
    have HNN := Lib.hid h1.nn
    have hspot : ∀ ad, A1 = some ad → ad.spot = none := fun ad he => by
      obtain ⟨g, off, hA, _⟩ := h1.get (by omega)
      rw [hA] at he; injection he with he; rw [← he]
    have HSPOT := Lib.hid hspot
    have ht := h1.take k (by omega)
    have hdr := h1.drop k (by omega)
    obtain ⟨A2, hA2⟩ : ∃ A2 : Option Addr, A2 = (if c1 = k then A1 else A1.map (·.add (k * 32))) := ⟨_, rfl⟩
    rw [← hA2] at hdr
    have HA2 := Lib.hid hA2
    have HD := Lib.hid h1
    have HT := Lib.hid ht
    have HDR := Lib.hid hdr
    clear hA2 h1 ht hdr hspot
    go_wp2_with fail
    go_at_call 16
    refine (split_any w1 ds.length (by omega) (by omega)).mono ?_
    rw [HSP.out]
    rintro e wz ⟨rfl, rfl⟩
    go_wp2_with fail
    have hB1 := hb1.drew
    have hd1 : Below w1.heap.size w1 w1.drew := (Below.refl _ _).drew
    refine wp_region_C (Same [] w1) [2, 7, 12, 14, 17] (by kernel_rfl) (by kernel_rfl) (by intro c a w h; first | (obtain ⟨_, h, _⟩ := h; cases h; done) | (obtain ⟨_, _, h, _⟩ := h; cases h; done)) (by intro a w h; first | (obtain ⟨h, _⟩ := h; cases h; done) | (obtain ⟨_, h, _⟩ := h; cases h; done)) (Same.refl _ _) ?_
    repeat (refine wd_q (v := ?_) rfl rfl rfl rfl rfl rfl (fun w' hw' K hK => ?_) ?_; rotate_left; (skip; go_wp2; exact rfl); simp only [Act.put, List.setIfInBounds_toArray, List.set_cons_zero, List.set_cons_succ])
    refine wd_l rfl rfl (by intro a w h; first | (obtain ⟨h, _⟩ := h; cases h; done) | (obtain ⟨_, h, _⟩ := h; cases h; done)) ?_
    go_wp2_with fail
    go_at_call 12
    refine (HR1.out _ A1 c1 (HD.out.up hd1) (HK.out.below hB1 HK.out.lt)).mono ?_
    rintro e w2 ⟨rfl, hb2⟩
    have hB2 := hB1.trans (hb2.mono hB1.size)
    have hd2 := hd1.trans (hb2.mono hd1.size)
    go_wp2_with fail
    refine ⟨.inr (fun g hg => by simp at hg), ?_⟩
    repeat (refine wd_w (v := ?_) rfl rfl rfl rfl rfl rfl (fun w' hw' K hK => ?_) ?_; rotate_left; (skip; go_wp2_with ((apply st_toD (sz := 32) (i := k); exact Tryd.underlying22; kernel_rfl; rfl; rfl; rfl; omega; exact HNN.out; exact HSPOT.out)); exact rfl); simp only [Act.put, List.setIfInBounds_toArray, List.set_cons_zero, List.set_cons_succ])
    refine wd_l rfl rfl (by intro a w h; first | (obtain ⟨h, _⟩ := h; cases h; done) | (obtain ⟨_, h, _⟩ := h; cases h; done)) ?_
    go_wp2_with fail
    go_at_call 12
    refine (HR2.out _ A1 c1 (HT.out.up hd2) (HK.out.below hB2 HK.out.lt)).mono ?_
    rintro e w3 ⟨rfl, hb3⟩
    have hB3 := hB2.trans (hb3.mono hB2.size)
    have hd3 := hd2.trans (hb3.mono hd2.size)
    go_wp2_with fail
    refine ⟨.inr (fun g hg => by simp at hg), ?_⟩
    repeat (refine wd_w (v := ?_) rfl rfl rfl rfl rfl rfl (fun w' hw' K hK => ?_) ?_; rotate_left; (skip; go_wp2_with ((apply st_fromD (sz := 32) (A2 := A2) (i := k); exact Tryd.underlying22; kernel_rfl; rfl; rfl; rfl; omega; exact HA2.out)); exact rfl); simp only [Act.put, List.setIfInBounds_toArray, List.set_cons_zero, List.set_cons_succ])
    refine wd_l rfl rfl (by intro a w h; first | (obtain ⟨h, _⟩ := h; cases h; done) | (obtain ⟨_, h, _⟩ := h; cases h; done)) ?_
    go_wp2_with fail
    go_at_call 12
    refine (HR3.out _ A2 (c1 - k) (HDR.out.up hd3) (HK.out.below hB3 HK.out.lt)).mono ?_
    rintro e w4 ⟨rfl, hb4⟩
    have hB4 := hB3.trans (hb4.mono hB3.size)
    go_wp2_with fail
    refine ⟨.inr (fun g hg => by simp at hg), ?_⟩
    repeat (refine wd_q (v := ?_) rfl rfl rfl rfl rfl rfl (fun w' hw' K hK => ?_) ?_; rotate_left; (skip; go_wp2; exact rfl); simp only [Act.put, List.setIfInBounds_toArray, List.set_cons_zero, List.set_cons_succ])
    refine wd_l rfl rfl (by intro a w h; first | (obtain ⟨h, _⟩ := h; cases h; done) | (obtain ⟨_, h, _⟩ := h; cases h; done)) ?_
    go_wp2_with fail
    go_at_call 17
    have hcall := node_any w4 x y HXO.out.1 HYO.out.1 z (HK.out.below hB4 HK.out.lt)
    rw [HM2.out] at hcall; refine hcall.mono ?_; clear hcall
    rintro e w5 ⟨rfl, hb5⟩
    have hB5 := hB4.trans (hb5.mono hB4.size)
    go_wp2_with fail
    refine ⟨.inr (fun g hg => by simp at hg), ?_⟩
    have heq := HEQ.out
    repeat (refine wd_q (v := ?_) rfl rfl rfl rfl rfl rfl (fun w' hw' K hK => ?_) ?_; rotate_left; (have e1 := heq; go_wp2; exact rfl); simp only [Act.put, List.setIfInBounds_toArray, List.set_cons_zero, List.set_cons_succ])
    refine wd_lg rfl rfl (by intro a w h; first | (obtain ⟨h, _⟩ := h; cases h; done) | (obtain ⟨_, h, _⟩ := h; cases h; done)) ?_
    go_wp2_with fail
    go_at_call 15
    refine (lives_any w5 (HK.out.below hB5 HK.out.lt)).mono ?_
    rintro e w6 ⟨rfl, hb6⟩
    have hB6 := hB5.trans (hb6.mono hB5.size)
    go_wp2_with fail
    refine ⟨.inr (fun g hg => by simp at hg), ?_⟩
    refine wd_pick (b := true) (v := .bool true) rfl rfl rfl rfl rfl ?_
    simp only [Act.put, List.setIfInBounds_toArray, List.set_cons_zero, List.set_cons_succ]
    repeat (refine wd_q (v := ?_) rfl rfl rfl rfl rfl rfl (fun w' hw' K hK => ?_) ?_; rotate_left; (skip; go_wp2; exact rfl); simp only [Act.put, List.setIfInBounds_toArray, List.set_cons_zero, List.set_cons_succ])
    refine wd_nil ?_
    go_wp2_with fail
    go_ret
    exact ⟨rfl, hB6⟩
end Go.Proofs.YtipigpeccegjgaaDoor
