/- What clash.second answers. Condition: the table of layer 2 reads as its text lays it. -/
import Derived.Test.YtiogopneklmodaaDoorClG
namespace Go.Proofs.YtiogopneklmodaaDoor
open Go.RowKit

set_option maxRecDepth 100000 in
set_option maxHeartbeats 1000000 in
theorem second_whole (w : World) (old : List Int) (hol : old.length = 32) (n : Nat) (_hn : n ≤ 9223372036854775807) (A : Option Addr) (l c : Nat) (z : Int) :
    Calls Tryd.prog 46 #[.agg (nums .u8 old).toArray, .int .i64 n, .int .i64 n, .slice A l c, .int .i64 z, .bool true] w fun e w' => e = .returned (.agg (nums .u8 old).toArray) ∧ Below w.heap.size w w' := by
  have HLF := Lib.hid hol
  have hx0 := climb0_x w old
  have hr0 := climb0_r w old
  have hB := climb0_B w old
  clear hol
  go_enter Tryd.func46, Tryd.ntmps46
  go_wp2_with (first | ((with_reducible apply st_load (n := 32) (cs := nums .u8 (old)) (T := 45)); rfl; exact hx0; exact Tryd.underlying45; rfl; kernel_rfl; (rw [nums_length, HLF.out]; exact Nat.le_refl _); (exact row_all _ _ (by rw [nums_length, HLF.out]))) | ((with_reducible apply st_storeW (off := 0) (vs := nums .u8 (old)) (cs := nums .u8 (List.replicate 32 0)) (T := 45)); rfl; rfl; exact hr0; (rw [nums_length, HLF.out]; kernel_rfl); (rw [nums_length, HLF.out]; decide); exact nums_one _ _; intro w1 hd1 hw1; rw [laid_all _ _ (by rw [nums_length, HLF.out]; rfl)] at hd1))
  refine bodyPost_ret (ret_row rfl _ _ _ (nums .u8 (old)) 45 _ rfl hd1 Tryd.underlying45 rfl (by rw [nums_length, HLF.out]; kernel_rfl)) rfl ⟨rfl, Wrote.below hB hw1 (by omega)⟩

set_option maxRecDepth 100000 in
set_option maxHeartbeats 1000000 in
theorem second_one (w : World) (old : List Int) (n : Nat) (_hn : n ≤ 9223372036854775807) (p0 : List Int) (A : Option Addr) (c : Nat) (hd : Dg w A c [p0]) (z : Int) :
    Calls Tryd.prog 46 #[.agg (nums .u8 old).toArray, .int .i64 n, .int .i64 n, .slice A 1 c, .int .i64 z, .bool false] w fun e w' => e = .returned (.agg (nums .u8 p0).toArray) ∧ Below w.heap.size w w' := by
  have hp0 := (hd.u p0 (by simp)).1
  have HLF := Lib.hid hp0
  obtain ⟨g, off, rfl, hg, hcells⟩ := hd.get (by simp)
  have hc0 : ∀ j v, (nums .u8 p0)[j]? = some v → w.cell? ⟨g, off + j, none⟩ = some v := fun j v hv => by
    have := hcells 0 (by simp) j v hv
    rwa [Nat.zero_mul, Nat.add_zero] at this
  have HR0 := Lib.hid (climb0_r w old)
  have HB := Lib.hid (climb0_B w old)
  have HC0 := Lib.hid hc0
  clear hp0 hc0 hcells hd
  go_enter Tryd.func46, Tryd.ntmps46
  go_upto_region 1 with (fail)
  refine named_world ?_
  intro w0 hw0
  have hr : Blk w0 (w.heap.size + 1) (nums .u8 (List.replicate 32 0)) 45 := by rw [hw0]; exact HR0.out
  have hB : Below w.heap.size w w0 := by rw [hw0]; exact HB.out
  have hc1 : ∀ j v, (nums .u8 p0)[j]? = some v → w0.cell? ⟨g, off + j, none⟩ = some v := fun j v hv => (hB.cell (p := ⟨g, off + j, none⟩) hg).trans (HC0.out j v hv)
  clear hw0
  go_wp2_with (first | ((with_reducible apply st_loadCells (cs := nums .u8 p0)); rfl; exact hc1; exact Tryd.underlying45; rfl; (rw [nums_length, HLF.out]; kernel_rfl)) | ((with_reducible apply st_storeW (off := 0) (vs := nums .u8 (p0)) (cs := nums .u8 (List.replicate 32 0)) (T := 45)); rfl; rfl; exact hr; (rw [nums_length, HLF.out]; kernel_rfl); (rw [nums_length, HLF.out]; decide); exact nums_one _ _; intro w1 hd1 hw1; rw [laid_all _ _ (by rw [nums_length, HLF.out]; rfl)] at hd1))
  refine bodyPost_ret (ret_row rfl _ _ _ (nums .u8 (p0)) 45 _ rfl hd1 Tryd.underlying45 rfl (by rw [nums_length, HLF.out]; kernel_rfl)) rfl ⟨rfl, Wrote.below hB hw1 (by omega)⟩

set_option maxRecDepth 100000 in
set_option maxHeartbeats 8000000 in
theorem second_any (n : Nat) : ∀ (w : World) (old : List Int) (m : Nat) (ps : List (List Int)) (A : Option Addr) (c : Nat) (whole : Bool), old.length = 32 → U8 old → Dg w A c ps → ps.length ≤ 1000 → ∀ (z : Int), 1 ≤ m → m ≤ n → n ≤ 9223372036854775807 → ps.length = needF whole (gstepsF m n) → KV w →
    Calls Tryd.prog 46 #[.agg (nums .u8 old).toArray, .int .i64 m, .int .i64 n, .slice A ps.length c, .int .i64 z, .bool whole] w fun e w' => e = .returned (.agg (nums .u8 (secF old m n ps whole z)).toArray) ∧ Below w.heap.size w w' := by
  induction n using Nat.strongRecOn with
  | ind n ih =>
    intro w old m ps A c whole hol uol hd hl z h1 hmn hmax hs hk
    by_cases hn : m = n
    · subst hn
      have hgs := gstepsF_small m m (.inl (Nat.le_refl _))
      rw [hgs] at hs
      cases whole with
      | true =>
        have : secF old m m ps true z = old := by unfold secF; rw [hgs, List.eq_nil_of_length_eq_zero hs]; rfl
        rw [this]
        exact second_whole w old hol m hmax A ps.length c z
      | false =>
        obtain ⟨p0, rfl⟩ := List.length_eq_one_iff.1 (show ps.length = 1 from hs)
        have : secF old m m [p0] false z = p0 := by unfold secF; rw [hgs]; rfl
        rw [this]
        exact second_one w old m hmax p0 A c hd z
    · have hlt : m < n := by omega
      have hks := kF_spec n (by omega)
      have hp0 : ¬ ps.length = 0 := by
        rw [hs]
        by_cases h : m ≤ kF n
        · rw [gstepsF_left m n (by omega) h, needF_cons]; omega
        · rw [gstepsF_right m n (by omega) h, needF_cons]; omega
      have HK := Lib.hid hk
      have HLF := Lib.hid hol
      obtain ⟨rest, last, q, g, off, hps, hq, hqq, rfl, hg, hll, hlu, hc0, htk, hle⟩ := hd.snoc hp0
      have hHx := Lib.hid (climb0_x w old)
      have hHr := Lib.hid (climb0_r w old)
      have hHB := Lib.hid (climb0_B w old)
      have hq1 : q ≤ 1000 := by omega
      by_cases hik : m ≤ kF n
      · have hs2 : rest.length = needF whole (gstepsF m (kF n)) := by rw [gstepsF_left m n (by omega) hik, needF_cons] at hs; simp at hs; omega
        have hc1 := fun (w : World) (h : Dg w (some ⟨g, off, none⟩) c rest) => ih (kF n) (by omega) w old m rest (some ⟨g, off, none⟩) c whole hol uol h (by omega) z h1 hik (by omega) hs2
        rw [← hqq] at hc1
        have hok := secF_ok (kF n) old m rest whole z ⟨hol, uol⟩ htk.u h1 hik hs2
        have hfin : secF old m n ps whole z = nodeF (secF old m (kF n) rest whole z) last z := by rw [hps]; unfold secF; rw [bothF_left h1 hlt hik hs2]
        obtain ⟨d, hdd⟩ : ∃ d, d = secF old m (kF n) rest whole z := ⟨_, rfl⟩
        rw [← hdd] at hc1 hok hfin
        obtain ⟨mm, hm⟩ : ∃ mm, mm = nodeF d last z := ⟨_, rfl⟩
        have hml : mm.length = 32 := by rw [hm]; exact nodeF_len _ _ _
        have hcall := fun (w : World) => node_any w d last hok.1 hll z
        rw [← hm] at hcall hfin
        rw [hfin, hq]
        obtain ⟨k, hkk⟩ : ∃ k, k = kF n := ⟨_, rfl⟩
        rw [← hkk] at hks hik hc1
        obtain ⟨k1, k2, k3, k4⟩ := hks
        have HC1 := Lib.hid hc1
        have HDL := Lib.hid hok.1
        have HML := Lib.hid hml
        have HCALL := Lib.hid hcall
        have HC0 := Lib.hid hc0
        have HLL := Lib.hid hll
        have HTK := Lib.hid htk
        have HSP := Lib.hid k4
        clear ih hk hkk hc1 hd hl hp0 hps hq hqq hll hlu hc0 htk k4 hs hs2 hok hml hm hcall hfin hdd hol
        go_enter Tryd.func46, Tryd.ntmps46
        go_wp2_with fail
        refine named_world ?_
        intro w0 hw0
        have hx : Blk w0 w.heap.size (nums .u8 old) 45 := by rw [hw0]; exact hHx.out
        have hr : Blk w0 (w.heap.size + 1) (nums .u8 (List.replicate 32 0)) 45 := by rw [hw0]; exact hHr.out
        have hB : Below w.heap.size w w0 := by rw [hw0]; exact hHB.out
        clear hw0
        have hgw := Nat.lt_of_lt_of_le hg hB.size
        refine wp_region_CF (Same [g] w0) [13, 14] [15, 16] (by kernel_rfl) (by kernel_rfl) (by intro c a w h; first | (obtain ⟨_, h, _⟩ := h; cases h; done) | (obtain ⟨_, _, h, _⟩ := h; cases h; done) | (obtain ⟨_, _, _, h, _⟩ := h; cases h; done) | (obtain ⟨_, _, _, _, h, _⟩ := h; cases h; done) | (rcases h with ⟨_, ⟨_, _, _, _, h, _⟩ | ⟨_, _, _, _, h, _⟩⟩ <;> cases h; done)) (by intro a w h; first | (obtain ⟨h, _⟩ := h; cases h; done) | (obtain ⟨_, h, _⟩ := h; cases h; done) | (obtain ⟨_, _, h, _⟩ := h; cases h; done) | (obtain ⟨_, _, _, h, _⟩ := h; cases h; done) | (rcases h with ⟨_, _, _, _, h, _⟩ | ⟨_, _, _, _, h, _⟩ <;> cases h; done)) (Same.refl _ _) ?_
        repeat (refine wd_w (v := ?_) rfl rfl rfl rfl rfl rfl (fun w' hw' K hK => ?_) ?_; rotate_left; (have e1 : ∀ j v, (nums .u8 last)[j]? = some v → w'.cell? ⟨g, off + q * 32 + j, none⟩ = some v := fun j v hv => (hw'.cell g (by simp) _).trans ((hB.cell (p := ⟨g, off + q * 32 + j, none⟩) hg).trans (HC0.out j v hv)); go_wp2_with ((first | ((with_reducible apply st_loadCells (cs := nums .u8 (last))); rfl; exact e1; exact Tryd.underlying45; rfl; (rw [nums_length, HLL.out]; kernel_rfl)) | ((with_reducible apply st_toD (sz := 32) (i := q)); exact Tryd.underlying30; kernel_rfl; rfl; rfl; rfl; omega; exact nn_some; exact spot_none))); exact rfl); simp only [Act.put, List.setIfInBounds_toArray, List.set_cons_zero, List.set_cons_succ])
        --MARKA
        refine wd_qc (v := .int .i64 k) (f := 38) (args := #[.int .i64 n]) rfl rfl (by kernel_rfl) (fun W => by go_simp) (fun W => by have hcall := split_any W n (by omega) (by omega); rw [HSP.out] at hcall; exact hcall) ?_
        simp only [Act.put, List.setIfInBounds_toArray, List.set_cons_zero, List.set_cons_succ]
        --MARKB
        refine wd_l rfl rfl (by intro a w h; first | (obtain ⟨h, _⟩ := h; cases h; done) | (obtain ⟨_, h, _⟩ := h; cases h; done) | (obtain ⟨_, _, h, _⟩ := h; cases h; done) | (obtain ⟨_, _, _, h, _⟩ := h; cases h; done) | (rcases h with ⟨_, _, _, _, h, _⟩ | ⟨_, _, _, _, h, _⟩ <;> cases h; done)) ?_
        go_wp2
        refine ⟨.inr ((Same.refl _ _).drewR.alloc (by simp; omega) _), ?_⟩
        refine wd_l rfl rfl (by intro a w h; first | (obtain ⟨h, _⟩ := h; cases h; done) | (obtain ⟨_, h, _⟩ := h; cases h; done) | (obtain ⟨_, _, h, _⟩ := h; cases h; done) | (obtain ⟨_, _, _, h, _⟩ := h; cases h; done) | (rcases h with ⟨_, _, _, _, h, _⟩ | ⟨_, _, _, _, h, _⟩ <;> cases h; done)) ?_
        have hl0 : Blk (w0.drew.alloc (.cells (nums .u8 (List.replicate 32 0)).toArray 45)) w0.heap.size (nums .u8 (List.replicate 32 0)) 45 := Blk.new' _ _ _ _ _ rfl rfl
        go_wp2_with ((with_reducible apply st_storeW (off := 0) (vs := nums .u8 (last)) (cs := nums .u8 (List.replicate 32 0)) (T := 45)); rfl; rfl; exact hl0; (rw [nums_length, HLL.out]; kernel_rfl); (rw [nums_length, HLL.out]; decide); exact nums_one _ _; intro w2 hd2 hw2; rw [laid_all _ _ (by rw [nums_length, HLL.out]; rfl)] at hd2)
        refine ⟨.inr (((Same.refl _ _).drewR.alloc (by simp; omega) _).wrote hw2 (by simp; omega)), ?_⟩
        --MARKC
        refine wd_assign (v := .slice (some ⟨g, off, none⟩) q c) rfl rfl rfl rfl ?_
        simp only [Act.put, List.setIfInBounds_toArray, List.set_cons_zero, List.set_cons_succ]
        refine wd_assign (v := .int .i64 k) rfl rfl rfl rfl ?_
        refine wd_nil ?_
        simp only [Act.put, List.setIfInBounds_toArray, List.set_cons_zero, List.set_cons_succ]
        have hB := Wrote.below ((hB.drew).alloc hB.size _) hw2 hB.size
        have hx := hw2.blk (hx.drew.alloc _) (by have := hx.lt; omega)
        have hr := hw2.blk (hr.drew.alloc _) (by have := hr.lt; omega)
        have hxl := hx.lt
        have hrl := hr.lt
        have hdl := hd2.lt
        clear hl0
        go_wp2_with fail
        --MARKD
        refine wp_region_C (Same [w.heap.size, w0.heap.size] w2) [6, 9, 10] (by kernel_rfl) (by kernel_rfl) (by intro c a w h; first | (obtain ⟨_, h, _⟩ := h; cases h; done) | (obtain ⟨_, _, h, _⟩ := h; cases h; done) | (obtain ⟨_, _, _, h, _⟩ := h; cases h; done) | (obtain ⟨_, _, _, _, h, _⟩ := h; cases h; done) | (rcases h with ⟨_, ⟨_, _, _, _, h, _⟩ | ⟨_, _, _, _, h, _⟩⟩ <;> cases h; done)) (by intro a w h; first | (obtain ⟨h, _⟩ := h; cases h; done) | (obtain ⟨_, h, _⟩ := h; cases h; done) | (obtain ⟨_, _, h, _⟩ := h; cases h; done) | (obtain ⟨_, _, _, h, _⟩ := h; cases h; done) | (rcases h with ⟨_, _, _, _, h, _⟩ | ⟨_, _, _, _, h, _⟩ <;> cases h; done)) (Same.refl _ _) ?_
        repeat (refine wd_w (v := ?_) rfl rfl rfl rfl rfl rfl (fun w' hw' K hK => ?_) ?_; rotate_left; (have e1 := hw'.blk hx (by simp); go_wp2_with (((with_reducible apply st_load (n := 32) (cs := nums .u8 (old)) (T := 45)); rfl; exact e1; exact Tryd.underlying45; rfl; kernel_rfl; (rw [nums_length, HLF.out]; exact Nat.le_refl _); (exact row_all _ _ (by rw [nums_length, HLF.out])))); exact rfl); simp only [Act.put, List.setIfInBounds_toArray, List.set_cons_zero, List.set_cons_succ])
        refine wd_l rfl rfl (by intro a w h; first | (obtain ⟨h, _⟩ := h; cases h; done) | (obtain ⟨_, h, _⟩ := h; cases h; done) | (obtain ⟨_, _, h, _⟩ := h; cases h; done) | (obtain ⟨_, _, _, h, _⟩ := h; cases h; done) | (rcases h with ⟨_, _, _, _, h, _⟩ | ⟨_, _, _, _, h, _⟩ <;> cases h; done)) ?_
        go_wp2_with fail
        go_at_call 46
        refine (HC1.out _ (HTK.out.up hB.drew) (HK.out.below hB.drew HK.out.lt)).mono ?_
        rintro e w3 ⟨rfl, hb⟩
        have hb3 : Below w2.heap.size w2 w3 := (Below.refl _ _).drew.trans (hb.mono (Nat.le_refl _))
        have hB3 := hB.trans (hb3.mono hB.size)
        have hr3 := hr.up hb3
        have hs3 : Same [w.heap.size, w0.heap.size] w2 w3 := fun gg hg => hb3.block gg (by simp at hg; omega)
        go_wp2_with fail
        refine ⟨.inr hs3, ?_⟩
        repeat (refine wd_w (v := ?_) rfl rfl rfl rfl rfl rfl (fun w' hw' K hK => ?_) ?_; rotate_left; (have e1 := hw'.blk hd2 (by simp); go_wp2_with (((with_reducible apply st_load (n := 32) (cs := nums .u8 (last)) (T := 45)); rfl; exact e1; exact Tryd.underlying45; rfl; kernel_rfl; (rw [nums_length, HLL.out]; exact Nat.le_refl _); (exact row_all _ _ (by rw [nums_length, HLL.out])))); exact rfl); simp only [Act.put, List.setIfInBounds_toArray, List.set_cons_zero, List.set_cons_succ])
        refine wd_l rfl rfl (by intro a w h; first | (obtain ⟨h, _⟩ := h; cases h; done) | (obtain ⟨_, h, _⟩ := h; cases h; done) | (obtain ⟨_, _, h, _⟩ := h; cases h; done) | (obtain ⟨_, _, _, h, _⟩ := h; cases h; done) | (rcases h with ⟨_, _, _, _, h, _⟩ | ⟨_, _, _, _, h, _⟩ <;> cases h; done)) ?_
        go_wp2_with fail
        go_at_call 58
        refine (HCALL.out _ (HK.out.below hB3 HK.out.lt)).mono ?_
        rintro e w5 ⟨rfl, hb5⟩
        have hB5 := hB3.trans (hb5.mono hB3.size)
        have hr5 := hr3.up hb5
        go_wp2_with fail
        have z3 := hb3.size
        refine ⟨.inr (fun gg hg => (hb5.block gg (by simp at hg; omega)).trans (hs3 gg hg)), ?_⟩
        repeat (refine wd_q (v := ?_) rfl rfl rfl rfl rfl rfl (fun w' hw' K hK => ?_) ?_; rotate_left; (skip; go_wp2; exact rfl); simp only [Act.put, List.setIfInBounds_toArray, List.set_cons_zero, List.set_cons_succ])
        refine wd_last rfl (by kernel_rfl) rfl (by intro a w h; first | (obtain ⟨h, _⟩ := h; cases h; done) | (obtain ⟨_, h, _⟩ := h; cases h; done) | (obtain ⟨_, _, h, _⟩ := h; cases h; done) | (obtain ⟨_, _, _, h, _⟩ := h; cases h; done) | (rcases h with ⟨_, _, _, _, h, _⟩ | ⟨_, _, _, _, h, _⟩ <;> cases h; done)) ?_
        go_wp2_with ((with_reducible apply st_storeW (off := 0) (vs := nums .u8 (mm)) (cs := nums .u8 (List.replicate 32 0)) (T := 45)); rfl; rfl; exact hr5; (rw [nums_length, HML.out]; kernel_rfl); (rw [nums_length, HML.out]; decide); exact nums_one _ _; intro w6 hd6 hw6; rw [laid_all _ _ (by rw [nums_length, HML.out]; rfl)] at hd6)
        refine bodyPost_ret (ret_row rfl _ _ _ (nums .u8 (mm)) 45 _ rfl hd6 Tryd.underlying45 rfl (by rw [nums_length, HML.out]; kernel_rfl)) rfl ⟨rfl, Wrote.below hB5 hw6 (by omega)⟩
      · have hs2 : rest.length = needF false (gstepsF (m - kF n) (n - kF n)) := by rw [gstepsF_right m n (by omega) hik, needF_cons] at hs; simp at hs; omega
        have hc1 := fun (w : World) (h : Dg w (some ⟨g, off, none⟩) c rest) => ih (n - kF n) (by omega) w old (m - kF n) rest (some ⟨g, off, none⟩) c false hol uol h (by omega) z (by omega) (by omega) (by omega) hs2
        rw [show ((n - kF n : Nat) : Int) = (n : Int) - (kF n : Int) by omega, show ((m - kF n : Nat) : Int) = (m : Int) - (kF n : Int) by omega] at hc1
        rw [← hqq] at hc1
        have hok := secF_ok (n - kF n) old (m - kF n) rest false z ⟨hol, uol⟩ htk.u (by omega) (by omega) hs2
        have hfin : secF old m n ps whole z = nodeF last (secF old (m - kF n) (n - kF n) rest false z) z := by rw [hps]; unfold secF; rw [bothF_right h1 hlt hik hs2]
        obtain ⟨d, hdd⟩ : ∃ d, d = secF old (m - kF n) (n - kF n) rest false z := ⟨_, rfl⟩
        rw [← hdd] at hc1 hok hfin
        obtain ⟨mm, hm⟩ : ∃ mm, mm = nodeF last d z := ⟨_, rfl⟩
        have hml : mm.length = 32 := by rw [hm]; exact nodeF_len _ _ _
        have hcall := fun (w : World) => node_any w last d hll hok.1 z
        rw [← hm] at hcall hfin
        rw [hfin, hq]
        obtain ⟨k, hkk⟩ : ∃ k, k = kF n := ⟨_, rfl⟩
        rw [← hkk] at hks hik hc1
        obtain ⟨k1, k2, k3, k4⟩ := hks
        have HC1 := Lib.hid hc1
        have HDL := Lib.hid hok.1
        have HML := Lib.hid hml
        have HCALL := Lib.hid hcall
        have HC0 := Lib.hid hc0
        have HLL := Lib.hid hll
        have HTK := Lib.hid htk
        have HSP := Lib.hid k4
        clear ih hk hkk hc1 hd hl hp0 hps hq hqq hll hlu hc0 htk k4 hs hs2 hok hml hm hcall hfin hdd hol
        go_enter Tryd.func46, Tryd.ntmps46
        go_wp2_with fail
        refine named_world ?_
        intro w0 hw0
        have hx : Blk w0 w.heap.size (nums .u8 old) 45 := by rw [hw0]; exact hHx.out
        have hr : Blk w0 (w.heap.size + 1) (nums .u8 (List.replicate 32 0)) 45 := by rw [hw0]; exact hHr.out
        have hB : Below w.heap.size w w0 := by rw [hw0]; exact hHB.out
        clear hw0
        have hgw := Nat.lt_of_lt_of_le hg hB.size
        refine wp_region_CF (Same [g] w0) [13, 14] [15, 16] (by kernel_rfl) (by kernel_rfl) (by intro c a w h; first | (obtain ⟨_, h, _⟩ := h; cases h; done) | (obtain ⟨_, _, h, _⟩ := h; cases h; done) | (obtain ⟨_, _, _, h, _⟩ := h; cases h; done) | (obtain ⟨_, _, _, _, h, _⟩ := h; cases h; done) | (rcases h with ⟨_, ⟨_, _, _, _, h, _⟩ | ⟨_, _, _, _, h, _⟩⟩ <;> cases h; done)) (by intro a w h; first | (obtain ⟨h, _⟩ := h; cases h; done) | (obtain ⟨_, h, _⟩ := h; cases h; done) | (obtain ⟨_, _, h, _⟩ := h; cases h; done) | (obtain ⟨_, _, _, h, _⟩ := h; cases h; done) | (rcases h with ⟨_, _, _, _, h, _⟩ | ⟨_, _, _, _, h, _⟩ <;> cases h; done)) (Same.refl _ _) ?_
        repeat (refine wd_w (v := ?_) rfl rfl rfl rfl rfl rfl (fun w' hw' K hK => ?_) ?_; rotate_left; (have e1 : ∀ j v, (nums .u8 last)[j]? = some v → w'.cell? ⟨g, off + q * 32 + j, none⟩ = some v := fun j v hv => (hw'.cell g (by simp) _).trans ((hB.cell (p := ⟨g, off + q * 32 + j, none⟩) hg).trans (HC0.out j v hv)); go_wp2_with ((first | ((with_reducible apply st_loadCells (cs := nums .u8 (last))); rfl; exact e1; exact Tryd.underlying45; rfl; (rw [nums_length, HLL.out]; kernel_rfl)) | ((with_reducible apply st_toD (sz := 32) (i := q)); exact Tryd.underlying30; kernel_rfl; rfl; rfl; rfl; omega; exact nn_some; exact spot_none))); exact rfl); simp only [Act.put, List.setIfInBounds_toArray, List.set_cons_zero, List.set_cons_succ])
        --MARKA
        refine wd_qc (v := .int .i64 k) (f := 38) (args := #[.int .i64 n]) rfl rfl (by kernel_rfl) (fun W => by go_simp) (fun W => by have hcall := split_any W n (by omega) (by omega); rw [HSP.out] at hcall; exact hcall) ?_
        simp only [Act.put, List.setIfInBounds_toArray, List.set_cons_zero, List.set_cons_succ]
        --MARKB
        refine wd_l rfl rfl (by intro a w h; first | (obtain ⟨h, _⟩ := h; cases h; done) | (obtain ⟨_, h, _⟩ := h; cases h; done) | (obtain ⟨_, _, h, _⟩ := h; cases h; done) | (obtain ⟨_, _, _, h, _⟩ := h; cases h; done) | (rcases h with ⟨_, _, _, _, h, _⟩ | ⟨_, _, _, _, h, _⟩ <;> cases h; done)) ?_
        go_wp2
        refine ⟨.inr ((Same.refl _ _).drewR.alloc (by simp; omega) _), ?_⟩
        refine wd_l rfl rfl (by intro a w h; first | (obtain ⟨h, _⟩ := h; cases h; done) | (obtain ⟨_, h, _⟩ := h; cases h; done) | (obtain ⟨_, _, h, _⟩ := h; cases h; done) | (obtain ⟨_, _, _, h, _⟩ := h; cases h; done) | (rcases h with ⟨_, _, _, _, h, _⟩ | ⟨_, _, _, _, h, _⟩ <;> cases h; done)) ?_
        have hl0 : Blk (w0.drew.alloc (.cells (nums .u8 (List.replicate 32 0)).toArray 45)) w0.heap.size (nums .u8 (List.replicate 32 0)) 45 := Blk.new' _ _ _ _ _ rfl rfl
        go_wp2_with ((with_reducible apply st_storeW (off := 0) (vs := nums .u8 (last)) (cs := nums .u8 (List.replicate 32 0)) (T := 45)); rfl; rfl; exact hl0; (rw [nums_length, HLL.out]; kernel_rfl); (rw [nums_length, HLL.out]; decide); exact nums_one _ _; intro w2 hd2 hw2; rw [laid_all _ _ (by rw [nums_length, HLL.out]; rfl)] at hd2)
        refine ⟨.inr (((Same.refl _ _).drewR.alloc (by simp; omega) _).wrote hw2 (by simp; omega)), ?_⟩
        --MARKC
        refine wd_assign (v := .slice (some ⟨g, off, none⟩) q c) rfl rfl rfl rfl ?_
        simp only [Act.put, List.setIfInBounds_toArray, List.set_cons_zero, List.set_cons_succ]
        refine wd_assign (v := .int .i64 k) rfl rfl rfl rfl ?_
        refine wd_nil ?_
        simp only [Act.put, List.setIfInBounds_toArray, List.set_cons_zero, List.set_cons_succ]
        have hB := Wrote.below ((hB.drew).alloc hB.size _) hw2 hB.size
        have hx := hw2.blk (hx.drew.alloc _) (by have := hx.lt; omega)
        have hr := hw2.blk (hr.drew.alloc _) (by have := hr.lt; omega)
        have hxl := hx.lt
        have hrl := hr.lt
        have hdl := hd2.lt
        clear hl0
        go_wp2_with fail
        refine wp_region_C (Same [w.heap.size, w0.heap.size] w2) [10, 12, 13] (by kernel_rfl) (by kernel_rfl) (by intro c a w h; first | (obtain ⟨_, h, _⟩ := h; cases h; done) | (obtain ⟨_, _, h, _⟩ := h; cases h; done) | (obtain ⟨_, _, _, h, _⟩ := h; cases h; done) | (obtain ⟨_, _, _, _, h, _⟩ := h; cases h; done) | (rcases h with ⟨_, ⟨_, _, _, _, h, _⟩ | ⟨_, _, _, _, h, _⟩⟩ <;> cases h; done)) (by intro a w h; first | (obtain ⟨h, _⟩ := h; cases h; done) | (obtain ⟨_, h, _⟩ := h; cases h; done) | (obtain ⟨_, _, h, _⟩ := h; cases h; done) | (obtain ⟨_, _, _, h, _⟩ := h; cases h; done) | (rcases h with ⟨_, _, _, _, h, _⟩ | ⟨_, _, _, _, h, _⟩ <;> cases h; done)) (Same.refl _ _) ?_
        repeat (refine wd_w (v := ?_) rfl rfl rfl rfl rfl rfl (fun w' hw' K hK => ?_) ?_; rotate_left; (have e1 := hw'.blk hx (by simp); have e2 := hw'.blk hd2 (by simp); go_wp2_with ((first | ((with_reducible apply st_load (n := 32) (cs := nums .u8 (old)) (T := 45)); rfl; exact e1; exact Tryd.underlying45; rfl; kernel_rfl; (rw [nums_length, HLF.out]; exact Nat.le_refl _); (exact row_all _ _ (by rw [nums_length, HLF.out]))) | ((with_reducible apply st_load (n := 32) (cs := nums .u8 (last)) (T := 45)); rfl; exact e2; exact Tryd.underlying45; rfl; kernel_rfl; (rw [nums_length, HLL.out]; exact Nat.le_refl _); (exact row_all _ _ (by rw [nums_length, HLL.out]))))); exact rfl); simp only [Act.put, List.setIfInBounds_toArray, List.set_cons_zero, List.set_cons_succ])
        refine wd_l rfl rfl (by intro a w h; first | (obtain ⟨h, _⟩ := h; cases h; done) | (obtain ⟨_, h, _⟩ := h; cases h; done) | (obtain ⟨_, _, h, _⟩ := h; cases h; done) | (obtain ⟨_, _, _, h, _⟩ := h; cases h; done) | (rcases h with ⟨_, _, _, _, h, _⟩ | ⟨_, _, _, _, h, _⟩ <;> cases h; done)) ?_
        go_wp2_with fail
        go_at_call 46
        refine (HC1.out _ (HTK.out.up hB.drew) (HK.out.below hB.drew HK.out.lt)).mono ?_
        rintro e w3 ⟨rfl, hb⟩
        have hb3 : Below w2.heap.size w2 w3 := (Below.refl _ _).drew.trans (hb.mono (Nat.le_refl _))
        have hB3 := hB.trans (hb3.mono hB.size)
        have hr3 := hr.up hb3
        have hs3 : Same [w.heap.size, w0.heap.size] w2 w3 := fun gg hg => hb3.block gg (by simp at hg; omega)
        go_wp2_with fail
        refine ⟨.inr hs3, ?_⟩
        repeat (refine wd_q (v := ?_) rfl rfl rfl rfl rfl rfl (fun w' hw' K hK => ?_) ?_; rotate_left; (skip; go_wp2; exact rfl); simp only [Act.put, List.setIfInBounds_toArray, List.set_cons_zero, List.set_cons_succ])
        refine wd_l rfl rfl (by intro a w h; first | (obtain ⟨h, _⟩ := h; cases h; done) | (obtain ⟨_, h, _⟩ := h; cases h; done) | (obtain ⟨_, _, h, _⟩ := h; cases h; done) | (obtain ⟨_, _, _, h, _⟩ := h; cases h; done) | (rcases h with ⟨_, _, _, _, h, _⟩ | ⟨_, _, _, _, h, _⟩ <;> cases h; done)) ?_
        go_wp2_with fail
        go_at_call 58
        refine (HCALL.out _ (HK.out.below hB3 HK.out.lt)).mono ?_
        rintro e w5 ⟨rfl, hb5⟩
        have hB5 := hB3.trans (hb5.mono hB3.size)
        have hr5 := hr3.up hb5
        go_wp2_with fail
        have z3 := hb3.size
        refine ⟨.inr (fun gg hg => (hb5.block gg (by simp at hg; omega)).trans (hs3 gg hg)), ?_⟩
        repeat (refine wd_q (v := ?_) rfl rfl rfl rfl rfl rfl (fun w' hw' K hK => ?_) ?_; rotate_left; (skip; go_wp2; exact rfl); simp only [Act.put, List.setIfInBounds_toArray, List.set_cons_zero, List.set_cons_succ])
        refine wd_last rfl (by kernel_rfl) rfl (by intro a w h; first | (obtain ⟨h, _⟩ := h; cases h; done) | (obtain ⟨_, h, _⟩ := h; cases h; done) | (obtain ⟨_, _, h, _⟩ := h; cases h; done) | (obtain ⟨_, _, _, h, _⟩ := h; cases h; done) | (rcases h with ⟨_, _, _, _, h, _⟩ | ⟨_, _, _, _, h, _⟩ <;> cases h; done)) ?_
        go_wp2_with ((with_reducible apply st_storeW (off := 0) (vs := nums .u8 (mm)) (cs := nums .u8 (List.replicate 32 0)) (T := 45)); rfl; rfl; exact hr5; (rw [nums_length, HML.out]; kernel_rfl); (rw [nums_length, HML.out]; decide); exact nums_one _ _; intro w6 hd6 hw6; rw [laid_all _ _ (by rw [nums_length, HML.out]; rfl)] at hd6)
        refine bodyPost_ret (ret_row rfl _ _ _ (nums .u8 (mm)) 45 _ rfl hd6 Tryd.underlying45 rfl (by rw [nums_length, HML.out]; kernel_rfl)) rfl ⟨rfl, Wrote.below hB5 hw6 (by omega)⟩

end Go.Proofs.YtiogopneklmodaaDoor
