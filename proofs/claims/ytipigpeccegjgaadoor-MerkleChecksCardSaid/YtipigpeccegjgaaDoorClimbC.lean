/- What merkle.climb answers. Condition: the table of layer 2 reads as its text lays it. -/
import Derived.Test.YtipigpeccegjgaaDoorClimb
namespace Go.Proofs.YtipigpeccegjgaaDoor
open Go.RowKit

theorem Dg.snoc {w : World} {A : Option Addr} {c : Nat} {ps : List (List Int)} (hd : Dg w A c ps) (hp0 : ¬ ps.length = 0) : ∃ (rest : List (List Int)) (last : List Int) (q g off : Nat), ps = rest ++ [last] ∧ ps.length = q + 1 ∧ q = rest.length ∧ A = some ⟨g, off, none⟩ ∧ g < w.heap.size ∧ last.length = 32 ∧ U8 last ∧
    (∀ j v, (nums .u8 last)[j]? = some v → w.cell? ⟨g, off + q * 32 + j, none⟩ = some v) ∧ Dg w (some ⟨g, off, none⟩) c rest ∧ q + 1 ≤ c := by
  obtain ⟨rest, last, hps⟩ : ∃ rest last, ps = rest ++ [last] := ⟨ps.dropLast, ps.getLast (by intro e; rw [e] at hp0; exact hp0 rfl), (List.dropLast_concat_getLast _).symm⟩
  have hq : ps.length = rest.length + 1 := by rw [hps]; simp
  have hlast := hd.u.at rest.length (by omega)
  have hlc : ps[rest.length]'(by omega) = last := by simp [hps]
  rw [hlc] at hlast
  have hle := hd.le
  obtain ⟨g, off, rfl, hg, hcells⟩ := hd.get (by omega)
  have hc0 : ∀ j v, (nums .u8 last)[j]? = some v → w.cell? ⟨g, off + rest.length * 32 + j, none⟩ = some v := fun j v hv => hcells rest.length (by omega) j v (by rw [hlc]; exact hv)
  have htk := hd.take rest.length (by omega)
  have htr : ps.take rest.length = rest := by rw [hps]; simp
  rw [htr] at htk
  exact ⟨rest, last, rest.length, g, off, hps, hq, rfl, rfl, hg, hlast.1, hlast.2, hc0, htk, by omega⟩

set_option maxHeartbeats 4000000 in
theorem climb_any (n : Nat) : ∀ (w : World) (i : Int) (leaf : List Int) (ps : List (List Int)) (A : Option Addr) (c : Nat), leaf.length = 32 → U8 leaf → Dg w A c ps → ps.length ≤ 1000 → ∀ (z : Int), 1 ≤ n → n ≤ 9223372036854775807 → 0 ≤ i → i < n → KV w →
    Calls Tryd.prog 43 #[.int .i64 n, .int .i64 i, .agg (nums .u8 leaf).toArray, .slice A ps.length c, .int .i64 z] w (GivesC n i leaf ps z w) := by
  induction n using Nat.strongRecOn with
  | ind n ih =>
    intro w i leaf ps A c hlf ulf hd hl z h1 hmax hi0 hi hk
    by_cases hn : n = 1
    · subst hn
      exact climb_one w i leaf ps A c hlf ulf z
    · by_cases hp0 : ps.length = 0
      · obtain rfl := List.eq_nil_of_length_eq_zero hp0
        exact climb_nil n w i leaf A c z (by omega) hmax
      · have HK := Lib.hid hk
        have HLF := Lib.hid hlf
        obtain ⟨rest, last, q, g, off, hps, hq, hqq, rfl, hg, hll, hlu, hc0, htk, hle⟩ := hd.snoc hp0
        have hks := kF_spec n (by omega)
        have hcl := fun d b => @climb_left n i z leaf d last rest b (by omega)
        have hcr := fun d b => @climb_right n i z leaf d last rest b (by omega)
        obtain ⟨k, hkk⟩ : ∃ k, k = kF n := ⟨_, rfl⟩
        rw [← hkk] at hks hcl hcr
        obtain ⟨k1, k2, k3, k4⟩ := hks
        rw [hq]
        rw [← hps] at hcl hcr
        have HC0 := Lib.hid hc0
        have HLL := Lib.hid hll
        have HLU := Lib.hid hlu
        have HTK := Lib.hid htk
        have HSP := Lib.hid k4
        have HCL := Lib.hid hcl
        have HCR := Lib.hid hcr
        have HQ := Lib.hid hqq
        have hq1 : q ≤ 1000 := by omega
        have hHx := Lib.hid (climb0_x w leaf)
        have hHr := Lib.hid (climb0_r w leaf)
        have hHB := Lib.hid (climb0_B w leaf)
        by_cases hik : i < k
        · have hc1 := fun (w : World) (h : Dg w (some ⟨g, off, none⟩) c rest) => ih k (by omega) w i leaf rest (some ⟨g, off, none⟩) c hlf ulf h (by omega) z (by omega) (by omega) hi0 hik
          rw [← hqq] at hc1
          have HC1 := Lib.hid hc1
          clear ih hk hkk hc1 hd hl hp0 hps hq hqq hll hlu hc0 htk hcl hcr k4
          go_enter Tryd.func43, Tryd.ntmps43
          go_wp2_with fail
          refine named_world ?_
          intro w0 hw0
          have hx : Blk w0 w.heap.size (nums .u8 leaf) 25 := by rw [hw0]; exact hHx.out
          have hr : Blk w0 (w.heap.size + 1) (nums .u8 (List.replicate 32 0)) 25 := by rw [hw0]; exact hHr.out
          have hB : Below w.heap.size w w0 := by rw [hw0]; exact hHB.out
          clear hw0
          have hgw := Nat.lt_of_lt_of_le hg hB.size
          refine wp_region_CF (Same [g] w0) [11, 12] [13] (by kernel_rfl) (by kernel_rfl) (by intro c a w h; first | (obtain ⟨_, h, _⟩ := h; cases h; done) | (obtain ⟨_, _, h, _⟩ := h; cases h; done) | (obtain ⟨_, _, _, h, _⟩ := h; cases h; done) | (obtain ⟨_, _, _, _, h, _⟩ := h; cases h; done)) (by intro a w h; first | (obtain ⟨h, _⟩ := h; cases h; done) | (obtain ⟨_, h, _⟩ := h; cases h; done) | (obtain ⟨_, _, h, _⟩ := h; cases h; done) | (obtain ⟨_, _, _, h, _⟩ := h; cases h; done)) (Same.refl _ _) ?_
          repeat (refine wd_w (v := ?_) rfl rfl rfl rfl rfl rfl (fun w' hw' K hK => ?_) ?_; rotate_left; (have e1 : ∀ j v, (nums .u8 last)[j]? = some v → w'.cell? ⟨g, off + q * 32 + j, none⟩ = some v := fun j v hv => (hw'.cell g (by simp) _).trans ((hB.cell (p := ⟨g, off + q * 32 + j, none⟩) hg).trans (HC0.out j v hv)); go_wp2_with ((first | ((with_reducible apply st_loadCells (cs := nums .u8 (last))); rfl; exact e1; exact Tryd.underlying25; rfl; (rw [nums_length, HLL.out]; kernel_rfl)) | ((with_reducible apply st_toD (sz := 32) (i := q)); exact Tryd.underlying22; kernel_rfl; rfl; rfl; rfl; omega; exact nn_some; exact spot_none))); exact rfl); simp only [Act.put, List.setIfInBounds_toArray, List.set_cons_zero, List.set_cons_succ])
          refine wd_l rfl rfl (by intro a w h; first | (obtain ⟨h, _⟩ := h; cases h; done) | (obtain ⟨_, h, _⟩ := h; cases h; done) | (obtain ⟨_, _, h, _⟩ := h; cases h; done) | (obtain ⟨_, _, _, h, _⟩ := h; cases h; done)) ?_
          go_wp2
          refine ⟨.inr ((Same.refl _ _).alloc (by simp; omega) _), ?_⟩
          refine wd_l rfl rfl (by intro a w h; first | (obtain ⟨h, _⟩ := h; cases h; done) | (obtain ⟨_, h, _⟩ := h; cases h; done) | (obtain ⟨_, _, h, _⟩ := h; cases h; done) | (obtain ⟨_, _, _, h, _⟩ := h; cases h; done)) ?_
          have hl0 : Blk (w0.drew.alloc (.cells (nums .u8 (List.replicate 32 0)).toArray 25)) w0.heap.size (nums .u8 (List.replicate 32 0)) 25 := Blk.new' _ _ _ _ _ rfl rfl
          go_wp2_with (apply st_storeW (off := 0) (vs := nums .u8 (last)) (cs := nums .u8 (List.replicate 32 0)) (T := 25); rfl; rfl; exact hl0; (rw [nums_length, HLL.out]; kernel_rfl); (rw [nums_length, HLL.out]; decide); exact nums_one _ _; intro w2 hd2 hw2; rw [laid_all _ _ (by rw [nums_length, HLL.out]; rfl)] at hd2)
          refine ⟨.inr (((Same.refl _ _).alloc (by simp; omega) _).drewR.wrote hw2 (by simp; omega)), ?_⟩
          refine wd_assign rfl rfl rfl rfl ?_
          refine wd_nil ?_
          simp only [Act.put, List.setIfInBounds_toArray, List.set_cons_zero, List.set_cons_succ]
          have hB := Wrote.below ((hB.drew).alloc hB.size _) hw2 hB.size
          have hx := hw2.blk (hx.drew.alloc _) (by have := hx.lt; omega)
          have hr := hw2.blk (hr.drew.alloc _) (by have := hr.lt; omega)
          have hxl := hx.lt
          have hrl := hr.lt
          have hdl := hd2.lt
          clear hl0
          go_wp2_with fail
          go_at_call 16
          refine (split_any _ n (by omega) (by omega)).mono ?_
          rw [HSP.out]
          rintro e wz ⟨rfl, rfl⟩
          go_wp2_with ((with_reducible apply st_load (n := 32) (cs := nums .u8 (leaf)) (T := 25)); rfl; exact hx; exact Tryd.underlying25; rfl; kernel_rfl; (rw [nums_length, HLF.out]; exact Nat.le_refl _); (exact row_all _ _ (by rw [nums_length, HLF.out])))
          go_at_call 43
          refine (HC1.out _ (HTK.out.up hB) (HK.out.below hB HK.out.lt)).mono ?_
          rintro e w3 ⟨d, b, rfl, hdl, hdu, HBB, HDD, hb⟩
          have hB := hB.trans (hb.mono hB.size)
          have hr := hr.up hb
          have hl := hd2.up hb
          have HDL := Lib.hid hdl
          have hfin := HCL.out d b hik HBB.out HDD.out
          obtain ⟨m, hm⟩ : ∃ m, m = nodeF d last z := ⟨_, rfl⟩
          have hml : m.length = 32 := by rw [hm]; exact nodeF_len _ _ _
          have hmu : U8 m := by rw [hm]; exact nodeF_range _ _ _
          have hcall := fun (w : World) => node_any w d last HDL.out HLL.out z
          rw [← hm] at hcall hfin
          have HCALL := Lib.hid hcall
          have HFIN := Lib.hid hfin
          have HML := Lib.hid hml
          clear hcall hfin hml hm hdl
          have hd0 : Blk (w3.alloc (.cells (nums .u8 (List.replicate 32 0)).toArray 25)) w3.heap.size (nums .u8 (List.replicate 32 0)) 25 := Blk.new' _ _ _ _ _ rfl rfl
          have hrl := hr.lt
          have hll := hl.lt
          have hu0 := hB.size
          go_wp2_with (first | ((apply st_storeW (off := 0) (vs := nums .u8 (d)) (cs := nums .u8 (List.replicate 32 0)) (T := 25); rfl; rfl; exact hd0; (rw [nums_length, HDL.out]; kernel_rfl); (rw [nums_length, HDL.out]; decide); exact nums_one _ _; intro w4 hd4 hw4; rw [laid_all _ _ (by rw [nums_length, HDL.out]; rfl)] at hd4); have hB4 := Wrote.below (hB.alloc hB.size _) hw4 hB.size; have hr4 := hw4.blk (hr.alloc _) (by omega); have hl4 := hw4.blk (hl.alloc _) (by omega)) | ((with_reducible apply st_load (n := 32) (cs := nums .u8 (d)) (T := 25)); rfl; exact hd4; exact Tryd.underlying25; rfl; kernel_rfl; (rw [nums_length, HDL.out]; exact Nat.le_refl _); (exact row_all _ _ (by rw [nums_length, HDL.out]))) | ((with_reducible apply st_load (n := 32) (cs := nums .u8 (last)) (T := 25)); rfl; exact hl4; exact Tryd.underlying25; rfl; kernel_rfl; (rw [nums_length, HLL.out]; exact Nat.le_refl _); (exact row_all _ _ (by rw [nums_length, HLL.out]))))
          go_at_call 17
          refine (HCALL.out _ (HK.out.below hB4 HK.out.lt)).mono ?_
          rintro e w5 ⟨rfl, hb5⟩
          have hB5 := hB4.trans (hb5.mono hB4.size)
          have hr5 := hr4.up hb5
          go_wp2_with (apply st_storeW (off := 0) (vs := nums .u8 (m)) (cs := nums .u8 (List.replicate 32 0)) (T := 25); rfl; rfl; exact hr5; (rw [nums_length, HML.out]; kernel_rfl); (rw [nums_length, HML.out]; decide); exact nums_one _ _; intro w6 hd6 hw6; rw [laid_all _ _ (by rw [nums_length, HML.out]; rfl)] at hd6)
          refine bodyPost_ret (ret_row_tmp rfl _ _ _ (nums .u8 (m)) 25 _ rfl hd6 Tryd.underlying25 rfl (by rw [nums_length, HML.out]; kernel_rfl)) rfl (⟨m, b, rfl, HML.out, hmu, HFIN.out.1, HFIN.out.2, Wrote.below hB5 hw6 (by omega)⟩)
        · have hc1 := fun (w : World) (h : Dg w (some ⟨g, off, none⟩) c rest) => ih (n - k) (by omega) w (i - k) leaf rest (some ⟨g, off, none⟩) c hlf ulf h (by omega) z (by omega) (by omega) (by omega) (by omega)
          rw [show ((n - k : Nat) : Int) = (n : Int) - (k : Int) by omega] at hc1
          rw [← hqq] at hc1
          have HC1 := Lib.hid hc1
          clear ih hk hkk hc1 hd hl hp0 hps hq hqq hll hlu hc0 htk hcl hcr k4
          go_enter Tryd.func43, Tryd.ntmps43
          go_wp2_with fail
          refine named_world ?_
          intro w0 hw0
          have hx : Blk w0 w.heap.size (nums .u8 leaf) 25 := by rw [hw0]; exact hHx.out
          have hr : Blk w0 (w.heap.size + 1) (nums .u8 (List.replicate 32 0)) 25 := by rw [hw0]; exact hHr.out
          have hB : Below w.heap.size w w0 := by rw [hw0]; exact hHB.out
          clear hw0
          have hgw := Nat.lt_of_lt_of_le hg hB.size
          refine wp_region_CF (Same [g] w0) [11, 12] [13] (by kernel_rfl) (by kernel_rfl) (by intro c a w h; first | (obtain ⟨_, h, _⟩ := h; cases h; done) | (obtain ⟨_, _, h, _⟩ := h; cases h; done) | (obtain ⟨_, _, _, h, _⟩ := h; cases h; done) | (obtain ⟨_, _, _, _, h, _⟩ := h; cases h; done)) (by intro a w h; first | (obtain ⟨h, _⟩ := h; cases h; done) | (obtain ⟨_, h, _⟩ := h; cases h; done) | (obtain ⟨_, _, h, _⟩ := h; cases h; done) | (obtain ⟨_, _, _, h, _⟩ := h; cases h; done)) (Same.refl _ _) ?_
          repeat (refine wd_w (v := ?_) rfl rfl rfl rfl rfl rfl (fun w' hw' K hK => ?_) ?_; rotate_left; (have e1 : ∀ j v, (nums .u8 last)[j]? = some v → w'.cell? ⟨g, off + q * 32 + j, none⟩ = some v := fun j v hv => (hw'.cell g (by simp) _).trans ((hB.cell (p := ⟨g, off + q * 32 + j, none⟩) hg).trans (HC0.out j v hv)); go_wp2_with ((first | ((with_reducible apply st_loadCells (cs := nums .u8 (last))); rfl; exact e1; exact Tryd.underlying25; rfl; (rw [nums_length, HLL.out]; kernel_rfl)) | ((with_reducible apply st_toD (sz := 32) (i := q)); exact Tryd.underlying22; kernel_rfl; rfl; rfl; rfl; omega; exact nn_some; exact spot_none))); exact rfl); simp only [Act.put, List.setIfInBounds_toArray, List.set_cons_zero, List.set_cons_succ])
          refine wd_l rfl rfl (by intro a w h; first | (obtain ⟨h, _⟩ := h; cases h; done) | (obtain ⟨_, h, _⟩ := h; cases h; done) | (obtain ⟨_, _, h, _⟩ := h; cases h; done) | (obtain ⟨_, _, _, h, _⟩ := h; cases h; done)) ?_
          go_wp2
          refine ⟨.inr ((Same.refl _ _).alloc (by simp; omega) _), ?_⟩
          refine wd_l rfl rfl (by intro a w h; first | (obtain ⟨h, _⟩ := h; cases h; done) | (obtain ⟨_, h, _⟩ := h; cases h; done) | (obtain ⟨_, _, h, _⟩ := h; cases h; done) | (obtain ⟨_, _, _, h, _⟩ := h; cases h; done)) ?_
          have hl0 : Blk (w0.drew.alloc (.cells (nums .u8 (List.replicate 32 0)).toArray 25)) w0.heap.size (nums .u8 (List.replicate 32 0)) 25 := Blk.new' _ _ _ _ _ rfl rfl
          go_wp2_with (apply st_storeW (off := 0) (vs := nums .u8 (last)) (cs := nums .u8 (List.replicate 32 0)) (T := 25); rfl; rfl; exact hl0; (rw [nums_length, HLL.out]; kernel_rfl); (rw [nums_length, HLL.out]; decide); exact nums_one _ _; intro w2 hd2 hw2; rw [laid_all _ _ (by rw [nums_length, HLL.out]; rfl)] at hd2)
          refine ⟨.inr (((Same.refl _ _).alloc (by simp; omega) _).drewR.wrote hw2 (by simp; omega)), ?_⟩
          refine wd_assign rfl rfl rfl rfl ?_
          refine wd_nil ?_
          simp only [Act.put, List.setIfInBounds_toArray, List.set_cons_zero, List.set_cons_succ]
          have hB := Wrote.below ((hB.drew).alloc hB.size _) hw2 hB.size
          have hx := hw2.blk (hx.drew.alloc _) (by have := hx.lt; omega)
          have hr := hw2.blk (hr.drew.alloc _) (by have := hr.lt; omega)
          have hxl := hx.lt
          have hrl := hr.lt
          have hdl := hd2.lt
          clear hl0
          go_wp2_with fail
          go_at_call 16
          refine (split_any _ n (by omega) (by omega)).mono ?_
          rw [HSP.out]
          rintro e wz ⟨rfl, rfl⟩
          go_wp2_with ((with_reducible apply st_load (n := 32) (cs := nums .u8 (leaf)) (T := 25)); rfl; exact hx; exact Tryd.underlying25; rfl; kernel_rfl; (rw [nums_length, HLF.out]; exact Nat.le_refl _); (exact row_all _ _ (by rw [nums_length, HLF.out])))
          go_at_call 43
          refine (HC1.out _ (HTK.out.up hB) (HK.out.below hB HK.out.lt)).mono ?_
          rintro e w3 ⟨d, b, rfl, hdl, hdu, HBB, HDD, hb⟩
          have hB := hB.trans (hb.mono hB.size)
          have hr := hr.up hb
          have hl := hd2.up hb
          have HDL := Lib.hid hdl
          have hfin := HCR.out d b hik HBB.out HDD.out
          obtain ⟨m, hm⟩ : ∃ m, m = nodeF last d z := ⟨_, rfl⟩
          have hml : m.length = 32 := by rw [hm]; exact nodeF_len _ _ _
          have hmu : U8 m := by rw [hm]; exact nodeF_range _ _ _
          have hcall := fun (w : World) => node_any w last d HLL.out HDL.out z
          rw [← hm] at hcall hfin
          have HCALL := Lib.hid hcall
          have HFIN := Lib.hid hfin
          have HML := Lib.hid hml
          clear hcall hfin hml hm hdl
          have hd0 : Blk (w3.alloc (.cells (nums .u8 (List.replicate 32 0)).toArray 25)) w3.heap.size (nums .u8 (List.replicate 32 0)) 25 := Blk.new' _ _ _ _ _ rfl rfl
          have hrl := hr.lt
          have hll := hl.lt
          have hu0 := hB.size
          go_wp2_with (first | ((apply st_storeW (off := 0) (vs := nums .u8 (d)) (cs := nums .u8 (List.replicate 32 0)) (T := 25); rfl; rfl; exact hd0; (rw [nums_length, HDL.out]; kernel_rfl); (rw [nums_length, HDL.out]; decide); exact nums_one _ _; intro w4 hd4 hw4; rw [laid_all _ _ (by rw [nums_length, HDL.out]; rfl)] at hd4); have hB4 := Wrote.below (hB.alloc hB.size _) hw4 hB.size; have hr4 := hw4.blk (hr.alloc _) (by omega); have hl4 := hw4.blk (hl.alloc _) (by omega)) | ((with_reducible apply st_load (n := 32) (cs := nums .u8 (last)) (T := 25)); rfl; exact hl4; exact Tryd.underlying25; rfl; kernel_rfl; (rw [nums_length, HLL.out]; exact Nat.le_refl _); (exact row_all _ _ (by rw [nums_length, HLL.out]))) | ((with_reducible apply st_load (n := 32) (cs := nums .u8 (d)) (T := 25)); rfl; exact hd4; exact Tryd.underlying25; rfl; kernel_rfl; (rw [nums_length, HDL.out]; exact Nat.le_refl _); (exact row_all _ _ (by rw [nums_length, HDL.out]))))
          go_at_call 17
          refine (HCALL.out _ (HK.out.below hB4 HK.out.lt)).mono ?_
          rintro e w5 ⟨rfl, hb5⟩
          have hB5 := hB4.trans (hb5.mono hB4.size)
          have hr5 := hr4.up hb5
          go_wp2_with (apply st_storeW (off := 0) (vs := nums .u8 (m)) (cs := nums .u8 (List.replicate 32 0)) (T := 25); rfl; rfl; exact hr5; (rw [nums_length, HML.out]; kernel_rfl); (rw [nums_length, HML.out]; decide); exact nums_one _ _; intro w6 hd6 hw6; rw [laid_all _ _ (by rw [nums_length, HML.out]; rfl)] at hd6)
          refine bodyPost_ret (ret_row_tmp rfl _ _ _ (nums .u8 (m)) 25 _ rfl hd6 Tryd.underlying25 rfl (by rw [nums_length, HML.out]; kernel_rfl)) rfl (⟨m, b, rfl, HML.out, hmu, HFIN.out.1, HFIN.out.2, Wrote.below hB5 hw6 (by omega)⟩)
end Go.Proofs.YtipigpeccegjgaaDoor
