/- What merkle.climb answers. Condition: the table of layer 2 reads as its text lays it. What merkle.CheckPath and the reference's CheckPath answer. Condition (merkle's): the table of layer 2 reads as its text lays it. What merkle.both answers at its ends. Condition: the table of layer 2 reads as its text lays it. What merkle.both answers. Condition: the table of layer 2 reads as its text lays it. What merkle.CheckGrowth answers. Condition: the table of layer 2 reads as its text lays it. -/
import Derived.Test.YtancldhincaphaaDoorGj
import Derived.Test.YtancldhincaphaaDoorGe
namespace Go.Proofs.YtancldhincaphaaDoor
set_option maxRecDepth 100000
section ClimbC
open Go.RowKit

theorem Dg.snoc {w : World} {A : Option Addr} {c : Nat} {ps : List (List Int)} (hd : Dg w A c ps) (hp0 : ¬ ps.length = 0) : ∃ (rest : List (List Int)) (last : List Int) (q g off : Nat), ps = rest ++ [last] ∧ ps.length = q + 1 ∧ q = rest.length ∧ A = some ⟨g, off, none⟩ ∧ g < w.heap.size ∧ last.length = 32 ∧ U8 last ∧
    (∀ j v, (nums .u8 last)[j]? = some v → w.cell? ⟨g, off + q * 32 + j, none⟩ = some v) ∧ Dg w (some ⟨g, off, none⟩) c rest ∧ q + 1 ≤ c := by
  obtain ⟨rest, last, hps⟩ : ∃ rest last, ps = rest ++ [last] := ⟨ps.dropLast, ps.getLast (by intro e; rw [e] at hp0; exact hp0 rfl), (List.dropLast_concat_getLast _).symm⟩
  have hq : ps.length = rest.length + 1 := by rw [hps]; simp
  have hlast := hd.u.at rest.length (by omega)
  have hlc : ps[rest.length]'(by omega) = last := by simp [hps]
  rw [hlc] at hlast
  have hle := hd.le
  obtain ⟨g, off, rfl, hg, hcells⟩ := hd.get (by omega)
  have hc0 : ∀ j v, (nums .u8 last)[j]? = some v → w.cell? ⟨g, off + rest.length * 32 + j, none⟩ = some v := fun j v hv => hcells rest.length (by omega) j v (by rw [hlc]; exact hv)
  have htk := hd.take rest.length (by omega)
  have htr : ps.take rest.length = rest := by rw [hps]; simp
  rw [htr] at htk
  exact ⟨rest, last, rest.length, g, off, hps, hq, rfl, rfl, hg, hlast.1, hlast.2, hc0, htk, by omega⟩

set_option maxRecDepth 100000 in
set_option maxHeartbeats 4000000 in
theorem climb_any (n : Nat) : ∀ (w : World) (i : Int) (leaf : List Int) (ps : List (List Int)) (A : Option Addr) (c : Nat), leaf.length = 32 → U8 leaf → Dg w A c ps → ps.length ≤ 1000 → ∀ (z : Int), 1 ≤ n → n ≤ 9223372036854775807 → 0 ≤ i → i < n → KV w →
    Calls Tryd.prog 64 #[.int .i64 n, .int .i64 i, .agg (nums .u8 leaf).toArray, .slice A ps.length c, .int .i64 z] w (GivesC n i leaf ps z w) := by
  induction n using Nat.strongRecOn with
  | ind n ih =>
    intro w i leaf ps A c hlf ulf hd hl z h1 hmax hi0 hi hk
    by_cases hn : n = 1
    · subst hn
      exact climb_one w i leaf ps A c hlf ulf z
    · by_cases hp0 : ps.length = 0
      · obtain rfl := List.eq_nil_of_length_eq_zero hp0
        exact climb_nil n w i leaf A c z (by omega) hmax
      · have HK := Lib.hid hk
        have HLF := Lib.hid hlf
        obtain ⟨rest, last, q, g, off, hps, hq, hqq, rfl, hg, hll, hlu, hc0, htk, hle⟩ := hd.snoc hp0
        have hks := kF_spec n (by omega)
        have hcl := fun d b => @climb_left n i z leaf d last rest b (by omega)
        have hcr := fun d b => @climb_right n i z leaf d last rest b (by omega)
        obtain ⟨k, hkk⟩ : ∃ k, k = kF n := ⟨_, rfl⟩
        rw [← hkk] at hks hcl hcr
        obtain ⟨k1, k2, k3, k4⟩ := hks
        rw [hq]
        rw [← hps] at hcl hcr
        have HC0 := Lib.hid hc0
        have HLL := Lib.hid hll
        have HLU := Lib.hid hlu
        have HTK := Lib.hid htk
        have HSP := Lib.hid k4
        have HCL := Lib.hid hcl
        have HCR := Lib.hid hcr
        have HQ := Lib.hid hqq
        have hq1 : q ≤ 1000 := by omega
        have hHx := Lib.hid (climb0_x w leaf)
        have hHr := Lib.hid (climb0_r w leaf)
        have hHB := Lib.hid (climb0_B w leaf)
        by_cases hik : i < k
        · have hc1 := fun (w : World) (h : Dg w (some ⟨g, off, none⟩) c rest) => ih k (by omega) w i leaf rest (some ⟨g, off, none⟩) c hlf ulf h (by omega) z (by omega) (by omega) hi0 hik
          rw [← hqq] at hc1
          have HC1 := Lib.hid hc1
          clear ih hk hkk hc1 hd hl hp0 hps hq hqq hll hlu hc0 htk hcl hcr k4
          go_enter Tryd.func64, Tryd.ntmps64
          go_wp2_with fail
          refine named_world ?_
          intro w0 hw0
          have hx : Blk w0 w.heap.size (nums .u8 leaf) 24 := by rw [hw0]; exact hHx.out
          have hr : Blk w0 (w.heap.size + 1) (nums .u8 (List.replicate 32 0)) 24 := by rw [hw0]; exact hHr.out
          have hB : Below w.heap.size w w0 := by rw [hw0]; exact hHB.out
          clear hw0
          have hgw := Nat.lt_of_lt_of_le hg hB.size
          refine wp_region_CF (Same [g] w0) [11, 12] [13] (by kernel_rfl) (by kernel_rfl) (by intro c a w h; first | (obtain ⟨_, h, _⟩ := h; cases h; done) | (obtain ⟨_, _, h, _⟩ := h; cases h; done) | (obtain ⟨_, _, _, h, _⟩ := h; cases h; done) | (obtain ⟨_, _, _, _, h, _⟩ := h; cases h; done) | (rcases h with ⟨_, ⟨_, _, _, _, h, _⟩ | ⟨_, _, _, _, h, _⟩⟩ <;> cases h; done)) (by intro a w h; first | (obtain ⟨h, _⟩ := h; cases h; done) | (obtain ⟨_, h, _⟩ := h; cases h; done) | (obtain ⟨_, _, h, _⟩ := h; cases h; done) | (obtain ⟨_, _, _, h, _⟩ := h; cases h; done) | (rcases h with ⟨_, _, _, _, h, _⟩ | ⟨_, _, _, _, h, _⟩ <;> cases h; done)) (Same.refl _ _) ?_
          repeat (refine wd_w (v := ?_) rfl rfl rfl rfl rfl rfl (fun w' hw' K hK => ?_) ?_; rotate_left; (have e1 : ∀ j v, (nums .u8 last)[j]? = some v → w'.cell? ⟨g, off + q * 32 + j, none⟩ = some v := fun j v hv => (hw'.cell g (by simp) _).trans ((hB.cell (p := ⟨g, off + q * 32 + j, none⟩) hg).trans (HC0.out j v hv)); go_wp2_with ((first | ((with_reducible apply st_loadCells (cs := nums .u8 (last))); rfl; exact e1; exact Tryd.underlying24; rfl; (rw [nums_length, HLL.out]; kernel_rfl)) | ((with_reducible apply st_toD (sz := 32) (i := q)); exact Tryd.underlying66; kernel_rfl; rfl; rfl; rfl; omega; exact nn_some; exact spot_none))); exact rfl); simp only [Act.put, List.setIfInBounds_toArray, List.set_cons_zero, List.set_cons_succ])
          refine wd_l rfl rfl (by intro a w h; first | (obtain ⟨h, _⟩ := h; cases h; done) | (obtain ⟨_, h, _⟩ := h; cases h; done) | (obtain ⟨_, _, h, _⟩ := h; cases h; done) | (obtain ⟨_, _, _, h, _⟩ := h; cases h; done) | (rcases h with ⟨_, _, _, _, h, _⟩ | ⟨_, _, _, _, h, _⟩ <;> cases h; done)) ?_
          go_wp2
          refine ⟨.inr ((Same.refl _ _).alloc (by simp; omega) _), ?_⟩
          refine wd_l rfl rfl (by intro a w h; first | (obtain ⟨h, _⟩ := h; cases h; done) | (obtain ⟨_, h, _⟩ := h; cases h; done) | (obtain ⟨_, _, h, _⟩ := h; cases h; done) | (obtain ⟨_, _, _, h, _⟩ := h; cases h; done) | (rcases h with ⟨_, _, _, _, h, _⟩ | ⟨_, _, _, _, h, _⟩ <;> cases h; done)) ?_
          have hl0 : Blk (w0.drew.alloc (.cells (nums .u8 (List.replicate 32 0)).toArray 24)) w0.heap.size (nums .u8 (List.replicate 32 0)) 24 := Blk.new' _ _ _ _ _ rfl rfl
          go_wp2_with ((with_reducible apply st_storeW (off := 0) (vs := nums .u8 (last)) (cs := nums .u8 (List.replicate 32 0)) (T := 24)); rfl; rfl; exact hl0; (rw [nums_length, HLL.out]; kernel_rfl); (rw [nums_length, HLL.out]; decide); exact nums_one _ _; intro w2 hd2 hw2; rw [laid_all _ _ (by rw [nums_length, HLL.out]; rfl)] at hd2)
          refine ⟨.inr (((Same.refl _ _).alloc (by simp; omega) _).drewR.wrote hw2 (by simp; omega)), ?_⟩
          refine wd_assign rfl rfl rfl rfl ?_
          refine wd_nil ?_
          simp only [Act.put, List.setIfInBounds_toArray, List.set_cons_zero, List.set_cons_succ]
          have hB := Wrote.below ((hB.drew).alloc hB.size _) hw2 hB.size
          have hx := hw2.blk (hx.drew.alloc _) (by have := hx.lt; omega)
          have hr := hw2.blk (hr.drew.alloc _) (by have := hr.lt; omega)
          have hxl := hx.lt
          have hrl := hr.lt
          have hdl := hd2.lt
          clear hl0
          go_wp2_with fail
          go_at_call 73
          refine (split_any _ n (by omega) (by omega)).mono ?_
          rw [HSP.out]
          rintro e wz ⟨rfl, rfl⟩
          go_wp2_with ((with_reducible apply st_load (n := 32) (cs := nums .u8 (leaf)) (T := 24)); rfl; exact hx; exact Tryd.underlying24; rfl; kernel_rfl; (rw [nums_length, HLF.out]; exact Nat.le_refl _); (exact row_all _ _ (by rw [nums_length, HLF.out])))
          go_at_call 64
          refine (HC1.out _ (HTK.out.up hB) (HK.out.below hB HK.out.lt)).mono ?_
          rintro e w3 ⟨d, b, rfl, hdl, hdu, HBB, HDD, hb⟩
          have hB := hB.trans (hb.mono hB.size)
          have hr := hr.up hb
          have hl := hd2.up hb
          have HDL := Lib.hid hdl
          have hfin := HCL.out d b hik HBB.out HDD.out
          obtain ⟨m, hm⟩ : ∃ m, m = nodeF d last z := ⟨_, rfl⟩
          have hml : m.length = 32 := by rw [hm]; exact nodeF_len _ _ _
          have hmu : U8 m := by rw [hm]; exact nodeF_range _ _ _
          have hcall := fun (w : World) => node_any w d last HDL.out HLL.out z
          rw [← hm] at hcall hfin
          have HCALL := Lib.hid hcall
          have HFIN := Lib.hid hfin
          have HML := Lib.hid hml
          clear hcall hfin hml hm hdl
          have hd0 : Blk (w3.alloc (.cells (nums .u8 (List.replicate 32 0)).toArray 24)) w3.heap.size (nums .u8 (List.replicate 32 0)) 24 := Blk.new' _ _ _ _ _ rfl rfl
          have hrl := hr.lt
          have hll := hl.lt
          have hu0 := hB.size
          go_wp2_with (first | (((with_reducible apply st_storeW (off := 0) (vs := nums .u8 (d)) (cs := nums .u8 (List.replicate 32 0)) (T := 24)); rfl; rfl; exact hd0; (rw [nums_length, HDL.out]; kernel_rfl); (rw [nums_length, HDL.out]; decide); exact nums_one _ _; intro w4 hd4 hw4; rw [laid_all _ _ (by rw [nums_length, HDL.out]; rfl)] at hd4); have hB4 := Wrote.below (hB.alloc hB.size _) hw4 hB.size; have hr4 := hw4.blk (hr.alloc _) (by omega); have hl4 := hw4.blk (hl.alloc _) (by omega)) | ((with_reducible apply st_load (n := 32) (cs := nums .u8 (d)) (T := 24)); rfl; exact hd4; exact Tryd.underlying24; rfl; kernel_rfl; (rw [nums_length, HDL.out]; exact Nat.le_refl _); (exact row_all _ _ (by rw [nums_length, HDL.out]))) | ((with_reducible apply st_load (n := 32) (cs := nums .u8 (last)) (T := 24)); rfl; exact hl4; exact Tryd.underlying24; rfl; kernel_rfl; (rw [nums_length, HLL.out]; exact Nat.le_refl _); (exact row_all _ _ (by rw [nums_length, HLL.out]))))
          go_at_call 50
          refine (HCALL.out _ (HK.out.below hB4 HK.out.lt)).mono ?_
          rintro e w5 ⟨rfl, hb5⟩
          have hB5 := hB4.trans (hb5.mono hB4.size)
          have hr5 := hr4.up hb5
          go_wp2_with ((with_reducible apply st_storeW (off := 0) (vs := nums .u8 (m)) (cs := nums .u8 (List.replicate 32 0)) (T := 24)); rfl; rfl; exact hr5; (rw [nums_length, HML.out]; kernel_rfl); (rw [nums_length, HML.out]; decide); exact nums_one _ _; intro w6 hd6 hw6; rw [laid_all _ _ (by rw [nums_length, HML.out]; rfl)] at hd6)
          refine bodyPost_ret (ret_row_tmp rfl _ _ _ (nums .u8 (m)) 24 _ rfl hd6 Tryd.underlying24 rfl (by rw [nums_length, HML.out]; kernel_rfl)) rfl (⟨m, b, rfl, HML.out, hmu, HFIN.out.1, HFIN.out.2, Wrote.below hB5 hw6 (by omega)⟩)
        · have hc1 := fun (w : World) (h : Dg w (some ⟨g, off, none⟩) c rest) => ih (n - k) (by omega) w (i - k) leaf rest (some ⟨g, off, none⟩) c hlf ulf h (by omega) z (by omega) (by omega) (by omega) (by omega)
          rw [show ((n - k : Nat) : Int) = (n : Int) - (k : Int) by omega] at hc1
          rw [← hqq] at hc1
          have HC1 := Lib.hid hc1
          clear ih hk hkk hc1 hd hl hp0 hps hq hqq hll hlu hc0 htk hcl hcr k4
          go_enter Tryd.func64, Tryd.ntmps64
          go_wp2_with fail
          refine named_world ?_
          intro w0 hw0
          have hx : Blk w0 w.heap.size (nums .u8 leaf) 24 := by rw [hw0]; exact hHx.out
          have hr : Blk w0 (w.heap.size + 1) (nums .u8 (List.replicate 32 0)) 24 := by rw [hw0]; exact hHr.out
          have hB : Below w.heap.size w w0 := by rw [hw0]; exact hHB.out
          clear hw0
          have hgw := Nat.lt_of_lt_of_le hg hB.size
          refine wp_region_CF (Same [g] w0) [11, 12] [13] (by kernel_rfl) (by kernel_rfl) (by intro c a w h; first | (obtain ⟨_, h, _⟩ := h; cases h; done) | (obtain ⟨_, _, h, _⟩ := h; cases h; done) | (obtain ⟨_, _, _, h, _⟩ := h; cases h; done) | (obtain ⟨_, _, _, _, h, _⟩ := h; cases h; done) | (rcases h with ⟨_, ⟨_, _, _, _, h, _⟩ | ⟨_, _, _, _, h, _⟩⟩ <;> cases h; done)) (by intro a w h; first | (obtain ⟨h, _⟩ := h; cases h; done) | (obtain ⟨_, h, _⟩ := h; cases h; done) | (obtain ⟨_, _, h, _⟩ := h; cases h; done) | (obtain ⟨_, _, _, h, _⟩ := h; cases h; done) | (rcases h with ⟨_, _, _, _, h, _⟩ | ⟨_, _, _, _, h, _⟩ <;> cases h; done)) (Same.refl _ _) ?_
          repeat (refine wd_w (v := ?_) rfl rfl rfl rfl rfl rfl (fun w' hw' K hK => ?_) ?_; rotate_left; (have e1 : ∀ j v, (nums .u8 last)[j]? = some v → w'.cell? ⟨g, off + q * 32 + j, none⟩ = some v := fun j v hv => (hw'.cell g (by simp) _).trans ((hB.cell (p := ⟨g, off + q * 32 + j, none⟩) hg).trans (HC0.out j v hv)); go_wp2_with ((first | ((with_reducible apply st_loadCells (cs := nums .u8 (last))); rfl; exact e1; exact Tryd.underlying24; rfl; (rw [nums_length, HLL.out]; kernel_rfl)) | ((with_reducible apply st_toD (sz := 32) (i := q)); exact Tryd.underlying66; kernel_rfl; rfl; rfl; rfl; omega; exact nn_some; exact spot_none))); exact rfl); simp only [Act.put, List.setIfInBounds_toArray, List.set_cons_zero, List.set_cons_succ])
          refine wd_l rfl rfl (by intro a w h; first | (obtain ⟨h, _⟩ := h; cases h; done) | (obtain ⟨_, h, _⟩ := h; cases h; done) | (obtain ⟨_, _, h, _⟩ := h; cases h; done) | (obtain ⟨_, _, _, h, _⟩ := h; cases h; done) | (rcases h with ⟨_, _, _, _, h, _⟩ | ⟨_, _, _, _, h, _⟩ <;> cases h; done)) ?_
          go_wp2
          refine ⟨.inr ((Same.refl _ _).alloc (by simp; omega) _), ?_⟩
          refine wd_l rfl rfl (by intro a w h; first | (obtain ⟨h, _⟩ := h; cases h; done) | (obtain ⟨_, h, _⟩ := h; cases h; done) | (obtain ⟨_, _, h, _⟩ := h; cases h; done) | (obtain ⟨_, _, _, h, _⟩ := h; cases h; done) | (rcases h with ⟨_, _, _, _, h, _⟩ | ⟨_, _, _, _, h, _⟩ <;> cases h; done)) ?_
          have hl0 : Blk (w0.drew.alloc (.cells (nums .u8 (List.replicate 32 0)).toArray 24)) w0.heap.size (nums .u8 (List.replicate 32 0)) 24 := Blk.new' _ _ _ _ _ rfl rfl
          go_wp2_with ((with_reducible apply st_storeW (off := 0) (vs := nums .u8 (last)) (cs := nums .u8 (List.replicate 32 0)) (T := 24)); rfl; rfl; exact hl0; (rw [nums_length, HLL.out]; kernel_rfl); (rw [nums_length, HLL.out]; decide); exact nums_one _ _; intro w2 hd2 hw2; rw [laid_all _ _ (by rw [nums_length, HLL.out]; rfl)] at hd2)
          refine ⟨.inr (((Same.refl _ _).alloc (by simp; omega) _).drewR.wrote hw2 (by simp; omega)), ?_⟩
          refine wd_assign rfl rfl rfl rfl ?_
          refine wd_nil ?_
          simp only [Act.put, List.setIfInBounds_toArray, List.set_cons_zero, List.set_cons_succ]
          have hB := Wrote.below ((hB.drew).alloc hB.size _) hw2 hB.size
          have hx := hw2.blk (hx.drew.alloc _) (by have := hx.lt; omega)
          have hr := hw2.blk (hr.drew.alloc _) (by have := hr.lt; omega)
          have hxl := hx.lt
          have hrl := hr.lt
          have hdl := hd2.lt
          clear hl0
          go_wp2_with fail
          go_at_call 73
          refine (split_any _ n (by omega) (by omega)).mono ?_
          rw [HSP.out]
          rintro e wz ⟨rfl, rfl⟩
          go_wp2_with ((with_reducible apply st_load (n := 32) (cs := nums .u8 (leaf)) (T := 24)); rfl; exact hx; exact Tryd.underlying24; rfl; kernel_rfl; (rw [nums_length, HLF.out]; exact Nat.le_refl _); (exact row_all _ _ (by rw [nums_length, HLF.out])))
          go_at_call 64
          refine (HC1.out _ (HTK.out.up hB) (HK.out.below hB HK.out.lt)).mono ?_
          rintro e w3 ⟨d, b, rfl, hdl, hdu, HBB, HDD, hb⟩
          have hB := hB.trans (hb.mono hB.size)
          have hr := hr.up hb
          have hl := hd2.up hb
          have HDL := Lib.hid hdl
          have hfin := HCR.out d b hik HBB.out HDD.out
          obtain ⟨m, hm⟩ : ∃ m, m = nodeF last d z := ⟨_, rfl⟩
          have hml : m.length = 32 := by rw [hm]; exact nodeF_len _ _ _
          have hmu : U8 m := by rw [hm]; exact nodeF_range _ _ _
          have hcall := fun (w : World) => node_any w last d HLL.out HDL.out z
          rw [← hm] at hcall hfin
          have HCALL := Lib.hid hcall
          have HFIN := Lib.hid hfin
          have HML := Lib.hid hml
          clear hcall hfin hml hm hdl
          have hd0 : Blk (w3.alloc (.cells (nums .u8 (List.replicate 32 0)).toArray 24)) w3.heap.size (nums .u8 (List.replicate 32 0)) 24 := Blk.new' _ _ _ _ _ rfl rfl
          have hrl := hr.lt
          have hll := hl.lt
          have hu0 := hB.size
          go_wp2_with (first | (((with_reducible apply st_storeW (off := 0) (vs := nums .u8 (d)) (cs := nums .u8 (List.replicate 32 0)) (T := 24)); rfl; rfl; exact hd0; (rw [nums_length, HDL.out]; kernel_rfl); (rw [nums_length, HDL.out]; decide); exact nums_one _ _; intro w4 hd4 hw4; rw [laid_all _ _ (by rw [nums_length, HDL.out]; rfl)] at hd4); have hB4 := Wrote.below (hB.alloc hB.size _) hw4 hB.size; have hr4 := hw4.blk (hr.alloc _) (by omega); have hl4 := hw4.blk (hl.alloc _) (by omega)) | ((with_reducible apply st_load (n := 32) (cs := nums .u8 (last)) (T := 24)); rfl; exact hl4; exact Tryd.underlying24; rfl; kernel_rfl; (rw [nums_length, HLL.out]; exact Nat.le_refl _); (exact row_all _ _ (by rw [nums_length, HLL.out]))) | ((with_reducible apply st_load (n := 32) (cs := nums .u8 (d)) (T := 24)); rfl; exact hd4; exact Tryd.underlying24; rfl; kernel_rfl; (rw [nums_length, HDL.out]; exact Nat.le_refl _); (exact row_all _ _ (by rw [nums_length, HDL.out]))))
          go_at_call 50
          refine (HCALL.out _ (HK.out.below hB4 HK.out.lt)).mono ?_
          rintro e w5 ⟨rfl, hb5⟩
          have hB5 := hB4.trans (hb5.mono hB4.size)
          have hr5 := hr4.up hb5
          go_wp2_with ((with_reducible apply st_storeW (off := 0) (vs := nums .u8 (m)) (cs := nums .u8 (List.replicate 32 0)) (T := 24)); rfl; rfl; exact hr5; (rw [nums_length, HML.out]; kernel_rfl); (rw [nums_length, HML.out]; decide); exact nums_one _ _; intro w6 hd6 hw6; rw [laid_all _ _ (by rw [nums_length, HML.out]; rfl)] at hd6)
          refine bodyPost_ret (ret_row_tmp rfl _ _ _ (nums .u8 (m)) 24 _ rfl hd6 Tryd.underlying24 rfl (by rw [nums_length, HML.out]; kernel_rfl)) rfl (⟨m, b, rfl, HML.out, hmu, HFIN.out.1, HFIN.out.2, Wrote.below hB5 hw6 (by omega)⟩)
end ClimbC
section CheckP
open Go.RowKit

def checkPF (root : List Int) (n i : Int) (leaf : List Int) (ps : List (List Int)) (z : Int) : Bool := decide (0 ≤ i ∧ i < n ∧ ps.length = (stepsF n.toNat i).length ∧ upF leaf (stepsF n.toNat i).reverse ps z = root)
theorem checkPF_out (root : List Int) (n i : Int) (leaf : List Int) (ps : List (List Int)) (z : Int) (h : ¬ (0 ≤ i ∧ i < n)) : checkPF root n i leaf ps z = false := decide_eq_false fun e => h ⟨e.1, e.2.1⟩
theorem checkPF_len (root : List Int) (n i : Int) (leaf : List Int) (ps : List (List Int)) (z : Int) (h : ps.length ≠ (stepsF n.toNat i).length) : checkPF root n i leaf ps z = false := decide_eq_false fun e => h e.2.2.1
theorem checkPF_in (root d : List Int) (n i : Int) (leaf : List Int) (ps : List (List Int)) (z : Int) (h0 : 0 ≤ i) (h1 : i < n) (h : ps.length = (stepsF n.toNat i).length) (hd : d = upF leaf (stepsF n.toNat i).reverse ps z) : checkPF root n i leaf ps z = decide (d = root) := by
  subst hd
  unfold checkPF
  rw [Bool.eq_iff_iff]
  simp only [decide_eq_true_eq]
  exact ⟨fun e => e.2.2.2, fun e => ⟨h0, h1, h, e⟩⟩

set_option maxRecDepth 100000 in
set_option maxHeartbeats 4000000 in
theorem checkpath_any (w : World) (root : List Int) (hroot : root.length = 32) (n i : Int) (hmax : n ≤ 9223372036854775807) (leaf : List Int) (hlf : leaf.length = 32) (ulf : U8 leaf) (ps : List (List Int)) (A : Option Addr) (c : Nat) (hd : Dg w A c ps) (z : Int) (hk : KV w) :
    Calls Tryd.prog 35 #[.agg (nums .u8 root).toArray, .int .i64 n, .int .i64 i, .agg (nums .u8 leaf).toArray, .slice A ps.length c, .int .i64 z] w fun e w' => e = .returned (.bool (checkPF root n i leaf ps z)) ∧ Below w.heap.size w w' := by
  have hB0 : Below w.heap.size w ((w.alloc (.cells (nums .u8 root).toArray 24)).alloc (.cells (nums .u8 leaf).toArray 24)) := ((Below.refl _ _).alloc (Nat.le_refl _) _).alloc (by simp) _
  have hroot0 : Blk ((w.alloc (.cells (nums .u8 root).toArray 24)).alloc (.cells (nums .u8 leaf).toArray 24)) w.heap.size (nums .u8 root) 24 := (Blk.new' _ _ _ _ _ rfl rfl).alloc _
  have hleaf0 : Blk ((w.alloc (.cells (nums .u8 root).toArray 24)).alloc (.cells (nums .u8 leaf).toArray 24)) (w.heap.size + 1) (nums .u8 leaf) 24 := Blk.new' _ _ _ _ _ rfl (by simp)
  by_cases h0 : i < 0
  · rw [checkPF_out root n i leaf ps z (by omega)]
    clear hroot0 hleaf0
    go_enter Tryd.func35, Tryd.ntmps35
    go_wp2_with fail
    go_ret
    exact ⟨rfl, hB0⟩
  · by_cases h1 : n ≤ i
    · rw [checkPF_out root n i leaf ps z (by omega)]
      clear hroot0 hleaf0
      go_enter Tryd.func35, Tryd.ntmps35
      go_wp2_with fail
      go_ret
      exact ⟨rfl, hB0⟩
    · obtain ⟨N, rfl⟩ := Int.eq_ofNat_of_zero_le (show 0 ≤ n by omega)
      by_cases h2 : 63 < ps.length
      · have hsl := stepsF_len 63 N i (by omega)
        rw [checkPF_len root N i leaf ps z (by rw [Int.toNat_natCast]; omega)]
        clear hroot0 hleaf0 hsl
        go_enter Tryd.func35, Tryd.ntmps35
        go_wp2_with fail
        go_ret
        exact ⟨rfl, hB0⟩
      · have hci := fun d => checkPF_in root d N i leaf ps z (by omega) (by omega)
        have hcl := checkPF_len root N i leaf ps z
        rw [Int.toNat_natCast] at hci hcl
        obtain ⟨r, hr⟩ : ∃ r, r = checkPF root N i leaf ps z := ⟨_, rfl⟩
        rw [← hr] at hci hcl ⊢
        have hcall := fun (w : World) (h : Dg w A c ps) => climb_any N w i leaf ps A c hlf ulf h (by omega) z (by omega) (by omega) (by omega) (by omega)
        have HCALL := Lib.hid hcall
        have HCI := Lib.hid hci
        have HCL := Lib.hid hcl
        have HLF := Lib.hid hlf
        have HRL := Lib.hid hroot
        have HD := Lib.hid hd
        have HK := Lib.hid hk
        clear hr hci hcl hcall hlf hroot hd hk
        go_enter Tryd.func35, Tryd.ntmps35
        go_wp2_with ((with_reducible apply st_load (n := 32) (cs := nums .u8 (leaf)) (T := 24)); rfl; exact hleaf0; exact Tryd.underlying24; rfl; kernel_rfl; (rw [nums_length, HLF.out]; exact Nat.le_refl _); (exact row_all _ _ (by rw [nums_length, HLF.out])))
        go_at_call 64
        refine (HCALL.out _ (HD.out.up hB0) (HK.out.below hB0 HK.out.lt)).mono ?_
        rintro e w2 ⟨d, b, rfl, hdl, hdu, HBB, HDD, hb⟩
        have hB := hB0.trans (hb.mono hB0.size)
        have hx := hroot0.up hb
        have hxl := hx.lt
        have HDL := Lib.hid hdl
        have heq := run_eql_nums (P := Tryd.prog) (t := 24) Tryd.underlying24 Tryd.underlying5 (by kernel_rfl) (by kernel_rfl) d root hdl HRL.out
        have hd0 : Blk (w2.alloc (.cells (nums .u8 (List.replicate 32 0)).toArray 24)) w2.heap.size (nums .u8 (List.replicate 32 0)) 24 := Blk.new' _ _ _ _ _ rfl rfl
        clear hroot0 hleaf0 hdl
        cases b
        · have hf := HCL.out (of_decide_eq_false HBB.out.symm)
          have HF := Lib.hid hf
          clear hf
          go_wp2_with ((with_reducible apply st_storeW (off := 0) (vs := nums .u8 (d)) (cs := nums .u8 (List.replicate 32 0)) (T := 24)); rfl; rfl; exact hd0; (rw [nums_length, HDL.out]; kernel_rfl); (rw [nums_length, HDL.out]; decide); exact nums_one _ _; intro w3 hd3 hw3; rw [laid_all _ _ (by rw [nums_length, HDL.out]; rfl)] at hd3)
          go_ret
          exact ⟨by rw [HF.out]; rfl, Wrote.below (hB.alloc hB.size _) hw3 hB.size⟩
        · have hl := of_decide_eq_true HBB.out.symm
          have hf := HCI.out d hl (HDD.out hl)
          have HF := Lib.hid hf
          clear hf hl
          go_wp2_with (first | (((with_reducible apply st_storeW (off := 0) (vs := nums .u8 (d)) (cs := nums .u8 (List.replicate 32 0)) (T := 24)); rfl; rfl; exact hd0; (rw [nums_length, HDL.out]; kernel_rfl); (rw [nums_length, HDL.out]; decide); exact nums_one _ _; intro w3 hd3 hw3; rw [laid_all _ _ (by rw [nums_length, HDL.out]; rfl)] at hd3); have hx3 := hw3.blk (hx.alloc _) (by omega)) | ((with_reducible apply st_load (n := 32) (cs := nums .u8 (d)) (T := 24)); rfl; exact hd3; exact Tryd.underlying24; rfl; kernel_rfl; (rw [nums_length, HDL.out]; exact Nat.le_refl _); (exact row_all _ _ (by rw [nums_length, HDL.out]))) | ((with_reducible apply st_load (n := 32) (cs := nums .u8 (root)) (T := 24)); rfl; exact hx3; exact Tryd.underlying24; rfl; kernel_rfl; (rw [nums_length, HRL.out]; exact Nat.le_refl _); (exact row_all _ _ (by rw [nums_length, HRL.out]))) | ((with_reducible apply st_un); rfl))
          go_ret
          exact ⟨by rw [HF.out]; rfl, Wrote.below (hB.alloc hB.size _) hw3 hB.size⟩
end CheckP
section BothA
open Go.RowKit

structure BothPost (m n : Nat) (old : List Int) (ps : List (List Int)) (z : Int) (whole : Bool) (a b : List Int) (ok : Bool) : Prop where
  ok : ok = decide (ps.length = needF whole (gstepsF m n))
  eq : ps.length = needF whole (gstepsF m n) → (a, b) = bothF old (gstepsF m n) whole ps z
theorem both_whole (n : Nat) (old : List Int) (ps : List (List Int)) (z : Int) : BothPost n n old ps z true old old ((ps.length : Int) == 0) := by
  have hs := gstepsF_small n n (.inl (Nat.le_refl _))
  have hn : needF true (gstepsF n n) = 0 := by rw [hs]; rfl
  refine ⟨by rw [hn, Bool.eq_iff_iff]; simp, fun h => ?_⟩
  rw [hn] at h
  rw [hs, List.eq_nil_of_length_eq_zero h]; rfl
theorem both_bad (n : Nat) (old : List Int) (ps : List (List Int)) (z : Int) (h1 : ¬ ps.length = 1) : BothPost n n old ps z false old old false := by
  have hs := gstepsF_small n n (.inl (Nat.le_refl _))
  have hn : needF false (gstepsF n n) = 1 := by rw [hs]; rfl
  exact ⟨by rw [hn]; exact (decide_eq_false h1).symm, fun h => absurd (by rw [← hn]; exact h) h1⟩
theorem both_one (n : Nat) (old p0 : List Int) (z : Int) : BothPost n n old [p0] z false p0 p0 true := by
  have hs := gstepsF_small n n (.inl (Nat.le_refl _))
  have hn : needF false (gstepsF n n) = 1 := by rw [hs]; rfl
  exact ⟨by rw [hn]; rfl, fun _ => by rw [hs]; rfl⟩
theorem both_nil (m n : Nat) (old : List Int) (z : Int) (whole : Bool) (h1 : 1 ≤ m) (h : m < n) : BothPost m n old [] z whole old old false := by
  have hn : needF whole (gstepsF m n) ≠ 0 := by
    by_cases hi : m ≤ kF n
    · rw [gstepsF_left m n (by omega) hi, needF_cons]; omega
    · rw [gstepsF_right m n (by omega) hi, needF_cons]; omega
  exact ⟨(decide_eq_false (fun e => hn e.symm)).symm, fun e => absurd e.symm hn⟩
theorem both_left {m n : Nat} {old last : List Int} {rest : List (List Int)} {z : Int} {whole : Bool} {a b : List Int} {ok : Bool} (h1 : 1 ≤ m) (h : m < n) (hi : m ≤ kF n) (hp : BothPost m (kF n) old rest z whole a b ok) :
    BothPost m n old (rest ++ [last]) z whole a (nodeF b last z) ok := by
  have hs := gstepsF_left m n (by omega) hi
  have hn : needF whole (gstepsF m n) = needF whole (gstepsF m (kF n)) + 1 := by rw [hs, needF_cons]; simp
  refine ⟨by rw [hp.ok, hn]; simp, fun e => ?_⟩
  rw [hn] at e
  have e : rest.length = needF whole (gstepsF m (kF n)) := by simpa using e
  rw [hs, bothF_one _ _ _ _ _ _ _ (by simpa using e), Bool.not_false, Bool.and_true, ← hp.eq e]
  rfl
theorem both_right {m n : Nat} {old last : List Int} {rest : List (List Int)} {z : Int} {whole : Bool} {a b : List Int} {ok : Bool} (h1 : 1 ≤ m) (h : m < n) (hi : ¬ m ≤ kF n) (hp : BothPost (m - kF n) (n - kF n) old rest z false a b ok) :
    BothPost m n old (rest ++ [last]) z whole (nodeF last a z) (nodeF last b z) ok := by
  have hs := gstepsF_right m n (by omega) hi
  have hn : needF whole (gstepsF m n) = needF false (gstepsF (m - kF n) (n - kF n)) + 1 := by rw [hs, needF_cons]; simp
  refine ⟨by rw [hp.ok, hn]; simp, fun e => ?_⟩
  rw [hn] at e
  have e : rest.length = needF false (gstepsF (m - kF n) (n - kF n)) := by simpa using e
  rw [hs, bothF_one _ _ _ _ _ _ _ (by simpa using e), Bool.not_true, Bool.and_false, ← hp.eq e]
  rfl

def GivesBt (m n : Nat) (old : List Int) (ps : List (List Int)) (z : Int) (whole : Bool) (w : World) (e : Ending) (w' : World) : Prop :=
  ∃ (a b : List Int) (ok : Bool), e = .returned (.tuple #[.agg (nums .u8 a).toArray, .agg (nums .u8 b).toArray, .bool ok]) ∧ Hid (a.length = 32 ∧ U8 a) ∧ Hid (b.length = 32 ∧ U8 b) ∧ Hid (BothPost m n old ps z whole a b ok) ∧ Below w.heap.size w w'

/-- The world behind the rows of the parameter and of the two results. -/
structure Both0 (w : World) (old : List Int) (w0 : World) : Prop where
  x : Blk w0 w.heap.size (nums .u8 old) 24
  r : Blk w0 (w.heap.size + 1) (nums .u8 (List.replicate 32 0)) 24
  s : Blk w0 (w.heap.size + 2) (nums .u8 (List.replicate 32 0)) 24
  B : Below w.heap.size w w0
theorem both0_at (w : World) (old : List Int) : Both0 w old (((w.alloc (.cells (nums .u8 old).toArray 24)).alloc (.cells (nums .u8 (List.replicate 32 0)).toArray 24)).alloc (.cells (nums .u8 (List.replicate 32 0)).toArray 24)) :=
  ⟨((Blk.new' _ _ _ _ _ rfl rfl).alloc _).alloc _, (Blk.new' _ _ _ _ _ rfl (by simp)).alloc _, Blk.new' _ _ _ _ _ rfl (by simp), (((Below.refl _ _).alloc (Nat.le_refl _) _).alloc (by simp) _).alloc (by simp; omega) _⟩

set_option maxRecDepth 100000 in
set_option maxHeartbeats 4000000 in
theorem both_whole_any (w : World) (old : List Int) (hol : old.length = 32) (uol : U8 old) (n : Nat) (_hn : n ≤ 9223372036854775807) (ps : List (List Int)) (A : Option Addr) (c : Nat) (z : Int) :
    Calls Tryd.prog 69 #[.agg (nums .u8 old).toArray, .int .i64 n, .int .i64 n, .slice A ps.length c, .int .i64 z, .bool true] w (GivesBt n n old ps z true w) := by
  have HOL := Lib.hid (And.intro hol uol)
  have HP := Lib.hid (both_whole n old ps z)
  clear hol uol
  have H0 := Lib.hid (both0_at w old)
  go_enter Tryd.func69, Tryd.ntmps69
  go_wp2_with fail
  refine named_world ?_
  intro w0 hw0
  have h0 : Both0 w old w0 := by rw [hw0]; exact H0.out
  obtain ⟨hx, hr, hs, hB⟩ := h0
  clear hw0
  have hxl := hx.lt
  have hrl := hr.lt
  have hsl := hs.lt
  have hB := hB.drew
  have hr := hr.drew
  have hs := hs.drew
  refine wp_region_CF (Same [w.heap.size] w0) [5, 6] [7] (by kernel_rfl) (by kernel_rfl) (by intro c a w h; first | (obtain ⟨_, h, _⟩ := h; cases h; done) | (obtain ⟨_, _, h, _⟩ := h; cases h; done) | (obtain ⟨_, _, _, h, _⟩ := h; cases h; done) | (obtain ⟨_, _, _, _, h, _⟩ := h; cases h; done) | (rcases h with ⟨_, ⟨_, _, _, _, h, _⟩ | ⟨_, _, _, _, h, _⟩⟩ <;> cases h; done)) (by intro a w h; first | (obtain ⟨h, _⟩ := h; cases h; done) | (obtain ⟨_, h, _⟩ := h; cases h; done) | (obtain ⟨_, _, h, _⟩ := h; cases h; done) | (obtain ⟨_, _, _, h, _⟩ := h; cases h; done) | (rcases h with ⟨_, _, _, _, h, _⟩ | ⟨_, _, _, _, h, _⟩ <;> cases h; done)) (Same.refl _ _) ?_
  repeat (refine wd_w (v := ?_) rfl rfl rfl rfl rfl rfl (fun w' hw' K hK => ?_) ?_; rotate_left; (have e1 := hw'.blk hx (by simp); go_wp2_with ((first | ((with_reducible apply st_load (n := 32) (cs := nums .u8 (old)) (T := 24)); rfl; exact e1; exact Tryd.underlying24; rfl; kernel_rfl; (rw [nums_length, HOL.out.1]; exact Nat.le_refl _); (exact row_all _ _ (by rw [nums_length, HOL.out.1]))))); exact rfl); simp only [Act.put, List.setIfInBounds_toArray, List.set_cons_zero, List.set_cons_succ])
  refine wd_l rfl rfl (by intro a w h; first | (obtain ⟨h, _⟩ := h; cases h; done) | (obtain ⟨_, h, _⟩ := h; cases h; done) | (obtain ⟨_, _, h, _⟩ := h; cases h; done) | (obtain ⟨_, _, _, h, _⟩ := h; cases h; done) | (rcases h with ⟨_, _, _, _, h, _⟩ | ⟨_, _, _, _, h, _⟩ <;> cases h; done)) ?_
  go_wp2_with ((with_reducible apply st_storeW (off := 0) (vs := nums .u8 (old)) (cs := nums .u8 (List.replicate 32 0)) (T := 24)); rfl; rfl; exact hr; (rw [nums_length, HOL.out.1]; kernel_rfl); (rw [nums_length, HOL.out.1]; decide); exact nums_one _ _; intro w91 hd91 hw91; rw [laid_all _ _ (by rw [nums_length, HOL.out.1]; rfl)] at hd91)
  refine ⟨.inr ((Same.refl _ _).drewR.wrote hw91 (by simp <;> omega)), ?_⟩
  have hs91 := hw91.blk hs (by omega)
  have hB91 := Wrote.below hB hw91 (by omega)
  refine wd_l rfl rfl (by intro a w h; first | (obtain ⟨h, _⟩ := h; cases h; done) | (obtain ⟨_, h, _⟩ := h; cases h; done) | (obtain ⟨_, _, h, _⟩ := h; cases h; done) | (obtain ⟨_, _, _, h, _⟩ := h; cases h; done) | (rcases h with ⟨_, _, _, _, h, _⟩ | ⟨_, _, _, _, h, _⟩ <;> cases h; done)) ?_
  go_wp2_with ((with_reducible apply st_storeW (off := 0) (vs := nums .u8 (old)) (cs := nums .u8 (List.replicate 32 0)) (T := 24)); rfl; rfl; exact hs91; (rw [nums_length, HOL.out.1]; kernel_rfl); (rw [nums_length, HOL.out.1]; decide); exact nums_one _ _; intro w92 hd92 hw92; rw [laid_all _ _ (by rw [nums_length, HOL.out.1]; rfl)] at hd92)
  refine ⟨.inr (((Same.refl _ _).drewR.wrote hw91 (by simp <;> omega)).wrote hw92 (by simp <;> omega)), ?_⟩
  have hr92 := hw92.blk hd91 (by omega)
  have hB92 := Wrote.below hB91 hw92 (by omega)
  refine wd_assign rfl rfl rfl rfl ?_
  refine wd_nil ?_
  simp only [Act.put, List.setIfInBounds_toArray, List.set_cons_zero, List.set_cons_succ]
  go_wp2_with fail
  refine bodyPost_ret (ret_row2_tmp rfl _ _ _ _ (nums .u8 (old)) (nums .u8 (old)) 24 24 _ rfl hr92 rfl hd92 Tryd.underlying24 rfl (by rw [nums_length, HOL.out.1]; kernel_rfl) (by rw [nums_length, HOL.out.1]; kernel_rfl)) rfl ⟨old, old, _, rfl, HOL.out, HOL.out, HP.out, hB92⟩

set_option maxRecDepth 100000 in
set_option maxHeartbeats 4000000 in
theorem both_bad_any (w : World) (old : List Int) (hol : old.length = 32) (uol : U8 old) (n : Nat) (_hn : n ≤ 9223372036854775807) (ps : List (List Int)) (h1 : ¬ ps.length = 1) (A : Option Addr) (c : Nat) (z : Int) :
    Calls Tryd.prog 69 #[.agg (nums .u8 old).toArray, .int .i64 n, .int .i64 n, .slice A ps.length c, .int .i64 z, .bool false] w (GivesBt n n old ps z false w) := by
  have HOL := Lib.hid (And.intro hol uol)
  have HP := Lib.hid (both_bad n old ps z h1)
  clear hol uol
  have H0 := Lib.hid (both0_at w old)
  go_enter Tryd.func69, Tryd.ntmps69
  go_wp2_with fail
  refine named_world ?_
  intro w0 hw0
  have h0 : Both0 w old w0 := by rw [hw0]; exact H0.out
  obtain ⟨hx, hr, hs, hB⟩ := h0
  clear hw0
  have hxl := hx.lt
  have hrl := hr.lt
  have hsl := hs.lt
  have hB := hB.drew
  have hr := hr.drew
  have hs := hs.drew
  refine wp_region_CF (Same [w.heap.size] w0) [2, 3] [4] (by kernel_rfl) (by kernel_rfl) (by intro c a w h; first | (obtain ⟨_, h, _⟩ := h; cases h; done) | (obtain ⟨_, _, h, _⟩ := h; cases h; done) | (obtain ⟨_, _, _, h, _⟩ := h; cases h; done) | (obtain ⟨_, _, _, _, h, _⟩ := h; cases h; done) | (rcases h with ⟨_, ⟨_, _, _, _, h, _⟩ | ⟨_, _, _, _, h, _⟩⟩ <;> cases h; done)) (by intro a w h; first | (obtain ⟨h, _⟩ := h; cases h; done) | (obtain ⟨_, h, _⟩ := h; cases h; done) | (obtain ⟨_, _, h, _⟩ := h; cases h; done) | (obtain ⟨_, _, _, h, _⟩ := h; cases h; done) | (rcases h with ⟨_, _, _, _, h, _⟩ | ⟨_, _, _, _, h, _⟩ <;> cases h; done)) (Same.refl _ _) ?_
  repeat (refine wd_w (v := ?_) rfl rfl rfl rfl rfl rfl (fun w' hw' K hK => ?_) ?_; rotate_left; (have e1 := hw'.blk hx (by simp); go_wp2_with ((first | ((with_reducible apply st_load (n := 32) (cs := nums .u8 (old)) (T := 24)); rfl; exact e1; exact Tryd.underlying24; rfl; kernel_rfl; (rw [nums_length, HOL.out.1]; exact Nat.le_refl _); (exact row_all _ _ (by rw [nums_length, HOL.out.1]))))); exact rfl); simp only [Act.put, List.setIfInBounds_toArray, List.set_cons_zero, List.set_cons_succ])
  refine wd_l rfl rfl (by intro a w h; first | (obtain ⟨h, _⟩ := h; cases h; done) | (obtain ⟨_, h, _⟩ := h; cases h; done) | (obtain ⟨_, _, h, _⟩ := h; cases h; done) | (obtain ⟨_, _, _, h, _⟩ := h; cases h; done) | (rcases h with ⟨_, _, _, _, h, _⟩ | ⟨_, _, _, _, h, _⟩ <;> cases h; done)) ?_
  go_wp2_with ((with_reducible apply st_storeW (off := 0) (vs := nums .u8 (old)) (cs := nums .u8 (List.replicate 32 0)) (T := 24)); rfl; rfl; exact hr; (rw [nums_length, HOL.out.1]; kernel_rfl); (rw [nums_length, HOL.out.1]; decide); exact nums_one _ _; intro w91 hd91 hw91; rw [laid_all _ _ (by rw [nums_length, HOL.out.1]; rfl)] at hd91)
  refine ⟨.inr ((Same.refl _ _).drewR.wrote hw91 (by simp <;> omega)), ?_⟩
  have hs91 := hw91.blk hs (by omega)
  have hB91 := Wrote.below hB hw91 (by omega)
  refine wd_l rfl rfl (by intro a w h; first | (obtain ⟨h, _⟩ := h; cases h; done) | (obtain ⟨_, h, _⟩ := h; cases h; done) | (obtain ⟨_, _, h, _⟩ := h; cases h; done) | (obtain ⟨_, _, _, h, _⟩ := h; cases h; done) | (rcases h with ⟨_, _, _, _, h, _⟩ | ⟨_, _, _, _, h, _⟩ <;> cases h; done)) ?_
  go_wp2_with ((with_reducible apply st_storeW (off := 0) (vs := nums .u8 (old)) (cs := nums .u8 (List.replicate 32 0)) (T := 24)); rfl; rfl; exact hs91; (rw [nums_length, HOL.out.1]; kernel_rfl); (rw [nums_length, HOL.out.1]; decide); exact nums_one _ _; intro w92 hd92 hw92; rw [laid_all _ _ (by rw [nums_length, HOL.out.1]; rfl)] at hd92)
  refine ⟨.inr (((Same.refl _ _).drewR.wrote hw91 (by simp <;> omega)).wrote hw92 (by simp <;> omega)), ?_⟩
  have hr92 := hw92.blk hd91 (by omega)
  have hB92 := Wrote.below hB91 hw92 (by omega)
  refine wd_assign rfl rfl rfl rfl ?_
  refine wd_nil ?_
  simp only [Act.put, List.setIfInBounds_toArray, List.set_cons_zero, List.set_cons_succ]
  go_wp2_with fail
  refine bodyPost_ret (ret_row2_tmp rfl _ _ _ _ (nums .u8 (old)) (nums .u8 (old)) 24 24 _ rfl hr92 rfl hd92 Tryd.underlying24 rfl (by rw [nums_length, HOL.out.1]; kernel_rfl) (by rw [nums_length, HOL.out.1]; kernel_rfl)) rfl ⟨old, old, _, rfl, HOL.out, HOL.out, HP.out, hB92⟩

set_option maxRecDepth 100000 in
set_option maxHeartbeats 4000000 in
theorem both_nil_any (w : World) (old : List Int) (hol : old.length = 32) (uol : U8 old) (m n : Nat) (hm : 1 ≤ m) (hmn : m < n) (_hn : n ≤ 9223372036854775807) (A : Option Addr) (c : Nat) (whole : Bool) (z : Int) :
    Calls Tryd.prog 69 #[.agg (nums .u8 old).toArray, .int .i64 m, .int .i64 n, .slice A 0 c, .int .i64 z, .bool whole] w (GivesBt m n old [] z whole w) := by
  have HOL := Lib.hid (And.intro hol uol)
  have HP := Lib.hid (both_nil m n old z whole hm hmn)
  clear hol uol
  have H0 := Lib.hid (both0_at w old)
  go_enter Tryd.func69, Tryd.ntmps69
  go_wp2_with fail
  refine named_world ?_
  intro w0 hw0
  have h0 : Both0 w old w0 := by rw [hw0]; exact H0.out
  obtain ⟨hx, hr, hs, hB⟩ := h0
  clear hw0
  have hxl := hx.lt
  have hrl := hr.lt
  have hsl := hs.lt
  have hB := hB.drew
  have hr := hr.drew
  have hs := hs.drew
  refine wp_region_CF (Same [w.heap.size] w0) [2, 3] [4] (by kernel_rfl) (by kernel_rfl) (by intro c a w h; first | (obtain ⟨_, h, _⟩ := h; cases h; done) | (obtain ⟨_, _, h, _⟩ := h; cases h; done) | (obtain ⟨_, _, _, h, _⟩ := h; cases h; done) | (obtain ⟨_, _, _, _, h, _⟩ := h; cases h; done) | (rcases h with ⟨_, ⟨_, _, _, _, h, _⟩ | ⟨_, _, _, _, h, _⟩⟩ <;> cases h; done)) (by intro a w h; first | (obtain ⟨h, _⟩ := h; cases h; done) | (obtain ⟨_, h, _⟩ := h; cases h; done) | (obtain ⟨_, _, h, _⟩ := h; cases h; done) | (obtain ⟨_, _, _, h, _⟩ := h; cases h; done) | (rcases h with ⟨_, _, _, _, h, _⟩ | ⟨_, _, _, _, h, _⟩ <;> cases h; done)) (Same.refl _ _) ?_
  repeat (refine wd_w (v := ?_) rfl rfl rfl rfl rfl rfl (fun w' hw' K hK => ?_) ?_; rotate_left; (have e1 := hw'.blk hx (by simp); go_wp2_with ((first | ((with_reducible apply st_load (n := 32) (cs := nums .u8 (old)) (T := 24)); rfl; exact e1; exact Tryd.underlying24; rfl; kernel_rfl; (rw [nums_length, HOL.out.1]; exact Nat.le_refl _); (exact row_all _ _ (by rw [nums_length, HOL.out.1]))))); exact rfl); simp only [Act.put, List.setIfInBounds_toArray, List.set_cons_zero, List.set_cons_succ])
  refine wd_l rfl rfl (by intro a w h; first | (obtain ⟨h, _⟩ := h; cases h; done) | (obtain ⟨_, h, _⟩ := h; cases h; done) | (obtain ⟨_, _, h, _⟩ := h; cases h; done) | (obtain ⟨_, _, _, h, _⟩ := h; cases h; done) | (rcases h with ⟨_, _, _, _, h, _⟩ | ⟨_, _, _, _, h, _⟩ <;> cases h; done)) ?_
  go_wp2_with ((with_reducible apply st_storeW (off := 0) (vs := nums .u8 (old)) (cs := nums .u8 (List.replicate 32 0)) (T := 24)); rfl; rfl; exact hr; (rw [nums_length, HOL.out.1]; kernel_rfl); (rw [nums_length, HOL.out.1]; decide); exact nums_one _ _; intro w91 hd91 hw91; rw [laid_all _ _ (by rw [nums_length, HOL.out.1]; rfl)] at hd91)
  refine ⟨.inr ((Same.refl _ _).drewR.wrote hw91 (by simp <;> omega)), ?_⟩
  have hs91 := hw91.blk hs (by omega)
  have hB91 := Wrote.below hB hw91 (by omega)
  refine wd_l rfl rfl (by intro a w h; first | (obtain ⟨h, _⟩ := h; cases h; done) | (obtain ⟨_, h, _⟩ := h; cases h; done) | (obtain ⟨_, _, h, _⟩ := h; cases h; done) | (obtain ⟨_, _, _, h, _⟩ := h; cases h; done) | (rcases h with ⟨_, _, _, _, h, _⟩ | ⟨_, _, _, _, h, _⟩ <;> cases h; done)) ?_
  go_wp2_with ((with_reducible apply st_storeW (off := 0) (vs := nums .u8 (old)) (cs := nums .u8 (List.replicate 32 0)) (T := 24)); rfl; rfl; exact hs91; (rw [nums_length, HOL.out.1]; kernel_rfl); (rw [nums_length, HOL.out.1]; decide); exact nums_one _ _; intro w92 hd92 hw92; rw [laid_all _ _ (by rw [nums_length, HOL.out.1]; rfl)] at hd92)
  refine ⟨.inr (((Same.refl _ _).drewR.wrote hw91 (by simp <;> omega)).wrote hw92 (by simp <;> omega)), ?_⟩
  have hr92 := hw92.blk hd91 (by omega)
  have hB92 := Wrote.below hB91 hw92 (by omega)
  refine wd_assign rfl rfl rfl rfl ?_
  refine wd_nil ?_
  simp only [Act.put, List.setIfInBounds_toArray, List.set_cons_zero, List.set_cons_succ]
  go_wp2_with fail
  refine bodyPost_ret (ret_row2_tmp rfl _ _ _ _ (nums .u8 (old)) (nums .u8 (old)) 24 24 _ rfl hr92 rfl hd92 Tryd.underlying24 rfl (by rw [nums_length, HOL.out.1]; kernel_rfl) (by rw [nums_length, HOL.out.1]; kernel_rfl)) rfl ⟨old, old, _, rfl, HOL.out, HOL.out, HP.out, hB92⟩

set_option maxRecDepth 100000 in
set_option maxHeartbeats 4000000 in
theorem both_one_any (w : World) (old : List Int) (hol : old.length = 32) (uol : U8 old) (n : Nat) (_hn : n ≤ 9223372036854775807) (p0 : List Int) (A : Option Addr) (c : Nat) (hd : Dg w A c [p0]) (z : Int) :
    Calls Tryd.prog 69 #[.agg (nums .u8 old).toArray, .int .i64 n, .int .i64 n, .slice A 1 c, .int .i64 z, .bool false] w (GivesBt n n old [p0] z false w) := by
  have HOL := Lib.hid (And.intro hol uol)
  have HP := Lib.hid (both_one n old p0 z)
  obtain ⟨g, off, rfl, hg, hcells⟩ := hd.get (by simp)
  have hc0 : ∀ j v, (nums .u8 p0)[j]? = some v → w.cell? ⟨g, off + j, none⟩ = some v := fun j v hv => by
    have := hcells 0 (by simp) j v hv
    rwa [Nat.zero_mul, Nat.add_zero] at this
  have HC0 := Lib.hid hc0
  have HPO := Lib.hid (hd.u p0 (by simp))
  have hle := hd.le
  simp only [List.length_singleton] at hle
  clear hol uol hcells hc0 hd
  have H0 := Lib.hid (both0_at w old)
  go_enter Tryd.func69, Tryd.ntmps69
  go_wp2_with fail
  refine named_world ?_
  intro w0 hw0
  have h0 : Both0 w old w0 := by rw [hw0]; exact H0.out
  obtain ⟨hx, hr, hs, hB⟩ := h0
  clear hw0
  have hxl := hx.lt
  have hrl := hr.lt
  have hsl := hs.lt
  have hB := hB.drew
  have hr := hr.drew
  have hs := hs.drew
  refine wp_region_CF (Same [g] w0) [6, 7] [8] (by kernel_rfl) (by kernel_rfl) (by intro c a w h; first | (obtain ⟨_, h, _⟩ := h; cases h; done) | (obtain ⟨_, _, h, _⟩ := h; cases h; done) | (obtain ⟨_, _, _, h, _⟩ := h; cases h; done) | (obtain ⟨_, _, _, _, h, _⟩ := h; cases h; done) | (rcases h with ⟨_, ⟨_, _, _, _, h, _⟩ | ⟨_, _, _, _, h, _⟩⟩ <;> cases h; done)) (by intro a w h; first | (obtain ⟨h, _⟩ := h; cases h; done) | (obtain ⟨_, h, _⟩ := h; cases h; done) | (obtain ⟨_, _, h, _⟩ := h; cases h; done) | (obtain ⟨_, _, _, h, _⟩ := h; cases h; done) | (rcases h with ⟨_, _, _, _, h, _⟩ | ⟨_, _, _, _, h, _⟩ <;> cases h; done)) (Same.refl _ _) ?_
  repeat (refine wd_w (v := ?_) rfl rfl rfl rfl rfl rfl (fun w' hw' K hK => ?_) ?_; rotate_left; (have e1 : ∀ j v, (nums .u8 p0)[j]? = some v → w'.cell? ⟨g, off + j, none⟩ = some v := fun j v hv => (hw'.cell g (by simp) _).trans ((hB.cell (p := ⟨g, off + j, none⟩) hg).trans (HC0.out j v hv)); go_wp2_with ((first | ((with_reducible apply st_loadCells (cs := nums .u8 (p0))); rfl; exact e1; exact Tryd.underlying24; rfl; (rw [nums_length, HPO.out.1]; kernel_rfl)))); exact rfl); simp only [Act.put, List.setIfInBounds_toArray, List.set_cons_zero, List.set_cons_succ])
  refine wd_l rfl rfl (by intro a w h; first | (obtain ⟨h, _⟩ := h; cases h; done) | (obtain ⟨_, h, _⟩ := h; cases h; done) | (obtain ⟨_, _, h, _⟩ := h; cases h; done) | (obtain ⟨_, _, _, h, _⟩ := h; cases h; done) | (rcases h with ⟨_, _, _, _, h, _⟩ | ⟨_, _, _, _, h, _⟩ <;> cases h; done)) ?_
  go_wp2_with ((with_reducible apply st_storeW (off := 0) (vs := nums .u8 (p0)) (cs := nums .u8 (List.replicate 32 0)) (T := 24)); rfl; rfl; exact hr; (rw [nums_length, HPO.out.1]; kernel_rfl); (rw [nums_length, HPO.out.1]; decide); exact nums_one _ _; intro w91 hd91 hw91; rw [laid_all _ _ (by rw [nums_length, HPO.out.1]; rfl)] at hd91)
  refine ⟨.inr ((Same.refl _ _).drewR.wrote hw91 (by simp <;> omega)), ?_⟩
  have hs91 := hw91.blk hs (by omega)
  have hB91 := Wrote.below hB hw91 (by omega)
  refine wd_l rfl rfl (by intro a w h; first | (obtain ⟨h, _⟩ := h; cases h; done) | (obtain ⟨_, h, _⟩ := h; cases h; done) | (obtain ⟨_, _, h, _⟩ := h; cases h; done) | (obtain ⟨_, _, _, h, _⟩ := h; cases h; done) | (rcases h with ⟨_, _, _, _, h, _⟩ | ⟨_, _, _, _, h, _⟩ <;> cases h; done)) ?_
  go_wp2_with ((with_reducible apply st_storeW (off := 0) (vs := nums .u8 (p0)) (cs := nums .u8 (List.replicate 32 0)) (T := 24)); rfl; rfl; exact hs91; (rw [nums_length, HPO.out.1]; kernel_rfl); (rw [nums_length, HPO.out.1]; decide); exact nums_one _ _; intro w92 hd92 hw92; rw [laid_all _ _ (by rw [nums_length, HPO.out.1]; rfl)] at hd92)
  refine ⟨.inr (((Same.refl _ _).drewR.wrote hw91 (by simp <;> omega)).wrote hw92 (by simp <;> omega)), ?_⟩
  have hr92 := hw92.blk hd91 (by omega)
  have hB92 := Wrote.below hB91 hw92 (by omega)
  refine wd_assign rfl rfl rfl rfl ?_
  refine wd_nil ?_
  simp only [Act.put, List.setIfInBounds_toArray, List.set_cons_zero, List.set_cons_succ]
  go_wp2_with fail
  refine bodyPost_ret (ret_row2_tmp rfl _ _ _ _ (nums .u8 (p0)) (nums .u8 (p0)) 24 24 _ rfl hr92 rfl hd92 Tryd.underlying24 rfl (by rw [nums_length, HPO.out.1]; kernel_rfl) (by rw [nums_length, HPO.out.1]; kernel_rfl)) rfl ⟨p0, p0, _, rfl, HPO.out, HPO.out, HP.out, hB92⟩
end BothA
section BothC
open Go.RowKit

set_option maxRecDepth 100000 in
set_option maxHeartbeats 4000000 in
theorem both_any (n : Nat) : ∀ (w : World) (old : List Int) (m : Nat) (ps : List (List Int)) (A : Option Addr) (c : Nat) (whole : Bool), old.length = 32 → U8 old → Dg w A c ps → ps.length ≤ 1000 → ∀ (z : Int), 1 ≤ m → m ≤ n → n ≤ 9223372036854775807 → KV w →
    Calls Tryd.prog 69 #[.agg (nums .u8 old).toArray, .int .i64 m, .int .i64 n, .slice A ps.length c, .int .i64 z, .bool whole] w (GivesBt m n old ps z whole w) := by
  induction n using Nat.strongRecOn with
  | ind n ih =>
    intro w old m ps A c whole hol uol hd hl z h1 hmn hmax hk
    by_cases hn : m = n
    · subst hn
      cases whole
      · by_cases hp1 : ps.length = 1
        · obtain ⟨p0, rfl⟩ := List.length_eq_one_iff.1 hp1
          exact both_one_any w old hol uol m hmax p0 A c hd z
        · exact both_bad_any w old hol uol m hmax ps hp1 A c z
      · exact both_whole_any w old hol uol m hmax ps A c z
    · by_cases hp0 : ps.length = 0
      · obtain rfl := List.eq_nil_of_length_eq_zero hp0
        exact both_nil_any w old hol uol m n h1 (by omega) hmax A c whole z
      · have HK := Lib.hid hk
        have HOL := Lib.hid (And.intro hol uol)
        obtain ⟨rest, last, q, g, off, hps, hq, hqq, rfl, hg, hll, hlu, hc0, htk, hle⟩ := hd.snoc hp0
        have hks := kF_spec n (by omega)
        have hcl := fun a b ok => @both_left m n old last rest z whole a b ok h1 (by omega)
        have hcr := fun a b ok => @both_right m n old last rest z whole a b ok h1 (by omega)
        obtain ⟨k, hkk⟩ : ∃ k, k = kF n := ⟨_, rfl⟩
        rw [← hkk] at hks hcl hcr
        obtain ⟨k1, k2, k3, k4⟩ := hks
        rw [hq]
        rw [← hps] at hcl hcr
        have HC0 := Lib.hid hc0
        have HLL := Lib.hid (And.intro hll hlu)
        have HTK := Lib.hid htk
        have HSP := Lib.hid k4
        have HCL := Lib.hid hcl
        have HCR := Lib.hid hcr
        have hq1 : q ≤ 1000 := by omega
        by_cases hik : m ≤ k
        · have hc1 := fun (w : World) (h : Dg w (some ⟨g, off, none⟩) c rest) => ih k (by omega) w old m rest (some ⟨g, off, none⟩) c whole hol uol h (by omega) z h1 hik (by omega)
          rw [← hqq] at hc1
          have HC1 := Lib.hid hc1
          clear ih hk hkk hc1 hd hl hp0 hps hq hqq hll hlu hc0 htk hcl hcr k4 hol uol
          have H0 := Lib.hid (both0_at w old)
          go_enter Tryd.func69, Tryd.ntmps69
          go_wp2_with fail
          refine named_world ?_
          intro w0 hw0
          have h0 : Both0 w old w0 := by rw [hw0]; exact H0.out
          obtain ⟨hx, hr, hs, hB⟩ := h0
          clear hw0
          have hxl := hx.lt
          have hrl := hr.lt
          have hsl := hs.lt
          have hgw := Nat.lt_of_lt_of_le hg hB.size
          refine wp_region_CF (Same [g] w0) [11, 12] [13] (by kernel_rfl) (by kernel_rfl) (by intro c a w h; first | (obtain ⟨_, h, _⟩ := h; cases h; done) | (obtain ⟨_, _, h, _⟩ := h; cases h; done) | (obtain ⟨_, _, _, h, _⟩ := h; cases h; done) | (obtain ⟨_, _, _, _, h, _⟩ := h; cases h; done) | (rcases h with ⟨_, ⟨_, _, _, _, h, _⟩ | ⟨_, _, _, _, h, _⟩⟩ <;> cases h; done)) (by intro a w h; first | (obtain ⟨h, _⟩ := h; cases h; done) | (obtain ⟨_, h, _⟩ := h; cases h; done) | (obtain ⟨_, _, h, _⟩ := h; cases h; done) | (obtain ⟨_, _, _, h, _⟩ := h; cases h; done) | (rcases h with ⟨_, _, _, _, h, _⟩ | ⟨_, _, _, _, h, _⟩ <;> cases h; done)) (Same.refl _ _) ?_
          repeat (refine wd_w (v := ?_) rfl rfl rfl rfl rfl rfl (fun w' hw' K hK => ?_) ?_; rotate_left; (have e1 : ∀ j v, (nums .u8 last)[j]? = some v → w'.cell? ⟨g, off + q * 32 + j, none⟩ = some v := fun j v hv => (hw'.cell g (by simp) _).trans ((hB.cell (p := ⟨g, off + q * 32 + j, none⟩) hg).trans (HC0.out j v hv)); go_wp2_with ((first | ((with_reducible apply st_loadCells (cs := nums .u8 (last))); rfl; exact e1; exact Tryd.underlying24; rfl; (rw [nums_length, HLL.out.1]; kernel_rfl)) | ((with_reducible apply st_toD (sz := 32) (i := q)); exact Tryd.underlying66; kernel_rfl; rfl; rfl; rfl; omega; exact nn_some; exact spot_none))); exact rfl); simp only [Act.put, List.setIfInBounds_toArray, List.set_cons_zero, List.set_cons_succ])
          refine wd_l rfl rfl (by intro a w h; first | (obtain ⟨h, _⟩ := h; cases h; done) | (obtain ⟨_, h, _⟩ := h; cases h; done) | (obtain ⟨_, _, h, _⟩ := h; cases h; done) | (obtain ⟨_, _, _, h, _⟩ := h; cases h; done) | (rcases h with ⟨_, _, _, _, h, _⟩ | ⟨_, _, _, _, h, _⟩ <;> cases h; done)) ?_
          go_wp2
          refine ⟨.inr ((Same.refl _ _).alloc (by simp; omega) _), ?_⟩
          refine wd_l rfl rfl (by intro a w h; first | (obtain ⟨h, _⟩ := h; cases h; done) | (obtain ⟨_, h, _⟩ := h; cases h; done) | (obtain ⟨_, _, h, _⟩ := h; cases h; done) | (obtain ⟨_, _, _, h, _⟩ := h; cases h; done) | (rcases h with ⟨_, _, _, _, h, _⟩ | ⟨_, _, _, _, h, _⟩ <;> cases h; done)) ?_
          have hl0 : Blk (w0.drew.alloc (.cells (nums .u8 (List.replicate 32 0)).toArray 24)) w0.heap.size (nums .u8 (List.replicate 32 0)) 24 := Blk.new' _ _ _ _ _ rfl rfl
          go_wp2_with ((with_reducible apply st_storeW (off := 0) (vs := nums .u8 (last)) (cs := nums .u8 (List.replicate 32 0)) (T := 24)); rfl; rfl; exact hl0; (rw [nums_length, HLL.out.1]; kernel_rfl); (rw [nums_length, HLL.out.1]; decide); exact nums_one _ _; intro w2 hd2 hw2; rw [laid_all _ _ (by rw [nums_length, HLL.out.1]; rfl)] at hd2)
          refine ⟨.inr (((Same.refl _ _).alloc (by simp; omega) _).drewR.wrote hw2 (by simp; omega)), ?_⟩
          refine wd_assign rfl rfl rfl rfl ?_
          refine wd_nil ?_
          simp only [Act.put, List.setIfInBounds_toArray, List.set_cons_zero, List.set_cons_succ]
          have hB := Wrote.below ((hB.drew).alloc hB.size _) hw2 hB.size
          have hx := hw2.blk (hx.drew.alloc _) (by omega)
          have hr := hw2.blk (hr.drew.alloc _) (by omega)
          have hs := hw2.blk (hs.drew.alloc _) (by omega)
          clear hl0
          go_wp2_with fail
          go_at_call 73
          refine (split_any _ n (by omega) (by omega)).mono ?_
          rw [HSP.out]
          rintro e wz ⟨rfl, rfl⟩
          go_wp2_with ((with_reducible apply st_load (n := 32) (cs := nums .u8 (old)) (T := 24)); rfl; exact hx; exact Tryd.underlying24; rfl; kernel_rfl; (rw [nums_length, HOL.out.1]; exact Nat.le_refl _); (exact row_all _ _ (by rw [nums_length, HOL.out.1])))
          go_at_call 69
          refine (HC1.out _ (HTK.out.up hB) (HK.out.below hB HK.out.lt)).mono ?_
          rintro e w3 ⟨a, b, ok, rfl, HA, HBB, HP, hb⟩
          have hl2 := hd2.lt
          have hB := hB.trans (hb.mono hB.size)
          have hr := hr.up hb
          have hs := hs.up hb
          have hl := hd2.up hb
          have hu0 := hB.size
          have hrl := hr.lt
          have hsl := hs.lt
          have hll := hl.lt
          have hfin := HCL.out a b ok hik HP.out
          have hA0 : Blk ((w3.alloc (.cells (nums .u8 (List.replicate 32 0)).toArray 24)).alloc (.cells (nums .u8 (List.replicate 32 0)).toArray 24)) w3.heap.size (nums .u8 (List.replicate 32 0)) 24 := (Blk.new' _ _ _ _ _ rfl rfl).alloc _
          have hB0 : Blk ((w3.alloc (.cells (nums .u8 (List.replicate 32 0)).toArray 24)).alloc (.cells (nums .u8 (List.replicate 32 0)).toArray 24)) (w3.heap.size + 1) (nums .u8 (List.replicate 32 0)) 24 := Blk.new' _ _ _ _ _ rfl (by simp)
          have hBB := (hB.alloc hB.size (.cells (nums .u8 (List.replicate 32 0)).toArray 24)).alloc (by simp; omega) (.cells (nums .u8 (List.replicate 32 0)).toArray 24)
          have hr := (hr.alloc (.cells (nums .u8 (List.replicate 32 0)).toArray 24)).alloc (.cells (nums .u8 (List.replicate 32 0)).toArray 24)
          have hs := (hs.alloc (.cells (nums .u8 (List.replicate 32 0)).toArray 24)).alloc (.cells (nums .u8 (List.replicate 32 0)).toArray 24)
          have hl := (hl.alloc (.cells (nums .u8 (List.replicate 32 0)).toArray 24)).alloc (.cells (nums .u8 (List.replicate 32 0)).toArray 24)
          clear hx hd2 hw2
          obtain ⟨y, hy⟩ : ∃ y, y = nodeF b last z := ⟨_, rfl⟩
          have hyo : y.length = 32 ∧ U8 y := by rw [hy]; exact ⟨nodeF_len _ _ _, nodeF_range _ _ _⟩
          have hcy := fun (w : World) => node_any w b last HBB.out.1 HLL.out.1 z
          rw [← hy] at hcy hfin
          have HCY := Lib.hid hcy
          have HYO := Lib.hid hyo
          have HFIN := Lib.hid hfin
          clear hcy hyo hfin hy
          go_wp2_with (first | (((with_reducible apply st_storeW (off := 0) (vs := nums .u8 (a)) (cs := nums .u8 (List.replicate 32 0)) (T := 24)); rfl; rfl; exact hA0; (rw [nums_length, HA.out.1]; kernel_rfl); (rw [nums_length, HA.out.1]; decide); exact nums_one _ _; intro w4 hd4 hw4; rw [laid_all _ _ (by rw [nums_length, HA.out.1]; rfl)] at hd4); have hB4 := hw4.blk hB0 (by omega)) | ((with_reducible apply st_storeW (off := 0) (vs := nums .u8 (b)) (cs := nums .u8 (List.replicate 32 0)) (T := 24)); rfl; rfl; exact hB4; (rw [nums_length, HBB.out.1]; kernel_rfl); (rw [nums_length, HBB.out.1]; decide); exact nums_one _ _; intro w5 hd5 hw5; rw [laid_all _ _ (by rw [nums_length, HBB.out.1]; rfl)] at hd5))
          have ha := hw5.blk hd4 (by omega)
          have hr := hw5.blk (hw4.blk hr (by omega)) (by omega)
          have hs := hw5.blk (hw4.blk hs (by omega)) (by omega)
          have hl := hw5.blk (hw4.blk hl (by omega)) (by omega)
          have hB := Wrote.below (Wrote.below hBB hw4 (by omega)) hw5 (by omega)
          have hal := ha.lt
          have hbl := hd5.lt
          have hB := hB.drew
          have hr := hr.drew
          have hs := hs.drew
          have hC : Below w5.heap.size w5 w5.drew := (Below.refl _ _).drew
          have hS : Same [w3.heap.size, w3.heap.size + 1, w0.heap.size] w5 w5.drew := Same.refl _ _
          clear hA0 hB0 hB4 hBB hd4 hw4 hw5
          refine wp_region_CF (Same [w3.heap.size, w3.heap.size + 1, w0.heap.size] w5) [4, 6, 7] [8] (by kernel_rfl) (by kernel_rfl) (by intro c a w h; first | (obtain ⟨_, h, _⟩ := h; cases h; done) | (obtain ⟨_, _, h, _⟩ := h; cases h; done) | (obtain ⟨_, _, _, h, _⟩ := h; cases h; done) | (obtain ⟨_, _, _, _, h, _⟩ := h; cases h; done) | (rcases h with ⟨_, ⟨_, _, _, _, h, _⟩ | ⟨_, _, _, _, h, _⟩⟩ <;> cases h; done)) (by intro a w h; first | (obtain ⟨h, _⟩ := h; cases h; done) | (obtain ⟨_, h, _⟩ := h; cases h; done) | (obtain ⟨_, _, h, _⟩ := h; cases h; done) | (obtain ⟨_, _, _, h, _⟩ := h; cases h; done) | (rcases h with ⟨_, _, _, _, h, _⟩ | ⟨_, _, _, _, h, _⟩ <;> cases h; done)) (Same.refl _ _) ?_
          repeat (refine wd_w (v := ?_) rfl rfl rfl rfl rfl rfl (fun w' hw' K hK => ?_) ?_; rotate_left; (have e1 := hw'.blk ha (by simp); have e2 := hw'.blk hd5 (by simp); have e3 := hw'.blk hl (by simp); go_wp2_with ((first | ((with_reducible apply st_load (n := 32) (cs := nums .u8 (a)) (T := 24)); rfl; exact e1; exact Tryd.underlying24; rfl; kernel_rfl; (rw [nums_length, HA.out.1]; exact Nat.le_refl _); (exact row_all _ _ (by rw [nums_length, HA.out.1]))) | ((with_reducible apply st_load (n := 32) (cs := nums .u8 (b)) (T := 24)); rfl; exact e2; exact Tryd.underlying24; rfl; kernel_rfl; (rw [nums_length, HBB.out.1]; exact Nat.le_refl _); (exact row_all _ _ (by rw [nums_length, HBB.out.1]))) | ((with_reducible apply st_load (n := 32) (cs := nums .u8 (last)) (T := 24)); rfl; exact e3; exact Tryd.underlying24; rfl; kernel_rfl; (rw [nums_length, HLL.out.1]; exact Nat.le_refl _); (exact row_all _ _ (by rw [nums_length, HLL.out.1]))))); exact rfl); simp only [Act.put, List.setIfInBounds_toArray, List.set_cons_zero, List.set_cons_succ])
          refine wd_l rfl rfl (by intro a w h; first | (obtain ⟨h, _⟩ := h; cases h; done) | (obtain ⟨_, h, _⟩ := h; cases h; done) | (obtain ⟨_, _, h, _⟩ := h; cases h; done) | (obtain ⟨_, _, _, h, _⟩ := h; cases h; done) | (rcases h with ⟨_, _, _, _, h, _⟩ | ⟨_, _, _, _, h, _⟩ <;> cases h; done)) ?_
          go_wp2_with fail
          go_at_call 50
          refine (HCY.out _ (HK.out.below hB HK.out.lt)).mono ?_
          rintro e w6 ⟨rfl, hb⟩
          have hB := hB.trans (hb.mono hB.size)
          have hS := hS.below hb (by have := hC.size; simp; omega)
          have hC := hC.trans (hb.mono hC.size)
          have hr := hr.up hb
          have hs := hs.up hb
          have hrl := hr.lt
          have hsl := hs.lt
          go_wp2_with fail
          refine ⟨.inr hS, ?_⟩
          repeat (refine wd_w (v := ?_) rfl rfl rfl rfl rfl rfl (fun w' hw' K hK => ?_) ?_; rotate_left; (have e1 := hw'.blk ha (by simp); have e2 := hw'.blk hd5 (by simp); have e3 := hw'.blk hl (by simp); go_wp2_with ((first | ((with_reducible apply st_load (n := 32) (cs := nums .u8 (a)) (T := 24)); rfl; exact e1; exact Tryd.underlying24; rfl; kernel_rfl; (rw [nums_length, HA.out.1]; exact Nat.le_refl _); (exact row_all _ _ (by rw [nums_length, HA.out.1]))) | ((with_reducible apply st_load (n := 32) (cs := nums .u8 (b)) (T := 24)); rfl; exact e2; exact Tryd.underlying24; rfl; kernel_rfl; (rw [nums_length, HBB.out.1]; exact Nat.le_refl _); (exact row_all _ _ (by rw [nums_length, HBB.out.1]))) | ((with_reducible apply st_load (n := 32) (cs := nums .u8 (last)) (T := 24)); rfl; exact e3; exact Tryd.underlying24; rfl; kernel_rfl; (rw [nums_length, HLL.out.1]; exact Nat.le_refl _); (exact row_all _ _ (by rw [nums_length, HLL.out.1]))))); exact rfl); simp only [Act.put, List.setIfInBounds_toArray, List.set_cons_zero, List.set_cons_succ])
          refine wd_l rfl rfl (by intro a w h; first | (obtain ⟨h, _⟩ := h; cases h; done) | (obtain ⟨_, h, _⟩ := h; cases h; done) | (obtain ⟨_, _, h, _⟩ := h; cases h; done) | (obtain ⟨_, _, _, h, _⟩ := h; cases h; done) | (rcases h with ⟨_, _, _, _, h, _⟩ | ⟨_, _, _, _, h, _⟩ <;> cases h; done)) ?_
          go_wp2_with ((with_reducible apply st_storeW (off := 0) (vs := nums .u8 (a)) (cs := nums .u8 (List.replicate 32 0)) (T := 24)); rfl; rfl; exact hr; (rw [nums_length, HA.out.1]; kernel_rfl); (rw [nums_length, HA.out.1]; decide); exact nums_one _ _; intro w91 hd91 hw91; rw [laid_all _ _ (by rw [nums_length, HA.out.1]; rfl)] at hd91)
          refine ⟨.inr (hS.wrote hw91 (by simp <;> omega)), ?_⟩
          have hs91 := hw91.blk hs (by omega)
          have hB91 := Wrote.below hB hw91 (by omega)
          refine wd_l rfl rfl (by intro a w h; first | (obtain ⟨h, _⟩ := h; cases h; done) | (obtain ⟨_, h, _⟩ := h; cases h; done) | (obtain ⟨_, _, h, _⟩ := h; cases h; done) | (obtain ⟨_, _, _, h, _⟩ := h; cases h; done) | (rcases h with ⟨_, _, _, _, h, _⟩ | ⟨_, _, _, _, h, _⟩ <;> cases h; done)) ?_
          go_wp2_with ((with_reducible apply st_storeW (off := 0) (vs := nums .u8 (y)) (cs := nums .u8 (List.replicate 32 0)) (T := 24)); rfl; rfl; exact hs91; (rw [nums_length, HYO.out.1]; kernel_rfl); (rw [nums_length, HYO.out.1]; decide); exact nums_one _ _; intro w92 hd92 hw92; rw [laid_all _ _ (by rw [nums_length, HYO.out.1]; rfl)] at hd92)
          refine ⟨.inr ((hS.wrote hw91 (by simp <;> omega)).wrote hw92 (by simp <;> omega)), ?_⟩
          have hr92 := hw92.blk hd91 (by omega)
          have hB92 := Wrote.below hB91 hw92 (by omega)
          refine wd_assign rfl rfl rfl rfl ?_
          refine wd_nil ?_
          simp only [Act.put, List.setIfInBounds_toArray, List.set_cons_zero, List.set_cons_succ]
          go_wp2_with fail
          refine bodyPost_ret (ret_row2_tmp rfl _ _ _ _ (nums .u8 (a)) (nums .u8 (y)) 24 24 _ rfl hr92 rfl hd92 Tryd.underlying24 rfl (by rw [nums_length, HA.out.1]; kernel_rfl) (by rw [nums_length, HYO.out.1]; kernel_rfl)) rfl ⟨a, y, _, rfl, HA.out, HYO.out, HFIN.out, hB92⟩
        · have hc1 := fun (w : World) (h : Dg w (some ⟨g, off, none⟩) c rest) => ih (n - k) (by omega) w old (m - k) rest (some ⟨g, off, none⟩) c false hol uol h (by omega) z (by omega) (by omega) (by omega)
          rw [show ((n - k : Nat) : Int) = (n : Int) - (k : Int) by omega, show ((m - k : Nat) : Int) = (m : Int) - (k : Int) by omega] at hc1
          rw [← hqq] at hc1
          have HC1 := Lib.hid hc1
          clear ih hk hkk hc1 hd hl hp0 hps hq hqq hll hlu hc0 htk hcl hcr k4 hol uol
          have H0 := Lib.hid (both0_at w old)
          go_enter Tryd.func69, Tryd.ntmps69
          go_wp2_with fail
          refine named_world ?_
          intro w0 hw0
          have h0 : Both0 w old w0 := by rw [hw0]; exact H0.out
          obtain ⟨hx, hr, hs, hB⟩ := h0
          clear hw0
          have hxl := hx.lt
          have hrl := hr.lt
          have hsl := hs.lt
          have hgw := Nat.lt_of_lt_of_le hg hB.size
          refine wp_region_CF (Same [g] w0) [11, 12] [13] (by kernel_rfl) (by kernel_rfl) (by intro c a w h; first | (obtain ⟨_, h, _⟩ := h; cases h; done) | (obtain ⟨_, _, h, _⟩ := h; cases h; done) | (obtain ⟨_, _, _, h, _⟩ := h; cases h; done) | (obtain ⟨_, _, _, _, h, _⟩ := h; cases h; done) | (rcases h with ⟨_, ⟨_, _, _, _, h, _⟩ | ⟨_, _, _, _, h, _⟩⟩ <;> cases h; done)) (by intro a w h; first | (obtain ⟨h, _⟩ := h; cases h; done) | (obtain ⟨_, h, _⟩ := h; cases h; done) | (obtain ⟨_, _, h, _⟩ := h; cases h; done) | (obtain ⟨_, _, _, h, _⟩ := h; cases h; done) | (rcases h with ⟨_, _, _, _, h, _⟩ | ⟨_, _, _, _, h, _⟩ <;> cases h; done)) (Same.refl _ _) ?_
          repeat (refine wd_w (v := ?_) rfl rfl rfl rfl rfl rfl (fun w' hw' K hK => ?_) ?_; rotate_left; (have e1 : ∀ j v, (nums .u8 last)[j]? = some v → w'.cell? ⟨g, off + q * 32 + j, none⟩ = some v := fun j v hv => (hw'.cell g (by simp) _).trans ((hB.cell (p := ⟨g, off + q * 32 + j, none⟩) hg).trans (HC0.out j v hv)); go_wp2_with ((first | ((with_reducible apply st_loadCells (cs := nums .u8 (last))); rfl; exact e1; exact Tryd.underlying24; rfl; (rw [nums_length, HLL.out.1]; kernel_rfl)) | ((with_reducible apply st_toD (sz := 32) (i := q)); exact Tryd.underlying66; kernel_rfl; rfl; rfl; rfl; omega; exact nn_some; exact spot_none))); exact rfl); simp only [Act.put, List.setIfInBounds_toArray, List.set_cons_zero, List.set_cons_succ])
          refine wd_l rfl rfl (by intro a w h; first | (obtain ⟨h, _⟩ := h; cases h; done) | (obtain ⟨_, h, _⟩ := h; cases h; done) | (obtain ⟨_, _, h, _⟩ := h; cases h; done) | (obtain ⟨_, _, _, h, _⟩ := h; cases h; done) | (rcases h with ⟨_, _, _, _, h, _⟩ | ⟨_, _, _, _, h, _⟩ <;> cases h; done)) ?_
          go_wp2
          refine ⟨.inr ((Same.refl _ _).alloc (by simp; omega) _), ?_⟩
          refine wd_l rfl rfl (by intro a w h; first | (obtain ⟨h, _⟩ := h; cases h; done) | (obtain ⟨_, h, _⟩ := h; cases h; done) | (obtain ⟨_, _, h, _⟩ := h; cases h; done) | (obtain ⟨_, _, _, h, _⟩ := h; cases h; done) | (rcases h with ⟨_, _, _, _, h, _⟩ | ⟨_, _, _, _, h, _⟩ <;> cases h; done)) ?_
          have hl0 : Blk (w0.drew.alloc (.cells (nums .u8 (List.replicate 32 0)).toArray 24)) w0.heap.size (nums .u8 (List.replicate 32 0)) 24 := Blk.new' _ _ _ _ _ rfl rfl
          go_wp2_with ((with_reducible apply st_storeW (off := 0) (vs := nums .u8 (last)) (cs := nums .u8 (List.replicate 32 0)) (T := 24)); rfl; rfl; exact hl0; (rw [nums_length, HLL.out.1]; kernel_rfl); (rw [nums_length, HLL.out.1]; decide); exact nums_one _ _; intro w2 hd2 hw2; rw [laid_all _ _ (by rw [nums_length, HLL.out.1]; rfl)] at hd2)
          refine ⟨.inr (((Same.refl _ _).alloc (by simp; omega) _).drewR.wrote hw2 (by simp; omega)), ?_⟩
          refine wd_assign rfl rfl rfl rfl ?_
          refine wd_nil ?_
          simp only [Act.put, List.setIfInBounds_toArray, List.set_cons_zero, List.set_cons_succ]
          have hB := Wrote.below ((hB.drew).alloc hB.size _) hw2 hB.size
          have hx := hw2.blk (hx.drew.alloc _) (by omega)
          have hr := hw2.blk (hr.drew.alloc _) (by omega)
          have hs := hw2.blk (hs.drew.alloc _) (by omega)
          clear hl0
          go_wp2_with fail
          go_at_call 73
          refine (split_any _ n (by omega) (by omega)).mono ?_
          rw [HSP.out]
          rintro e wz ⟨rfl, rfl⟩
          go_wp2_with ((with_reducible apply st_load (n := 32) (cs := nums .u8 (old)) (T := 24)); rfl; exact hx; exact Tryd.underlying24; rfl; kernel_rfl; (rw [nums_length, HOL.out.1]; exact Nat.le_refl _); (exact row_all _ _ (by rw [nums_length, HOL.out.1])))
          go_at_call 69
          refine (HC1.out _ (HTK.out.up hB) (HK.out.below hB HK.out.lt)).mono ?_
          rintro e w3 ⟨a, b, ok, rfl, HA, HBB, HP, hb⟩
          have hl2 := hd2.lt
          have hB := hB.trans (hb.mono hB.size)
          have hr := hr.up hb
          have hs := hs.up hb
          have hl := hd2.up hb
          have hu0 := hB.size
          have hrl := hr.lt
          have hsl := hs.lt
          have hll := hl.lt
          have hfin := HCR.out a b ok hik HP.out
          have hA0 : Blk ((w3.alloc (.cells (nums .u8 (List.replicate 32 0)).toArray 24)).alloc (.cells (nums .u8 (List.replicate 32 0)).toArray 24)) w3.heap.size (nums .u8 (List.replicate 32 0)) 24 := (Blk.new' _ _ _ _ _ rfl rfl).alloc _
          have hB0 : Blk ((w3.alloc (.cells (nums .u8 (List.replicate 32 0)).toArray 24)).alloc (.cells (nums .u8 (List.replicate 32 0)).toArray 24)) (w3.heap.size + 1) (nums .u8 (List.replicate 32 0)) 24 := Blk.new' _ _ _ _ _ rfl (by simp)
          have hBB := (hB.alloc hB.size (.cells (nums .u8 (List.replicate 32 0)).toArray 24)).alloc (by simp; omega) (.cells (nums .u8 (List.replicate 32 0)).toArray 24)
          have hr := (hr.alloc (.cells (nums .u8 (List.replicate 32 0)).toArray 24)).alloc (.cells (nums .u8 (List.replicate 32 0)).toArray 24)
          have hs := (hs.alloc (.cells (nums .u8 (List.replicate 32 0)).toArray 24)).alloc (.cells (nums .u8 (List.replicate 32 0)).toArray 24)
          have hl := (hl.alloc (.cells (nums .u8 (List.replicate 32 0)).toArray 24)).alloc (.cells (nums .u8 (List.replicate 32 0)).toArray 24)
          clear hx hd2 hw2
          obtain ⟨x, hx⟩ : ∃ x, x = nodeF last a z := ⟨_, rfl⟩
          have hxo : x.length = 32 ∧ U8 x := by rw [hx]; exact ⟨nodeF_len _ _ _, nodeF_range _ _ _⟩
          have hcx := fun (w : World) => node_any w last a HLL.out.1 HA.out.1 z
          obtain ⟨y, hy⟩ : ∃ y, y = nodeF last b z := ⟨_, rfl⟩
          have hyo : y.length = 32 ∧ U8 y := by rw [hy]; exact ⟨nodeF_len _ _ _, nodeF_range _ _ _⟩
          have hcy := fun (w : World) => node_any w last b HLL.out.1 HBB.out.1 z
          rw [← hx] at hcx hfin
          rw [← hy] at hcy hfin
          have HCX := Lib.hid hcx
          have HXO := Lib.hid hxo
          have HCY := Lib.hid hcy
          have HYO := Lib.hid hyo
          have HFIN := Lib.hid hfin
          clear hcx hcy hxo hyo hfin hx hy
          go_wp2_with (first | (((with_reducible apply st_storeW (off := 0) (vs := nums .u8 (a)) (cs := nums .u8 (List.replicate 32 0)) (T := 24)); rfl; rfl; exact hA0; (rw [nums_length, HA.out.1]; kernel_rfl); (rw [nums_length, HA.out.1]; decide); exact nums_one _ _; intro w4 hd4 hw4; rw [laid_all _ _ (by rw [nums_length, HA.out.1]; rfl)] at hd4); have hB4 := hw4.blk hB0 (by omega)) | ((with_reducible apply st_storeW (off := 0) (vs := nums .u8 (b)) (cs := nums .u8 (List.replicate 32 0)) (T := 24)); rfl; rfl; exact hB4; (rw [nums_length, HBB.out.1]; kernel_rfl); (rw [nums_length, HBB.out.1]; decide); exact nums_one _ _; intro w5 hd5 hw5; rw [laid_all _ _ (by rw [nums_length, HBB.out.1]; rfl)] at hd5))
          have ha := hw5.blk hd4 (by omega)
          have hr := hw5.blk (hw4.blk hr (by omega)) (by omega)
          have hs := hw5.blk (hw4.blk hs (by omega)) (by omega)
          have hl := hw5.blk (hw4.blk hl (by omega)) (by omega)
          have hB := Wrote.below (Wrote.below hBB hw4 (by omega)) hw5 (by omega)
          have hal := ha.lt
          have hbl := hd5.lt
          have hB := hB.drew
          have hr := hr.drew
          have hs := hs.drew
          have hC : Below w5.heap.size w5 w5.drew := (Below.refl _ _).drew
          have hS : Same [w3.heap.size, w3.heap.size + 1, w0.heap.size] w5 w5.drew := Same.refl _ _
          clear hA0 hB0 hB4 hBB hd4 hw4 hw5
          refine wp_region_CF (Same [w3.heap.size, w3.heap.size + 1, w0.heap.size] w5) [3, 7, 9, 10] [11] (by kernel_rfl) (by kernel_rfl) (by intro c a w h; first | (obtain ⟨_, h, _⟩ := h; cases h; done) | (obtain ⟨_, _, h, _⟩ := h; cases h; done) | (obtain ⟨_, _, _, h, _⟩ := h; cases h; done) | (obtain ⟨_, _, _, _, h, _⟩ := h; cases h; done) | (rcases h with ⟨_, ⟨_, _, _, _, h, _⟩ | ⟨_, _, _, _, h, _⟩⟩ <;> cases h; done)) (by intro a w h; first | (obtain ⟨h, _⟩ := h; cases h; done) | (obtain ⟨_, h, _⟩ := h; cases h; done) | (obtain ⟨_, _, h, _⟩ := h; cases h; done) | (obtain ⟨_, _, _, h, _⟩ := h; cases h; done) | (rcases h with ⟨_, _, _, _, h, _⟩ | ⟨_, _, _, _, h, _⟩ <;> cases h; done)) (Same.refl _ _) ?_
          repeat (refine wd_w (v := ?_) rfl rfl rfl rfl rfl rfl (fun w' hw' K hK => ?_) ?_; rotate_left; (have e1 := hw'.blk ha (by simp); have e2 := hw'.blk hd5 (by simp); have e3 := hw'.blk hl (by simp); go_wp2_with ((first | ((with_reducible apply st_load (n := 32) (cs := nums .u8 (a)) (T := 24)); rfl; exact e1; exact Tryd.underlying24; rfl; kernel_rfl; (rw [nums_length, HA.out.1]; exact Nat.le_refl _); (exact row_all _ _ (by rw [nums_length, HA.out.1]))) | ((with_reducible apply st_load (n := 32) (cs := nums .u8 (b)) (T := 24)); rfl; exact e2; exact Tryd.underlying24; rfl; kernel_rfl; (rw [nums_length, HBB.out.1]; exact Nat.le_refl _); (exact row_all _ _ (by rw [nums_length, HBB.out.1]))) | ((with_reducible apply st_load (n := 32) (cs := nums .u8 (last)) (T := 24)); rfl; exact e3; exact Tryd.underlying24; rfl; kernel_rfl; (rw [nums_length, HLL.out.1]; exact Nat.le_refl _); (exact row_all _ _ (by rw [nums_length, HLL.out.1]))))); exact rfl); simp only [Act.put, List.setIfInBounds_toArray, List.set_cons_zero, List.set_cons_succ])
          refine wd_l rfl rfl (by intro a w h; first | (obtain ⟨h, _⟩ := h; cases h; done) | (obtain ⟨_, h, _⟩ := h; cases h; done) | (obtain ⟨_, _, h, _⟩ := h; cases h; done) | (obtain ⟨_, _, _, h, _⟩ := h; cases h; done) | (rcases h with ⟨_, _, _, _, h, _⟩ | ⟨_, _, _, _, h, _⟩ <;> cases h; done)) ?_
          go_wp2_with fail
          go_at_call 50
          refine (HCX.out _ (HK.out.below hB HK.out.lt)).mono ?_
          rintro e w6 ⟨rfl, hb⟩
          have hB := hB.trans (hb.mono hB.size)
          have hS := hS.below hb (by have := hC.size; simp; omega)
          have hC := hC.trans (hb.mono hC.size)
          have hr := hr.up hb
          have hs := hs.up hb
          have hrl := hr.lt
          have hsl := hs.lt
          go_wp2_with fail
          refine ⟨.inr hS, ?_⟩
          repeat (refine wd_w (v := ?_) rfl rfl rfl rfl rfl rfl (fun w' hw' K hK => ?_) ?_; rotate_left; (have e1 := hw'.blk ha (by simp); have e2 := hw'.blk hd5 (by simp); have e3 := hw'.blk hl (by simp); go_wp2_with ((first | ((with_reducible apply st_load (n := 32) (cs := nums .u8 (a)) (T := 24)); rfl; exact e1; exact Tryd.underlying24; rfl; kernel_rfl; (rw [nums_length, HA.out.1]; exact Nat.le_refl _); (exact row_all _ _ (by rw [nums_length, HA.out.1]))) | ((with_reducible apply st_load (n := 32) (cs := nums .u8 (b)) (T := 24)); rfl; exact e2; exact Tryd.underlying24; rfl; kernel_rfl; (rw [nums_length, HBB.out.1]; exact Nat.le_refl _); (exact row_all _ _ (by rw [nums_length, HBB.out.1]))) | ((with_reducible apply st_load (n := 32) (cs := nums .u8 (last)) (T := 24)); rfl; exact e3; exact Tryd.underlying24; rfl; kernel_rfl; (rw [nums_length, HLL.out.1]; exact Nat.le_refl _); (exact row_all _ _ (by rw [nums_length, HLL.out.1]))))); exact rfl); simp only [Act.put, List.setIfInBounds_toArray, List.set_cons_zero, List.set_cons_succ])
          refine wd_l rfl rfl (by intro a w h; first | (obtain ⟨h, _⟩ := h; cases h; done) | (obtain ⟨_, h, _⟩ := h; cases h; done) | (obtain ⟨_, _, h, _⟩ := h; cases h; done) | (obtain ⟨_, _, _, h, _⟩ := h; cases h; done) | (rcases h with ⟨_, _, _, _, h, _⟩ | ⟨_, _, _, _, h, _⟩ <;> cases h; done)) ?_
          go_wp2_with fail
          go_at_call 50
          refine (HCY.out _ (HK.out.below hB HK.out.lt)).mono ?_
          rintro e w7 ⟨rfl, hb⟩
          have hB := hB.trans (hb.mono hB.size)
          have hS := hS.below hb (by have := hC.size; simp; omega)
          have hC := hC.trans (hb.mono hC.size)
          have hr := hr.up hb
          have hs := hs.up hb
          have hrl := hr.lt
          have hsl := hs.lt
          go_wp2_with fail
          refine ⟨.inr hS, ?_⟩
          repeat (refine wd_w (v := ?_) rfl rfl rfl rfl rfl rfl (fun w' hw' K hK => ?_) ?_; rotate_left; (have e1 := hw'.blk ha (by simp); have e2 := hw'.blk hd5 (by simp); have e3 := hw'.blk hl (by simp); go_wp2_with ((first | ((with_reducible apply st_load (n := 32) (cs := nums .u8 (a)) (T := 24)); rfl; exact e1; exact Tryd.underlying24; rfl; kernel_rfl; (rw [nums_length, HA.out.1]; exact Nat.le_refl _); (exact row_all _ _ (by rw [nums_length, HA.out.1]))) | ((with_reducible apply st_load (n := 32) (cs := nums .u8 (b)) (T := 24)); rfl; exact e2; exact Tryd.underlying24; rfl; kernel_rfl; (rw [nums_length, HBB.out.1]; exact Nat.le_refl _); (exact row_all _ _ (by rw [nums_length, HBB.out.1]))) | ((with_reducible apply st_load (n := 32) (cs := nums .u8 (last)) (T := 24)); rfl; exact e3; exact Tryd.underlying24; rfl; kernel_rfl; (rw [nums_length, HLL.out.1]; exact Nat.le_refl _); (exact row_all _ _ (by rw [nums_length, HLL.out.1]))))); exact rfl); simp only [Act.put, List.setIfInBounds_toArray, List.set_cons_zero, List.set_cons_succ])
          refine wd_l rfl rfl (by intro a w h; first | (obtain ⟨h, _⟩ := h; cases h; done) | (obtain ⟨_, h, _⟩ := h; cases h; done) | (obtain ⟨_, _, h, _⟩ := h; cases h; done) | (obtain ⟨_, _, _, h, _⟩ := h; cases h; done) | (rcases h with ⟨_, _, _, _, h, _⟩ | ⟨_, _, _, _, h, _⟩ <;> cases h; done)) ?_
          go_wp2_with ((with_reducible apply st_storeW (off := 0) (vs := nums .u8 (x)) (cs := nums .u8 (List.replicate 32 0)) (T := 24)); rfl; rfl; exact hr; (rw [nums_length, HXO.out.1]; kernel_rfl); (rw [nums_length, HXO.out.1]; decide); exact nums_one _ _; intro w91 hd91 hw91; rw [laid_all _ _ (by rw [nums_length, HXO.out.1]; rfl)] at hd91)
          refine ⟨.inr (hS.wrote hw91 (by simp <;> omega)), ?_⟩
          have hs91 := hw91.blk hs (by omega)
          have hB91 := Wrote.below hB hw91 (by omega)
          refine wd_l rfl rfl (by intro a w h; first | (obtain ⟨h, _⟩ := h; cases h; done) | (obtain ⟨_, h, _⟩ := h; cases h; done) | (obtain ⟨_, _, h, _⟩ := h; cases h; done) | (obtain ⟨_, _, _, h, _⟩ := h; cases h; done) | (rcases h with ⟨_, _, _, _, h, _⟩ | ⟨_, _, _, _, h, _⟩ <;> cases h; done)) ?_
          go_wp2_with ((with_reducible apply st_storeW (off := 0) (vs := nums .u8 (y)) (cs := nums .u8 (List.replicate 32 0)) (T := 24)); rfl; rfl; exact hs91; (rw [nums_length, HYO.out.1]; kernel_rfl); (rw [nums_length, HYO.out.1]; decide); exact nums_one _ _; intro w92 hd92 hw92; rw [laid_all _ _ (by rw [nums_length, HYO.out.1]; rfl)] at hd92)
          refine ⟨.inr ((hS.wrote hw91 (by simp <;> omega)).wrote hw92 (by simp <;> omega)), ?_⟩
          have hr92 := hw92.blk hd91 (by omega)
          have hB92 := Wrote.below hB91 hw92 (by omega)
          refine wd_assign rfl rfl rfl rfl ?_
          refine wd_nil ?_
          simp only [Act.put, List.setIfInBounds_toArray, List.set_cons_zero, List.set_cons_succ]
          go_wp2_with fail
          refine bodyPost_ret (ret_row2_tmp rfl _ _ _ _ (nums .u8 (x)) (nums .u8 (y)) 24 24 _ rfl hr92 rfl hd92 Tryd.underlying24 rfl (by rw [nums_length, HXO.out.1]; kernel_rfl) (by rw [nums_length, HYO.out.1]; kernel_rfl)) rfl ⟨x, y, _, rfl, HXO.out, HYO.out, HFIN.out, hB92⟩
end BothC
section CheckG
open Go.RowKit

def checkGF (old : List Int) (m : Int) (root : List Int) (n : Int) (ps : List (List Int)) (z : Int) : Bool :=
  decide (1 ≤ m ∧ m ≤ n ∧ ps.length = needF true (gstepsF m.toNat n.toNat) ∧ bothF old (gstepsF m.toNat n.toNat) true ps z = (old, root))
theorem checkGF_out (old : List Int) (m : Int) (root : List Int) (n : Int) (ps : List (List Int)) (z : Int) (h : ¬ (1 ≤ m ∧ m ≤ n)) : checkGF old m root n ps z = false := decide_eq_false fun e => h ⟨e.1, e.2.1⟩
theorem checkGF_len (old : List Int) (m : Int) (root : List Int) (n : Int) (ps : List (List Int)) (z : Int) (h : ps.length ≠ needF true (gstepsF m.toNat n.toNat)) : checkGF old m root n ps z = false := decide_eq_false fun e => h e.2.2.1
theorem checkGF_in (old : List Int) (m : Int) (root : List Int) (n : Int) (ps : List (List Int)) (z : Int) (a b : List Int) (h0 : 1 ≤ m) (h1 : m ≤ n) (h : ps.length = needF true (gstepsF m.toNat n.toNat)) (hd : (a, b) = bothF old (gstepsF m.toNat n.toNat) true ps z) :
    checkGF old m root n ps z = (decide (a = old) && decide (b = root)) := by
  unfold checkGF
  rw [← hd, Bool.eq_iff_iff]
  simp only [decide_eq_true_eq, Bool.and_eq_true, Prod.mk.injEq]
  exact ⟨fun e => e.2.2.2, fun e => ⟨h0, h1, h, e⟩⟩
theorem needF_le (m n : Nat) (h : n ≤ 9223372036854775807) (b : Bool) : needF b (gstepsF m n) ≤ 64 := by
  have := gstepsF_len 63 m n (by omega)
  unfold needF; split <;> omega

set_option maxRecDepth 100000 in
set_option maxHeartbeats 4000000 in
theorem checkgrowth_any (w : World) (old : List Int) (hol : old.length = 32) (uol : U8 old) (m : Int) (root : List Int) (hroot : root.length = 32) (n : Int) (hmax : n ≤ 9223372036854775807) (ps : List (List Int)) (A : Option Addr) (c : Nat) (hd : Dg w A c ps) (z : Int) (hk : KV w) :
    Calls Tryd.prog 37 #[.agg (nums .u8 old).toArray, .int .i64 m, .agg (nums .u8 root).toArray, .int .i64 n, .slice A ps.length c, .int .i64 z] w fun e w' => e = .returned (.bool (checkGF old m root n ps z)) ∧ Below w.heap.size w w' := by
  have hB0 : Below w.heap.size w ((w.alloc (.cells (nums .u8 old).toArray 24)).alloc (.cells (nums .u8 root).toArray 24)) := ((Below.refl _ _).alloc (Nat.le_refl _) _).alloc (by simp) _
  have hold0 : Blk ((w.alloc (.cells (nums .u8 old).toArray 24)).alloc (.cells (nums .u8 root).toArray 24)) w.heap.size (nums .u8 old) 24 := (Blk.new' _ _ _ _ _ rfl rfl).alloc _
  have hroot0 : Blk ((w.alloc (.cells (nums .u8 old).toArray 24)).alloc (.cells (nums .u8 root).toArray 24)) (w.heap.size + 1) (nums .u8 root) 24 := Blk.new' _ _ _ _ _ rfl (by simp)
  by_cases h0 : m < 1
  · rw [checkGF_out old m root n ps z (by omega)]
    clear hold0 hroot0
    go_enter Tryd.func37, Tryd.ntmps37
    go_wp2_with fail
    go_ret
    exact ⟨rfl, hB0⟩
  · by_cases h1 : n < m
    · rw [checkGF_out old m root n ps z (by omega)]
      clear hold0 hroot0
      go_enter Tryd.func37, Tryd.ntmps37
      go_wp2_with fail
      go_ret
      exact ⟨rfl, hB0⟩
    · obtain ⟨M, rfl⟩ := Int.eq_ofNat_of_zero_le (show 0 ≤ m by omega)
      obtain ⟨N, rfl⟩ := Int.eq_ofNat_of_zero_le (show 0 ≤ n by omega)
      by_cases h2 : 64 < ps.length
      · have hsl := needF_le M N (by omega) true
        rw [checkGF_len old M root N ps z (by rw [Int.toNat_natCast, Int.toNat_natCast]; omega)]
        clear hold0 hroot0 hsl
        go_enter Tryd.func37, Tryd.ntmps37
        go_wp2_with fail
        go_ret
        exact ⟨rfl, hB0⟩
      · have hci := fun a b => checkGF_in old M root N ps z a b (by omega) (by omega)
        have hcl := checkGF_len old M root N ps z
        rw [Int.toNat_natCast, Int.toNat_natCast] at hci hcl
        obtain ⟨r, hr⟩ : ∃ r, r = checkGF old M root N ps z := ⟨_, rfl⟩
        rw [← hr] at hci hcl ⊢
        have hcall := fun (w : World) (h : Dg w A c ps) => both_any N w old M ps A c true hol uol h (by omega) z (by omega) (by omega) (by omega)
        have HCALL := Lib.hid hcall
        have HCI := Lib.hid hci
        have HCL := Lib.hid hcl
        have HOL := Lib.hid (And.intro hol uol)
        have HRL := Lib.hid hroot
        have HD := Lib.hid hd
        have HK := Lib.hid hk
        clear hr hci hcl hcall hol uol hroot hd hk
        go_enter Tryd.func37, Tryd.ntmps37
        go_wp2_with ((with_reducible apply st_load (n := 32) (cs := nums .u8 (old)) (T := 24)); rfl; exact hold0; exact Tryd.underlying24; rfl; kernel_rfl; (rw [nums_length, HOL.out.1]; exact Nat.le_refl _); (exact row_all _ _ (by rw [nums_length, HOL.out.1])))
        go_at_call 69
        refine (HCALL.out _ (HD.out.up hB0) (HK.out.below hB0 HK.out.lt)).mono ?_
        rintro e w2 ⟨a, b, ok, rfl, HA, HBB, HP, hb⟩
        have hB := hB0.trans (hb.mono hB0.size)
        have hx := hold0.up hb
        have hy := hroot0.up hb
        have hxl := hx.lt
        have hyl := hy.lt
        have HE1 := Lib.hid (run_eql_nums (P := Tryd.prog) (t := 24) Tryd.underlying24 Tryd.underlying5 (by kernel_rfl) (by kernel_rfl) a old HA.out.1 HOL.out.1)
        have HE2 := Lib.hid (run_eql_nums (P := Tryd.prog) (t := 24) Tryd.underlying24 Tryd.underlying5 (by kernel_rfl) (by kernel_rfl) b root HBB.out.1 HRL.out)
        have hA0 : Blk ((w2.alloc (.cells (nums .u8 (List.replicate 32 0)).toArray 24)).alloc (.cells (nums .u8 (List.replicate 32 0)).toArray 24)) w2.heap.size (nums .u8 (List.replicate 32 0)) 24 := (Blk.new' _ _ _ _ _ rfl rfl).alloc _
        have hB0' : Blk ((w2.alloc (.cells (nums .u8 (List.replicate 32 0)).toArray 24)).alloc (.cells (nums .u8 (List.replicate 32 0)).toArray 24)) (w2.heap.size + 1) (nums .u8 (List.replicate 32 0)) 24 := Blk.new' _ _ _ _ _ rfl (by simp)
        have hBB := (hB.alloc hB.size (.cells (nums .u8 (List.replicate 32 0)).toArray 24)).alloc (by have := hB.size; simp; omega) (.cells (nums .u8 (List.replicate 32 0)).toArray 24)
        have hx := (hx.alloc (.cells (nums .u8 (List.replicate 32 0)).toArray 24)).alloc (.cells (nums .u8 (List.replicate 32 0)).toArray 24)
        have hy := (hy.alloc (.cells (nums .u8 (List.replicate 32 0)).toArray 24)).alloc (.cells (nums .u8 (List.replicate 32 0)).toArray 24)
        clear hold0 hroot0
        have hu0 := hB.size
        cases ok
        · have hf := HCL.out (of_decide_eq_false HP.out.ok.symm)
          have HF := Lib.hid hf
          clear hf
          go_wp2_with (first | (((with_reducible apply st_storeW (off := 0) (vs := nums .u8 (a)) (cs := nums .u8 (List.replicate 32 0)) (T := 24)); rfl; rfl; exact hA0; (rw [nums_length, HA.out.1]; kernel_rfl); (rw [nums_length, HA.out.1]; decide); exact nums_one _ _; intro w4 hd4 hw4; rw [laid_all _ _ (by rw [nums_length, HA.out.1]; rfl)] at hd4); have hB4 := hw4.blk hB0' (by omega)) | ((with_reducible apply st_storeW (off := 0) (vs := nums .u8 (b)) (cs := nums .u8 (List.replicate 32 0)) (T := 24)); rfl; rfl; exact hB4; (rw [nums_length, HBB.out.1]; kernel_rfl); (rw [nums_length, HBB.out.1]; decide); exact nums_one _ _; intro w5 hd5 hw5; rw [laid_all _ _ (by rw [nums_length, HBB.out.1]; rfl)] at hd5))
          go_ret
          exact ⟨by rw [HF.out]; rfl, Wrote.below (Wrote.below hBB hw4 (by omega)) hw5 (by omega)⟩
        · have hl := of_decide_eq_true HP.out.ok.symm
          have hf := HCI.out a b hl (HP.out.eq hl)
          have HF := Lib.hid hf
          clear hf hl
          by_cases hao : a = old
          · have he1 := HE1.out
            rw [decide_eq_true hao] at he1
            have he2 := HE2.out
            have hf := HF.out
            rw [decide_eq_true hao, Bool.true_and] at hf
            have HFF := Lib.hid hf
            clear hao hf
            go_wp2_with (first | (((with_reducible apply st_storeW (off := 0) (vs := nums .u8 (a)) (cs := nums .u8 (List.replicate 32 0)) (T := 24)); rfl; rfl; exact hA0; (rw [nums_length, HA.out.1]; kernel_rfl); (rw [nums_length, HA.out.1]; decide); exact nums_one _ _; intro w4 hd4 hw4; rw [laid_all _ _ (by rw [nums_length, HA.out.1]; rfl)] at hd4); have hB4 := hw4.blk hB0' (by omega); have hx4 := hw4.blk hx (by omega); have hy4 := hw4.blk hy (by omega)) | (((with_reducible apply st_storeW (off := 0) (vs := nums .u8 (b)) (cs := nums .u8 (List.replicate 32 0)) (T := 24)); rfl; rfl; exact hB4; (rw [nums_length, HBB.out.1]; kernel_rfl); (rw [nums_length, HBB.out.1]; decide); exact nums_one _ _; intro w5 hd5 hw5; rw [laid_all _ _ (by rw [nums_length, HBB.out.1]; rfl)] at hd5); have ha5 := hw5.blk hd4 (by omega); have hx5 := hw5.blk hx4 (by omega); have hy5 := hw5.blk hy4 (by omega)) | ((with_reducible apply st_load (n := 32) (cs := nums .u8 (a)) (T := 24)); rfl; exact ha5; exact Tryd.underlying24; rfl; kernel_rfl; (rw [nums_length, HA.out.1]; exact Nat.le_refl _); (exact row_all _ _ (by rw [nums_length, HA.out.1]))) | ((with_reducible apply st_load (n := 32) (cs := nums .u8 (old)) (T := 24)); rfl; exact hx5; exact Tryd.underlying24; rfl; kernel_rfl; (rw [nums_length, HOL.out.1]; exact Nat.le_refl _); (exact row_all _ _ (by rw [nums_length, HOL.out.1]))) | ((with_reducible apply st_load (n := 32) (cs := nums .u8 (b)) (T := 24)); rfl; exact hd5; exact Tryd.underlying24; rfl; kernel_rfl; (rw [nums_length, HBB.out.1]; exact Nat.le_refl _); (exact row_all _ _ (by rw [nums_length, HBB.out.1]))) | ((with_reducible apply st_load (n := 32) (cs := nums .u8 (root)) (T := 24)); rfl; exact hy5; exact Tryd.underlying24; rfl; kernel_rfl; (rw [nums_length, HRL.out]; exact Nat.le_refl _); (exact row_all _ _ (by rw [nums_length, HRL.out]))) | ((with_reducible apply st_un); rfl))
            go_ret
            exact ⟨by rw [HFF.out]; rfl, Wrote.below (Wrote.below hBB hw4 (by omega)) hw5 (by omega)⟩
          · have he1 := HE1.out
            rw [decide_eq_false hao] at he1
            have hf := HF.out
            rw [decide_eq_false hao, Bool.false_and] at hf
            have HFF := Lib.hid hf
            clear hao hf
            go_wp2_with (first | (((with_reducible apply st_storeW (off := 0) (vs := nums .u8 (a)) (cs := nums .u8 (List.replicate 32 0)) (T := 24)); rfl; rfl; exact hA0; (rw [nums_length, HA.out.1]; kernel_rfl); (rw [nums_length, HA.out.1]; decide); exact nums_one _ _; intro w4 hd4 hw4; rw [laid_all _ _ (by rw [nums_length, HA.out.1]; rfl)] at hd4); have hB4 := hw4.blk hB0' (by omega); have hx4 := hw4.blk hx (by omega); have hy4 := hw4.blk hy (by omega)) | (((with_reducible apply st_storeW (off := 0) (vs := nums .u8 (b)) (cs := nums .u8 (List.replicate 32 0)) (T := 24)); rfl; rfl; exact hB4; (rw [nums_length, HBB.out.1]; kernel_rfl); (rw [nums_length, HBB.out.1]; decide); exact nums_one _ _; intro w5 hd5 hw5; rw [laid_all _ _ (by rw [nums_length, HBB.out.1]; rfl)] at hd5); have ha5 := hw5.blk hd4 (by omega); have hx5 := hw5.blk hx4 (by omega); have hy5 := hw5.blk hy4 (by omega)) | ((with_reducible apply st_load (n := 32) (cs := nums .u8 (a)) (T := 24)); rfl; exact ha5; exact Tryd.underlying24; rfl; kernel_rfl; (rw [nums_length, HA.out.1]; exact Nat.le_refl _); (exact row_all _ _ (by rw [nums_length, HA.out.1]))) | ((with_reducible apply st_load (n := 32) (cs := nums .u8 (old)) (T := 24)); rfl; exact hx5; exact Tryd.underlying24; rfl; kernel_rfl; (rw [nums_length, HOL.out.1]; exact Nat.le_refl _); (exact row_all _ _ (by rw [nums_length, HOL.out.1]))) | ((with_reducible apply st_load (n := 32) (cs := nums .u8 (b)) (T := 24)); rfl; exact hd5; exact Tryd.underlying24; rfl; kernel_rfl; (rw [nums_length, HBB.out.1]; exact Nat.le_refl _); (exact row_all _ _ (by rw [nums_length, HBB.out.1]))) | ((with_reducible apply st_load (n := 32) (cs := nums .u8 (root)) (T := 24)); rfl; exact hy5; exact Tryd.underlying24; rfl; kernel_rfl; (rw [nums_length, HRL.out]; exact Nat.le_refl _); (exact row_all _ _ (by rw [nums_length, HRL.out]))) | ((with_reducible apply st_un); rfl))
            go_ret
            exact ⟨by rw [HFF.out]; rfl, Wrote.below (Wrote.below hBB hw4 (by omega)) hw5 (by omega)⟩
end CheckG
end Go.Proofs.YtancldhincaphaaDoor
