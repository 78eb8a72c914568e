/- What the reference's Cut answers: the first bits of a sum, bit by bit. No condition. -/
import Derived.Test.YtipigpeccegjgaaDoorMerC
namespace Go.Proofs.YtipigpeccegjgaaDoor
open Go.RowKit

theorem cutB_zero (ds : List Int) : cutB ds 0 = List.replicate ds.length 0 := by
  apply List.ext_getElem?
  intro i
  unfold cutB
  rw [List.getElem?_map]
  by_cases h : i < ds.length
  · rw [List.getElem?_range h, List.getElem?_replicate, if_pos h]
    simp [byteCut]; omega
  · rw [List.getElem?_eq_none (by simp; omega), List.getElem?_eq_none (by simp; omega)]; rfl
theorem byte_step : ∀ x : Fin 256, ∀ r : Fin 8, byteCut (x.val : Int) ((r.val : Int) + 1) = (byteCut (x.val : Int) (r.val : Int) + if bits .and .u8 (x.val : Int) (128 / 2 ^ r.val) = 0 then 0 else 128 / 2 ^ r.val) % 256 ∧ 0 ≤ byteCut (x.val : Int) (r.val : Int) ∧ byteCut (x.val : Int) (r.val : Int) < 256 := by
  decide +kernel
theorem byteStep (x : Int) (hx : 0 ≤ x ∧ x < 256) (r : Nat) (hr : r < 8) : byteCut x ((r : Int) + 1) = (byteCut x r + if bits .and .u8 x (128 / 2 ^ r) = 0 then 0 else 128 / 2 ^ r) % 256 ∧ 0 ≤ byteCut x r ∧ byteCut x r < 256 := by
  have h := byte_step ⟨x.toNat, by omega⟩ ⟨r, hr⟩
  simpa [Int.toNat_of_nonneg hx.1] using h
theorem cutB_step (ds : List Int) (k : Nat) (h : k / 8 < ds.length) : cutB ds ((k : Int) + 1) = (cutB ds k).set (k / 8) (byteCut (ga ds (k / 8)) (((k % 8 : Nat) : Int) + 1)) := by
  apply List.ext_getElem?
  intro i
  rw [List.getElem?_set]
  by_cases hi : i < ds.length
  · have e : ∀ w, (cutB ds w)[i]? = some (byteCut (ga ds i) (w - 8 * i)) := fun w => by
      unfold cutB; rw [List.getElem?_map, List.getElem?_range hi]; rfl
    rw [e, e]
    split
    · rename_i he
      subst he
      rw [if_pos (by rw [cutB_len]; exact h)]
      congr 2
      omega
    · congr 1
      unfold byteCut
      by_cases h1 : i < k / 8
      · rw [if_neg (by omega), if_neg (by omega), if_neg (by omega), if_neg (by omega)]
      · rw [if_pos (by omega), if_pos (by omega)]
  · rw [List.getElem?_eq_none (by rw [cutB_len]; omega), if_neg (by omega), List.getElem?_eq_none (by rw [cutB_len]; omega)]
theorem set_self (l : List Int) (j : Nat) (h : j < l.length) : l.set j (ga l j) = l := by
  apply List.ext_getElem?
  intro i
  rw [List.getElem?_set]
  split
  · rename_i he
    subst he
    simp [ga, h]
  · rfl
theorem cutB_here (ds : List Int) (k : Nat) (h : k / 8 < ds.length) : ga (cutB ds k) (k / 8) = byteCut (ga ds (k / 8)) ((k % 8 : Nat) : Int) := by
  rw [cutB_at ds k (k / 8) h]
  congr 1
  omega

set_option maxRecDepth 100000 in
set_option maxHeartbeats 4000000 in
theorem refcutd_any (w : World) (ds : List Int) (hl : ds.length = 32) (hu : U8 ds) (z : Int) :
    Calls Tryd.prog 25 #[.agg (nums .u8 ds).toArray, .int .i64 z] w fun e w' => e = .returned (.agg (nums .u8 (cutF ds z)).toArray) ∧ Below w.heap.size w w' := by
  have HL := Lib.hid hl
  have HU := Lib.hid hu
  clear hl hu
  go_enter Tryd.func25, Tryd.ntmps25
  go_wp2_with fail
  refine named_world ?_
  intro w0 hw0
  have hbd : Blk w0 w.heap.size (nums .u8 ds) 25 := by rw [hw0]; exact ((Blk.new' _ _ _ _ _ rfl rfl).alloc _).alloc _
  have hbr : Blk w0 (w.heap.size + 1) (nums .u8 (List.replicate 32 0)) 25 := by rw [hw0]; exact (Blk.new' _ _ _ _ _ rfl (by simp)).alloc _
  have hbo : Blk w0 (w.heap.size + 1 + 1) (nums .u8 (cutB ds (0 : Nat))) 25 := by rw [show ((0 : Nat) : Int) = 0 from rfl, cutB_zero, HL.out, hw0]; exact Blk.new' _ _ _ _ _ rfl (by simp)
  have hB0 : Below w.heap.size w w0 := by rw [hw0]; exact (((Below.refl _ _).alloc (Nat.le_refl _) _).alloc (by simp) _).alloc (by simp; omega) _
  clear hw0
  go_loopw [6, 7] (fun i _ wr => ∃ k : Nat, i = .int .i64 k ∧ k ≤ 256 ∧ (k : Int) ≤ max z 0 ∧ Below w.heap.size w wr ∧ Blk wr w.heap.size (nums .u8 ds) 25 ∧ Blk wr (w.heap.size + 1) (nums .u8 (List.replicate 32 0)) 25 ∧ Blk wr (w.heap.size + 1 + 1) (nums .u8 (cutB ds k)) 25) (fun i _ _ => 256 - (intOf i).toNat)
  case atStart => exact ⟨0, rfl, by omega, by omega, hB0, hbd, hbr, hbo⟩
  case round =>
    clear hB0 hbd hbr hbo
    obtain ⟨k, rfl, hk, hkz, hB, hbd, hbr, hbo⟩ := hrel
    by_cases hlt : k < 256 ∧ (k : Int) < z
    · obtain ⟨hlt, hlz⟩ := hlt
      have hq : k / 8 < ds.length := by rw [HL.out]; omega
      have cd := hbd.num (k / 8) hq
      have co := hbo.num (k / 8) (by rw [cutB_len]; exact hq)
      have fo := hbo.frozen (k / 8)
      rw [cutB_here ds k hq] at co
      have hga := cutB_here ds k hq
      have hbs := byteStep (ga ds (k / 8)) (HU.out _) (k % 8) (by omega)
      have hst := cutB_step ds k hq
      rw [hbs.1] at hst
      obtain ⟨x, hx⟩ : ∃ x, x = ga ds (k / 8) := ⟨_, rfl⟩
      obtain ⟨y, hy⟩ : ∃ y, y = byteCut x ((k % 8 : Nat) : Int) := ⟨_, rfl⟩
      rw [← hx] at cd co hbs hst
      rw [← hx, ← hy] at hga
      have hself := set_self (cutB ds k) (k / 8) (by rw [cutB_len]; exact hq)
      rw [hga] at hself
      have HSELF := Lib.hid hself
      clear hga hself
      rw [← hy] at co hbs hst
      have hyr := hbs.2
      clear hbs hx hy
      by_cases hb : bits .and .u8 x (128 / 2 ^ (k % 8)) = 0
      · rw [if_pos hb, Int.add_zero, Int.emod_eq_of_lt hyr.1 hyr.2] at hst
        have HST := Lib.hid hst
        clear hst
        go_wp2_with fail
        go_roundw
        case rel =>
          refine ⟨k + 1, by go_num, by omega, by omega, hB, hbd, hbr, ?_⟩
          have h2 := hbo
          rw [← HSELF.out, ← HST.out] at h2
          exact h2
        case measure => simp [intOf]; omega
      · rw [if_neg hb] at hst
        have HST := Lib.hid hst
        clear hst
        go_wp2_with fail
        go_roundw
        case rel =>
          refine ⟨k + 1, by go_num, by omega, by omega, hB.setCell (by first | (simp; done) | (simp; omega) | omega) _, hbd.far _ _ (by simp; omega), hbr.far _ _ (by simp), ?_⟩
          have h2 := hbo.setNum (k / 8) ((y + 128 / 2 ^ (k % 8)) % 256)
          rw [← HST.out] at h2
          exact h2
        case measure => simp [intOf]; omega
    · have hend : cutB ds k = cutF ds z := by
        unfold cutF
        apply List.ext_getElem?
        intro i
        unfold cutB
        rw [List.getElem?_map, List.getElem?_map]
        by_cases hi : i < ds.length
        · rw [List.getElem?_range hi]
          simp only [Option.map_some, Option.some.injEq]
          rw [HL.out] at hi
          by_cases h256 : k < 256
          · have : clip z = k := by unfold clip; omega
            rw [this]
          · have hc : clip z = 256 := by unfold clip; omega
            have hk6 : k = 256 := by omega
            rw [hc, hk6]; rfl
        · rw [List.getElem?_eq_none (by simp; omega)]; rfl
      rw [hend] at hbo
      have hbl := cutF_len ds z
      rw [HL.out] at hbl
      have HBL := Lib.hid hbl
      clear hbl hend
      by_cases h256 : k < 256
      · have hnz : ¬ (k : Int) < z := by omega
        clear hlt
        go_wp2_with (first | (apply st_load (n := 32) (cs := nums .u8 (cutF ds z)) (T := 25); rfl; exact hbo; exact Tryd.underlying25; rfl; kernel_rfl; (rw [nums_length, HBL.out]; exact Nat.le_refl _); (exact row_all _ _ (by rw [nums_length, HBL.out]))) | (apply st_storeW (off := 0) (vs := nums .u8 (cutF ds z)) (cs := nums .u8 (List.replicate 32 0)) (T := 25); rfl; rfl; exact hbr; (rw [nums_length, HBL.out]; kernel_rfl); (rw [nums_length, HBL.out]; decide); exact nums_one _ _; intro w2 hb3 hw3; rw [laid_all _ _ (by rw [nums_length, HBL.out]; rfl)] at hb3))
        refine bodyPost_ret (ret_row rfl _ _ _ (nums .u8 (cutF ds z)) 25 _ rfl hb3 Tryd.underlying25 rfl (by rw [nums_length, HBL.out]; kernel_rfl)) rfl ⟨rfl, Wrote.below hB hw3 (Nat.le_succ _)⟩
      · clear hlt
        go_wp2_with (first | (apply st_load (n := 32) (cs := nums .u8 (cutF ds z)) (T := 25); rfl; exact hbo; exact Tryd.underlying25; rfl; kernel_rfl; (rw [nums_length, HBL.out]; exact Nat.le_refl _); (exact row_all _ _ (by rw [nums_length, HBL.out]))) | (apply st_storeW (off := 0) (vs := nums .u8 (cutF ds z)) (cs := nums .u8 (List.replicate 32 0)) (T := 25); rfl; rfl; exact hbr; (rw [nums_length, HBL.out]; kernel_rfl); (rw [nums_length, HBL.out]; decide); exact nums_one _ _; intro w2 hb3 hw3; rw [laid_all _ _ (by rw [nums_length, HBL.out]; rfl)] at hb3))
        refine bodyPost_ret (ret_row rfl _ _ _ (nums .u8 (cutF ds z)) 25 _ rfl hb3 Tryd.underlying25 rfl (by rw [nums_length, HBL.out]; kernel_rfl)) rfl ⟨rfl, Wrote.below hB hw3 (Nat.le_succ _)⟩
end Go.Proofs.YtipigpeccegjgaaDoor
