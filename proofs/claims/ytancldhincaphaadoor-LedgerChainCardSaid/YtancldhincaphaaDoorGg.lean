/- What merkle.Cut and the reference's Cut answer: the first bits of a sum. No condition. What the reference's Cut answers: the first bits of a sum, bit by bit. No condition. Ranges of bytes. No condition. (For seats without mac; those with mac have these in MacS, MacK.) What merkle.Leaf, merkle.Node and the reference's answer. Condition: the table of layer 2 reads as its text lays it (merkle's). What merkle.Node and the reference's answer. Condition: the table of layer 2 reads as its text lays it (merkle's). What merkle.Split and the reference's answer: the greatest power of two below n. No condition. -/
import Derived.Test.YtancldhincaphaaDoorGe
import Derived.Test.YtancldhincaphaaDoorGc
namespace Go.Proofs.YtancldhincaphaaDoor
set_option maxRecDepth 100000
section MerC
open Go.RowKit

/-- The first left bits of a byte. -/
def byteCut (x left : Int) : Int := if left ≤ 0 then 0 else if left < 8 then bits .and .u8 x (255 * 2 ^ (8 - left).toNat % 256) else x
def cutB (ds : List Int) (w : Int) : List Int := (List.range ds.length).map fun i => byteCut (ga ds i) (w - 8 * i)
def clip (w : Int) : Int := min (max w 0) 256
def cutF (ds : List Int) (w : Int) : List Int := cutB ds (clip w)
theorem cutB_len (ds : List Int) (w : Int) : (cutB ds w).length = ds.length := by simp [cutB]
theorem cutF_len (ds : List Int) (w : Int) : (cutF ds w).length = ds.length := cutB_len _ _
theorem cutB_at (ds : List Int) (w : Int) (k : Nat) (h : k < ds.length) : ga (cutB ds w) k = byteCut (ga ds k) (w - 8 * k) := by
  unfold ga cutB
  rw [List.getD_eq_getElem?_getD, List.getElem?_map, List.getElem?_range h]; rfl
def cutTo (ds : List Int) (w : Int) (k : Nat) : List Int := (cutB ds w).take k ++ ds.drop k
theorem cutTo_len (ds : List Int) (w : Int) (k : Nat) : (cutTo ds w k).length = ds.length := by simp [cutTo, cutB_len]; omega
theorem cutTo_all (ds : List Int) (w : Int) : cutTo ds w ds.length = cutB ds w := by
  unfold cutTo; rw [List.drop_length, List.append_nil, List.take_of_length_le (by rw [cutB_len]; exact Nat.le_refl _)]
theorem cutTo_at (ds : List Int) (w : Int) (k : Nat) (h : k < ds.length) : ga (cutTo ds w k) k = ga ds k := by
  unfold cutTo ga
  rw [List.getD_eq_getElem?_getD, List.getElem?_append_right (by simp [cutB_len]; omega), List.getElem?_drop, List.getD_eq_getElem?_getD]
  congr 2
  simp [cutB_len]; omega
theorem cutTo_set (ds : List Int) (w : Int) (k : Nat) (h : k < ds.length) : (cutTo ds w k).set k (byteCut (ga ds k) (w - 8 * k)) = cutTo ds w (k + 1) := by
  rw [← cutB_at ds w k h]
  unfold cutTo
  have e1 : ds.drop k = ga ds k :: ds.drop (k + 1) := by
    rw [List.drop_eq_getElem_cons h]; simp [ga, h]
  have hl : ((cutB ds w).take k).length = k := by rw [List.length_take, cutB_len]; omega
  have hc : k < (cutB ds w).length := by rw [cutB_len]; exact h
  have e2 : (cutB ds w).take (k + 1) = (cutB ds w).take k ++ [(cutB ds w)[k]] := by rw [List.take_add_one, List.getElem?_eq_getElem hc]; rfl
  have e3 : ga (cutB ds w) k = (cutB ds w)[k] := by simp [ga, List.getElem?_eq_getElem hc]
  rw [e1, List.set_append_right _ _ (by omega), hl, Nat.sub_self, List.set_cons_zero, e2, e3, List.append_assoc]; rfl
theorem cutTo_self (ds : List Int) (w : Int) (k : Nat) (h : k < ds.length) (hb : byteCut (ga ds k) (w - 8 * k) = ga ds k) : cutTo ds w k = cutTo ds w (k + 1) := by
  rw [← cutTo_set ds w k h, hb, ← cutTo_at ds w k h]
  apply List.ext_getElem?
  intro i
  rw [List.getElem?_set]
  split
  · rename_i he
    subst he
    have hl := cutTo_len ds w k
    rw [if_pos (by omega)]
    simp [ga, hl, h]
  · rfl

set_option maxRecDepth 100000 in
set_option maxHeartbeats 4000000 in
theorem cut_any (w : World) (ds : List Int) (hl : ds.length = 32) (z : Int) :
    Calls Tryd.prog 67 #[.agg (nums .u8 ds).toArray, .int .i64 z] w fun e w' => e = .returned (.agg (nums .u8 (cutF ds z)).toArray) ∧ Below w.heap.size w w' := by
  have HL := Lib.hid hl
  clear hl
  go_enter Tryd.func67, Tryd.ntmps67
  go_wp2_with fail
  all_goals
    first | (have hV : clip z = 256 := by unfold clip; omega) | (have hV : clip z = 0 := by unfold clip; omega) | (have hV : clip z = z := by unfold clip; omega)
    have HV := Lib.hid hV
    clear hV
    refine named_world ?_
    intro w0 hw0
    have hbd : Blk w0 w.heap.size (nums .u8 ds) 24 := by rw [hw0]; exact (Blk.new' _ _ _ _ _ rfl rfl).alloc _
    have hbr : Blk w0 (w.heap.size + 1) (nums .u8 (List.replicate 32 0)) 24 := by rw [hw0]; exact Blk.new' _ _ _ _ _ rfl (by simp)
    have hB0 : Below w.heap.size w w0 := by rw [hw0]; exact ((Below.refl _ _).alloc (Nat.le_refl _) _).alloc (by simp) _
    clear hw0
    go_loopw [5, 6, 10] (fun _ _ i wr => ∃ k : Nat, i = .int .i64 k ∧ k ≤ 32 ∧ Below w.heap.size w wr ∧ Blk wr w.heap.size (nums .u8 (cutTo ds (clip z) k)) 24 ∧ Blk wr (w.heap.size + 1) (nums .u8 (List.replicate 32 0)) 24) (fun _ _ i _ => 32 - (intOf i).toNat)
    case atStart => exact ⟨0, rfl, by omega, hB0, hbd, hbr⟩
    case round =>
      clear hB0 hbd hbr
      obtain ⟨k, rfl, hk, hB, hb, hb2⟩ := hrel
      by_cases hlt : k < 32
      · have hxl := cutTo_len ds (clip z) k
        have cb := hb.num k (by rw [hxl, HL.out]; exact hlt)
        have fb := hb.frozen k
        rw [cutTo_at ds (clip z) k (by rw [HL.out]; exact hlt)] at cb
        have hset := cutTo_set ds (clip z) k (by rw [HL.out]; exact hlt)
        have hself := cutTo_self ds (clip z) k (by rw [HL.out]; exact hlt)
        obtain ⟨y, hy⟩ : ∃ y, y = ga ds k := ⟨_, rfl⟩
        rw [← hy] at cb hset hself
        rw [HV.out] at hset hself
        have HSET := Lib.hid hset
        have HSELF := Lib.hid hself
        clear hset hself hy hxl
        by_cases h1 : clip z - 8 * k ≤ 0
        · rw [HV.out] at h1
          first
          | (exfalso; omega)
          | rw [show byteCut y _ = 0 by unfold byteCut; rw [if_pos h1]] at HSET
            go_wp2_with fail
            go_roundw
            case rel =>
              refine ⟨k + 1, by go_num, by omega, hB.setCell (by first | (simp; done) | (simp; omega) | omega) _, ?_, hb2.far _ _ (by simp)⟩
              have hb3 := hb.setNum k 0
              rw [HV.out, HSET.out] at hb3
              rw [HV.out]; exact hb3
            case measure => simp [intOf]; omega
        · by_cases h2 : clip z - 8 * k < 8
          · rw [HV.out] at h1 h2
            first
            | (exfalso; omega)
            | go_wp2_with fail
              refine wp_region_C (Same [w.heap.size] wr) [8] (by kernel_rfl) (by kernel_rfl) (by intro c a w h; first | (obtain ⟨_, h, _⟩ := h; cases h; done) | (obtain ⟨_, _, h, _⟩ := h; cases h; done) | (obtain ⟨_, _, _, h, _⟩ := h; cases h; done) | (obtain ⟨_, _, _, _, h, _⟩ := h; cases h; done) | (rcases h with ⟨_, ⟨_, _, _, _, h, _⟩ | ⟨_, _, _, _, h, _⟩⟩ <;> cases h; done)) (by intro a w h; first | (obtain ⟨h, _⟩ := h; cases h; done) | (obtain ⟨_, h, _⟩ := h; cases h; done) | (obtain ⟨_, _, h, _⟩ := h; cases h; done) | (obtain ⟨_, _, _, h, _⟩ := h; cases h; done) | (rcases h with ⟨_, _, _, _, h, _⟩ | ⟨_, _, _, _, h, _⟩ <;> cases h; done)) (Same.refl _ _) ?_
              repeat (refine wd_q (v := ?_) rfl rfl rfl rfl rfl rfl (fun w' hw' K hK => ?_) ?_; rotate_left; (have e1 := (hw'.cell w.heap.size (by simp) k).trans cb; go_wp2; exact rfl); simp only [Act.put, List.setIfInBounds_toArray, List.set_cons_zero, List.set_cons_succ])
              have cb := (show wr.drew.cell? ⟨w.heap.size, k, none⟩ = some (.int .u8 y) from cb)
              have fb := (show wr.drew.frozen? ⟨w.heap.size, k, none⟩ = false from fb)
              refine wd_last rfl (by kernel_rfl) rfl (by intro a w h; first | (obtain ⟨h, _⟩ := h; cases h; done) | (obtain ⟨_, h, _⟩ := h; cases h; done) | (obtain ⟨_, _, h, _⟩ := h; cases h; done) | (obtain ⟨_, _, _, h, _⟩ := h; cases h; done) | (rcases h with ⟨_, _, _, _, h, _⟩ | ⟨_, _, _, _, h, _⟩ <;> cases h; done)) ?_
              go_wp2_with fail
              go_roundw
              case rel =>
                refine ⟨k + 1, by go_num, by omega, hB.drew.setCell (by first | (simp; done) | (simp; omega) | omega) _, ?_, hb2.drew.far _ _ (by simp)⟩
                have hb3 := hb.drew.setNum k (byteCut y (z - 8 * k))
                rw [HV.out, HSET.out] at hb3
                rw [HV.out, show bits .and .u8 y (255 * 2 ^ (8 - (z - 8 * (k : Int))).toNat % 256) = byteCut y (z - 8 * k) by unfold byteCut; rw [if_neg (by omega), if_pos (by omega)]]; exact hb3
              case measure => simp [intOf]; omega
          · rw [HV.out] at h1 h2
            first
            | (exfalso; omega)
            | have hself := HSELF.out (by unfold byteCut; rw [if_neg h1, if_neg h2])
              go_wp2_with fail
              go_roundw
              case rel => exact ⟨k + 1, by go_num, by omega, hB, by rw [HV.out, ← hself, ← HV.out]; exact hb, hb2⟩
              case measure => simp [intOf]; omega
      · have e : k = ds.length := by rw [HL.out]; omega
        rw [e, cutTo_all] at hb
        have hbl := cutB_len ds (clip z)
        rw [HL.out] at hbl
        have HBL := Lib.hid hbl
        clear hbl e
        go_wp2_with (first | (apply st_load (n := 32) (cs := nums .u8 (cutB ds (clip z))) (T := 24); rfl; exact hb; exact Tryd.underlying24; rfl; kernel_rfl; (rw [nums_length, HBL.out]; exact Nat.le_refl _); (exact row_all _ _ (by rw [nums_length, HBL.out]))) | (apply st_storeW (off := 0) (vs := nums .u8 (cutB ds (clip z))) (cs := nums .u8 (List.replicate 32 0)) (T := 24); rfl; rfl; exact hb2; (rw [nums_length, HBL.out]; kernel_rfl); (rw [nums_length, HBL.out]; decide); exact nums_one _ _; intro w2 hb3 hw3; rw [laid_all _ _ (by rw [nums_length, HBL.out]; rfl)] at hb3))
        refine bodyPost_ret (ret_row rfl _ _ _ (nums .u8 (cutB ds (clip z))) 24 _ rfl hb3 Tryd.underlying24 rfl (by rw [nums_length, HBL.out]; kernel_rfl)) rfl ⟨rfl, Wrote.below hB hw3 (Nat.le_succ _)⟩
end MerC
section MerD
open Go.RowKit

theorem cutB_zero (ds : List Int) : cutB ds 0 = List.replicate ds.length 0 := by
  apply List.ext_getElem?
  intro i
  unfold cutB
  rw [List.getElem?_map]
  by_cases h : i < ds.length
  · rw [List.getElem?_range h, List.getElem?_replicate, if_pos h]
    simp [byteCut]; omega
  · rw [List.getElem?_eq_none (by simp; omega), List.getElem?_eq_none (by simp; omega)]; rfl
theorem byte_step : ∀ x : Fin 256, ∀ r : Fin 8, byteCut (x.val : Int) ((r.val : Int) + 1) = (byteCut (x.val : Int) (r.val : Int) + if bits .and .u8 (x.val : Int) (128 / 2 ^ r.val) = 0 then 0 else 128 / 2 ^ r.val) % 256 ∧ 0 ≤ byteCut (x.val : Int) (r.val : Int) ∧ byteCut (x.val : Int) (r.val : Int) < 256 := by
  decide +kernel
theorem byteStep (x : Int) (hx : 0 ≤ x ∧ x < 256) (r : Nat) (hr : r < 8) : byteCut x ((r : Int) + 1) = (byteCut x r + if bits .and .u8 x (128 / 2 ^ r) = 0 then 0 else 128 / 2 ^ r) % 256 ∧ 0 ≤ byteCut x r ∧ byteCut x r < 256 := by
  have h := byte_step ⟨x.toNat, by omega⟩ ⟨r, hr⟩
  simpa [Int.toNat_of_nonneg hx.1] using h
theorem cutB_step (ds : List Int) (k : Nat) (h : k / 8 < ds.length) : cutB ds ((k : Int) + 1) = (cutB ds k).set (k / 8) (byteCut (ga ds (k / 8)) (((k % 8 : Nat) : Int) + 1)) := by
  apply List.ext_getElem?
  intro i
  rw [List.getElem?_set]
  by_cases hi : i < ds.length
  · have e : ∀ w, (cutB ds w)[i]? = some (byteCut (ga ds i) (w - 8 * i)) := fun w => by
      unfold cutB; rw [List.getElem?_map, List.getElem?_range hi]; rfl
    rw [e, e]
    split
    · rename_i he
      subst he
      rw [if_pos (by rw [cutB_len]; exact h)]
      congr 2
      omega
    · congr 1
      unfold byteCut
      by_cases h1 : i < k / 8
      · rw [if_neg (by omega), if_neg (by omega), if_neg (by omega), if_neg (by omega)]
      · rw [if_pos (by omega), if_pos (by omega)]
  · rw [List.getElem?_eq_none (by rw [cutB_len]; omega), if_neg (by omega), List.getElem?_eq_none (by rw [cutB_len]; omega)]
theorem set_self (l : List Int) (j : Nat) (h : j < l.length) : l.set j (ga l j) = l := by
  apply List.ext_getElem?
  intro i
  rw [List.getElem?_set]
  split
  · rename_i he
    subst he
    simp [ga, h]
  · rfl
theorem cutB_here (ds : List Int) (k : Nat) (h : k / 8 < ds.length) : ga (cutB ds k) (k / 8) = byteCut (ga ds (k / 8)) ((k % 8 : Nat) : Int) := by
  rw [cutB_at ds k (k / 8) h]
  congr 1
  omega

set_option maxRecDepth 100000 in
set_option maxHeartbeats 4000000 in
theorem refcutd_any (w : World) (ds : List Int) (hl : ds.length = 32) (hu : U8 ds) (z : Int) :
    Calls Tryd.prog 53 #[.agg (nums .u8 ds).toArray, .int .i64 z] w fun e w' => e = .returned (.agg (nums .u8 (cutF ds z)).toArray) ∧ Below w.heap.size w w' := by
  have HL := Lib.hid hl
  have HU := Lib.hid hu
  clear hl hu
  go_enter Tryd.func53, Tryd.ntmps53
  go_wp2_with fail
  refine named_world ?_
  intro w0 hw0
  have hbd : Blk w0 w.heap.size (nums .u8 ds) 24 := by rw [hw0]; exact ((Blk.new' _ _ _ _ _ rfl rfl).alloc _).alloc _
  have hbr : Blk w0 (w.heap.size + 1) (nums .u8 (List.replicate 32 0)) 24 := by rw [hw0]; exact (Blk.new' _ _ _ _ _ rfl (by simp)).alloc _
  have hbo : Blk w0 (w.heap.size + 1 + 1) (nums .u8 (cutB ds (0 : Nat))) 24 := by rw [show ((0 : Nat) : Int) = 0 from rfl, cutB_zero, HL.out, hw0]; exact Blk.new' _ _ _ _ _ rfl (by simp)
  have hB0 : Below w.heap.size w w0 := by rw [hw0]; exact (((Below.refl _ _).alloc (Nat.le_refl _) _).alloc (by simp) _).alloc (by simp; omega) _
  clear hw0
  go_loopw [6, 7] (fun i _ wr => ∃ k : Nat, i = .int .i64 k ∧ k ≤ 256 ∧ (k : Int) ≤ max z 0 ∧ Below w.heap.size w wr ∧ Blk wr w.heap.size (nums .u8 ds) 24 ∧ Blk wr (w.heap.size + 1) (nums .u8 (List.replicate 32 0)) 24 ∧ Blk wr (w.heap.size + 1 + 1) (nums .u8 (cutB ds k)) 24) (fun i _ _ => 256 - (intOf i).toNat)
  case atStart => exact ⟨0, rfl, by omega, by omega, hB0, hbd, hbr, hbo⟩
  case round =>
    clear hB0 hbd hbr hbo
    obtain ⟨k, rfl, hk, hkz, hB, hbd, hbr, hbo⟩ := hrel
    by_cases hlt : k < 256 ∧ (k : Int) < z
    · obtain ⟨hlt, hlz⟩ := hlt
      have hq : k / 8 < ds.length := by rw [HL.out]; omega
      have cd := hbd.num (k / 8) hq
      have co := hbo.num (k / 8) (by rw [cutB_len]; exact hq)
      have fo := hbo.frozen (k / 8)
      rw [cutB_here ds k hq] at co
      have hga := cutB_here ds k hq
      have hbs := byteStep (ga ds (k / 8)) (HU.out _) (k % 8) (by omega)
      have hst := cutB_step ds k hq
      rw [hbs.1] at hst
      obtain ⟨x, hx⟩ : ∃ x, x = ga ds (k / 8) := ⟨_, rfl⟩
      obtain ⟨y, hy⟩ : ∃ y, y = byteCut x ((k % 8 : Nat) : Int) := ⟨_, rfl⟩
      rw [← hx] at cd co hbs hst
      rw [← hx, ← hy] at hga
      have hself := set_self (cutB ds k) (k / 8) (by rw [cutB_len]; exact hq)
      rw [hga] at hself
      have HSELF := Lib.hid hself
      clear hga hself
      rw [← hy] at co hbs hst
      have hyr := hbs.2
      clear hbs hx hy
      by_cases hb : bits .and .u8 x (128 / 2 ^ (k % 8)) = 0
      · rw [if_pos hb, Int.add_zero, Int.emod_eq_of_lt hyr.1 hyr.2] at hst
        have HST := Lib.hid hst
        clear hst
        go_wp2_with fail
        go_roundw
        case rel =>
          refine ⟨k + 1, by go_num, by omega, by omega, hB, hbd, hbr, ?_⟩
          have h2 := hbo
          rw [← HSELF.out, ← HST.out] at h2
          exact h2
        case measure => simp [intOf]; omega
      · rw [if_neg hb] at hst
        have HST := Lib.hid hst
        clear hst
        go_wp2_with fail
        go_roundw
        case rel =>
          refine ⟨k + 1, by go_num, by omega, by omega, hB.setCell (by first | (simp; done) | (simp; omega) | omega) _, hbd.far _ _ (by simp; omega), hbr.far _ _ (by simp), ?_⟩
          have h2 := hbo.setNum (k / 8) ((y + 128 / 2 ^ (k % 8)) % 256)
          rw [← HST.out] at h2
          exact h2
        case measure => simp [intOf]; omega
    · have hend : cutB ds k = cutF ds z := by
        unfold cutF
        apply List.ext_getElem?
        intro i
        unfold cutB
        rw [List.getElem?_map, List.getElem?_map]
        by_cases hi : i < ds.length
        · rw [List.getElem?_range hi]
          simp only [Option.map_some, Option.some.injEq]
          rw [HL.out] at hi
          by_cases h256 : k < 256
          · have : clip z = k := by unfold clip; omega
            rw [this]
          · have hc : clip z = 256 := by unfold clip; omega
            have hk6 : k = 256 := by omega
            rw [hc, hk6]; rfl
        · rw [List.getElem?_eq_none (by simp; omega)]; rfl
      rw [hend] at hbo
      have hbl := cutF_len ds z
      rw [HL.out] at hbl
      have HBL := Lib.hid hbl
      clear hbl hend
      by_cases h256 : k < 256
      · have hnz : ¬ (k : Int) < z := by omega
        clear hlt
        go_wp2_with (first | (apply st_load (n := 32) (cs := nums .u8 (cutF ds z)) (T := 24); rfl; exact hbo; exact Tryd.underlying24; rfl; kernel_rfl; (rw [nums_length, HBL.out]; exact Nat.le_refl _); (exact row_all _ _ (by rw [nums_length, HBL.out]))) | (apply st_storeW (off := 0) (vs := nums .u8 (cutF ds z)) (cs := nums .u8 (List.replicate 32 0)) (T := 24); rfl; rfl; exact hbr; (rw [nums_length, HBL.out]; kernel_rfl); (rw [nums_length, HBL.out]; decide); exact nums_one _ _; intro w2 hb3 hw3; rw [laid_all _ _ (by rw [nums_length, HBL.out]; rfl)] at hb3))
        refine bodyPost_ret (ret_row rfl _ _ _ (nums .u8 (cutF ds z)) 24 _ rfl hb3 Tryd.underlying24 rfl (by rw [nums_length, HBL.out]; kernel_rfl)) rfl ⟨rfl, Wrote.below hB hw3 (Nat.le_succ _)⟩
      · clear hlt
        go_wp2_with (first | (apply st_load (n := 32) (cs := nums .u8 (cutF ds z)) (T := 24); rfl; exact hbo; exact Tryd.underlying24; rfl; kernel_rfl; (rw [nums_length, HBL.out]; exact Nat.le_refl _); (exact row_all _ _ (by rw [nums_length, HBL.out]))) | (apply st_storeW (off := 0) (vs := nums .u8 (cutF ds z)) (cs := nums .u8 (List.replicate 32 0)) (T := 24); rfl; rfl; exact hbr; (rw [nums_length, HBL.out]; kernel_rfl); (rw [nums_length, HBL.out]; decide); exact nums_one _ _; intro w2 hb3 hw3; rw [laid_all _ _ (by rw [nums_length, HBL.out]; rfl)] at hb3))
        refine bodyPost_ret (ret_row rfl _ _ _ (nums .u8 (cutF ds z)) 24 _ rfl hb3 Tryd.underlying24 rfl (by rw [nums_length, HBL.out]; kernel_rfl)) rfl ⟨rfl, Wrote.below hB hw3 (Nat.le_succ _)⟩
end MerD
section Bits
open Go.RowKit

theorem bits_u8_range (op : BinOp) (a b : Int) : 0 ≤ bits op .u8 a b ∧ bits op .u8 a b < 256 := by
  unfold bits
  have : ∀ n : Int, IntKind.u8.wrap n = n % 256 := fun n => by simp [IntKind.wrap, IntKind.signed, IntKind.bits]
  rw [this]
  omega
theorem bytesF_range (l : List Int) : U8 (bytesF l) := by
  induction l with
  | nil => exact U8.nil
  | cons x l ih => exact (putF_range x 4).append ih
theorem sumF_range (l : List Int) : U8 (sumF l) := bytesF_range _
end Bits
section MerN
open Go.RowKit

def leafF (b : List Int) (w : Int) : List Int := cutF (sumF (0 :: b)) w
def nodeF (x y : List Int) (w : Int) : List Int := cutF (sumF (1 :: (x ++ y))) w
theorem cutF_sum (b : List Int) (w : Int) : (cutF (sumF b) w).length = 32 := by rw [cutF_len, sumF_len]
theorem leafF_len (b : List Int) (w : Int) : (leafF b w).length = 32 := cutF_sum _ _
theorem nodeF_len (x y : List Int) (w : Int) : (nodeF x y w).length = 32 := cutF_sum _ _
theorem byteCut_range (x left : Int) (hx : 0 ≤ x ∧ x < 256) : 0 ≤ byteCut x left ∧ byteCut x left < 256 := by
  unfold byteCut
  split
  · omega
  · split
    · exact bits_u8_range _ _ _
    · exact hx
theorem cutF_range (ds : List Int) (w : Int) (h : U8 ds) : U8 (cutF ds w) := U8.of fun y hy => by
  unfold cutF cutB at hy
  obtain ⟨i, _, rfl⟩ := List.mem_map.1 hy
  exact byteCut_range _ _ (h i)
theorem leafF_range (b : List Int) (w : Int) : U8 (leafF b w) := cutF_range _ _ (sumF_range _)
theorem nodeF_range (x y : List Int) (w : Int) : U8 (nodeF x y w) := cutF_range _ _ (sumF_range _)

theorem Blk.grown {w w' : World} {g : Nat} {cs : List Value} {T : TypeId} {row : Option Nat} (h : Blk w g cs T) (hg : w.grownBy w' row) (hne : some g ≠ row) : Blk w' g cs T := (hg.block g h.lt hne).trans h
theorem u8_cons (x : Int) (hx : 0 ≤ x ∧ x < 256) {l : List Int} (h : U8 l) : U8 (x :: l) := fun i => by
  cases i with
  | zero => exact hx
  | succ i => have := h i; unfold ga at this ⊢; simpa using this
theorem u8_append {l1 l2 : List Int} (h1 : U8 l1) (h2 : U8 l2) : U8 (l1 ++ l2) := fun i => by
  unfold ga
  rw [List.getD_eq_getElem?_getD, List.getElem?_append]
  split
  · have := h1 i; unfold ga at this; rwa [List.getD_eq_getElem?_getD] at this
  · have := h2 (i - l1.length); unfold ga at this; rwa [List.getD_eq_getElem?_getD] at this

set_option maxRecDepth 100000 in
set_option maxHeartbeats 4000000 in
theorem leaf_any (w : World) (bs : List Int) (A : Option Addr) (c : Nat) (h : Byt w A c bs) (hl : bs.length ≤ 1000000) (z : Int) (hk : KV w) :
    Calls Tryd.prog 36 #[.slice A bs.length c, .int .i64 z] w fun e w' => e = .returned (.agg (nums .u8 (leafF bs z)).toArray) ∧ Below w.heap.size w w' := by
  have HK := Lib.hid hk
  have hb0 : [(0 : Int)] ++ bs = 0 :: bs := rfl
  obtain ⟨all, hall⟩ : ∃ all, all = 0 :: bs := ⟨_, rfl⟩
  have halll : all.length ≤ 1000001 := by rw [hall]; simp; omega
  rw [← hall] at hb0
  have hml := cutF_sum all z
  obtain ⟨m, hm⟩ : ∃ m, m = leafF bs z := ⟨_, rfl⟩
  have hlf : cutF (sumF all) z = m := by rw [hm, hall]; rfl
  rw [hlf] at hml
  rw [← hm]
  have HB0 := Lib.hid hb0
  have HML := Lib.hid hml
  have HLF := Lib.hid hlf
  clear hk hb0 hml hlf hall hm
  have hB0 : Below w.heap.size w (w.alloc (.cells (nums .u8 (List.replicate 32 0)).toArray 24)) := (Below.refl _ _).alloc (Nat.le_refl _) _
  have hr0 : Blk (w.alloc (.cells (nums .u8 (List.replicate 32 0)).toArray 24)) w.heap.size (nums .u8 (List.replicate 32 0)) 24 := Blk.new' _ _ _ _ _ rfl rfl
  have hz0 : (w.alloc (.cells (nums .u8 (List.replicate 32 0)).toArray 24)).heap.size = w.heap.size + 1 := World.size_alloc _ _
  go_enter Tryd.func36, Tryd.ntmps36
  go_wp2_with fail
  go_at_call 65
  refine (new_any _).mono ?_
  rintro e w1 ⟨g, rfl, hg1, hb1, hH1⟩
  rw [World.size_alloc] at hg1
  have hB1 := hB0.trans (hb1.mono (by rw [World.size_alloc]; omega))
  have hr1 := hr0.up hb1
  have hHl1 := hH1.lt
  go_wp2_with fail
  go_at_call 66
  have hba : Below w1.heap.size w1 (w1.alloc (.cells (nums .u8 [0]).toArray 5)) := (Below.refl _ _).alloc (Nat.le_refl _) _
  have hH1 := hH1.up hba
  have hB1 := hB1.trans (hba.mono hB1.size)
  have hr1 := hr1.up hba
  refine (add_any _ g [] [0] (some ⟨w1.heap.size, 0, none⟩) 1 hH1 (Rd.ofBlk (Blk.new' _ _ _ 5 _ rfl rfl)) (by decide) (fun h => by cases h) (fun _ a ha => (by injection ha with ha; subst ha; show w1.heap.size ≠ g; omega)) (by decide) (HK.out.below hB1 HK.out.lt)).mono ?_
  rintro e w2 ⟨rfl, hBut2, hH2⟩
  rw [List.nil_append] at hH2
  have hB2 := hB1.trans (hBut2.below' (C := w.heap.size) (by omega) hB1.size)
  have hr2 := hr1.butFar hBut2 hr1.lt (by omega)
  go_wp2_with fail
  go_at_call 66
  have hh := h.up hB2
  refine (add_any w2 g [0] bs A c hH2 hh.rd h.le h.nn (fun hp a ha => (by have := h.rd.lt (by rw [nums_length]; exact hp) a ha; omega)) (by simp; omega) (HK.out.below hB2 HK.out.lt)).mono ?_
  rintro e w3 ⟨rfl, hBut3, hH3⟩
  rw [HB0.out] at hH3
  have hB3 := hB2.trans (hBut3.below' (C := w.heap.size) (by omega) hB2.size)
  have hr3 := hr2.butFar hBut3 hr2.lt (by omega)
  go_wp2_with fail
  go_at_call 68
  refine (hsum_any w3 g all hH3 (by omega) (HK.out.below hB3 HK.out.lt)).mono ?_
  rintro e w4 ⟨rfl, hb4⟩
  have hB4 := hB3.trans (hb4.mono hB3.size)
  have hr4 := hr3.up hb4
  go_wp2_with fail
  go_at_call 67
  have hcall := cut_any w4 (sumF all) (sumF_len _) z
  rw [HLF.out] at hcall; refine hcall.mono ?_; clear hcall
  rintro e w5 ⟨rfl, hb5⟩
  have hB5 := hB4.trans (hb5.mono hB4.size)
  have hr5 := hr4.up hb5
  go_wp2_with ((with_reducible apply st_storeW (off := 0) (vs := nums .u8 (m)) (cs := nums .u8 (List.replicate 32 0)) (T := 24)); rfl; rfl; exact hr5; (rw [nums_length, HML.out]; kernel_rfl); (rw [nums_length, HML.out]; decide); exact nums_one _ _; intro w6 hd6 hw6; rw [laid_all _ _ (by rw [nums_length, HML.out]; rfl)] at hd6)
  refine bodyPost_ret (ret_row rfl _ _ _ (nums .u8 (m)) 24 _ rfl hd6 Tryd.underlying24 rfl (by rw [nums_length, HML.out]; kernel_rfl)) rfl ⟨rfl, Wrote.below hB5 hw6 (Nat.le_refl _)⟩

set_option maxRecDepth 100000 in
set_option maxHeartbeats 4000000 in
theorem refleaf_any (w : World) (bs : List Int) (A : Option Addr) (c : Nat) (h : Byt w A c bs) (hl : bs.length ≤ 1000000) (z : Int) :
    Calls Tryd.prog 52 #[.slice A bs.length c, .int .i64 z] w fun e w' => e = .returned (.agg (nums .u8 (leafF bs z)).toArray) ∧ Below w.heap.size w w' := by
  have hb0 : [(0 : Int)] ++ bs = 0 :: bs := rfl
  obtain ⟨all, hall⟩ : ∃ all, all = 0 :: bs := ⟨_, rfl⟩
  have halll : all.length ≤ 1000001 := by rw [hall]; simp; omega
  have hallu : U8 all := by rw [hall]; exact u8_cons 0 (by omega) h.u
  rw [← hall] at hb0
  have hml := cutF_sum all z
  obtain ⟨m, hm⟩ : ∃ m, m = leafF bs z := ⟨_, rfl⟩
  have hlf : cutF (sumF all) z = m := by rw [hm, hall]; rfl
  rw [hlf] at hml
  rw [← hm]
  have HB0 := Lib.hid hb0
  have HML := Lib.hid hml
  have HLF := Lib.hid hlf
  have HU := Lib.hid hallu
  clear hb0 hml hlf hall hallu hm
  have hB0 : Below w.heap.size w (w.alloc (.cells (nums .u8 (List.replicate 32 0)).toArray 24)) := (Below.refl _ _).alloc (Nat.le_refl _) _
  have hr0 : Blk (w.alloc (.cells (nums .u8 (List.replicate 32 0)).toArray 24)) w.heap.size (nums .u8 (List.replicate 32 0)) 24 := Blk.new' _ _ _ _ _ rfl rfl
  have ho0 : Own ((w.alloc (.cells (nums .u8 (List.replicate 32 0)).toArray 24)).alloc (.cells (nums .u8 [0]).toArray 5)) (w.heap.size + 1) (.slice (some ⟨w.heap.size + 1, 0, none⟩) 1 1) [0] := Own.ofBlk (Blk.new' _ _ _ 5 _ rfl (by simp)) (Nat.le_refl _) (by decide)
  have hB1 := hB0.alloc (by simp) (.cells (nums .u8 [0]).toArray 5)
  have hr1 := hr0.alloc (.cells (nums .u8 [0]).toArray 5)
  have hh := h.up hB1
  go_enter Tryd.func52, Tryd.ntmps52
  go_wp2_with (apply st_append (xs := [0]) (ys := bs); rfl; rfl; exact ho0; exact hh.nn; exact hh.rd; (simp; omega); (simp); intro v2 w2 ho2 hg2)
  have hB2 := below_grown hB1 ho0 hg2 (Nat.le_succ _) (by simp)
  have hr2 := hr1.grown hg2 (by simp [Value.ownBlock, Act.eval])
  rw [HB0.out] at ho2
  obtain ⟨A2, c2, rfl, h2, hc2, hR2, hx2⟩ := ho2.from
  go_at_call 27
  refine (refsum_any w2 all A2 c2 hR2 hc2 (by omega) HU.out).mono ?_
  rintro e w3 ⟨rfl, hb3⟩
  have hB3 := hB2.trans (hb3.mono hB2.size)
  have hr3 := hr2.up hb3
  go_wp2_with fail
  go_at_call 53
  have hcall := refcutd_any w3 (sumF all) (sumF_len _) (sumF_range _) z
  rw [HLF.out] at hcall; refine hcall.mono ?_; clear hcall
  rintro e w4 ⟨rfl, hb4⟩
  have hB4 := hB3.trans (hb4.mono hB3.size)
  have hr4 := hr3.up hb4
  go_wp2_with ((with_reducible apply st_storeW (off := 0) (vs := nums .u8 (m)) (cs := nums .u8 (List.replicate 32 0)) (T := 24)); rfl; rfl; exact hr4; (rw [nums_length, HML.out]; kernel_rfl); (rw [nums_length, HML.out]; decide); exact nums_one _ _; intro w5 hd5 hw5; rw [laid_all _ _ (by rw [nums_length, HML.out]; rfl)] at hd5)
  refine bodyPost_ret (ret_row rfl _ _ _ (nums .u8 (m)) 24 _ rfl hd5 Tryd.underlying24 rfl (by rw [nums_length, HML.out]; kernel_rfl)) rfl ⟨rfl, Wrote.below hB4 hw5 (Nat.le_refl _)⟩
end MerN
section MerM
open Go.RowKit

theorem node_laid1 (x : List Int) (hx : x.length = 32) : laid (nums .u8 (1 :: List.replicate 64 0)) 1 (nums .u8 x) = nums .u8 (1 :: (x ++ List.replicate 32 0)) := by
  simp [laid, nums, hx]
theorem node_laid2 (x y : List Int) (hx : x.length = 32) (hy : y.length = 32) : laid (nums .u8 (1 :: (x ++ List.replicate 32 0))) 33 (nums .u8 y) = nums .u8 (1 :: (x ++ y)) := by
  simp [laid, nums, hx, hy]

set_option maxRecDepth 100000 in
set_option maxHeartbeats 4000000 in
theorem node_any (w : World) (x y : List Int) (hx : x.length = 32) (hy : y.length = 32) (z : Int) (hk : KV w) :
    Calls Tryd.prog 50 #[.agg (nums .u8 x).toArray, .agg (nums .u8 y).toArray, .int .i64 z] w fun e w' => e = .returned (.agg (nums .u8 (nodeF x y z)).toArray) ∧ Below w.heap.size w w' := by
  have HK := Lib.hid hk
  obtain ⟨all, hall⟩ : ∃ all, all = 1 :: (x ++ y) := ⟨_, rfl⟩
  have halll : all.length = 65 := by rw [hall]; simp [hx, hy]
  obtain ⟨m, hm⟩ : ∃ m, m = nodeF x y z := ⟨_, rfl⟩
  have hlf : cutF (sumF all) z = m := by rw [hm, hall]; rfl
  have hml : m.length = 32 := by rw [hm, nodeF_len]
  have hl1 := node_laid1 x hx
  have hl2 := node_laid2 x y hx hy
  rw [← hall] at hl2
  rw [← hm]
  obtain ⟨b2, hb2⟩ : ∃ b2, b2 = 1 :: (x ++ List.replicate 32 0) := ⟨_, rfl⟩
  have hb2l : b2.length = 65 := by rw [hb2]; simp [hx]
  rw [← hb2] at hl1 hl2
  have HX := Lib.hid hx
  have HY := Lib.hid hy
  have HML := Lib.hid hml
  have HLF := Lib.hid hlf
  have HL1 := Lib.hid hl1
  have HL2 := Lib.hid hl2
  have HALL := Lib.hid halll
  have HB2L := Lib.hid hb2l
  clear hk hall hm hlf hml hl1 hl2 hx hy hb2 halll hb2l
  go_enter Tryd.func50, Tryd.ntmps50
  go_wp2_with fail
  refine named_world ?_
  intro w0 hw0
  have hbx : Blk w0 w.heap.size (nums .u8 x) 24 := by rw [hw0]; exact (((Blk.new' _ _ _ _ _ rfl rfl).alloc _).alloc _).alloc _
  have hby : Blk w0 (w.heap.size + 1) (nums .u8 y) 24 := by rw [hw0]; exact ((Blk.new' _ _ _ _ _ rfl (by simp)).alloc _).alloc _
  have hbr : Blk w0 (w.heap.size + 1 + 1) (nums .u8 (List.replicate 32 0)) 24 := by rw [hw0]; exact (Blk.new' _ _ _ _ _ rfl (by simp)).alloc _
  have hbb : Blk w0 (w.heap.size + 1 + 1 + 1) (nums .u8 (1 :: List.replicate 64 0)) 112 := by rw [hw0]; exact Blk.new' _ _ _ _ _ (by kernel_rfl) (by simp)
  have hB0 : Below w.heap.size w w0 := by rw [hw0]; exact ((((Below.refl _ _).alloc (Nat.le_refl _) _).alloc (by simp) _).alloc (by simp; omega) _).alloc (by simp; omega) _
  clear hw0
  have hB0 := hB0.drew
  have hbx := hbx.drew
  have hby := hby.drew
  have hbr := hbr.drew
  have hbb := hbb.drew
  refine wp_region_C (Same [] w0) [2] (by kernel_rfl) (by kernel_rfl) (by intro c a w h; first | (obtain ⟨_, h, _⟩ := h; cases h; done) | (obtain ⟨_, _, h, _⟩ := h; cases h; done) | (obtain ⟨_, _, _, h, _⟩ := h; cases h; done) | (obtain ⟨_, _, _, _, h, _⟩ := h; cases h; done) | (rcases h with ⟨_, ⟨_, _, _, _, h, _⟩ | ⟨_, _, _, _, h, _⟩⟩ <;> cases h; done)) (by intro a w h; first | (obtain ⟨h, _⟩ := h; cases h; done) | (obtain ⟨_, h, _⟩ := h; cases h; done) | (obtain ⟨_, _, h, _⟩ := h; cases h; done) | (obtain ⟨_, _, _, h, _⟩ := h; cases h; done) | (rcases h with ⟨_, _, _, _, h, _⟩ | ⟨_, _, _, _, h, _⟩ <;> cases h; done)) (Same.refl _ _) ?_
  repeat (refine wd_w (v := ?_) rfl rfl rfl rfl rfl rfl (fun w' hw' K hK => ?_) ?_; rotate_left; (skip; go_wp2_with ((first | (apply st_fromArr (i := 1); exact Tryd.underlying112; kernel_rfl; rfl; rfl; rfl; decide) | (apply st_allArr; exact Tryd.underlying24; kernel_rfl; rfl))); exact rfl); simp only [Act.put, List.setIfInBounds_toArray, List.set_cons_zero, List.set_cons_succ])
  refine wd_last rfl (by kernel_rfl) rfl (by intro a w h; first | (obtain ⟨h, _⟩ := h; cases h; done) | (obtain ⟨_, h, _⟩ := h; cases h; done) | (obtain ⟨_, _, h, _⟩ := h; cases h; done) | (obtain ⟨_, _, _, h, _⟩ := h; cases h; done) | (rcases h with ⟨_, _, _, _, h, _⟩ | ⟨_, _, _, _, h, _⟩ <;> cases h; done)) ?_
  go_wp2_with (apply st_copyW (m := 32) (cs := nums .u8 x) (cur := nums .u8 (1 :: List.replicate 64 0)) (T := 112); exact Tryd.underlying22; kernel_rfl; rfl; rfl; exact hbb; (rw [nums_length, HX.out]); rfl; (intro j v hv; rw [Nat.zero_add, hbx.cell]; exact hv); decide; exact nums_one _ _; intro w2 hb2 hw2; rw [HL1.out] at hb2)
  simp only [Act.put, List.setIfInBounds_toArray, List.set_cons_zero, List.set_cons_succ]
  have hB2 := Wrote.below hB0 hw2 (by omega)
  have hby2 := hw2.blk hby (by omega)
  have hbr2 := hw2.blk hbr (by omega)
  have hB2 := hB2.drew
  have hb2 := hb2.drew
  have hby2 := hby2.drew
  have hbr2 := hbr2.drew
  clear hbb hbx hby hbr
  refine wp_region_C (Same [] w2) [2] (by kernel_rfl) (by kernel_rfl) (by intro c a w h; first | (obtain ⟨_, h, _⟩ := h; cases h; done) | (obtain ⟨_, _, h, _⟩ := h; cases h; done) | (obtain ⟨_, _, _, h, _⟩ := h; cases h; done) | (obtain ⟨_, _, _, _, h, _⟩ := h; cases h; done) | (rcases h with ⟨_, ⟨_, _, _, _, h, _⟩ | ⟨_, _, _, _, h, _⟩⟩ <;> cases h; done)) (by intro a w h; first | (obtain ⟨h, _⟩ := h; cases h; done) | (obtain ⟨_, h, _⟩ := h; cases h; done) | (obtain ⟨_, _, h, _⟩ := h; cases h; done) | (obtain ⟨_, _, _, h, _⟩ := h; cases h; done) | (rcases h with ⟨_, _, _, _, h, _⟩ | ⟨_, _, _, _, h, _⟩ <;> cases h; done)) (Same.refl _ _) ?_
  repeat (refine wd_w (v := ?_) rfl rfl rfl rfl rfl rfl (fun w' hw' K hK => ?_) ?_; rotate_left; (skip; go_wp2_with ((first | (apply st_fromArr (i := 33); exact Tryd.underlying112; kernel_rfl; rfl; rfl; rfl; decide) | (apply st_allArr; exact Tryd.underlying24; kernel_rfl; rfl))); exact rfl); simp only [Act.put, List.setIfInBounds_toArray, List.set_cons_zero, List.set_cons_succ])
  refine wd_last rfl (by kernel_rfl) rfl (by intro a w h; first | (obtain ⟨h, _⟩ := h; cases h; done) | (obtain ⟨_, h, _⟩ := h; cases h; done) | (obtain ⟨_, _, h, _⟩ := h; cases h; done) | (obtain ⟨_, _, _, h, _⟩ := h; cases h; done) | (rcases h with ⟨_, _, _, _, h, _⟩ | ⟨_, _, _, _, h, _⟩ <;> cases h; done)) ?_
  go_wp2_with (apply st_copyW (m := 32) (cs := nums .u8 y) (cur := nums .u8 b2) (T := 112); exact Tryd.underlying22; kernel_rfl; rfl; rfl; exact hb2; (rw [nums_length, HY.out]); rfl; (intro j v hv; rw [Nat.zero_add, hby2.cell]; exact hv); (rw [nums_length, HB2L.out]; decide); exact nums_one _ _; intro w3 hb3 hw3; (have hb3 := (show Blk w3 _ (laid (nums .u8 b2) 33 (nums .u8 y)) _ from hb3); rw [HL2.out] at hb3))
  have hB3 := Wrote.below hB2 hw3 (by omega)
  have hbr3 := hw3.blk hbr2 (by omega)
  go_at_call 72
  have hcall := sum_any w3 all (some ⟨w.heap.size + 1 + 1 + 1, 0, none⟩) 65 (Rd.ofBlk hb3) (by rw [HALL.out]; decide) (fun h => by cases h) (by rw [HALL.out]; decide) (HK.out.below hB3 HK.out.lt)
  rw [HALL.out] at hcall; refine hcall.mono ?_; clear hcall
  rintro e w4 ⟨rfl, hb4⟩
  have hB4 := hB3.trans (hb4.mono hB3.size)
  have hr4 := hbr3.up hb4
  go_wp2_with fail
  go_at_call 67
  have hcall := cut_any w4 (sumF all) (sumF_len _) z
  rw [HLF.out] at hcall; refine hcall.mono ?_; clear hcall
  rintro e w5 ⟨rfl, hb5⟩
  have hB5 := hB4.trans (hb5.mono hB4.size)
  have hr5 := hr4.up hb5
  go_wp2_with ((with_reducible apply st_storeW (off := 0) (vs := nums .u8 (m)) (cs := nums .u8 (List.replicate 32 0)) (T := 24)); rfl; rfl; exact hr5; (rw [nums_length, HML.out]; kernel_rfl); (rw [nums_length, HML.out]; decide); exact nums_one _ _; intro w6 hd6 hw6; rw [laid_all _ _ (by rw [nums_length, HML.out]; rfl)] at hd6)
  refine bodyPost_ret (ret_row rfl _ _ _ (nums .u8 (m)) 24 _ rfl hd6 Tryd.underlying24 rfl (by rw [nums_length, HML.out]; kernel_rfl)) rfl ⟨rfl, Wrote.below hB5 hw6 (by omega)⟩

set_option maxRecDepth 100000 in
set_option maxHeartbeats 4000000 in
theorem refnode_any (w : World) (x y : List Int) (hx : x.length = 32) (hy : y.length = 32) (ux : U8 x) (uy : U8 y) (z : Int) :
    Calls Tryd.prog 76 #[.agg (nums .u8 x).toArray, .agg (nums .u8 y).toArray, .int .i64 z] w fun e w' => e = .returned (.agg (nums .u8 (nodeF x y z)).toArray) ∧ Below w.heap.size w w' := by
  obtain ⟨all, hall⟩ : ∃ all, all = ([1] ++ x) ++ y := ⟨_, rfl⟩
  have halll : all.length ≤ 65 := by rw [hall]; simp [hx, hy]
  have hallu : U8 all := by rw [hall]; exact ((u8_cons 1 (by omega) U8.nil).append ux).append uy
  obtain ⟨m, hm⟩ : ∃ m, m = nodeF x y z := ⟨_, rfl⟩
  have hlf : cutF (sumF all) z = m := by rw [hm, hall]; rfl
  have hml : m.length = 32 := by rw [hm, nodeF_len]
  rw [← hm]
  obtain ⟨b2, hb2⟩ : ∃ b2, b2 = [1] ++ x := ⟨_, rfl⟩
  have hb2l : b2.length = 33 := by rw [hb2]; simp [hx]
  rw [← hb2] at hall
  have HX := Lib.hid hx
  have HY := Lib.hid hy
  have HML := Lib.hid hml
  have HLF := Lib.hid hlf
  have HALL := Lib.hid halll
  have HB2L := Lib.hid hb2l
  have HB2 := Lib.hid hb2
  have HALLE := Lib.hid hall
  have HU := Lib.hid hallu
  clear hall hm hlf hml hx hy hb2 halll hb2l hallu
  have hbx : Blk (w.alloc (.cells (nums .u8 x).toArray 24)) w.heap.size (nums .u8 x) 24 := Blk.new' _ _ _ _ _ rfl rfl
  have hby : Blk ((w.alloc (.cells (nums .u8 x).toArray 24)).alloc (.cells (nums .u8 y).toArray 24)) (w.heap.size + 1) (nums .u8 y) 24 := Blk.new' _ _ _ _ _ rfl (by simp)
  have hB0 := ((Below.refl w.heap.size w).alloc (Nat.le_refl _) (.cells (nums .u8 x).toArray 24)).alloc (by simp) (.cells (nums .u8 y).toArray 24)
  have hbx := hbx.alloc (.cells (nums .u8 y).toArray 24)
  have hbr : Blk (((w.alloc (.cells (nums .u8 x).toArray 24)).alloc (.cells (nums .u8 y).toArray 24)).alloc (.cells (nums .u8 (List.replicate 32 0)).toArray 24)) (w.heap.size + 1 + 1) (nums .u8 (List.replicate 32 0)) 24 := Blk.new' _ _ _ _ _ rfl (by simp)
  have hbx := hbx.alloc (.cells (nums .u8 (List.replicate 32 0)).toArray 24)
  have hby := hby.alloc (.cells (nums .u8 (List.replicate 32 0)).toArray 24)
  have hB0 := hB0.alloc (by simp; omega) (.cells (nums .u8 (List.replicate 32 0)).toArray 24)
  obtain ⟨w0, hw0⟩ : ∃ w0, w0 = ((w.alloc (.cells (nums .u8 x).toArray 24)).alloc (.cells (nums .u8 y).toArray 24)).alloc (.cells (nums .u8 (List.replicate 32 0)).toArray 24) := ⟨_, rfl⟩
  have hz0 : w0.heap.size = w.heap.size + 1 + 1 + 1 := by rw [hw0]; simp
  have HW0 := Lib.hid hw0
  rw [← hw0] at hbx hby hbr hB0
  have ho0 : Own (w0.alloc (.cells (nums .u8 [1]).toArray 5)) (w.heap.size + 1 + 1 + 1) (.slice (some ⟨w.heap.size + 1 + 1 + 1, 0, none⟩) 1 1) [1] := Own.ofBlk (Blk.new' _ _ _ 5 _ rfl hz0.symm) (Nat.le_refl _) (by decide)
  have hb1x := hbx.alloc (.cells (nums .u8 [1]).toArray 5)
  have hb1y := hby.alloc (.cells (nums .u8 [1]).toArray 5)
  have hb1r := hbr.alloc (.cells (nums .u8 [1]).toArray 5)
  have hB1 := hB0.alloc (by omega) (.cells (nums .u8 [1]).toArray 5)
  have hz1 : (w0.alloc (.cells (nums .u8 [1]).toArray 5)).heap.size = w.heap.size + 1 + 1 + 1 + 1 := by rw [World.size_alloc, hz0]
  have hu1 : (w0.alloc (.cells (nums .u8 [1]).toArray 5)) = (((w.alloc (.cells (nums .u8 x).toArray 24)).alloc (.cells (nums .u8 y).toArray 24)).alloc (.cells (nums .u8 (List.replicate 32 0)).toArray 24)).alloc (.cells (nums .u8 [1]).toArray 5) := by rw [hw0]
  rw [hu1] at ho0 hb1x hb1y hb1r hB1 hz1
  clear hw0 hu1 hz0 hbx hby hbr hB0
  go_enter Tryd.func76, Tryd.ntmps76
  go_wp2_with (first
    | (apply st_allArr; exact Tryd.underlying24; kernel_rfl; rfl)
    | (apply st_append (v := .slice (some ⟨w.heap.size + 1 + 1 + 1, 0, none⟩) 1 1) (xs := [1]) (ys := x); rfl; (rw [HX.out]; rfl); exact ho0; (intro h; cases h); exact Rd.ofBlk hb1x; (rw [HX.out]; decide); exact hb1r.lt; intro v2 w2 ho2 hg2; rw [← HB2.out] at ho2; have hB2 := below_grown hB1 ho0 hg2 (by omega) hb1r.lt; have hr2 := hb1r.grown hg2 (by simp [Value.ownBlock]); have hy2 := hb1y.grown hg2 (by simp [Value.ownBlock]))
    | (apply st_append (v := v2) (xs := b2) (ys := y); rfl; (rw [HY.out]; rfl); exact ho2; (intro h; cases h); exact Rd.ofBlk hy2; (rw [HB2L.out, HY.out]; decide); exact hr2.lt; intro v3 w3 ho3 hg3; rw [← HALLE.out] at ho3))
  have hB3 := below_grown hB2 ho2 hg3 (by omega) hr2.lt
  have hr3 := hr2.grown hg3 (fun h => by have := (ho2.lt _ h.symm).1; omega)
  obtain ⟨A3, c3, rfl, h3, hc3, hR3, hx3⟩ := ho3.from
  go_at_call 27
  refine (refsum_any w3 all A3 c3 hR3 hc3 (by have := HALL.out; omega) HU.out).mono ?_
  rintro e w4 ⟨rfl, hb4⟩
  have hB4 := hB3.trans (hb4.mono hB3.size)
  have hr4 := hr3.up hb4
  go_wp2_with fail
  go_at_call 53
  have hcall := refcutd_any w4 (sumF all) (sumF_len _) (sumF_range _) z
  rw [HLF.out] at hcall; refine hcall.mono ?_; clear hcall
  rintro e w5 ⟨rfl, hb5⟩
  have hB5 := hB4.trans (hb5.mono hB4.size)
  have hr5 := hr4.up hb5
  go_wp2_with ((with_reducible apply st_storeW (off := 0) (vs := nums .u8 (m)) (cs := nums .u8 (List.replicate 32 0)) (T := 24)); rfl; rfl; exact hr5; (rw [nums_length, HML.out]; kernel_rfl); (rw [nums_length, HML.out]; decide); exact nums_one _ _; intro w6 hd6 hw6; rw [laid_all _ _ (by rw [nums_length, HML.out]; rfl)] at hd6)
  refine bodyPost_ret (ret_row rfl _ _ _ (nums .u8 (m)) 24 _ rfl hd6 Tryd.underlying24 rfl (by rw [nums_length, HML.out]; kernel_rfl)) rfl ⟨rfl, Wrote.below hB5 hw6 (by omega)⟩
end MerM
section MerS
open Go.RowKit

def splitF (n : Int) : Int := if n < 2 then 0 else ((2 ^ Nat.log2 (n - 1).toNat : Nat) : Int)
theorem splitF_eq (n : Int) (a : Nat) (h1 : ((2 ^ a : Nat) : Int) < n) (h2 : n ≤ 2 * ((2 ^ a : Nat) : Int)) : splitF n = ((2 ^ a : Nat) : Int) := by
  have hp : 0 < 2 ^ a := Nat.two_pow_pos a
  unfold splitF
  rw [if_neg (by omega)]
  have : Nat.log2 (n - 1).toNat = a := (Nat.log2_eq_iff (by omega)).2 ⟨by omega, by rw [Nat.pow_succ]; omega⟩
  rw [this]
theorem splitF_spec (n : Int) (h : 2 ≤ n) : ∃ a : Nat, splitF n = ((2 ^ a : Nat) : Int) ∧ ((2 ^ a : Nat) : Int) < n ∧ n ≤ 2 * ((2 ^ a : Nat) : Int) := by
  refine ⟨Nat.log2 (n - 1).toNat, ?_, ?_, ?_⟩
  · unfold splitF; rw [if_neg (by omega)]
  · have := Nat.log2_self_le (n := (n - 1).toNat) (by omega)
    omega
  · have := Nat.lt_log2_self (n := (n - 1).toNat)
    rw [Nat.pow_succ] at this
    omega

set_option maxRecDepth 100000 in
set_option maxHeartbeats 1000000 in
theorem split_any (w : World) (n : Int) (hi : n ≤ 9223372036854775807) (lo : -9223372036854775808 ≤ n) :
    Calls Tryd.prog 73 #[.int .i64 n] w fun e w' => e = .returned (.int .i64 (splitF n)) ∧ w = w' := by
  by_cases hn : n < 2
  · have hs : splitF n = 0 := by unfold splitF; rw [if_pos hn]
    rw [hs]
    go_enter Tryd.func73, Tryd.ntmps73
    go_wp2
    go_ret
    exact ⟨rfl, rfl⟩
  · go_enter Tryd.func73, Tryd.ntmps73
    go_wp2
    go_loopw [3] (fun k wr => wr = w ∧ ∃ a : Nat, k = .int .i64 ((2 ^ a : Nat) : Int) ∧ ((2 ^ a : Nat) : Int) < n) (fun k _ => (n - intOf k).toNat)
    case atStart => exact ⟨rfl, 0, rfl, by simp; omega⟩
    case round =>
      obtain ⟨rfl, a, rfl, ha⟩ := hrel
      have hp : 0 < 2 ^ a := Nat.two_pow_pos a
      have hq : 2 ^ (a + 1) = 2 ^ a * 2 := Nat.pow_succ 2 a
      have hsp := splitF_eq n a ha
      obtain ⟨K, hK⟩ : ∃ K : Nat, K = 2 ^ a := ⟨_, rfl⟩
      rw [← hK] at ha hp hq hsp ⊢
      have HK := Lib.hid hK
      have HQ := Lib.hid hq
      have HSP := Lib.hid hsp
      clear hK hq hsp
      by_cases hlt : (K : Int) < n - K
      · go_wp2
        go_roundw
        case rel => exact ⟨trivial, a + 1, by rw [HQ.out]; simp, by rw [HQ.out]; omega⟩
        case measure => simp [intOf]; omega
      · go_wp2
        go_ret
        exact ⟨by rw [HSP.out (by omega)]; rfl, rfl⟩

set_option maxRecDepth 100000 in
set_option maxHeartbeats 1000000 in
theorem refsplit_any (w : World) (n : Int) (hi : n ≤ 9223372036854775807) (lo : -9223372036854775808 ≤ n) :
    Calls Tryd.prog 92 #[.int .i64 n] w fun e w' => e = .returned (.int .i64 (splitF n)) ∧ w = w' := by
  by_cases hn : n < 2
  · have hs : splitF n = 0 := by unfold splitF; rw [if_pos hn]
    rw [hs]
    go_enter Tryd.func92, Tryd.ntmps92
    go_wp2
    go_ret
    exact ⟨rfl, rfl⟩
  · go_enter Tryd.func92, Tryd.ntmps92
    go_wp2
    go_loopw [3] (fun k wr => wr = w ∧ ∃ a : Nat, k = .int .i64 ((2 ^ a : Nat) : Int) ∧ n ≤ 2 * ((2 ^ a : Nat) : Int) ∧ 2 ^ a ≤ 4611686018427387904) (fun k _ => (intOf k).toNat)
    case atStart => exact ⟨rfl, 62, rfl, by omega, by decide⟩
    case round =>
      obtain ⟨rfl, a, rfl, ha, hm⟩ := hrel
      have hp : 0 < 2 ^ a := Nat.two_pow_pos a
      have hsp := fun h => splitF_eq n a h ha
      have hq : 2 ≤ 2 ^ a → ∃ b, 2 ^ a = 2 ^ b * 2 := fun h => by
        cases a with
        | zero => simp at h
        | succ b => exact ⟨b, Nat.pow_succ 2 b⟩
      obtain ⟨K, hK⟩ : ∃ K : Nat, K = 2 ^ a := ⟨_, rfl⟩
      rw [← hK] at ha hp hq hsp hm ⊢
      have HQ := Lib.hid hq
      have HSP := Lib.hid hsp
      clear hK hq hsp
      by_cases hlt : n ≤ (K : Int)
      · obtain ⟨b, hb⟩ := HQ.out (by omega)
        have HB := Lib.hid hb
        have hdiv : (K : Int) / 2 = ((2 ^ b : Nat) : Int) := by rw [hb]; omega
        have HDIV := Lib.hid hdiv
        clear hb hdiv
        go_wp2
        go_roundw
        case rel => exact ⟨trivial, b, by first | rfl | (rw [HDIV.out]) | (simp; omega), by have := HB.out; omega, by have := HB.out; omega⟩
        case measure => simp [intOf]; omega
      · go_wp2
        go_ret
        exact ⟨by rw [HSP.out (by omega)]; rfl, rfl⟩
end MerS
end Go.Proofs.YtancldhincaphaaDoor
