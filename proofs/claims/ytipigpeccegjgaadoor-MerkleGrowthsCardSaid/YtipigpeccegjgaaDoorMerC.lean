/- What merkle.Cut and the reference's Cut answer: the first bits of a sum. No condition. -/
import Derived.Test.YtipigpeccegjgaaDoorByt
import Derived.Test.YtipigpeccegjgaaDoorRefS
namespace Go.Proofs.YtipigpeccegjgaaDoor
open Go.RowKit

/-- The first left bits of a byte. -/
def byteCut (x left : Int) : Int := if left ≤ 0 then 0 else if left < 8 then bits .and .u8 x (255 * 2 ^ (8 - left).toNat % 256) else x
def cutB (ds : List Int) (w : Int) : List Int := (List.range ds.length).map fun i => byteCut (ga ds i) (w - 8 * i)
def clip (w : Int) : Int := min (max w 0) 256
def cutF (ds : List Int) (w : Int) : List Int := cutB ds (clip w)
theorem cutB_len (ds : List Int) (w : Int) : (cutB ds w).length = ds.length := by simp [cutB]
theorem cutF_len (ds : List Int) (w : Int) : (cutF ds w).length = ds.length := cutB_len _ _
theorem cutB_at (ds : List Int) (w : Int) (k : Nat) (h : k < ds.length) : ga (cutB ds w) k = byteCut (ga ds k) (w - 8 * k) := by
  unfold ga cutB
  rw [List.getD_eq_getElem?_getD, List.getElem?_map, List.getElem?_range h]; rfl
def cutTo (ds : List Int) (w : Int) (k : Nat) : List Int := (cutB ds w).take k ++ ds.drop k
theorem cutTo_len (ds : List Int) (w : Int) (k : Nat) : (cutTo ds w k).length = ds.length := by simp [cutTo, cutB_len]; omega
theorem cutTo_all (ds : List Int) (w : Int) : cutTo ds w ds.length = cutB ds w := by
  unfold cutTo; rw [List.drop_length, List.append_nil, List.take_of_length_le (by rw [cutB_len]; exact Nat.le_refl _)]
theorem cutTo_at (ds : List Int) (w : Int) (k : Nat) (h : k < ds.length) : ga (cutTo ds w k) k = ga ds k := by
  unfold cutTo ga
  rw [List.getD_eq_getElem?_getD, List.getElem?_append_right (by simp [cutB_len]; omega), List.getElem?_drop, List.getD_eq_getElem?_getD]
  congr 2
  simp [cutB_len]; omega
theorem cutTo_set (ds : List Int) (w : Int) (k : Nat) (h : k < ds.length) : (cutTo ds w k).set k (byteCut (ga ds k) (w - 8 * k)) = cutTo ds w (k + 1) := by
  rw [← cutB_at ds w k h]
  unfold cutTo
  have e1 : ds.drop k = ga ds k :: ds.drop (k + 1) := by
    rw [List.drop_eq_getElem_cons h]; simp [ga, h]
  have hl : ((cutB ds w).take k).length = k := by rw [List.length_take, cutB_len]; omega
  have hc : k < (cutB ds w).length := by rw [cutB_len]; exact h
  have e2 : (cutB ds w).take (k + 1) = (cutB ds w).take k ++ [(cutB ds w)[k]] := by rw [List.take_add_one, List.getElem?_eq_getElem hc]; rfl
  have e3 : ga (cutB ds w) k = (cutB ds w)[k] := by simp [ga, List.getElem?_eq_getElem hc]
  rw [e1, List.set_append_right _ _ (by omega), hl, Nat.sub_self, List.set_cons_zero, e2, e3, List.append_assoc]; rfl
theorem cutTo_self (ds : List Int) (w : Int) (k : Nat) (h : k < ds.length) (hb : byteCut (ga ds k) (w - 8 * k) = ga ds k) : cutTo ds w k = cutTo ds w (k + 1) := by
  rw [← cutTo_set ds w k h, hb, ← cutTo_at ds w k h]
  apply List.ext_getElem?
  intro i
  rw [List.getElem?_set]
  split
  · rename_i he
    subst he
    have hl := cutTo_len ds w k
    rw [if_pos (by omega)]
    simp [ga, hl, h]
  · rfl

set_option maxHeartbeats 4000000 in
theorem cut_any (w : World) (ds : List Int) (hl : ds.length = 32) (z : Int) :
    Calls Tryd.prog 24 #[.agg (nums .u8 ds).toArray, .int .i64 z] w fun e w' => e = .returned (.agg (nums .u8 (cutF ds z)).toArray) ∧ Below w.heap.size w w' := by
  have HL := Lib.hid hl
  clear hl
  go_enter Tryd.func24, Tryd.ntmps24
  go_wp2_with fail
  all_goals
    first | (have hV : clip z = 256 := by unfold clip; omega) | (have hV : clip z = 0 := by unfold clip; omega) | (have hV : clip z = z := by unfold clip; omega)
    have HV := Lib.hid hV
    clear hV
    refine named_world ?_
    intro w0 hw0
    have hbd : Blk w0 w.heap.size (nums .u8 ds) 25 := by rw [hw0]; exact (Blk.new' _ _ _ _ _ rfl rfl).alloc _
    have hbr : Blk w0 (w.heap.size + 1) (nums .u8 (List.replicate 32 0)) 25 := by rw [hw0]; exact Blk.new' _ _ _ _ _ rfl (by simp)
    have hB0 : Below w.heap.size w w0 := by rw [hw0]; exact ((Below.refl _ _).alloc (Nat.le_refl _) _).alloc (by simp) _
    clear hw0
    go_loopw [5, 6, 10] (fun _ _ i wr => ∃ k : Nat, i = .int .i64 k ∧ k ≤ 32 ∧ Below w.heap.size w wr ∧ Blk wr w.heap.size (nums .u8 (cutTo ds (clip z) k)) 25 ∧ Blk wr (w.heap.size + 1) (nums .u8 (List.replicate 32 0)) 25) (fun _ _ i _ => 32 - (intOf i).toNat)
    case atStart => exact ⟨0, rfl, by omega, hB0, hbd, hbr⟩
    case round =>
      clear hB0 hbd hbr
      obtain ⟨k, rfl, hk, hB, hb, hb2⟩ := hrel
      by_cases hlt : k < 32
      · have hxl := cutTo_len ds (clip z) k
        have cb := hb.num k (by rw [hxl, HL.out]; exact hlt)
        have fb := hb.frozen k
        rw [cutTo_at ds (clip z) k (by rw [HL.out]; exact hlt)] at cb
        have hset := cutTo_set ds (clip z) k (by rw [HL.out]; exact hlt)
        have hself := cutTo_self ds (clip z) k (by rw [HL.out]; exact hlt)
        obtain ⟨y, hy⟩ : ∃ y, y = ga ds k := ⟨_, rfl⟩
        rw [← hy] at cb hset hself
        rw [HV.out] at hset hself
        have HSET := Lib.hid hset
        have HSELF := Lib.hid hself
        clear hset hself hy hxl
        by_cases h1 : clip z - 8 * k ≤ 0
        · rw [HV.out] at h1
          first
          | (exfalso; omega)
          | rw [show byteCut y _ = 0 by unfold byteCut; rw [if_pos h1]] at HSET
            go_wp2_with fail
            go_roundw
            case rel =>
              refine ⟨k + 1, by go_num, by omega, hB.setCell (by first | (simp; done) | (simp; omega) | omega) _, ?_, hb2.far _ _ (by simp)⟩
              have hb3 := hb.setNum k 0
              rw [HV.out, HSET.out] at hb3
              rw [HV.out]; exact hb3
            case measure => simp [intOf]; omega
        · by_cases h2 : clip z - 8 * k < 8
          · rw [HV.out] at h1 h2
            first
            | (exfalso; omega)
            | go_wp2_with fail
              refine wp_region_C (Same [w.heap.size] wr) [8] (by kernel_rfl) (by kernel_rfl) (by intro c a w h; first | (obtain ⟨_, h, _⟩ := h; cases h; done) | (obtain ⟨_, _, h, _⟩ := h; cases h; done)) (by intro a w h; first | (obtain ⟨h, _⟩ := h; cases h; done) | (obtain ⟨_, h, _⟩ := h; cases h; done)) (Same.refl _ _) ?_
              repeat (refine wd_q (v := ?_) rfl rfl rfl rfl rfl rfl (fun w' hw' K hK => ?_) ?_; rotate_left; (have e1 := (hw'.cell w.heap.size (by simp) k).trans cb; go_wp2; exact rfl); simp only [Act.put, List.setIfInBounds_toArray, List.set_cons_zero, List.set_cons_succ])
              have cb := (show wr.drew.cell? ⟨w.heap.size, k, none⟩ = some (.int .u8 y) from cb)
              have fb := (show wr.drew.frozen? ⟨w.heap.size, k, none⟩ = false from fb)
              refine wd_last rfl (by kernel_rfl) rfl (by intro a w h; first | (obtain ⟨h, _⟩ := h; cases h; done) | (obtain ⟨_, h, _⟩ := h; cases h; done)) ?_
              go_wp2_with fail
              go_roundw
              case rel =>
                refine ⟨k + 1, by go_num, by omega, hB.drew.setCell (by first | (simp; done) | (simp; omega) | omega) _, ?_, hb2.drew.far _ _ (by simp)⟩
                have hb3 := hb.drew.setNum k (byteCut y (z - 8 * k))
                rw [HV.out, HSET.out] at hb3
                rw [HV.out, show bits .and .u8 y (255 * 2 ^ (8 - (z - 8 * (k : Int))).toNat % 256) = byteCut y (z - 8 * k) by unfold byteCut; rw [if_neg (by omega), if_pos (by omega)]]; exact hb3
              case measure => simp [intOf]; omega
          · rw [HV.out] at h1 h2
            first
            | (exfalso; omega)
            | have hself := HSELF.out (by unfold byteCut; rw [if_neg h1, if_neg h2])
              go_wp2_with fail
              go_roundw
              case rel => exact ⟨k + 1, by go_num, by omega, hB, by rw [HV.out, ← hself, ← HV.out]; exact hb, hb2⟩
              case measure => simp [intOf]; omega
      · have e : k = ds.length := by rw [HL.out]; omega
        rw [e, cutTo_all] at hb
        have hbl := cutB_len ds (clip z)
        rw [HL.out] at hbl
        have HBL := Lib.hid hbl
        clear hbl e
        go_wp2_with (first | (apply st_load (n := 32) (cs := nums .u8 (cutB ds (clip z))) (T := 25); rfl; exact hb; exact Tryd.underlying25; rfl; kernel_rfl; (rw [nums_length, HBL.out]; exact Nat.le_refl _); (exact row_all _ _ (by rw [nums_length, HBL.out]))) | (apply st_storeW (off := 0) (vs := nums .u8 (cutB ds (clip z))) (cs := nums .u8 (List.replicate 32 0)) (T := 25); rfl; rfl; exact hb2; (rw [nums_length, HBL.out]; kernel_rfl); (rw [nums_length, HBL.out]; decide); exact nums_one _ _; intro w2 hb3 hw3; rw [laid_all _ _ (by rw [nums_length, HBL.out]; rfl)] at hb3))
        refine bodyPost_ret (ret_row rfl _ _ _ (nums .u8 (cutB ds (clip z))) 25 _ rfl hb3 Tryd.underlying25 rfl (by rw [nums_length, HBL.out]; kernel_rfl)) rfl ⟨rfl, Wrote.below hB hw3 (Nat.le_succ _)⟩
end Go.Proofs.YtipigpeccegjgaaDoor
