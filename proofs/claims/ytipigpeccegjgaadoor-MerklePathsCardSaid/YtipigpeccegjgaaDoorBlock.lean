/- What sha.First and sha.Block answer. Condition: the package's table k reads as its text lays it. -/
import Derived.Test.YtipigpeccegjgaaDoorSpread
namespace Go.Proofs.YtipigpeccegjgaaDoor
open Go.RowKit

def FIRST : List Int := [1779033703, 3144134277, 1013904242, 2773480762, 1359893119, 2600822924, 528734635, 1541459225]
def KS : List Int := [
  0x428a2f98, 0x71374491, 0xb5c0fbcf, 0xe9b5dba5, 0x3956c25b, 0x59f111f1, 0x923f82a4, 0xab1c5ed5,
  0xd807aa98, 0x12835b01, 0x243185be, 0x550c7dc3, 0x72be5d74, 0x80deb1fe, 0x9bdc06a7, 0xc19bf174,
  0xe49b69c1, 0xefbe4786, 0x0fc19dc6, 0x240ca1cc, 0x2de92c6f, 0x4a7484aa, 0x5cb0a9dc, 0x76f988da,
  0x983e5152, 0xa831c66d, 0xb00327c8, 0xbf597fc7, 0xc6e00bf3, 0xd5a79147, 0x06ca6351, 0x14292967,
  0x27b70a85, 0x2e1b2138, 0x4d2c6dfc, 0x53380d13, 0x650a7354, 0x766a0abb, 0x81c2c92e, 0x92722c85,
  0xa2bfe8a1, 0xa81a664b, 0xc24b8b70, 0xc76c51a3, 0xd192e819, 0xd6990624, 0xf40e3585, 0x106aa070,
  0x19a4c116, 0x1e376c08, 0x2748774c, 0x34b0bcb5, 0x391c0cb3, 0x4ed8aa4a, 0x5b9cca4f, 0x682e6ff3,
  0x748f82ee, 0x78a5636f, 0x84c87814, 0x8cc70208, 0x90befffa, 0xa4506ceb, 0xbef9a3f7, 0xc67178f2]

/-- The table k stands where it was laid. -/
def KV (w : World) : Prop := ∀ j, j < 64 → w.cell? ⟨0, j, none⟩ = some (.int .u32 (ga KS j))
theorem KV.below {w w' : World} {B : Nat} (h : KV w) (hb : Below B w w') (hB : 0 < B) : KV w' := fun j hj => (hb.cell (p := ⟨0, j, none⟩) hB).trans (h j hj)
theorem KV.lt {w : World} (h : KV w) : 0 < w.heap.size := World.block_lt_of_cell? (h := h 0 (by decide))
theorem KV.up {w w' : World} (h : KV w) (hb : Below w.heap.size w w') : KV w' := h.below hb h.lt

set_option maxHeartbeats 400000 in
theorem first_any (w : World) :
    Calls Tryd.prog 50 #[] w fun e w' => e = .returned (.agg (nums .u32 FIRST).toArray) ∧ Below w.heap.size w w' := by
  go_enter Tryd.func50, Tryd.ntmps50
  go_wp2
  refine bodyPost_ret (ret_row rfl _ _ _ (nums .u32 FIRST) 65 _ rfl (Blk.new' _ _ _ _ _ rfl rfl) Tryd.underlying65 rfl (by kernel_rfl)) rfl ⟨rfl, (Below.refl _ _).alloc (Nat.le_refl _) _⟩

/-- One round, as sha.Block reckons it. -/
def rndT (k w : Int) (v : List Int) : Int :=
  ga v 7 + bits .xor .u32 (bits .xor .u32 (turnZ (ga v 4) 6) (turnZ (ga v 4) 11)) (turnZ (ga v 4) 25) +
    bits .xor .u32 (bits .and .u32 (ga v 4) (ga v 5)) (bits .and .u32 (bits .xor .u32 IntKind.u32.max (ga v 4)) (ga v 6)) + k + w
def rndU (v : List Int) : Int :=
  bits .xor .u32 (bits .xor .u32 (turnZ (ga v 0) 2) (turnZ (ga v 0) 13)) (turnZ (ga v 0) 22) +
    bits .xor .u32 (bits .xor .u32 (bits .and .u32 (ga v 0) (ga v 1)) (bits .and .u32 (ga v 0) (ga v 2))) (bits .and .u32 (ga v 1) (ga v 2))
def rnd (k w : Int) (v : List Int) : List Int :=
  [(rndT k w v + rndU v) % 4294967296, ga v 0, ga v 1, ga v 2, (ga v 3 + rndT k w v) % 4294967296, ga v 4, ga v 5, ga v 6]
def rounds (ws ss : List Int) : Nat → List Int
  | 0 => ss
  | i + 1 => rnd (ga KS i) (ga ws i) (rounds ws ss i)
theorem rounds_len (ws ss : List Int) (h : ss.length = 8) (i : Nat) : (rounds ws ss i).length = 8 := by
  cases i with
  | zero => exact h
  | succ i => rfl

/-- The first so many of the sums. -/
def sumTo (v s : List Int) : Nat → List Int
  | 0 => v
  | k + 1 => (sumTo v s k).set k ((ga (sumTo v s k) k + ga s k) % 4294967296)
theorem sumTo_len (v s : List Int) (h : v.length = 8) (i : Nat) : (sumTo v s i).length = 8 := by
  induction i with
  | zero => exact h
  | succ i ih => simp [sumTo, ih]

/-- What sha.Block makes of eight numbers and 64 bytes. -/
def blockF (ss bs : List Int) : List Int := sumTo (rounds (wordsW bs 64) ss 64) ss 8
theorem blockF_len (ss bs : List Int) (h : ss.length = 8) : (blockF ss bs).length = 8 := sumTo_len _ _ (rounds_len _ _ h _) _

set_option maxHeartbeats 2000000 in
set_option maxRecDepth 100000 in
theorem block_any (w : World) (ss bs : List Int) (hs : ss.length = 8) (hn : bs.length = 64) (hk : KV w) :
    Calls Tryd.prog 51 #[.agg (nums .u32 ss).toArray, .agg (nums .u8 bs).toArray] w fun e w' => e = .returned (.agg (nums .u32 (blockF ss bs)).toArray) ∧ Below w.heap.size w w' := by
  have HN := Lib.hid hn
  have HS := Lib.hid hs
  have HK := Lib.hid hk
  clear hn hs hk
  go_enter Tryd.func51, Tryd.ntmps51
  go_wp2_with fail
  refine (spread_any _ (w.heap.size + 1) bs 67 HN.out ?_).mono ?_
  · exact (Blk.new' _ _ _ _ _ rfl (by simp)).alloc _
  rintro e w1 ⟨rfl, hb1⟩
  have hbs : Blk w1 w.heap.size (nums .u32 ss) 65 := (((Blk.new' _ _ _ _ _ rfl rfl).alloc _).alloc _).up hb1
  have hbr : Blk w1 (w.heap.size + 1 + 1) (nums .u32 (List.replicate 8 0)) 65 := (Blk.new' _ _ _ _ _ rfl (by simp)).up hb1
  have hB1 : Below w.heap.size w w1 := ((((Below.refl _ _).alloc (Nat.le_refl _) _).alloc (by simp) _).alloc (by simp; omega) _).trans (hb1.mono (by simp; omega))
  have hz1 : w.heap.size + 3 ≤ w1.heap.size := by have := hb1.size; simp at this; omega
  clear hb1
  go_wp2_with (first
    | (apply st_store (ty := 78) (off := 0) (cs := nums .u32 (List.replicate 64 0)) (T := 78); rfl; rfl; (exact Blk.new' _ _ _ _ _ rfl (by simp)); (rw [nums_length, wordsW_len]; kernel_rfl); (rw [nums_length, wordsW_len]; exact Nat.le_refl _); (exact nums_one _ _))
    | (apply st_load (ty := 65) (n := 8) (cs := nums .u32 ss) (T := 65); rfl; exact ((hbs.alloc _).rowFar _ (by omega)); exact Tryd.underlying65; rfl; kernel_rfl; (rw [nums_length, HS.out]; exact Nat.le_refl _); (exact row_all _ _ (by rw [nums_length, HS.out])))
    | (apply st_store (ty := 65) (off := 0) (cs := nums .u32 (List.replicate 8 0)) (T := 65); rfl; rfl; (exact Blk.new' _ _ _ _ _ rfl (by simp)); (rw [nums_length, HS.out]; kernel_rfl); (rw [nums_length, HS.out]; exact Nat.le_refl _); (exact nums_one _ _)))
  go_loopw [15] (fun i wr => ∃ k : Nat, i = .int .i64 k ∧ k ≤ 64 ∧ Below w.heap.size w wr ∧ Blk wr w.heap.size (nums .u32 ss) 65 ∧ Blk wr (w.heap.size + 1 + 1) (nums .u32 (List.replicate 8 0)) 65 ∧
      Blk wr w1.heap.size (nums .u32 (wordsW bs 64)) 78 ∧ Blk wr (w1.heap.size + 1) (nums .u32 (rounds (wordsW bs 64) ss k)) 65) (fun i _ => 64 - (intOf i).toNat)
  case atStart =>
    refine ⟨0, rfl, by omega, ?_, ?_, ?_, ?_, ?_⟩
    · exact below_setRow ((below_setRow (hB1.alloc (by omega) _) (by omega) _).alloc (by simp; omega) _) (by omega) _
    · exact (((hbs.alloc _).rowFar _ (by omega)).alloc _).rowFar _ (by omega)
    · exact (((hbr.alloc _).rowFar _ (by omega)).alloc _).rowFar _ (by omega)
    · exact ((Blk.row' (Blk.new' _ _ _ _ _ rfl rfl) _ _ (by rw [laid_all _ _ (by rw [nums_length, wordsW_len]; rfl)])).alloc _).rowFar _ (by omega)
    · exact Blk.row' (Blk.new' _ _ _ _ _ rfl (by simp)) _ _ (by rw [laid_all _ _ (by rw [nums_length, HS.out]; rfl)]; rfl)
  case round =>
    obtain ⟨k, rfl, hk, hB, hbs, hbr, hbw, hbv⟩ := hrel
    by_cases hlt : k < 64
    · have hl := rounds_len (wordsW bs 64) ss HS.out k
      obtain ⟨v, hv⟩ : ∃ v, v = rounds (wordsW bs 64) ss k := ⟨_, rfl⟩
      rw [← hv] at hbv hl
      have c0 := hbv.num 0 (by omega)
      have c1 := hbv.num 1 (by omega)
      have c2 := hbv.num 2 (by omega)
      have c3 := hbv.num 3 (by omega)
      have c4 := hbv.num 4 (by omega)
      have c5 := hbv.num 5 (by omega)
      have c6 := hbv.num 6 (by omega)
      have c7 := hbv.num 7 (by omega)
      have cw := hbw.num k (by rw [wordsW_len]; omega)
      have ck := (HK.out.below hB HK.out.lt) k hlt
      have HL := Lib.hid hl
      have HV := Lib.hid hv
      clear hl hv
      go_wp2
      refine wp_region_C (Same [w1.heap.size + 1] wr) [] (by kernel_rfl) (by kernel_rfl) (by intro c a w h; first | (obtain ⟨_, h, _⟩ := h; cases h; done) | (obtain ⟨_, _, h, _⟩ := h; cases h; done)) (by intro a w h; first | (obtain ⟨h, _⟩ := h; cases h; done) | (obtain ⟨_, h, _⟩ := h; cases h; done)) (Same.refl _ _) ?_
      repeat (refine wd_q (v := ?_) rfl rfl rfl rfl rfl rfl (fun w' hw' K hK => ?_) ?_; rotate_left; (have e1 := hw'.cell (w1.heap.size + 1) (by simp); go_wp2; exact rfl); simp only [Act.put, List.setIfInBounds_toArray, List.set_cons_zero, List.set_cons_succ])
      refine wd_nil ?_
      go_wp2
      refine wp_region_C (Same [w1.heap.size + 1, w1.heap.size, 0] wr) [3, 5, 8] (by kernel_rfl) (by kernel_rfl) (by intro c a w h; first | (obtain ⟨_, h, _⟩ := h; cases h; done) | (obtain ⟨_, _, h, _⟩ := h; cases h; done)) (by intro a w h; first | (obtain ⟨h, _⟩ := h; cases h; done) | (obtain ⟨_, h, _⟩ := h; cases h; done)) (Same.refl _ _) ?_
      repeat (refine wd_q (v := ?_) rfl rfl rfl rfl rfl rfl (fun w' hw' K hK => ?_) ?_; rotate_left; (have e1 := hw'.cell (w1.heap.size + 1) (by simp); have e2 := hw'.cell w1.heap.size (by simp); have e3 := hw'.cell 0 (by simp); go_wp2; exact rfl); simp only [Act.put, List.setIfInBounds_toArray, List.set_cons_zero, List.set_cons_succ])
      refine wd_l rfl rfl (by intro a w h; first | (obtain ⟨h, _⟩ := h; cases h; done) | (obtain ⟨_, h, _⟩ := h; cases h; done)) ?_
      go_wp2_with (go_at_call 59; refine (turn_any _ _ _ (by omega) (by omega)).mono ?_; rintro e w' ⟨rfl, rfl⟩)
      refine ⟨.inr (Same.refl _ _), ?_⟩
      repeat (refine wd_q (v := ?_) rfl rfl rfl rfl rfl rfl (fun w' hw' K hK => ?_) ?_; rotate_left; (have e1 := hw'.cell (w1.heap.size + 1) (by simp); have e2 := hw'.cell w1.heap.size (by simp); have e3 := hw'.cell 0 (by simp); go_wp2; exact rfl); simp only [Act.put, List.setIfInBounds_toArray, List.set_cons_zero, List.set_cons_succ])
      refine wd_l rfl rfl (by intro a w h; first | (obtain ⟨h, _⟩ := h; cases h; done) | (obtain ⟨_, h, _⟩ := h; cases h; done)) ?_
      go_wp2_with (go_at_call 59; refine (turn_any _ _ _ (by omega) (by omega)).mono ?_; rintro e w' ⟨rfl, rfl⟩)
      refine ⟨.inr (Same.refl _ _), ?_⟩
      repeat (refine wd_q (v := ?_) rfl rfl rfl rfl rfl rfl (fun w' hw' K hK => ?_) ?_; rotate_left; (have e1 := hw'.cell (w1.heap.size + 1) (by simp); have e2 := hw'.cell w1.heap.size (by simp); have e3 := hw'.cell 0 (by simp); go_wp2; exact rfl); simp only [Act.put, List.setIfInBounds_toArray, List.set_cons_zero, List.set_cons_succ])
      refine wd_l rfl rfl (by intro a w h; first | (obtain ⟨h, _⟩ := h; cases h; done) | (obtain ⟨_, h, _⟩ := h; cases h; done)) ?_
      go_wp2_with (go_at_call 59; refine (turn_any _ _ _ (by omega) (by omega)).mono ?_; rintro e w' ⟨rfl, rfl⟩)
      refine ⟨.inr (Same.refl _ _), ?_⟩
      repeat (refine wd_q (v := ?_) rfl rfl rfl rfl rfl rfl (fun w' hw' K hK => ?_) ?_; rotate_left; (have e1 := hw'.cell (w1.heap.size + 1) (by simp); have e2 := hw'.cell w1.heap.size (by simp); have e3 := hw'.cell 0 (by simp); go_wp2; exact rfl); simp only [Act.put, List.setIfInBounds_toArray, List.set_cons_zero, List.set_cons_succ])
      refine wd_nil ?_
      go_wp2
      refine wp_region_C (Same [w1.heap.size + 1] wr) [1, 3, 6] (by kernel_rfl) (by kernel_rfl) (by intro c a w h; first | (obtain ⟨_, h, _⟩ := h; cases h; done) | (obtain ⟨_, _, h, _⟩ := h; cases h; done)) (by intro a w h; first | (obtain ⟨h, _⟩ := h; cases h; done) | (obtain ⟨_, h, _⟩ := h; cases h; done)) (Same.refl _ _) ?_
      repeat (refine wd_q (v := ?_) rfl rfl rfl rfl rfl rfl (fun w' hw' K hK => ?_) ?_; rotate_left; (have e1 := hw'.cell (w1.heap.size + 1) (by simp); go_wp2; exact rfl); simp only [Act.put, List.setIfInBounds_toArray, List.set_cons_zero, List.set_cons_succ])
      refine wd_l rfl rfl (by intro a w h; first | (obtain ⟨h, _⟩ := h; cases h; done) | (obtain ⟨_, h, _⟩ := h; cases h; done)) ?_
      go_wp2_with (go_at_call 59; refine (turn_any _ _ _ (by omega) (by omega)).mono ?_; rintro e w' ⟨rfl, rfl⟩)
      refine ⟨.inr (Same.refl _ _), ?_⟩
      repeat (refine wd_q (v := ?_) rfl rfl rfl rfl rfl rfl (fun w' hw' K hK => ?_) ?_; rotate_left; (have e1 := hw'.cell (w1.heap.size + 1) (by simp); go_wp2; exact rfl); simp only [Act.put, List.setIfInBounds_toArray, List.set_cons_zero, List.set_cons_succ])
      refine wd_l rfl rfl (by intro a w h; first | (obtain ⟨h, _⟩ := h; cases h; done) | (obtain ⟨_, h, _⟩ := h; cases h; done)) ?_
      go_wp2_with (go_at_call 59; refine (turn_any _ _ _ (by omega) (by omega)).mono ?_; rintro e w' ⟨rfl, rfl⟩)
      refine ⟨.inr (Same.refl _ _), ?_⟩
      repeat (refine wd_q (v := ?_) rfl rfl rfl rfl rfl rfl (fun w' hw' K hK => ?_) ?_; rotate_left; (have e1 := hw'.cell (w1.heap.size + 1) (by simp); go_wp2; exact rfl); simp only [Act.put, List.setIfInBounds_toArray, List.set_cons_zero, List.set_cons_succ])
      refine wd_l rfl rfl (by intro a w h; first | (obtain ⟨h, _⟩ := h; cases h; done) | (obtain ⟨_, h, _⟩ := h; cases h; done)) ?_
      go_wp2_with (go_at_call 59; refine (turn_any _ _ _ (by omega) (by omega)).mono ?_; rintro e w' ⟨rfl, rfl⟩)
      refine ⟨.inr (Same.refl _ _), ?_⟩
      repeat (refine wd_q (v := ?_) rfl rfl rfl rfl rfl rfl (fun w' hw' K hK => ?_) ?_; rotate_left; (have e1 := hw'.cell (w1.heap.size + 1) (by simp); go_wp2; exact rfl); simp only [Act.put, List.setIfInBounds_toArray, List.set_cons_zero, List.set_cons_succ])
      refine wd_nil ?_
      go_wp2_with (apply st_store (ty := 65) (off := 0) (cs := nums .u32 v) (T := 65); rfl; rfl; exact hbv; kernel_rfl; (rw [nums_length, HL.out]; exact Nat.le_refl _); (intro v hv; simp at hv; rcases hv with rfl | rfl | rfl | rfl | rfl | rfl | rfl | rfl <;> rfl))
      go_roundw
      case rel =>
        refine ⟨k + 1, by go_num, by omega, below_setRow hB.drew.drew.drew (by omega) _, hbs.drew.drew.drew.rowFar _ (by omega), hbr.drew.drew.drew.rowFar _ (by omega), hbw.drew.drew.drew.rowFar _ (by omega), ?_⟩
        exact Blk.row' hbv.drew.drew.drew _ _ (by rw [laid_all _ _ (by rw [nums_length, HL.out]; rfl), rounds, ← HV.out]; rfl)
      case measure => simp [intOf]; omega
    · have e64 : k = 64 := by omega
      rw [e64] at hbv
      clear e64
      obtain ⟨v, hv⟩ : ∃ v, v = rounds (wordsW bs 64) ss 64 := ⟨_, rfl⟩
      rw [← hv] at hbv
      have hl : v.length = 8 := by rw [hv]; exact rounds_len _ _ HS.out _
      have HL := Lib.hid hl
      have HV := Lib.hid hv
      clear hl hv
      go_wp2
      go_loopw [95] (fun i wr => ∃ k : Nat, i = .int .i64 k ∧ k ≤ 8 ∧ Below w.heap.size w wr ∧ Blk wr w.heap.size (nums .u32 ss) 65 ∧ Blk wr (w.heap.size + 1 + 1) (nums .u32 (List.replicate 8 0)) 65 ∧
          Blk wr (w1.heap.size + 1) (nums .u32 (sumTo v ss k)) 65) (fun i _ => 8 - (intOf i).toNat)
      case atStart => exact ⟨0, rfl, by omega, hB, hbs, hbr, hbv⟩
      case round =>
        clear hB hbs hbr hbw hbv hk hlt
        obtain ⟨k1, hk1⟩ : ∃ k1 : Int, k1 = (k : Int) := ⟨_, rfl⟩
        rw [← hk1]
        clear hk1
        obtain ⟨k, rfl, hk, hB, hbs, hbr, hbv⟩ := hrel
        have hl2 := sumTo_len v ss HL.out k
        by_cases hlt : k < 8
        · have cv := hbv.num k (by omega)
          have cs := hbs.num k (by rw [HS.out]; omega)
          have fv := hbv.frozen k
          have HL2 := Lib.hid hl2
          clear hl2
          go_wp2
          refine wp_region_C (Same [w1.heap.size + 1, w.heap.size] wr) [8] (by kernel_rfl) (by kernel_rfl) (by intro c a w h; first | (obtain ⟨_, h, _⟩ := h; cases h; done) | (obtain ⟨_, _, h, _⟩ := h; cases h; done)) (by intro a w h; first | (obtain ⟨h, _⟩ := h; cases h; done) | (obtain ⟨_, h, _⟩ := h; cases h; done)) (Same.refl _ _) ?_
          repeat (refine wd_q (v := ?_) rfl rfl rfl rfl rfl rfl (fun w' hw' K hK => ?_) ?_; rotate_left; (have e1 := hw'.cell (w1.heap.size + 1) (by simp); have e2 := hw'.cell w.heap.size (by simp); go_wp2; exact rfl); simp only [Act.put, List.setIfInBounds_toArray, List.set_cons_zero, List.set_cons_succ])
          refine wd_last rfl (by kernel_rfl) rfl (by intro a w h; first | (obtain ⟨h, _⟩ := h; cases h; done) | (obtain ⟨_, h, _⟩ := h; cases h; done)) ?_
          go_wp2
          go_roundw
          case rel =>
            exact ⟨k + 1, by go_num, by omega, hB.drew.setCell (by simp; omega) _, hbs.drew.far _ _ (by simp; omega), hbr.drew.far _ _ (by simp; omega), hbv.drew.setNum k _⟩
          case measure => simp [intOf]; omega
        · have e8 : k = 8 := by omega
          rw [e8] at hbv hl2
          clear e8
          have HL2 := Lib.hid hl2
          clear hl2
          obtain ⟨v8, hv8⟩ : ∃ v8, v8 = sumTo v ss 8 := ⟨_, rfl⟩
          rw [← hv8] at hbv HL2
          have HV8 := Lib.hid hv8
          clear hv8
          go_wp2_with (first
            | (apply st_load (ty := 65) (n := 8) (cs := nums .u32 v8) (T := 65); rfl; exact hbv; exact Tryd.underlying65; rfl; kernel_rfl; (rw [nums_length, HL2.out]; exact Nat.le_refl _); (exact row_all _ _ (by rw [nums_length, HL2.out])))
            | (apply st_store (ty := 65) (off := 0) (cs := nums .u32 (List.replicate 8 0)) (T := 65); rfl; rfl; exact hbr; (rw [nums_length, HL2.out]; kernel_rfl); (rw [nums_length, HL2.out]; exact Nat.le_refl _); (exact nums_one _ _)))
          refine bodyPost_ret (ret_row rfl _ _ _ (nums .u32 v8) 65 _ rfl ?_ Tryd.underlying65 rfl (by rw [nums_length, HL2.out]; kernel_rfl)) rfl ⟨?_, ?_⟩
          · exact Blk.row' hbr _ _ (by rw [laid_all _ _ (by rw [nums_length, HL2.out]; rfl)])
          · rw [HV8.out, HV.out]; rfl
          · exact below_setRow hB (by omega) _
end Go.Proofs.YtipigpeccegjgaaDoor
