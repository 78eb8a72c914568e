/- What sha.First and sha.Block answer. Condition: the package's table k reads as its text lays it. More words and small laws that the walks of this seat use. Nothing is claimed here of the program but what its tables say of a byte's type. What word.Put answers of 4 and of 8 bytes, and sha.Pad. No condition but the kinds' own bounds. What sha.Pad answers. No condition but the kinds' own bounds. -/
import Derived.Test.YtancldhincaphaaDoorGa
import Derived.Laws.AppendOwnNone
namespace Go.Proofs.YtancldhincaphaaDoor
set_option maxRecDepth 100000
section Block
open Go.RowKit

def FIRST : List Int := [1779033703, 3144134277, 1013904242, 2773480762, 1359893119, 2600822924, 528734635, 1541459225]
def KS : List Int := [
  0x428a2f98, 0x71374491, 0xb5c0fbcf, 0xe9b5dba5, 0x3956c25b, 0x59f111f1, 0x923f82a4, 0xab1c5ed5,
  0xd807aa98, 0x12835b01, 0x243185be, 0x550c7dc3, 0x72be5d74, 0x80deb1fe, 0x9bdc06a7, 0xc19bf174,
  0xe49b69c1, 0xefbe4786, 0x0fc19dc6, 0x240ca1cc, 0x2de92c6f, 0x4a7484aa, 0x5cb0a9dc, 0x76f988da,
  0x983e5152, 0xa831c66d, 0xb00327c8, 0xbf597fc7, 0xc6e00bf3, 0xd5a79147, 0x06ca6351, 0x14292967,
  0x27b70a85, 0x2e1b2138, 0x4d2c6dfc, 0x53380d13, 0x650a7354, 0x766a0abb, 0x81c2c92e, 0x92722c85,
  0xa2bfe8a1, 0xa81a664b, 0xc24b8b70, 0xc76c51a3, 0xd192e819, 0xd6990624, 0xf40e3585, 0x106aa070,
  0x19a4c116, 0x1e376c08, 0x2748774c, 0x34b0bcb5, 0x391c0cb3, 0x4ed8aa4a, 0x5b9cca4f, 0x682e6ff3,
  0x748f82ee, 0x78a5636f, 0x84c87814, 0x8cc70208, 0x90befffa, 0xa4506ceb, 0xbef9a3f7, 0xc67178f2]

/-- The table k stands where it was laid. -/
def KV (w : World) : Prop := ∀ j, j < 64 → w.cell? ⟨0, j, none⟩ = some (.int .u32 (ga KS j))
theorem KV.below {w w' : World} {B : Nat} (h : KV w) (hb : Below B w w') (hB : 0 < B) : KV w' := fun j hj => (hb.cell (p := ⟨0, j, none⟩) hB).trans (h j hj)
theorem KV.lt {w : World} (h : KV w) : 0 < w.heap.size := World.block_lt_of_cell? (h := h 0 (by decide))
theorem KV.up {w w' : World} (h : KV w) (hb : Below w.heap.size w w') : KV w' := h.below hb h.lt

set_option maxRecDepth 100000 in
set_option maxHeartbeats 400000 in
theorem first_any (w : World) :
    Calls Tryd.prog 88 #[] w fun e w' => e = .returned (.agg (nums .u32 FIRST).toArray) ∧ Below w.heap.size w w' := by
  go_enter Tryd.func88, Tryd.ntmps88
  go_wp2
  refine bodyPost_ret (ret_row rfl _ _ _ (nums .u32 FIRST) 91 _ rfl (Blk.new' _ _ _ _ _ rfl rfl) Tryd.underlying91 rfl (by kernel_rfl)) rfl ⟨rfl, (Below.refl _ _).alloc (Nat.le_refl _) _⟩

/-- One round, as sha.Block reckons it. -/
def rndT (k w : Int) (v : List Int) : Int :=
  ga v 7 + bits .xor .u32 (bits .xor .u32 (turnZ (ga v 4) 6) (turnZ (ga v 4) 11)) (turnZ (ga v 4) 25) +
    bits .xor .u32 (bits .and .u32 (ga v 4) (ga v 5)) (bits .and .u32 (bits .xor .u32 IntKind.u32.max (ga v 4)) (ga v 6)) + k + w
def rndU (v : List Int) : Int :=
  bits .xor .u32 (bits .xor .u32 (turnZ (ga v 0) 2) (turnZ (ga v 0) 13)) (turnZ (ga v 0) 22) +
    bits .xor .u32 (bits .xor .u32 (bits .and .u32 (ga v 0) (ga v 1)) (bits .and .u32 (ga v 0) (ga v 2))) (bits .and .u32 (ga v 1) (ga v 2))
def rnd (k w : Int) (v : List Int) : List Int :=
  [(rndT k w v + rndU v) % 4294967296, ga v 0, ga v 1, ga v 2, (ga v 3 + rndT k w v) % 4294967296, ga v 4, ga v 5, ga v 6]
def rounds (ws ss : List Int) : Nat → List Int
  | 0 => ss
  | i + 1 => rnd (ga KS i) (ga ws i) (rounds ws ss i)
theorem rounds_len (ws ss : List Int) (h : ss.length = 8) (i : Nat) : (rounds ws ss i).length = 8 := by
  cases i with
  | zero => exact h
  | succ i => rfl

/-- The first so many of the sums. -/
def sumTo (v s : List Int) : Nat → List Int
  | 0 => v
  | k + 1 => (sumTo v s k).set k ((ga (sumTo v s k) k + ga s k) % 4294967296)
theorem sumTo_len (v s : List Int) (h : v.length = 8) (i : Nat) : (sumTo v s i).length = 8 := by
  induction i with
  | zero => exact h
  | succ i ih => simp [sumTo, ih]

/-- What sha.Block makes of eight numbers and 64 bytes. -/
def blockF (ss bs : List Int) : List Int := sumTo (rounds (wordsW bs 64) ss 64) ss 8
theorem blockF_len (ss bs : List Int) (h : ss.length = 8) : (blockF ss bs).length = 8 := sumTo_len _ _ (rounds_len _ _ h _) _

set_option maxRecDepth 100000 in
set_option maxHeartbeats 2000000 in
set_option maxRecDepth 100000 in
theorem block_any (w : World) (ss bs : List Int) (hs : ss.length = 8) (hn : bs.length = 64) (hk : KV w) :
    Calls Tryd.prog 89 #[.agg (nums .u32 ss).toArray, .agg (nums .u8 bs).toArray] w fun e w' => e = .returned (.agg (nums .u32 (blockF ss bs)).toArray) ∧ Below w.heap.size w w' := by
  have HN := Lib.hid hn
  have HS := Lib.hid hs
  have HK := Lib.hid hk
  clear hn hs hk
  go_enter Tryd.func89, Tryd.ntmps89
  go_wp2_with fail
  refine (spread_any _ (w.heap.size + 1) bs 93 HN.out ?_).mono ?_
  · exact (Blk.new' _ _ _ _ _ rfl (by simp)).alloc _
  rintro e w1 ⟨rfl, hb1⟩
  have hbs : Blk w1 w.heap.size (nums .u32 ss) 91 := (((Blk.new' _ _ _ _ _ rfl rfl).alloc _).alloc _).up hb1
  have hbr : Blk w1 (w.heap.size + 1 + 1) (nums .u32 (List.replicate 8 0)) 91 := (Blk.new' _ _ _ _ _ rfl (by simp)).up hb1
  have hB1 : Below w.heap.size w w1 := ((((Below.refl _ _).alloc (Nat.le_refl _) _).alloc (by simp) _).alloc (by simp; omega) _).trans (hb1.mono (by simp; omega))
  have hz1 : w.heap.size + 3 ≤ w1.heap.size := by have := hb1.size; simp at this; omega
  clear hb1
  go_wp2_with (first
    | (apply st_store (ty := 126) (off := 0) (cs := nums .u32 (List.replicate 64 0)) (T := 126); rfl; rfl; (exact Blk.new' _ _ _ _ _ rfl (by simp)); (rw [nums_length, wordsW_len]; kernel_rfl); (rw [nums_length, wordsW_len]; exact Nat.le_refl _); (exact nums_one _ _))
    | (apply st_load (ty := 91) (n := 8) (cs := nums .u32 ss) (T := 91); rfl; exact ((hbs.alloc _).rowFar _ (by omega)); exact Tryd.underlying91; rfl; kernel_rfl; (rw [nums_length, HS.out]; exact Nat.le_refl _); (exact row_all _ _ (by rw [nums_length, HS.out])))
    | (apply st_store (ty := 91) (off := 0) (cs := nums .u32 (List.replicate 8 0)) (T := 91); rfl; rfl; (exact Blk.new' _ _ _ _ _ rfl (by simp)); (rw [nums_length, HS.out]; kernel_rfl); (rw [nums_length, HS.out]; exact Nat.le_refl _); (exact nums_one _ _)))
  go_loopw [15] (fun i wr => ∃ k : Nat, i = .int .i64 k ∧ k ≤ 64 ∧ Below w.heap.size w wr ∧ Blk wr w.heap.size (nums .u32 ss) 91 ∧ Blk wr (w.heap.size + 1 + 1) (nums .u32 (List.replicate 8 0)) 91 ∧
      Blk wr w1.heap.size (nums .u32 (wordsW bs 64)) 126 ∧ Blk wr (w1.heap.size + 1) (nums .u32 (rounds (wordsW bs 64) ss k)) 91) (fun i _ => 64 - (intOf i).toNat)
  case atStart =>
    refine ⟨0, rfl, by omega, ?_, ?_, ?_, ?_, ?_⟩
    · exact below_setRow ((below_setRow (hB1.alloc (by omega) _) (by omega) _).alloc (by simp; omega) _) (by omega) _
    · exact (((hbs.alloc _).rowFar _ (by omega)).alloc _).rowFar _ (by omega)
    · exact (((hbr.alloc _).rowFar _ (by omega)).alloc _).rowFar _ (by omega)
    · exact ((Blk.row' (Blk.new' _ _ _ _ _ rfl rfl) _ _ (by rw [laid_all _ _ (by rw [nums_length, wordsW_len]; rfl)])).alloc _).rowFar _ (by omega)
    · exact Blk.row' (Blk.new' _ _ _ _ _ rfl (by simp)) _ _ (by rw [laid_all _ _ (by rw [nums_length, HS.out]; rfl)]; rfl)
  case round =>
    obtain ⟨k, rfl, hk, hB, hbs, hbr, hbw, hbv⟩ := hrel
    by_cases hlt : k < 64
    · have hl := rounds_len (wordsW bs 64) ss HS.out k
      obtain ⟨v, hv⟩ : ∃ v, v = rounds (wordsW bs 64) ss k := ⟨_, rfl⟩
      rw [← hv] at hbv hl
      have c0 := hbv.num 0 (by omega)
      have c1 := hbv.num 1 (by omega)
      have c2 := hbv.num 2 (by omega)
      have c3 := hbv.num 3 (by omega)
      have c4 := hbv.num 4 (by omega)
      have c5 := hbv.num 5 (by omega)
      have c6 := hbv.num 6 (by omega)
      have c7 := hbv.num 7 (by omega)
      have cw := hbw.num k (by rw [wordsW_len]; omega)
      have ck := (HK.out.below hB HK.out.lt) k hlt
      have HL := Lib.hid hl
      have HV := Lib.hid hv
      clear hl hv
      go_wp2
      refine wp_region_C (Same [w1.heap.size + 1] wr) [] (by kernel_rfl) (by kernel_rfl) (by intro c a w h; first | (obtain ⟨_, h, _⟩ := h; cases h; done) | (obtain ⟨_, _, h, _⟩ := h; cases h; done) | (obtain ⟨_, _, _, h, _⟩ := h; cases h; done) | (obtain ⟨_, _, _, _, h, _⟩ := h; cases h; done) | (rcases h with ⟨_, ⟨_, _, _, _, h, _⟩ | ⟨_, _, _, _, h, _⟩⟩ <;> cases h; done)) (by intro a w h; first | (obtain ⟨h, _⟩ := h; cases h; done) | (obtain ⟨_, h, _⟩ := h; cases h; done) | (obtain ⟨_, _, h, _⟩ := h; cases h; done) | (obtain ⟨_, _, _, h, _⟩ := h; cases h; done) | (rcases h with ⟨_, _, _, _, h, _⟩ | ⟨_, _, _, _, h, _⟩ <;> cases h; done)) (Same.refl _ _) ?_
      repeat (refine wd_q (v := ?_) rfl rfl rfl rfl rfl rfl (fun w' hw' K hK => ?_) ?_; rotate_left; (have e1 := hw'.cell (w1.heap.size + 1) (by simp); go_wp2; exact rfl); simp only [Act.put, List.setIfInBounds_toArray, List.set_cons_zero, List.set_cons_succ])
      refine wd_nil ?_
      go_wp2
      refine wp_region_C (Same [w1.heap.size + 1, w1.heap.size, 0] wr) [3, 5, 8] (by kernel_rfl) (by kernel_rfl) (by intro c a w h; first | (obtain ⟨_, h, _⟩ := h; cases h; done) | (obtain ⟨_, _, h, _⟩ := h; cases h; done) | (obtain ⟨_, _, _, h, _⟩ := h; cases h; done) | (obtain ⟨_, _, _, _, h, _⟩ := h; cases h; done) | (rcases h with ⟨_, ⟨_, _, _, _, h, _⟩ | ⟨_, _, _, _, h, _⟩⟩ <;> cases h; done)) (by intro a w h; first | (obtain ⟨h, _⟩ := h; cases h; done) | (obtain ⟨_, h, _⟩ := h; cases h; done) | (obtain ⟨_, _, h, _⟩ := h; cases h; done) | (obtain ⟨_, _, _, h, _⟩ := h; cases h; done) | (rcases h with ⟨_, _, _, _, h, _⟩ | ⟨_, _, _, _, h, _⟩ <;> cases h; done)) (Same.refl _ _) ?_
      repeat (refine wd_q (v := ?_) rfl rfl rfl rfl rfl rfl (fun w' hw' K hK => ?_) ?_; rotate_left; (have e1 := hw'.cell (w1.heap.size + 1) (by simp); have e2 := hw'.cell w1.heap.size (by simp); have e3 := hw'.cell 0 (by simp); go_wp2; exact rfl); simp only [Act.put, List.setIfInBounds_toArray, List.set_cons_zero, List.set_cons_succ])
      refine wd_l rfl rfl (by intro a w h; first | (obtain ⟨h, _⟩ := h; cases h; done) | (obtain ⟨_, h, _⟩ := h; cases h; done) | (obtain ⟨_, _, h, _⟩ := h; cases h; done) | (obtain ⟨_, _, _, h, _⟩ := h; cases h; done) | (rcases h with ⟨_, _, _, _, h, _⟩ | ⟨_, _, _, _, h, _⟩ <;> cases h; done)) ?_
      go_wp2_with (go_at_call 95; refine (turn_any _ _ _ (by omega) (by omega)).mono ?_; rintro e w' ⟨rfl, rfl⟩)
      refine ⟨.inr (Same.refl _ _), ?_⟩
      repeat (refine wd_q (v := ?_) rfl rfl rfl rfl rfl rfl (fun w' hw' K hK => ?_) ?_; rotate_left; (have e1 := hw'.cell (w1.heap.size + 1) (by simp); have e2 := hw'.cell w1.heap.size (by simp); have e3 := hw'.cell 0 (by simp); go_wp2; exact rfl); simp only [Act.put, List.setIfInBounds_toArray, List.set_cons_zero, List.set_cons_succ])
      refine wd_l rfl rfl (by intro a w h; first | (obtain ⟨h, _⟩ := h; cases h; done) | (obtain ⟨_, h, _⟩ := h; cases h; done) | (obtain ⟨_, _, h, _⟩ := h; cases h; done) | (obtain ⟨_, _, _, h, _⟩ := h; cases h; done) | (rcases h with ⟨_, _, _, _, h, _⟩ | ⟨_, _, _, _, h, _⟩ <;> cases h; done)) ?_
      go_wp2_with (go_at_call 95; refine (turn_any _ _ _ (by omega) (by omega)).mono ?_; rintro e w' ⟨rfl, rfl⟩)
      refine ⟨.inr (Same.refl _ _), ?_⟩
      repeat (refine wd_q (v := ?_) rfl rfl rfl rfl rfl rfl (fun w' hw' K hK => ?_) ?_; rotate_left; (have e1 := hw'.cell (w1.heap.size + 1) (by simp); have e2 := hw'.cell w1.heap.size (by simp); have e3 := hw'.cell 0 (by simp); go_wp2; exact rfl); simp only [Act.put, List.setIfInBounds_toArray, List.set_cons_zero, List.set_cons_succ])
      refine wd_l rfl rfl (by intro a w h; first | (obtain ⟨h, _⟩ := h; cases h; done) | (obtain ⟨_, h, _⟩ := h; cases h; done) | (obtain ⟨_, _, h, _⟩ := h; cases h; done) | (obtain ⟨_, _, _, h, _⟩ := h; cases h; done) | (rcases h with ⟨_, _, _, _, h, _⟩ | ⟨_, _, _, _, h, _⟩ <;> cases h; done)) ?_
      go_wp2_with (go_at_call 95; refine (turn_any _ _ _ (by omega) (by omega)).mono ?_; rintro e w' ⟨rfl, rfl⟩)
      refine ⟨.inr (Same.refl _ _), ?_⟩
      repeat (refine wd_q (v := ?_) rfl rfl rfl rfl rfl rfl (fun w' hw' K hK => ?_) ?_; rotate_left; (have e1 := hw'.cell (w1.heap.size + 1) (by simp); have e2 := hw'.cell w1.heap.size (by simp); have e3 := hw'.cell 0 (by simp); go_wp2; exact rfl); simp only [Act.put, List.setIfInBounds_toArray, List.set_cons_zero, List.set_cons_succ])
      refine wd_nil ?_
      go_wp2
      refine wp_region_C (Same [w1.heap.size + 1] wr) [1, 3, 6] (by kernel_rfl) (by kernel_rfl) (by intro c a w h; first | (obtain ⟨_, h, _⟩ := h; cases h; done) | (obtain ⟨_, _, h, _⟩ := h; cases h; done) | (obtain ⟨_, _, _, h, _⟩ := h; cases h; done) | (obtain ⟨_, _, _, _, h, _⟩ := h; cases h; done) | (rcases h with ⟨_, ⟨_, _, _, _, h, _⟩ | ⟨_, _, _, _, h, _⟩⟩ <;> cases h; done)) (by intro a w h; first | (obtain ⟨h, _⟩ := h; cases h; done) | (obtain ⟨_, h, _⟩ := h; cases h; done) | (obtain ⟨_, _, h, _⟩ := h; cases h; done) | (obtain ⟨_, _, _, h, _⟩ := h; cases h; done) | (rcases h with ⟨_, _, _, _, h, _⟩ | ⟨_, _, _, _, h, _⟩ <;> cases h; done)) (Same.refl _ _) ?_
      repeat (refine wd_q (v := ?_) rfl rfl rfl rfl rfl rfl (fun w' hw' K hK => ?_) ?_; rotate_left; (have e1 := hw'.cell (w1.heap.size + 1) (by simp); go_wp2; exact rfl); simp only [Act.put, List.setIfInBounds_toArray, List.set_cons_zero, List.set_cons_succ])
      refine wd_l rfl rfl (by intro a w h; first | (obtain ⟨h, _⟩ := h; cases h; done) | (obtain ⟨_, h, _⟩ := h; cases h; done) | (obtain ⟨_, _, h, _⟩ := h; cases h; done) | (obtain ⟨_, _, _, h, _⟩ := h; cases h; done) | (rcases h with ⟨_, _, _, _, h, _⟩ | ⟨_, _, _, _, h, _⟩ <;> cases h; done)) ?_
      go_wp2_with (go_at_call 95; refine (turn_any _ _ _ (by omega) (by omega)).mono ?_; rintro e w' ⟨rfl, rfl⟩)
      refine ⟨.inr (Same.refl _ _), ?_⟩
      repeat (refine wd_q (v := ?_) rfl rfl rfl rfl rfl rfl (fun w' hw' K hK => ?_) ?_; rotate_left; (have e1 := hw'.cell (w1.heap.size + 1) (by simp); go_wp2; exact rfl); simp only [Act.put, List.setIfInBounds_toArray, List.set_cons_zero, List.set_cons_succ])
      refine wd_l rfl rfl (by intro a w h; first | (obtain ⟨h, _⟩ := h; cases h; done) | (obtain ⟨_, h, _⟩ := h; cases h; done) | (obtain ⟨_, _, h, _⟩ := h; cases h; done) | (obtain ⟨_, _, _, h, _⟩ := h; cases h; done) | (rcases h with ⟨_, _, _, _, h, _⟩ | ⟨_, _, _, _, h, _⟩ <;> cases h; done)) ?_
      go_wp2_with (go_at_call 95; refine (turn_any _ _ _ (by omega) (by omega)).mono ?_; rintro e w' ⟨rfl, rfl⟩)
      refine ⟨.inr (Same.refl _ _), ?_⟩
      repeat (refine wd_q (v := ?_) rfl rfl rfl rfl rfl rfl (fun w' hw' K hK => ?_) ?_; rotate_left; (have e1 := hw'.cell (w1.heap.size + 1) (by simp); go_wp2; exact rfl); simp only [Act.put, List.setIfInBounds_toArray, List.set_cons_zero, List.set_cons_succ])
      refine wd_l rfl rfl (by intro a w h; first | (obtain ⟨h, _⟩ := h; cases h; done) | (obtain ⟨_, h, _⟩ := h; cases h; done) | (obtain ⟨_, _, h, _⟩ := h; cases h; done) | (obtain ⟨_, _, _, h, _⟩ := h; cases h; done) | (rcases h with ⟨_, _, _, _, h, _⟩ | ⟨_, _, _, _, h, _⟩ <;> cases h; done)) ?_
      go_wp2_with (go_at_call 95; refine (turn_any _ _ _ (by omega) (by omega)).mono ?_; rintro e w' ⟨rfl, rfl⟩)
      refine ⟨.inr (Same.refl _ _), ?_⟩
      repeat (refine wd_q (v := ?_) rfl rfl rfl rfl rfl rfl (fun w' hw' K hK => ?_) ?_; rotate_left; (have e1 := hw'.cell (w1.heap.size + 1) (by simp); go_wp2; exact rfl); simp only [Act.put, List.setIfInBounds_toArray, List.set_cons_zero, List.set_cons_succ])
      refine wd_nil ?_
      go_wp2_with (apply st_store (ty := 91) (off := 0) (cs := nums .u32 v) (T := 91); rfl; rfl; exact hbv; kernel_rfl; (rw [nums_length, HL.out]; exact Nat.le_refl _); (intro v hv; simp at hv; rcases hv with rfl | rfl | rfl | rfl | rfl | rfl | rfl | rfl <;> rfl))
      go_roundw
      case rel =>
        refine ⟨k + 1, by go_num, by omega, below_setRow hB.drew.drew.drew (by omega) _, hbs.drew.drew.drew.rowFar _ (by omega), hbr.drew.drew.drew.rowFar _ (by omega), hbw.drew.drew.drew.rowFar _ (by omega), ?_⟩
        exact Blk.row' hbv.drew.drew.drew _ _ (by rw [laid_all _ _ (by rw [nums_length, HL.out]; rfl), rounds, ← HV.out]; rfl)
      case measure => simp [intOf]; omega
    · have e64 : k = 64 := by omega
      rw [e64] at hbv
      clear e64
      obtain ⟨v, hv⟩ : ∃ v, v = rounds (wordsW bs 64) ss 64 := ⟨_, rfl⟩
      rw [← hv] at hbv
      have hl : v.length = 8 := by rw [hv]; exact rounds_len _ _ HS.out _
      have HL := Lib.hid hl
      have HV := Lib.hid hv
      clear hl hv
      go_wp2
      go_loopw [95] (fun i wr => ∃ k : Nat, i = .int .i64 k ∧ k ≤ 8 ∧ Below w.heap.size w wr ∧ Blk wr w.heap.size (nums .u32 ss) 91 ∧ Blk wr (w.heap.size + 1 + 1) (nums .u32 (List.replicate 8 0)) 91 ∧
          Blk wr (w1.heap.size + 1) (nums .u32 (sumTo v ss k)) 91) (fun i _ => 8 - (intOf i).toNat)
      case atStart => exact ⟨0, rfl, by omega, hB, hbs, hbr, hbv⟩
      case round =>
        clear hB hbs hbr hbw hbv hk hlt
        obtain ⟨k1, hk1⟩ : ∃ k1 : Int, k1 = (k : Int) := ⟨_, rfl⟩
        rw [← hk1]
        clear hk1
        obtain ⟨k, rfl, hk, hB, hbs, hbr, hbv⟩ := hrel
        have hl2 := sumTo_len v ss HL.out k
        by_cases hlt : k < 8
        · have cv := hbv.num k (by omega)
          have cs := hbs.num k (by rw [HS.out]; omega)
          have fv := hbv.frozen k
          have HL2 := Lib.hid hl2
          clear hl2
          go_wp2
          refine wp_region_C (Same [w1.heap.size + 1, w.heap.size] wr) [8] (by kernel_rfl) (by kernel_rfl) (by intro c a w h; first | (obtain ⟨_, h, _⟩ := h; cases h; done) | (obtain ⟨_, _, h, _⟩ := h; cases h; done) | (obtain ⟨_, _, _, h, _⟩ := h; cases h; done) | (obtain ⟨_, _, _, _, h, _⟩ := h; cases h; done) | (rcases h with ⟨_, ⟨_, _, _, _, h, _⟩ | ⟨_, _, _, _, h, _⟩⟩ <;> cases h; done)) (by intro a w h; first | (obtain ⟨h, _⟩ := h; cases h; done) | (obtain ⟨_, h, _⟩ := h; cases h; done) | (obtain ⟨_, _, h, _⟩ := h; cases h; done) | (obtain ⟨_, _, _, h, _⟩ := h; cases h; done) | (rcases h with ⟨_, _, _, _, h, _⟩ | ⟨_, _, _, _, h, _⟩ <;> cases h; done)) (Same.refl _ _) ?_
          repeat (refine wd_q (v := ?_) rfl rfl rfl rfl rfl rfl (fun w' hw' K hK => ?_) ?_; rotate_left; (have e1 := hw'.cell (w1.heap.size + 1) (by simp); have e2 := hw'.cell w.heap.size (by simp); go_wp2; exact rfl); simp only [Act.put, List.setIfInBounds_toArray, List.set_cons_zero, List.set_cons_succ])
          refine wd_last rfl (by kernel_rfl) rfl (by intro a w h; first | (obtain ⟨h, _⟩ := h; cases h; done) | (obtain ⟨_, h, _⟩ := h; cases h; done) | (obtain ⟨_, _, h, _⟩ := h; cases h; done) | (obtain ⟨_, _, _, h, _⟩ := h; cases h; done) | (rcases h with ⟨_, _, _, _, h, _⟩ | ⟨_, _, _, _, h, _⟩ <;> cases h; done)) ?_
          go_wp2
          go_roundw
          case rel =>
            exact ⟨k + 1, by go_num, by omega, hB.drew.setCell (by simp; omega) _, hbs.drew.far _ _ (by simp; omega), hbr.drew.far _ _ (by simp; omega), hbv.drew.setNum k _⟩
          case measure => simp [intOf]; omega
        · have e8 : k = 8 := by omega
          rw [e8] at hbv hl2
          clear e8
          have HL2 := Lib.hid hl2
          clear hl2
          obtain ⟨v8, hv8⟩ : ∃ v8, v8 = sumTo v ss 8 := ⟨_, rfl⟩
          rw [← hv8] at hbv HL2
          have HV8 := Lib.hid hv8
          clear hv8
          go_wp2_with (first
            | (apply st_load (ty := 91) (n := 8) (cs := nums .u32 v8) (T := 91); rfl; exact hbv; exact Tryd.underlying91; rfl; kernel_rfl; (rw [nums_length, HL2.out]; exact Nat.le_refl _); (exact row_all _ _ (by rw [nums_length, HL2.out])))
            | (apply st_store (ty := 91) (off := 0) (cs := nums .u32 (List.replicate 8 0)) (T := 91); rfl; rfl; exact hbr; (rw [nums_length, HL2.out]; kernel_rfl); (rw [nums_length, HL2.out]; exact Nat.le_refl _); (exact nums_one _ _)))
          refine bodyPost_ret (ret_row rfl _ _ _ (nums .u32 v8) 91 _ rfl ?_ Tryd.underlying91 rfl (by rw [nums_length, HL2.out]; kernel_rfl)) rfl ⟨?_, ?_⟩
          · exact Blk.row' hbr _ _ (by rw [laid_all _ _ (by rw [nums_length, HL2.out]; rfl)])
          · rw [HV8.out, HV.out]; rfl
          · exact below_setRow hB (by omega) _
end Block
section More
open Go.RowKit

theorem u8info : (Tryd.prog.info? 5).map (fun i => (i.zero, i.size, i.bytes)) = some (some (.int .u8 0), 1, 1) := by kernel_rfl

section
variable {P : Program}
theorem run_make_num {t e : TypeId} {i : TypeInfo} {k : IntKind} (ht : P.underlying t = some (.slice e)) (hi : P.info? e = some i) (hz : i.zero = some (.int k 0)) (hs : i.size = 1) (hb : i.bytes ≤ 8)
    (kl : IntKind) (c : Int) (h0 : 0 ≤ c) (hc : c ≤ 1099511627776) (w : World) :
    (Instr.makeSlice t (.int kl c) (.int kl c)).run P w = .ok (.slice (some ⟨w.heap.size, 0, none⟩) c.toNat c.toNat) (w.alloc (.cells (nums k (List.replicate c.toNat 0)).toArray e)) := by
  have hbb : (i.bytes : Int) * c ≤ 281474976710656 := by
    have h8 : (i.bytes : Int) ≤ 8 := by omega
    have := Int.mul_le_mul h8 hc h0 (by omega : (0 : Int) ≤ 8)
    omega
  rw [run_make (P := P) w t e i (.int k 0) ht hi hz kl kl c c h0 (Int.le_refl _) hbb (by omega)]
  congr 3
  apply Array.ext'
  rw [hs, Nat.mul_one]
  show (madeCells #[.int k 0] c.toNat).toList = _
  rw [toList_madeCells_one]
  simp [nums]

end

/-- At this address, where there is something to read, these cells are read. -/
def Rd (w : World) (A : Option Addr) (cs : List Value) : Prop := cs = [] ∨ ∃ g off, A = some ⟨g, off, none⟩ ∧ ∀ j v, cs[j]? = some v → w.cell? ⟨g, off + j, none⟩ = some v
theorem Rd.nil (w : World) (A : Option Addr) : Rd w A [] := .inl rfl
theorem Rd.up {w w' : World} {A : Option Addr} {cs : List Value} (h : Rd w A cs) (hb : Below w.heap.size w w') : Rd w' A cs := by
  rcases h with h | ⟨g, off, hA, hc⟩
  · exact .inl h
  · refine .inr ⟨g, off, hA, fun j v hv => ?_⟩
    have h1 := hc j v hv
    have hlt : g < w.heap.size := World.block_lt_of_cell? (h := h1)
    rw [hb.cell (p := ⟨g, off + j, none⟩) hlt]; exact h1
theorem Rd.below {w w' : World} {B : Nat} {A : Option Addr} {cs : List Value} (h : Rd w A cs) (hb : Below B w w') (hA : ∀ a, A = some a → a.block < B) : Rd w' A cs := by
  rcases h with h | ⟨g, off, rfl, hc⟩
  · exact .inl h
  · exact .inr ⟨g, off, rfl, fun j v hv => by rw [hb.cell (p := ⟨g, off + j, none⟩) (show g < B from hA ⟨g, off, none⟩ rfl)]; exact hc j v hv⟩
theorem Rd.lt {w : World} {A : Option Addr} {cs : List Value} (h : Rd w A cs) (hl : 0 < cs.length) (a : Addr) (ha : A = some a) : a.block < w.heap.size := by
  rcases h with h | ⟨g, off, rfl, hc⟩
  · subst h; simp at hl
  · injection ha with ha; subst ha
    exact World.block_lt_of_cell? (h := hc 0 cs[0] (by simp [hl]))
theorem Rd.ofBlk {w : World} {g : Nat} {cs : List Value} {T : TypeId} (h : Blk w g cs T) : Rd w (some ⟨g, 0, none⟩) cs := .inr ⟨g, 0, rfl, fun j v hv => by rw [Nat.zero_add, h.cell]; exact hv⟩
theorem Rd.get {w : World} {A : Option Addr} {cs : List Value} (h : Rd w A cs) (hl : 0 < cs.length) : ∃ g off, A = some ⟨g, off, none⟩ ∧ ∀ j v, cs[j]? = some v → w.cell? ⟨g, off + j, none⟩ = some v := by
  rcases h with h | h
  · subst h; simp at hl
  · exact h

/-- How many elements a slice has. -/
def lenV : Value → Nat
  | .slice _ n _ => n
  | _ => 0
/-- A slice of bytes that a call reads. -/
def Bytes (w : World) (v : Value) (bs : List Int) : Prop := ∃ A c, v = .slice A bs.length c ∧ bs.length ≤ c ∧ (A = none → c = 0) ∧ Rd w A (nums .u8 bs)
theorem Bytes.up {w w' : World} {v : Value} {bs : List Int} (h : Bytes w v bs) (hb : Below w.heap.size w w') : Bytes w' v bs := by
  obtain ⟨A, c, h1, h2, h3, h4⟩ := h
  exact ⟨A, c, h1, h2, h3, h4.up hb⟩
/-- A slice of bytes in memory of the call's own, from block base on. -/
def Own (w : World) (base : Nat) (v : Value) (bs : List Int) : Prop := w.ownsRow base 5 1 v bs.length (nums .u8 bs)
theorem Own.bytes {w : World} {base : Nat} {v : Value} {bs : List Int} (h : Own w base v bs) : Bytes w v bs := by
  obtain ⟨hl, h | ⟨g, cap, cur, hv, hg, hh, hn, hm, hsz, ht⟩⟩ := h
  · have : bs = [] := List.eq_nil_of_length_eq_zero h.2
    subst this
    exact ⟨none, 0, h.1, Nat.le_refl _, fun _ => rfl, Rd.nil _ _⟩
  · refine ⟨some ⟨g, 0, none⟩, cap, hv, hn, fun h => (by cases h), .inr ⟨g, 0, rfl, fun j v hv => ?_⟩⟩
    rw [Nat.zero_add]
    simp only [World.cell?, hh]
    rw [← ht, List.getElem?_take] at hv
    split at hv
    · simpa using hv
    · cases hv
theorem Own.from {w : World} {base : Nat} {v : Value} {bs : List Int} (h : Own w base v bs) : ∃ A c, v = .slice A bs.length c ∧ bs.length ≤ c ∧ (A = none → c = 0) ∧ Rd w A (nums .u8 bs) ∧ ∀ a, A = some a → base ≤ a.block := by
  obtain ⟨A, c, h1, h2, h3, h4⟩ := h.bytes
  refine ⟨A, c, h1, h2, h3, h4, fun a ha => ?_⟩
  obtain ⟨hl, h | ⟨g, cap, cur, hv, hg, r⟩⟩ := h
  · rw [h.1] at h1; injection h1 with h1; subst h1; cases ha
  · rw [hv] at h1; injection h1 with h1; subst h1; injection ha with ha; rw [← ha]; exact hg
theorem Own.kept {w w' : World} {base : Nat} {v : Value} {bs : List Int} (h : Own w base v bs) (hb : Below w.heap.size w w') : Own w' base v bs :=
  World.ownsRow.kept (row := none) h ⟨hb.os, hb.tape, hb.output, hb.size, fun k hk _ => hb.block k hk⟩ (by cases hv : v.ownBlock <;> simp)
theorem Own.ofBlk {w : World} {base g : Nat} {bs : List Int} (h : Blk w g (nums .u8 bs) 5) (hb : base ≤ g) (hl : bs.length ≤ maxLen) : Own w base (.slice (some ⟨g, 0, none⟩) bs.length bs.length) bs :=
  ⟨by simp [nums_length], .inr ⟨g, bs.length, (nums .u8 bs).toArray, rfl, hb, h, Nat.le_refl _, hl, by simp [nums_length], by simp only [Nat.mul_one]; exact List.take_of_length_le (by simp [nums_length])⟩⟩
theorem Own.mono {w : World} {base base' : Nat} {v : Value} {bs : List Int} (h : Own w base v bs) (hb : base' ≤ base) : Own w base' v bs := by
  obtain ⟨hl, h | ⟨g, cap, cur, hv, hg, r⟩⟩ := h
  · exact ⟨hl, .inl h⟩
  · exact ⟨hl, .inr ⟨g, cap, cur, hv, by omega, r⟩⟩
theorem Own.nil (w : World) (base : Nat) : Own w base (.slice none 0 0) [] := World.ownsRow_nil w base _ _

/-- append(x, y...) of bytes, x the call's own. -/
theorem st_append {ops : Array Oper} {rest : List Oper} {a : Act} {w : World} {Q : Exit → Act → World → Prop} {d' : Option Tmp} {tt : TypeId} {s x : Operand} {pos : String} {after : Array Edge} {base : Nat} {v : Value} {A : Option Addr} {c : Nat} {xs ys : List Int}
    (hs : a.eval s = v) (hx : a.eval x = .slice A ys.length c) (hown : Own w base v xs) (hn : A = none → c = 0) (hr : Rd w A (nums .u8 ys)) (hl : xs.length + ys.length ≤ 1099511627776) (hbase : base ≤ w.heap.size)
    (h : ∀ v' w', Own w' base v' (xs ++ ys) → w.grownBy w' v.ownBlock → wpList Tryd.prog ops Q rest (a.put d' v') w') :
    wpList Tryd.prog ops Q (⟨d', .call ⟨.builtin .append, #[s, x], #[22, 22]⟩, tt, pos, after, none⟩ :: rest) a w := by
  obtain ⟨i0, hi, hz0, hz1, hz2⟩ := info_parts u8info
  by_cases hA : A = none
  · have h0 : ys = [] := by
      rcases hr with hr | ⟨g, off, hA2, _⟩
      · exact List.eq_nil_of_length_eq_zero (by rw [← nums_length .u8 ys, hr]; rfl)
      · rw [hA] at hA2; cases hA2
    have hc := hn hA
    subst hA; subst h0; subst hc
    refine wpList_append_own_none rfl s x 22 rfl base 5 i0 1 Tryd.underlying22 hi v _ _ hs hown hx ?_
    exact h v w (by rw [List.append_nil]; exact hown) ⟨rfl, rfl, rfl, Nat.le_refl _, fun _ _ _ => rfl⟩
  · obtain ⟨ad, hA⟩ := Option.ne_none_iff_exists'.1 hA
    subst hA
    refine wpList_append_own (w := w) rfl s x 22 rfl base 5 i0 (.int .u8 0) 1 1 Tryd.underlying22 hi hz0 hz1 hz2 rfl (by decide) v xs.length (nums .u8 xs) hs hown ad ys.length c (nums .u8 ys) hx (by rw [nums_length, Nat.mul_one]) ?_ (nums_one _ _) (by unfold maxLen; omega) (by omega) hbase ?_
    · intro j u hu
      rcases hr with hr | ⟨g, off, hA2, hc⟩
      · rw [hr] at hu; simp at hu
      · injection hA2 with hA2
        subst hA2
        have : (⟨g, off, none⟩ : Addr).add j = ⟨g, off + j, none⟩ := by unfold Addr.add; split <;> simp_all
        rw [this]; exact hc j u hu
    · intro v' w' ho hg _
      refine h v' w' ?_ hg
      unfold Own
      rw [List.length_append, show nums .u8 (xs ++ ys) = nums .u8 xs ++ nums .u8 ys by simp [nums]]
      exact ho

/-- What was there when the call began is as it was, behind an append to a row of the call's own. -/
theorem below_grown {B base : Nat} {w0 w w' : World} {v : Value} {bs : List Int} (hb : Below B w0 w) (ho : Own w base v bs) (hg : w.grownBy w' v.ownBlock) (hB : B ≤ base) (hbase : base ≤ w.heap.size) : Below B w0 w' :=
  hb.grown hg (by omega) (fun k hk => by have := World.ownsRow.lt ho k hk; omega)
end More
section Put
open Go.RowKit

/-- The lowest bytes of a number, the highest first, when the last k are written. -/
def putTo (x : Int) (n k : Nat) : List Int := (List.range n).map fun j => if n ≤ j + k then x / 256 ^ (n - 1 - j) % 256 else 0
def putF (x : Int) (n : Nat) : List Int := putTo x n n
theorem putTo_len (x : Int) (n k : Nat) : (putTo x n k).length = n := by simp [putTo]
theorem putTo_zero (x : Int) (n : Nat) : putTo x n 0 = List.replicate n 0 := by
  unfold putTo
  apply List.ext_getElem (by simp)
  intro i h1 h2
  simp at h1 ⊢
  omega
theorem putTo_set (x : Int) (n k : Nat) (h : k < n) (v : Int) (hv : v = x / 256 ^ k % 256) : (putTo x n k).set (n - 1 - k) v = putTo x n (k + 1) := by
  subst hv
  unfold putTo
  apply List.ext_getElem (by simp)
  intro i h1 h2
  simp only [List.length_set, List.length_map, List.length_range] at h1
  rw [List.getElem_set]
  simp only [List.getElem_map, List.getElem_range]
  by_cases e : n - 1 - k = i
  · rw [if_pos e, if_pos (by omega), show n - 1 - i = k by omega]
  · rw [if_neg e]
    by_cases h3 : n ≤ i + k
    · rw [if_pos h3, if_pos (by omega)]
    · rw [if_neg h3, if_neg (by omega)]
theorem pow_step (x : Int) (k : Nat) : x / 256 ^ k / 256 = x / 256 ^ (k + 1) := by
  rw [Int.ediv_ediv_of_nonneg (by exact Int.le_of_lt (Int.pow_pos (by decide))), Int.pow_succ]

set_option maxRecDepth 100000 in
set_option maxHeartbeats 1000000 in
theorem put4_any (w : World) (x : Int) (hx : 0 ≤ x) (hx2 : x < 18446744073709551616) :
    Calls Tryd.prog 41 #[.int .u64 x, .int .i64 4] w fun e w' => e = .returned (.slice (some ⟨w.heap.size, 0, none⟩) 4 4) ∧ Below w.heap.size w w' ∧ Blk w' w.heap.size (nums .u8 (putF x 4)) 5 := by
  obtain ⟨i0, hi, hz0, hz1, hz2⟩ := info_parts u8info
  have hmk := run_make_num Tryd.underlying22 hi hz0 hz1 (by omega) .i64 4 (by omega) (by omega)
  clear hi hz0 hz1 hz2
  have HX2 := Lib.hid hx2
  clear hx2
  go_enter Tryd.func41, Tryd.ntmps41
  go_wp2
  clear hmk
  go_loopw [0, 6] (fun y i wr => ∃ k : Nat, i = .int .i64 (3 - k) ∧ k ≤ 4 ∧ (∃ z : Int, y = .int .u64 z ∧ 0 ≤ z ∧ Hid (z = x / 256 ^ k)) ∧ Below w.heap.size w wr ∧ Blk wr w.heap.size (nums .u8 (putTo x 4 k)) 5) (fun _ i _ => (intOf i + 1).toNat)
  case atStart => exact ⟨0, rfl, by omega, ⟨x, rfl, hx, show x = x / 256 ^ 0 by simp⟩, (Below.refl _ _).alloc (Nat.le_refl _) _, by rw [putTo_zero]; exact Blk.new' _ _ _ _ _ rfl rfl⟩
  case round =>
    obtain ⟨k, rfl, hk, ⟨z, rfl, hz, HZ⟩, hB, hb⟩ := hrel
    by_cases hlt : k < 4
    · have hl := putTo_len x 4 k
      have cb := hb.num (3 - k) (by omega)
      have fb := hb.frozen (3 - k)
      clear hl
      go_wp2
      go_roundw
      case rel =>
        refine ⟨k + 1, ?_, by omega, ⟨z / 256, rfl, by omega, ?_⟩, hB.setCell (by simp) _, ?_⟩
        · congr 1; omega
        · show z / 256 = x / 256 ^ (k + 1)
          rw [HZ.out, pow_step]
        · rw [← putTo_set x 4 k hlt _ (by rw [← HZ.out])]
          exact hb.setNum _ _
      case measure => simp [intOf]; omega
    · have e : k = 4 := by omega
      rw [e] at hb
      clear e
      go_wp2
      go_ret
      exact ⟨rfl, hB, hb⟩
set_option maxRecDepth 100000 in
set_option maxHeartbeats 1000000 in
theorem put8_any (w : World) (x : Int) (hx : 0 ≤ x) (hx2 : x < 18446744073709551616) :
    Calls Tryd.prog 41 #[.int .u64 x, .int .i64 8] w fun e w' => e = .returned (.slice (some ⟨w.heap.size, 0, none⟩) 8 8) ∧ Below w.heap.size w w' ∧ Blk w' w.heap.size (nums .u8 (putF x 8)) 5 := by
  obtain ⟨i0, hi, hz0, hz1, hz2⟩ := info_parts u8info
  have hmk := run_make_num Tryd.underlying22 hi hz0 hz1 (by omega) .i64 8 (by omega) (by omega)
  clear hi hz0 hz1 hz2
  have HX2 := Lib.hid hx2
  clear hx2
  go_enter Tryd.func41, Tryd.ntmps41
  go_wp2
  clear hmk
  go_loopw [0, 6] (fun y i wr => ∃ k : Nat, i = .int .i64 (7 - k) ∧ k ≤ 8 ∧ (∃ z : Int, y = .int .u64 z ∧ 0 ≤ z ∧ Hid (z = x / 256 ^ k)) ∧ Below w.heap.size w wr ∧ Blk wr w.heap.size (nums .u8 (putTo x 8 k)) 5) (fun _ i _ => (intOf i + 1).toNat)
  case atStart => exact ⟨0, rfl, by omega, ⟨x, rfl, hx, show x = x / 256 ^ 0 by simp⟩, (Below.refl _ _).alloc (Nat.le_refl _) _, by rw [putTo_zero]; exact Blk.new' _ _ _ _ _ rfl rfl⟩
  case round =>
    obtain ⟨k, rfl, hk, ⟨z, rfl, hz, HZ⟩, hB, hb⟩ := hrel
    by_cases hlt : k < 8
    · have hl := putTo_len x 8 k
      have cb := hb.num (7 - k) (by omega)
      have fb := hb.frozen (7 - k)
      clear hl
      go_wp2
      go_roundw
      case rel =>
        refine ⟨k + 1, ?_, by omega, ⟨z / 256, rfl, by omega, ?_⟩, hB.setCell (by simp) _, ?_⟩
        · congr 1; omega
        · show z / 256 = x / 256 ^ (k + 1)
          rw [HZ.out, pow_step]
        · rw [← putTo_set x 8 k hlt _ (by rw [← HZ.out])]
          exact hb.setNum _ _
      case measure => simp [intOf]; omega
    · have e : k = 8 := by omega
      rw [e] at hb
      clear e
      go_wp2
      go_ret
      exact ⟨rfl, hB, hb⟩
end Put
section Pad
open Go.RowKit

/-- How many noughts stand behind the 128. -/
def noughts (n : Int) : Nat := ((119 - n % 64) % 64).toNat
/-- What stands behind a text of n bytes. -/
def padF (n : Int) : List Int := 128 :: List.replicate (noughts n) 0 ++ putF (8 * n % 18446744073709551616) 8
theorem padF_len (n : Int) : (padF n).length = noughts n + 9 := by simp [padF, putF, putTo_len]

/-- It answers these bytes, in memory of its own. -/
def Gives (bs : List Int) (w : World) (e : Ending) (w' : World) : Prop := ∃ v, e = .returned v ∧ Below w.heap.size w w' ∧ Own w' w.heap.size v bs

theorem wu (n : Int) : IntKind.u64.wrap n = n % 18446744073709551616 := by
  simp [IntKind.wrap, IntKind.signed, IntKind.bits]

set_option maxRecDepth 100000 in
set_option maxHeartbeats 1000000 in
theorem pad_any (w : World) (n : Int) (h0 : 0 ≤ n) (h1 : n < 18446744073709551616) :
    Calls Tryd.prog 90 #[.int .u64 n] w (Gives (padF n) w) := by
  obtain ⟨i0, hi, hz0, hz1, hz2⟩ := info_parts u8info
  obtain ⟨q, hq⟩ : ∃ q : Nat, (119 - n % 64) % 64 = q := ⟨((119 - n % 64) % 64).toNat, by omega⟩
  have hqn : noughts n = q := by unfold noughts; omega
  have hq63 : q ≤ 63 := by omega
  have hmk := run_make_num Tryd.underlying22 hi hz0 hz1 (by omega) .u64 (1 + (q : Int)) (by omega) (by omega)
  have e1 : (1 + (q : Int)).toNat = 1 + q := by omega
  rw [e1] at hmk
  clear hi hz0 hz1 hz2 e1
  have HQN := Lib.hid hqn
  have H1 := Lib.hid h1
  clear hqn h1
  have hc0 : (nums .u8 (List.replicate (1 + q) 0))[0]? = some (.int .u8 0) := by
    rw [Nat.add_comm]; rfl
  go_enter Tryd.func90, Tryd.ntmps90
  go_wp2_with fail
  refine (put8_any _ (IntKind.u64.wrap (8 * n)) (by rw [wu]; omega) (by rw [wu]; omega)).mono ?_
  rintro e w1 ⟨rfl, hb1, hblk⟩
  rw [wu, World.size_alloc] at hblk
  have hob : Blk w1 w.heap.size (nums .u8 (128 :: List.replicate q 0)) 5 := (Blk.new' _ _ _ _ _ (by rw [Nat.add_comm 1 q]; rfl) rfl).up hb1
  have hown := Own.ofBlk (base := w.heap.size) hob (Nat.le_refl _) (by simp; unfold maxLen; omega)
  rw [show (128 :: List.replicate q 0 : List Int).length = 1 + q by simp; omega] at hown
  have hB1 : Below w.heap.size w w1 := ((Below.refl _ _).alloc (Nat.le_refl _) _).trans (hb1.mono (by simp))
  have hz1 : w.heap.size ≤ w1.heap.size := hB1.size
  clear hb1 hmk hc0 hob
  go_wp2_with (apply st_append (base := w.heap.size) (xs := 128 :: List.replicate q 0) (ys := putF (8 * n % 18446744073709551616) 8); rfl; rfl; exact hown; (intro h; cases h); exact Rd.ofBlk hblk; (rw [show (putF (8 * n % 18446744073709551616) 8).length = 8 from putTo_len _ _ _]; simp; omega); exact hz1; intro v2 w2 hown2 hg2)
  go_ret
  refine ⟨v2, rfl, below_grown hB1 hown hg2 (Nat.le_refl _) hz1, ?_⟩
  unfold padF
  rw [HQN.out]
  exact hown2
end Pad
end Go.Proofs.YtancldhincaphaaDoor
