/- What word.Turn, sha.First and sha.spread answer. No condition but the kinds' own bounds. -/
import Derived.Test.YtipigpeccegjgaaDoorBase
namespace Go.Proofs.YtipigpeccegjgaaDoor
open Go.RowKit

theorem and31 (n : Int) (h0 : 0 ≤ n) (h1 : n < 32) : bits BinOp.and IntKind.u64 n 31 = n := by
  obtain ⟨m, rfl⟩ := Int.eq_ofNat_of_zero_le h0
  have : m < 32 := by omega
  have h : ∀ m : Fin 32, bits BinOp.and IntKind.u64 ((m.val : Nat) : Int) 31 = ((m.val : Nat) : Int) := by decide +kernel
  exact h ⟨m, this⟩

/-- A number of 32 bits turned by n places to the right, as word.Turn reckons it. -/
def turnZ (x n : Int) : Int := bits .or .u32 (x / 2 ^ n.toNat) (x * 2 ^ (32 - n).toNat % 4294967296)

set_option maxHeartbeats 400000 in
theorem turn_any (x n : Int) (w : World) (h0 : 0 ≤ n) (h1 : n < 32) :
    Calls Tryd.prog 59 #[.int .u32 x, .int .i64 n] w fun e w' => e = .returned (.int .u32 (turnZ x n)) ∧ w = w' := by
  have hb := and31 n h0 h1
  go_enter Tryd.func59, Tryd.ntmps59
  go_wp2
  go_ret
  exact ⟨rfl, rfl⟩

/-- Four bytes as a number, the highest first, as sha.spread reckons it. -/
def be4 (a b c d : Int) : Int :=
  bits .or .u32 (bits .or .u32 (bits .or .u32 (a % 4294967296 * 16777216 % 4294967296) (b % 4294967296 * 65536 % 4294967296)) (c % 4294967296 * 256 % 4294967296)) (d % 4294967296)
/-- The next number of a block out of four that stand ahead of it. -/
def nextZ (a p c q : Int) : Int :=
  (a + bits .xor .u32 (bits .xor .u32 (turnZ p 7) (turnZ p 18)) (p / 8) + c + bits .xor .u32 (bits .xor .u32 (turnZ q 17) (turnZ q 19)) (q / 1024)) % 4294967296
/-- The number behind so many numbers of a block. -/
def nextW (bs l : List Int) : Int :=
  if l.length < 16 then be4 (ga bs (4 * l.length)) (ga bs (4 * l.length + 1)) (ga bs (4 * l.length + 2)) (ga bs (4 * l.length + 3)) else
    nextZ (ga l (l.length - 16)) (ga l (l.length - 15)) (ga l (l.length - 7)) (ga l (l.length - 2))
/-- The first numbers of a block. -/
def wordsW (bs : List Int) : Nat → List Int
  | 0 => []
  | k + 1 => wordsW bs k ++ [nextW bs (wordsW bs k)]
theorem wordsW_len (bs : List Int) (k : Nat) : (wordsW bs k).length = k := by
  induction k with
  | zero => rfl
  | succ k ih => simp [wordsW, ih]
/-- The row of 64 numbers when so many are reckoned. -/
def rowW (bs : List Int) (k : Nat) : List Int := wordsW bs k ++ List.replicate (64 - k) 0
theorem rowW_len (bs : List Int) (k : Nat) (h : k ≤ 64) : (rowW bs k).length = 64 := by simp [rowW, wordsW_len]; omega
theorem rowW_at (bs : List Int) (k i : Nat) (h : i < k) : ga (rowW bs k) i = ga (wordsW bs k) i := by
  have e := wordsW_len bs k
  unfold ga rowW
  rw [List.getD_eq_getElem?_getD, List.getD_eq_getElem?_getD, List.getElem?_append_left (by omega)]
theorem rowW_set (bs : List Int) (k : Nat) (h : k < 64) (x : Int) (hx : x = nextW bs (wordsW bs k)) : (rowW bs k).set k x = rowW bs (k + 1) := by
  subst hx
  unfold rowW
  obtain ⟨n, hn⟩ : ∃ n, 64 - k = n + 1 := ⟨63 - k, by omega⟩
  rw [hn, show 64 - (k + 1) = n by omega]
  have e := wordsW_len bs k
  simp [wordsW, e, List.replicate_succ]

set_option maxHeartbeats 1000000 in
set_option maxRecDepth 100000 in
theorem spread_any (w : World) (b : Nat) (bs : List Int) (T : TypeId) (hn : bs.length = 64) (hc : Blk w b (nums .u8 bs) T) :
    Calls Tryd.prog 58 #[.pointer (some ⟨b, 0, none⟩)] w fun e w' => e = .returned (.agg (nums .u32 (wordsW bs 64)).toArray) ∧ Below w.heap.size w w' := by
  have HN := Lib.hid hn
  clear hn
  have hbb : b < w.heap.size := hc.lt
  go_enter Tryd.func58, Tryd.ntmps58
  go_wp2
  go_loopw [4, 10] (fun _ i wr => ∃ k : Nat, i = .int .i64 k ∧ k ≤ 16 ∧ Below w.heap.size w wr ∧ Blk wr (w.heap.size + 1) (nums .u32 (rowW bs k)) 78 ∧ Blk wr w.heap.size (nums .u32 (List.replicate 64 0)) 78) (fun _ i _ => 16 - (intOf i).toNat)
  case atStart => exact ⟨0, rfl, by omega, (((Below.refl _ _).alloc (Nat.le_refl _) _).alloc (by simp) _), Blk.new' _ _ _ _ _ rfl (by simp), (Blk.new' _ _ _ _ _ rfl rfl).alloc _⟩
  case round =>
    obtain ⟨k, rfl, hk, hB, hbw, hbr⟩ := hrel
    by_cases hlt : k < 16
    · have hcr : Blk wr b (nums .u8 bs) T := hc.below hB hbb
      have c0 := hcr.num (4 * k) (by rw [HN.out]; omega)
      have c1 := hcr.num (4 * k + 1) (by rw [HN.out]; omega)
      have c2 := hcr.num (4 * k + 2) (by rw [HN.out]; omega)
      have c3 := hcr.num (4 * k + 3) (by rw [HN.out]; omega)
      have cw := hbw.num k (by rw [rowW_len bs k (by omega)]; omega)
      have fw := hbw.frozen k
      go_wp2
      refine wp_region_C (Same [b] wr) [39] (by kernel_rfl) (by kernel_rfl) (by intro c a w h; first | (obtain ⟨_, h, _⟩ := h; cases h; done) | (obtain ⟨_, _, h, _⟩ := h; cases h; done)) (by intro a w h; first | (obtain ⟨h, _⟩ := h; cases h; done) | (obtain ⟨_, h, _⟩ := h; cases h; done)) (Same.refl _ _) ?_
      repeat (refine wd_q (v := ?_) rfl rfl rfl rfl rfl rfl (fun w' hw' K hK => ?_) ?_; rotate_left; (have e1 := hw'.cell b (by simp); go_wp2; exact rfl); simp only [Act.put, List.setIfInBounds_toArray, List.set_cons_zero, List.set_cons_succ])
      refine wd_last rfl (by kernel_rfl) rfl (by intro a w h; first | (obtain ⟨h, _⟩ := h; cases h; done) | (obtain ⟨_, h, _⟩ := h; cases h; done)) ?_
      go_wp2
      go_roundw
      case rel =>
        refine ⟨k + 1, by go_num, by omega, hB.drew.setCell (by simp) _, ?_, ?_⟩
        · rw [← rowW_set bs k (by omega) _ (by rw [nextW, wordsW_len, if_pos hlt])]
          exact hbw.drew.setNum k _
        · exact hbr.drew.far _ _ (by simp)
      case measure => simp [intOf]; omega
    · have e16 : k = 16 := by omega
      rw [e16] at hbw
      clear e16
      go_wp2
      go_loopw [5] (fun i wr => ∃ k : Nat, i = .int .i64 k ∧ 16 ≤ k ∧ k ≤ 64 ∧ Below w.heap.size w wr ∧ Blk wr (w.heap.size + 1) (nums .u32 (rowW bs k)) 78 ∧ Blk wr w.heap.size (nums .u32 (List.replicate 64 0)) 78) (fun i _ => 64 - (intOf i).toNat)
      case atStart => exact ⟨16, rfl, by omega, by omega, hB, hbw, hbr⟩
      case round =>
        clear hB hbw hbr hk hlt
        obtain ⟨k1, hk1⟩ : ∃ k1 : Int, k1 = (k : Int) := ⟨_, rfl⟩
        rw [← hk1]
        clear hk1
        obtain ⟨k, rfl, hk0, hk, hB, hbw, hbr⟩ := hrel
        by_cases hlt : k < 64
        · have hl := rowW_len bs k (by omega)
          have c15 := hbw.num (k - 15) (by omega)
          have c16 := hbw.num (k - 16) (by omega)
          have c7 := hbw.num (k - 7) (by omega)
          have c2 := hbw.num (k - 2) (by omega)
          have cw := hbw.num k (by omega)
          have fw := hbw.frozen k
          have HL := Lib.hid hl
          clear hl
          go_wp2
          refine wp_region_C (Same [w.heap.size + 1] wr) [] (by kernel_rfl) (by kernel_rfl) (by intro c a w h; first | (obtain ⟨_, h, _⟩ := h; cases h; done) | (obtain ⟨_, _, h, _⟩ := h; cases h; done)) (by intro a w h; first | (obtain ⟨h, _⟩ := h; cases h; done) | (obtain ⟨_, h, _⟩ := h; cases h; done)) (Same.refl _ _) ?_
          repeat (refine wd_q (v := ?_) rfl rfl rfl rfl rfl rfl (fun w' hw' K hK => ?_) ?_; rotate_left; (have e1 := hw'.cell (w.heap.size + 1) (by simp); go_wp2; exact rfl); simp only [Act.put, List.setIfInBounds_toArray, List.set_cons_zero, List.set_cons_succ])
          refine wd_nil ?_
          go_wp2_with (go_at_call 59; refine (turn_any _ _ _ (by omega) (by omega)).mono ?_; rintro e w' ⟨rfl, rfl⟩)
          refine wp_region_C (Same [w.heap.size + 1] wr) [15] (by kernel_rfl) (by kernel_rfl) (by intro c a w h; first | (obtain ⟨_, h, _⟩ := h; cases h; done) | (obtain ⟨_, _, h, _⟩ := h; cases h; done)) (by intro a w h; first | (obtain ⟨h, _⟩ := h; cases h; done) | (obtain ⟨_, h, _⟩ := h; cases h; done)) (Same.refl _ _) ?_
          repeat (refine wd_q (v := ?_) rfl rfl rfl rfl rfl rfl (fun w' hw' K hK => ?_) ?_; rotate_left; (have e1 := hw'.cell (w.heap.size + 1) (by simp); go_wp2; exact rfl); simp only [Act.put, List.setIfInBounds_toArray, List.set_cons_zero, List.set_cons_succ])
          refine wd_last rfl (by kernel_rfl) rfl (by intro a w h; first | (obtain ⟨h, _⟩ := h; cases h; done) | (obtain ⟨_, h, _⟩ := h; cases h; done)) ?_
          go_wp2
          go_roundw
          case rel =>
            refine ⟨k + 1, by go_num, by omega, by omega, hB.drew.drew.setCell (by simp) _, ?_, ?_⟩
            · rw [← rowW_set bs k (by omega) _ (by rw [nextW, wordsW_len, if_neg (by omega), nextZ, ← rowW_at bs k (k - 16) (by omega), ← rowW_at bs k (k - 15) (by omega), ← rowW_at bs k (k - 7) (by omega), ← rowW_at bs k (k - 2) (by omega)])]
              exact hbw.drew.drew.setNum k _
            · exact hbr.drew.drew.far _ _ (by simp)
          case measure => simp [intOf]; omega
        · obtain rfl : k = 64 := by omega
          have hl := rowW_len bs 64 (by omega)
          have e64 : rowW bs 64 = wordsW bs 64 := by simp [rowW]
          rw [e64] at hbw hl
          have HL := Lib.hid hl
          have HE := Lib.hid e64
          clear hl e64
          go_wp2_with (first | (refine wpList_load_at rfl 78 _ rfl _ 0 64 rfl _ _ _ hbw Tryd.underlying78 rfl (by kernel_rfl) (by rw [nums_length, HL.out]; exact Nat.le_refl _) _ (row_all _ _ (by rw [nums_length, HL.out])) ?_) | (refine wpList_store_at rfl 78 _ _ rfl rfl _ 0 rfl _ rfl _ _ hbr (by rw [nums_length, HL.out]; kernel_rfl) (by rw [nums_length, HL.out]; simp [nums]) (nums_one _ _) ?_))
          refine bodyPost_ret (ret_row rfl _ _ _ (nums .u32 (wordsW bs 64)) 78 _ rfl ?_ Tryd.underlying78 rfl (by rw [nums_length, HL.out]; kernel_rfl)) rfl ⟨rfl, ?_⟩
          · have := hbr.row (laid (nums .u32 (List.replicate 64 0)) 0 (nums .u32 (wordsW bs 64)))
            rw [laid_all _ _ (by rw [nums_length, HL.out]; simp [nums])] at this ⊢
            exact this
          · exact below_setRow hB (Nat.le_refl _) _
end Go.Proofs.YtipigpeccegjgaaDoor
