/- What sha.Pad answers. No condition but the kinds' own bounds. -/
import Derived.Test.YtipigpeccegjgaaDoorPut
namespace Go.Proofs.YtipigpeccegjgaaDoor
open Go.RowKit

/-- How many noughts stand behind the 128. -/
def noughts (n : Int) : Nat := ((119 - n % 64) % 64).toNat
/-- What stands behind a text of n bytes. -/
def padF (n : Int) : List Int := 128 :: List.replicate (noughts n) 0 ++ putF (8 * n % 18446744073709551616) 8
theorem padF_len (n : Int) : (padF n).length = noughts n + 9 := by simp [padF, putF, putTo_len]

/-- It answers these bytes, in memory of its own. -/
def Gives (bs : List Int) (w : World) (e : Ending) (w' : World) : Prop := ∃ v, e = .returned v ∧ Below w.heap.size w w' ∧ Own w' w.heap.size v bs

theorem wu (n : Int) : IntKind.u64.wrap n = n % 18446744073709551616 := by
  simp [IntKind.wrap, IntKind.signed, IntKind.bits]

set_option maxHeartbeats 1000000 in
theorem pad_any (w : World) (n : Int) (h0 : 0 ≤ n) (h1 : n < 18446744073709551616) :
    Calls Tryd.prog 52 #[.int .u64 n] w (Gives (padF n) w) := by
  obtain ⟨i0, hi, hz0, hz1, hz2⟩ := info_parts u8info
  obtain ⟨q, hq⟩ : ∃ q : Nat, (119 - n % 64) % 64 = q := ⟨((119 - n % 64) % 64).toNat, by omega⟩
  have hqn : noughts n = q := by unfold noughts; omega
  have hq63 : q ≤ 63 := by omega
  have hmk := run_make_num Tryd.underlying32 hi hz0 hz1 (by omega) .u64 (1 + (q : Int)) (by omega) (by omega)
  have e1 : (1 + (q : Int)).toNat = 1 + q := by omega
  rw [e1] at hmk
  clear hi hz0 hz1 hz2 e1
  have HQN := Lib.hid hqn
  have H1 := Lib.hid h1
  clear hqn h1
  have hc0 : (nums .u8 (List.replicate (1 + q) 0))[0]? = some (.int .u8 0) := by
    rw [Nat.add_comm]; rfl
  go_enter Tryd.func52, Tryd.ntmps52
  go_wp2_with fail
  refine (put8_any _ (IntKind.u64.wrap (8 * n)) (by rw [wu]; omega) (by rw [wu]; omega)).mono ?_
  rintro e w1 ⟨rfl, hb1, hblk⟩
  rw [wu, World.size_alloc] at hblk
  have hob : Blk w1 w.heap.size (nums .u8 (128 :: List.replicate q 0)) 5 := (Blk.new' _ _ _ _ _ (by rw [Nat.add_comm 1 q]; rfl) rfl).up hb1
  have hown := Own.ofBlk (base := w.heap.size) hob (Nat.le_refl _) (by simp; unfold maxLen; omega)
  rw [show (128 :: List.replicate q 0 : List Int).length = 1 + q by simp; omega] at hown
  have hB1 : Below w.heap.size w w1 := ((Below.refl _ _).alloc (Nat.le_refl _) _).trans (hb1.mono (by simp))
  have hz1 : w.heap.size ≤ w1.heap.size := hB1.size
  clear hb1 hmk hc0 hob
  go_wp2_with (apply st_append (base := w.heap.size) (xs := 128 :: List.replicate q 0) (ys := putF (8 * n % 18446744073709551616) 8); rfl; rfl; exact hown; (intro h; cases h); exact Rd.ofBlk hblk; (rw [show (putF (8 * n % 18446744073709551616) 8).length = 8 from putTo_len _ _ _]; simp; omega); exact hz1; intro v2 w2 hown2 hg2)
  go_ret
  refine ⟨v2, rfl, below_grown hB1 hown hg2 (Nat.le_refl _) hz1, ?_⟩
  unfold padF
  rw [HQN.out]
  exact hown2
end Go.Proofs.YtipigpeccegjgaaDoor
