/- What the reference's First, three and Pad answer (inquestref02). No condition but the kinds' own bounds. -/
import Derived.Test.YtipigpeccegjgaaDoorRefP
import Derived.Test.YtipigpeccegjgaaDoorRefK
namespace Go.Proofs.YtipigpeccegjgaaDoor
open Go.RowKit

set_option maxHeartbeats 400000 in
theorem reffirst_any (w : World) :
    Calls Tryd.prog 47 #[] w fun e w' => e = .returned (.agg (nums .u32 FIRST).toArray) ∧ Below w.heap.size w w' := by
  go_enter Tryd.func47, Tryd.ntmps47
  go_wp2
  refine bodyPost_ret (ret_row rfl _ _ _ (nums .u32 FIRST) 65 _ rfl (Blk.new' _ _ _ _ _ rfl rfl) Tryd.underlying65 rfl (by kernel_rfl)) rfl ⟨rfl, (Below.refl _ _).alloc (Nat.le_refl _) _⟩

set_option maxHeartbeats 400000 in
theorem refthree_any (w : World) (x a b c : Int) (h0 : 0 ≤ x) (h1 : x < 4294967296) (ha : 0 ≤ a) (ha2 : a < 32) (hb : 0 ≤ b) (hb2 : b < 32) (hc : 0 ≤ c) (hc2 : c < 32) :
    Calls Tryd.prog 56 #[.int .u32 x, .int .i64 a, .int .i64 b, .int .i64 c] w fun e w' => e = .returned (.int .u32 (bits .xor .u32 (bits .xor .u32 (turnZ x a) (turnZ x b)) (turnZ x c))) ∧ w = w' := by
  go_enter Tryd.func56, Tryd.ntmps56
  go_wp2_with (go_at_call 55; refine (refturn_any _ _ _ h0 h1 (by assumption) (by assumption)).mono ?_; rintro e w' ⟨rfl, rfl⟩)
  go_ret
  exact ⟨rfl, rfl⟩

set_option maxHeartbeats 1000000 in
theorem refpad_any (w : World) (n : Int) :
    Calls Tryd.prog 46 #[.int .u64 n] w (Gives (padF n) w) := by
  obtain ⟨q, hq⟩ : ∃ q, q = noughts n := ⟨_, rfl⟩
  have hq2 : (q : Int) = (119 - n % 64) % 64 := by rw [hq]; unfold noughts; omega
  have hq63 : q < 64 := by omega
  go_enter Tryd.func46, Tryd.ntmps46
  go_wp2
  go_loopw [3] (fun v wr => ∃ (k : Nat) (A : Option Addr) (c : Nat), v = .slice A (1 + k : Nat) c ∧ k ≤ q ∧ Grows w (128 :: List.replicate k 0) v wr) (fun v _ => q + 1 - lenV v)
  case atStart => exact ⟨0, _, _, rfl, by omega, (Below.refl _ _).alloc (Nat.le_refl _) _, Own.ofBlk (bs := [128]) (Blk.new' _ _ _ _ _ rfl rfl) (Nat.le_refl _) (by decide)⟩
  case round =>
    obtain ⟨k, A, c, rfl, hk, hG⟩ := hrel
    by_cases hlt : k < q
    · have b1 : ((IntKind.u64.wrap (IntKind.u64.wrap (n + (1 + (k : Int))) + 8)).tmod 64 != 0) = true := by
        rw [wu, wu, Int.tmod_eq_emod_of_nonneg (by omega)]; simp; omega
      have HQ := Lib.hid hq2
      clear hq2
      go_wp2_with (apply st_grow (w0 := w) (xs := 128 :: List.replicate k 0) (ys := [0]); rfl; rfl; exact hG.alloc _; (intro h; cases h); exact Rd.ofBlk (Blk.new' _ _ _ 5 _ rfl rfl); (simp; omega); intro v2 w2 hG2)
      go_roundw
      case rel =>
        obtain ⟨A2, c2, rfl, h2, _, _, _⟩ := hG2.2.from
        refine ⟨k + 1, A2, c2, ?_, by omega, ?_⟩
        · congr 1; simp; omega
        · have : (128 :: List.replicate k 0 ++ [0] : List Int) = 128 :: List.replicate (k + 1) 0 := by
            rw [List.cons_append, List.replicate_succ']
          rw [← this]; exact hG2
      case measure =>
        obtain ⟨A2, c2, rfl, h2, _, _, _⟩ := hG2.2.from
        simp [lenV]; omega
    · have e : k = q := by omega
      have b1 : ((IntKind.u64.wrap (IntKind.u64.wrap (n + (1 + (k : Int))) + 8)).tmod 64 != 0) = false := by
        rw [wu, wu, Int.tmod_eq_emod_of_nonneg (by omega)]; simp; omega
      have HE := Lib.hid (e.trans hq)
      clear hq2 e hq hlt
      go_wp2_with (first
        | (go_at_call 49; refine (refput_any _ (IntKind.u64.wrap (8 * n)) 8 (by rw [wu]; omega) (by rw [wu]; omega) (by omega) (by omega)).mono ?_; rintro e w2 ⟨v2, rfl, hb2, ho2⟩;
           obtain ⟨A2, c2, rfl, h2, hA2, hR2, _⟩ := ho2.from)
        | (apply st_grow (w0 := w) (xs := 128 :: List.replicate k 0) (ys := putF (IntKind.u64.wrap (8 * n)) 8); rfl; rfl; exact hG.up hb2; exact hA2; exact hR2; (rw [putF_len]; simp; omega); intro v3 w3 hG3))
      rw [wu, HE.out] at hG3
      go_ret
      exact hG3.gives
end Go.Proofs.YtipigpeccegjgaaDoor
