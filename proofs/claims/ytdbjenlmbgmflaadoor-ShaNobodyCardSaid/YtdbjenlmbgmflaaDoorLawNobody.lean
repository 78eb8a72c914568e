/- That inquestlaw02.ShaNobody returns true. Condition: the package's table k reads as its text lays it. -/
import Derived.Test.YtdbjenlmbgmflaaDoorLawSums
namespace Go.Proofs.YtdbjenlmbgmflaaDoor
open Go.RowKit

/-- The empty digest. -/
def digest0 : List Int := List.replicate 32 0

set_option maxHeartbeats 1000000 in
theorem nil_add (w : World) (v : Value) : Calls Tryd.prog 25 #[.pointer none, v] w fun e w' => e = .returned (.int .i64 1) ∧ Below w.heap.size w w' := by
  go_enter Tryd.func25, Tryd.ntmps25
  go_wp2
  go_ret
  exact ⟨rfl, Below.refl _ _⟩
set_option maxHeartbeats 1000000 in
theorem plain_add (w : World) (g : Nat) (v : Value) (c0 : w.cell? ⟨g, 0, none⟩ = some (.bool false)) : Calls Tryd.prog 25 #[.pointer (some ⟨g, 0, none⟩), v] w fun e w' => e = .returned (.int .i64 1) ∧ Below w.heap.size w w' := by
  go_enter Tryd.func25, Tryd.ntmps25
  go_wp2
  go_ret
  exact ⟨rfl, Below.refl _ _⟩
set_option maxHeartbeats 1000000 in
theorem nil_count (w : World) : Calls Tryd.prog 26 #[.pointer none] w fun e w' => e = .returned (.int .i64 0) ∧ Below w.heap.size w w' := by
  go_enter Tryd.func26, Tryd.ntmps26
  go_wp2
  go_ret
  exact ⟨rfl, Below.refl _ _⟩
set_option maxHeartbeats 1000000 in
theorem plain_count (w : World) (g : Nat) (c73 : w.cell? ⟨g, 73, none⟩ = some (.int .i64 0)) : Calls Tryd.prog 26 #[.pointer (some ⟨g, 0, none⟩)] w fun e w' => e = .returned (.int .i64 0) ∧ Below w.heap.size w w' := by
  go_enter Tryd.func26, Tryd.ntmps26
  go_wp2
  go_ret
  exact ⟨rfl, Below.refl _ _⟩
set_option maxHeartbeats 1000000 in
theorem nil_hsum (w : World) : Calls Tryd.prog 27 #[.pointer none] w fun e w' => e = .returned (.agg (nums .u8 digest0).toArray) ∧ Below w.heap.size w w' := by
  have hbuild : ∀ w : World, (Instr.build 26 #[]).run Tryd.prog w = .ok (.agg (nums .u8 digest0).toArray) w := fun w => by kernel_rfl
  go_enter Tryd.func27, Tryd.ntmps27
  go_wp2_with (first
    | (apply st_build (ps := #[]) (r := (nums .u8 digest0).toArray); rfl; exact hbuild _)
    | (apply st_storeW (off := 0) (vs := nums .u8 digest0) (cs := nums .u8 (List.replicate 32 0)) (T := 26); rfl; rfl; exact Blk.new' _ _ _ _ _ rfl rfl; kernel_rfl; (rw [nums_length, nums_length]; exact Nat.le_refl _); exact nums_one _ _;
       intro w1 hb1 hw1; rw [laid_all _ _ (by rfl)] at hb1))
  refine bodyPost_ret (ret_row rfl _ _ _ (nums .u8 digest0) 26 _ rfl hb1 Tryd.underlying26 rfl (by kernel_rfl)) rfl ⟨rfl, Wrote.below ((Below.refl _ _).alloc (Nat.le_refl _) _) hw1 (Nat.le_refl _)⟩
set_option maxHeartbeats 1000000 in
theorem plain_hsum (w : World) (g : Nat) (c0 : w.cell? ⟨g, 0, none⟩ = some (.bool false)) : Calls Tryd.prog 27 #[.pointer (some ⟨g, 0, none⟩)] w fun e w' => e = .returned (.agg (nums .u8 digest0).toArray) ∧ Below w.heap.size w w' := by
  have hglt : g < w.heap.size := World.block_lt_of_cell? (h := c0)
  have hbuild : ∀ w : World, (Instr.build 26 #[]).run Tryd.prog w = .ok (.agg (nums .u8 digest0).toArray) w := fun w => by kernel_rfl
  go_enter Tryd.func27, Tryd.ntmps27
  go_wp2_with (first
    | (apply st_build (ps := #[]) (r := (nums .u8 digest0).toArray); rfl; exact hbuild _)
    | (apply st_storeW (off := 0) (vs := nums .u8 digest0) (cs := nums .u8 (List.replicate 32 0)) (T := 26); rfl; rfl; exact Blk.new' _ _ _ _ _ rfl rfl; kernel_rfl; (rw [nums_length, nums_length]; exact Nat.le_refl _); exact nums_one _ _;
       intro w1 hb1 hw1; rw [laid_all _ _ (by rfl)] at hb1))
  refine bodyPost_ret (ret_row rfl _ _ _ (nums .u8 digest0) 26 _ rfl hb1 Tryd.underlying26 rfl (by kernel_rfl)) rfl ⟨rfl, Wrote.below ((Below.refl _ _).alloc (Nat.le_refl _) _) hw1 (Nat.le_refl _)⟩

set_option maxHeartbeats 2000000 in
theorem lawnobody_any (w : World) (bs0 : List Int) (A : Option Addr) (c : Nat) (_hr : Rd w A (nums .u8 bs0)) (_hc : bs0.length ≤ c) (_hA : A = none → c = 0) (_hu : U8 bs0) (hk : KV w) :
    Calls Tryd.prog 10 #[.slice A bs0.length c] w fun e w' => e = .returned (.bool true) ∧ Below w.heap.size w w' := by
  have hneq0 := run_neq_nums (P := Tryd.prog) (t := 26) Tryd.underlying26 Tryd.underlying5 (by kernel_rfl) (by kernel_rfl) digest0 digest0 rfl rfl
  rw [decide_eq_true rfl] at hneq0
  have hneq : ∀ w : World, (binOp .neq 26 (.agg (nums .u8 digest0).toArray) (.agg (nums .u8 digest0).toArray)).run Tryd.prog w = .ok (.bool false) w := hneq0
  have hb26 : ∀ w : World, (zeroValue 26).run Tryd.prog w = .ok (.agg (nums .u8 digest0).toArray) w := fun w => by kernel_rfl
  have hb53 : ∀ w : World, (zeroValue 53).run Tryd.prog w = .ok (.agg zeroHash.toArray) w := fun w => by kernel_rfl
  have hz : Blk (w.alloc (.cells zeroHash.toArray 53)) w.heap.size zeroHash 53 := Blk.new' _ _ _ _ _ rfl rfl
  have hB0 : Below w.heap.size w (w.alloc (.cells zeroHash.toArray 53)) := (Below.refl _ _).alloc (Nat.le_refl _) _
  have HK := Lib.hid hk
  have HNEQ := Lib.hid hneq
  clear hk hneq0 hneq _hr _hc _hA _hu
  have hneq := HNEQ.out
  go_enter Tryd.func10, Tryd.ntmps10
  go_wp2_with (first
    | (go_at_call 25; ((with_reducible refine (nil_add _ _).mono ?_); rintro e w1 ⟨rfl, hb1⟩; have hz1 := hz.up hb1; have hc1 : w1.cell? ⟨w.heap.size, 0, none⟩ = some (.bool false) := (by rw [hz1.cell]; rfl); have hB1 := hB0.trans (hb1.mono hB0.size)))
    | (go_at_call 25; ((with_reducible refine (plain_add _ _ _ hc1).mono ?_); rintro e w2 ⟨rfl, hb2⟩; have hz2 := hz1.up hb2; have hB2 := hB1.trans (hb2.mono hB1.size)))
    | (go_at_call 27; (with_reducible refine (nil_hsum _).mono ?_); rintro e w3 ⟨rfl, hb3⟩; have hz3 := hz2.up hb3; have hc3 : w3.cell? ⟨w.heap.size, 0, none⟩ = some (.bool false) := (by rw [hz3.cell]; rfl); have hB3 := hB2.trans (hb3.mono hB2.size))
    | (go_at_call 27; (with_reducible refine (plain_hsum _ _ hc3).mono ?_); rintro e w4 ⟨rfl, hb4⟩; have hz4 := hz3.up hb4; have hB4 := hB3.trans (hb4.mono hB3.size))
    | (go_at_call 26; (with_reducible refine (nil_count _).mono ?_); rintro e w5 ⟨rfl, hb5⟩; have hz5 := hz4.up hb5; have hc5 : w5.cell? ⟨w.heap.size, 73, none⟩ = some (.int .i64 0) := (by rw [hz5.cell]; rfl); have hB5 := hB4.trans (hb5.mono hB4.size))
    | (go_at_call 26; (with_reducible refine (plain_count _ _ hc5).mono ?_); rintro e w6 ⟨rfl, hb6⟩; have hB6 := hB5.trans (hb6.mono hB5.size))
    | (go_at_call 16; refine (lives_any _ (HK.out.below hB6 HK.out.lt)).mono ?_; rintro e w7 ⟨rfl, hb7⟩))
  go_ret
  exact ⟨rfl, hB6.trans (hb7.mono hB6.size)⟩
end Go.Proofs.YtdbjenlmbgmflaaDoor
