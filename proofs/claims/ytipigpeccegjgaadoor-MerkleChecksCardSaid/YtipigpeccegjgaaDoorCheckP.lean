/- What merkle.CheckPath and the reference's CheckPath answer. Condition (merkle's): the table of layer 2 reads as its text lays it. -/
import Derived.Test.YtipigpeccegjgaaDoorClimbC
import Derived.Test.YtipigpeccegjgaaDoorSteps
import Derived.Test.YtipigpeccegjgaaDoorEql
namespace Go.Proofs.YtipigpeccegjgaaDoor
open Go.RowKit

def checkPF (root : List Int) (n i : Int) (leaf : List Int) (ps : List (List Int)) (z : Int) : Bool := decide (0 ≤ i ∧ i < n ∧ ps.length = (stepsF n.toNat i).length ∧ upF leaf (stepsF n.toNat i).reverse ps z = root)
theorem checkPF_out (root : List Int) (n i : Int) (leaf : List Int) (ps : List (List Int)) (z : Int) (h : ¬ (0 ≤ i ∧ i < n)) : checkPF root n i leaf ps z = false := decide_eq_false fun e => h ⟨e.1, e.2.1⟩
theorem checkPF_len (root : List Int) (n i : Int) (leaf : List Int) (ps : List (List Int)) (z : Int) (h : ps.length ≠ (stepsF n.toNat i).length) : checkPF root n i leaf ps z = false := decide_eq_false fun e => h e.2.2.1
theorem checkPF_in (root d : List Int) (n i : Int) (leaf : List Int) (ps : List (List Int)) (z : Int) (h0 : 0 ≤ i) (h1 : i < n) (h : ps.length = (stepsF n.toNat i).length) (hd : d = upF leaf (stepsF n.toNat i).reverse ps z) : checkPF root n i leaf ps z = decide (d = root) := by
  subst hd
  unfold checkPF
  rw [Bool.eq_iff_iff]
  simp only [decide_eq_true_eq]
  exact ⟨fun e => e.2.2.2, fun e => ⟨h0, h1, h, e⟩⟩

set_option maxHeartbeats 4000000 in
theorem checkpath_any (w : World) (root : List Int) (hroot : root.length = 32) (n i : Int) (hmax : n ≤ 9223372036854775807) (leaf : List Int) (hlf : leaf.length = 32) (ulf : U8 leaf) (ps : List (List Int)) (A : Option Addr) (c : Nat) (hd : Dg w A c ps) (z : Int) (hk : KV w) :
    Calls Tryd.prog 31 #[.agg (nums .u8 root).toArray, .int .i64 n, .int .i64 i, .agg (nums .u8 leaf).toArray, .slice A ps.length c, .int .i64 z] w fun e w' => e = .returned (.bool (checkPF root n i leaf ps z)) ∧ Below w.heap.size w w' := by
  have hB0 : Below w.heap.size w ((w.alloc (.cells (nums .u8 root).toArray 25)).alloc (.cells (nums .u8 leaf).toArray 25)) := ((Below.refl _ _).alloc (Nat.le_refl _) _).alloc (by simp) _
  have hroot0 : Blk ((w.alloc (.cells (nums .u8 root).toArray 25)).alloc (.cells (nums .u8 leaf).toArray 25)) w.heap.size (nums .u8 root) 25 := (Blk.new' _ _ _ _ _ rfl rfl).alloc _
  have hleaf0 : Blk ((w.alloc (.cells (nums .u8 root).toArray 25)).alloc (.cells (nums .u8 leaf).toArray 25)) (w.heap.size + 1) (nums .u8 leaf) 25 := Blk.new' _ _ _ _ _ rfl (by simp)
  by_cases h0 : i < 0
  · rw [checkPF_out root n i leaf ps z (by omega)]
    clear hroot0 hleaf0
    go_enter Tryd.func31, Tryd.ntmps31
    go_wp2_with fail
    go_ret
    exact ⟨rfl, hB0⟩
  · by_cases h1 : n ≤ i
    · rw [checkPF_out root n i leaf ps z (by omega)]
      clear hroot0 hleaf0
      go_enter Tryd.func31, Tryd.ntmps31
      go_wp2_with fail
      go_ret
      exact ⟨rfl, hB0⟩
    · obtain ⟨N, rfl⟩ := Int.eq_ofNat_of_zero_le (show 0 ≤ n by omega)
      by_cases h2 : 63 < ps.length
      · have hsl := stepsF_len 63 N i (by omega)
        rw [checkPF_len root N i leaf ps z (by rw [Int.toNat_natCast]; omega)]
        clear hroot0 hleaf0 hsl
        go_enter Tryd.func31, Tryd.ntmps31
        go_wp2_with fail
        go_ret
        exact ⟨rfl, hB0⟩
      · have hci := fun d => checkPF_in root d N i leaf ps z (by omega) (by omega)
        have hcl := checkPF_len root N i leaf ps z
        rw [Int.toNat_natCast] at hci hcl
        obtain ⟨r, hr⟩ : ∃ r, r = checkPF root N i leaf ps z := ⟨_, rfl⟩
        rw [← hr] at hci hcl ⊢
        have hcall := fun (w : World) (h : Dg w A c ps) => climb_any N w i leaf ps A c hlf ulf h (by omega) z (by omega) (by omega) (by omega) (by omega)
        have HCALL := Lib.hid hcall
        have HCI := Lib.hid hci
        have HCL := Lib.hid hcl
        have HLF := Lib.hid hlf
        have HRL := Lib.hid hroot
        have HD := Lib.hid hd
        have HK := Lib.hid hk
        clear hr hci hcl hcall hlf hroot hd hk
        go_enter Tryd.func31, Tryd.ntmps31
        go_wp2_with ((with_reducible apply st_load (n := 32) (cs := nums .u8 (leaf)) (T := 25)); rfl; exact hleaf0; exact Tryd.underlying25; rfl; kernel_rfl; (rw [nums_length, HLF.out]; exact Nat.le_refl _); (exact row_all _ _ (by rw [nums_length, HLF.out])))
        go_at_call 43
        refine (HCALL.out _ (HD.out.up hB0) (HK.out.below hB0 HK.out.lt)).mono ?_
        rintro e w2 ⟨d, b, rfl, hdl, hdu, HBB, HDD, hb⟩
        have hB := hB0.trans (hb.mono hB0.size)
        have hx := hroot0.up hb
        have hxl := hx.lt
        have HDL := Lib.hid hdl
        have heq := run_eql_nums (P := Tryd.prog) (t := 25) Tryd.underlying25 Tryd.underlying5 (by kernel_rfl) (by kernel_rfl) d root hdl HRL.out
        have hd0 : Blk (w2.alloc (.cells (nums .u8 (List.replicate 32 0)).toArray 25)) w2.heap.size (nums .u8 (List.replicate 32 0)) 25 := Blk.new' _ _ _ _ _ rfl rfl
        clear hroot0 hleaf0 hdl
        cases b
        · have hf := HCL.out (of_decide_eq_false HBB.out.symm)
          have HF := Lib.hid hf
          clear hf
          go_wp2_with (apply st_storeW (off := 0) (vs := nums .u8 (d)) (cs := nums .u8 (List.replicate 32 0)) (T := 25); rfl; rfl; exact hd0; (rw [nums_length, HDL.out]; kernel_rfl); (rw [nums_length, HDL.out]; decide); exact nums_one _ _; intro w3 hd3 hw3; rw [laid_all _ _ (by rw [nums_length, HDL.out]; rfl)] at hd3)
          go_ret
          exact ⟨by rw [HF.out]; rfl, Wrote.below (hB.alloc hB.size _) hw3 hB.size⟩
        · have hl := of_decide_eq_true HBB.out.symm
          have hf := HCI.out d hl (HDD.out hl)
          have HF := Lib.hid hf
          clear hf hl
          go_wp2_with (first | ((apply st_storeW (off := 0) (vs := nums .u8 (d)) (cs := nums .u8 (List.replicate 32 0)) (T := 25); rfl; rfl; exact hd0; (rw [nums_length, HDL.out]; kernel_rfl); (rw [nums_length, HDL.out]; decide); exact nums_one _ _; intro w3 hd3 hw3; rw [laid_all _ _ (by rw [nums_length, HDL.out]; rfl)] at hd3); have hx3 := hw3.blk (hx.alloc _) (by omega)) | ((with_reducible apply st_load (n := 32) (cs := nums .u8 (d)) (T := 25)); rfl; exact hd3; exact Tryd.underlying25; rfl; kernel_rfl; (rw [nums_length, HDL.out]; exact Nat.le_refl _); (exact row_all _ _ (by rw [nums_length, HDL.out]))) | ((with_reducible apply st_load (n := 32) (cs := nums .u8 (root)) (T := 25)); rfl; exact hx3; exact Tryd.underlying25; rfl; kernel_rfl; (rw [nums_length, HRL.out]; exact Nat.le_refl _); (exact row_all _ _ (by rw [nums_length, HRL.out]))) | ((with_reducible apply st_un); rfl))
          go_ret
          exact ⟨by rw [HF.out]; rfl, Wrote.below (hB.alloc hB.size _) hw3 hB.size⟩

end Go.Proofs.YtipigpeccegjgaaDoor
