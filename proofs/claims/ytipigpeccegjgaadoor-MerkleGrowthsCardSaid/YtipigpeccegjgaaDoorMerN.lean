/- What merkle.Leaf, merkle.Node and the reference's answer. Condition: the table of layer 2 reads as its text lays it (merkle's). -/
import Derived.Test.YtipigpeccegjgaaDoorMerD
import Derived.Test.YtipigpeccegjgaaDoorSum
import Derived.Test.YtipigpeccegjgaaDoorBits
namespace Go.Proofs.YtipigpeccegjgaaDoor
open Go.RowKit

def leafF (b : List Int) (w : Int) : List Int := cutF (sumF (0 :: b)) w
def nodeF (x y : List Int) (w : Int) : List Int := cutF (sumF (1 :: (x ++ y))) w
theorem cutF_sum (b : List Int) (w : Int) : (cutF (sumF b) w).length = 32 := by rw [cutF_len, sumF_len]
theorem leafF_len (b : List Int) (w : Int) : (leafF b w).length = 32 := cutF_sum _ _
theorem nodeF_len (x y : List Int) (w : Int) : (nodeF x y w).length = 32 := cutF_sum _ _
theorem byteCut_range (x left : Int) (hx : 0 ≤ x ∧ x < 256) : 0 ≤ byteCut x left ∧ byteCut x left < 256 := by
  unfold byteCut
  split
  · omega
  · split
    · exact bits_u8_range _ _ _
    · exact hx
theorem cutF_range (ds : List Int) (w : Int) (h : U8 ds) : U8 (cutF ds w) := U8.of fun y hy => by
  unfold cutF cutB at hy
  obtain ⟨i, _, rfl⟩ := List.mem_map.1 hy
  exact byteCut_range _ _ (h i)
theorem leafF_range (b : List Int) (w : Int) : U8 (leafF b w) := cutF_range _ _ (sumF_range _)
theorem nodeF_range (x y : List Int) (w : Int) : U8 (nodeF x y w) := cutF_range _ _ (sumF_range _)

theorem Blk.grown {w w' : World} {g : Nat} {cs : List Value} {T : TypeId} {row : Option Nat} (h : Blk w g cs T) (hg : w.grownBy w' row) (hne : some g ≠ row) : Blk w' g cs T := (hg.block g h.lt hne).trans h
theorem u8_cons (x : Int) (hx : 0 ≤ x ∧ x < 256) {l : List Int} (h : U8 l) : U8 (x :: l) := fun i => by
  cases i with
  | zero => exact hx
  | succ i => have := h i; unfold ga at this ⊢; simpa using this
theorem u8_append {l1 l2 : List Int} (h1 : U8 l1) (h2 : U8 l2) : U8 (l1 ++ l2) := fun i => by
  unfold ga
  rw [List.getD_eq_getElem?_getD, List.getElem?_append]
  split
  · have := h1 i; unfold ga at this; rwa [List.getD_eq_getElem?_getD] at this
  · have := h2 (i - l1.length); unfold ga at this; rwa [List.getD_eq_getElem?_getD] at this

set_option maxHeartbeats 4000000 in
theorem leaf_any (w : World) (bs : List Int) (A : Option Addr) (c : Nat) (h : Byt w A c bs) (hl : bs.length ≤ 1000000) (z : Int) (hk : KV w) :
    Calls Tryd.prog 20 #[.slice A bs.length c, .int .i64 z] w fun e w' => e = .returned (.agg (nums .u8 (leafF bs z)).toArray) ∧ Below w.heap.size w w' := by
  have HK := Lib.hid hk
  have hb0 : [(0 : Int)] ++ bs = 0 :: bs := rfl
  obtain ⟨all, hall⟩ : ∃ all, all = 0 :: bs := ⟨_, rfl⟩
  have halll : all.length ≤ 1000001 := by rw [hall]; simp; omega
  rw [← hall] at hb0
  have hml := cutF_sum all z
  obtain ⟨m, hm⟩ : ∃ m, m = leafF bs z := ⟨_, rfl⟩
  have hlf : cutF (sumF all) z = m := by rw [hm, hall]; rfl
  rw [hlf] at hml
  rw [← hm]
  have HB0 := Lib.hid hb0
  have HML := Lib.hid hml
  have HLF := Lib.hid hlf
  clear hk hb0 hml hlf hall hm
  have hB0 : Below w.heap.size w (w.alloc (.cells (nums .u8 (List.replicate 32 0)).toArray 25)) := (Below.refl _ _).alloc (Nat.le_refl _) _
  have hr0 : Blk (w.alloc (.cells (nums .u8 (List.replicate 32 0)).toArray 25)) w.heap.size (nums .u8 (List.replicate 32 0)) 25 := Blk.new' _ _ _ _ _ rfl rfl
  have hz0 : (w.alloc (.cells (nums .u8 (List.replicate 32 0)).toArray 25)).heap.size = w.heap.size + 1 := World.size_alloc _ _
  go_enter Tryd.func20, Tryd.ntmps20
  go_wp2_with fail
  go_at_call 37
  refine (new_any _).mono ?_
  rintro e w1 ⟨g, rfl, hg1, hb1, hH1⟩
  rw [World.size_alloc] at hg1
  have hB1 := hB0.trans (hb1.mono (by rw [World.size_alloc]; omega))
  have hr1 := hr0.up hb1
  have hHl1 := hH1.lt
  go_wp2_with fail
  go_at_call 38
  have hba : Below w1.heap.size w1 (w1.alloc (.cells (nums .u8 [0]).toArray 5)) := (Below.refl _ _).alloc (Nat.le_refl _) _
  have hH1 := hH1.up hba
  have hB1 := hB1.trans (hba.mono hB1.size)
  have hr1 := hr1.up hba
  refine (add_any _ g [] [0] (some ⟨w1.heap.size, 0, none⟩) 1 hH1 (Rd.ofBlk (Blk.new' _ _ _ 5 _ rfl rfl)) (by decide) (fun h => by cases h) (fun _ a ha => (by injection ha with ha; subst ha; show w1.heap.size ≠ g; omega)) (by decide) (HK.out.below hB1 HK.out.lt)).mono ?_
  rintro e w2 ⟨rfl, hBut2, hH2⟩
  rw [List.nil_append] at hH2
  have hB2 := hB1.trans (hBut2.below' (C := w.heap.size) (by omega) hB1.size)
  have hr2 := hr1.butFar hBut2 hr1.lt (by omega)
  go_wp2_with fail
  go_at_call 38
  have hh := h.up hB2
  refine (add_any w2 g [0] bs A c hH2 hh.rd h.le h.nn (fun hp a ha => (by have := h.rd.lt (by rw [nums_length]; exact hp) a ha; omega)) (by simp; omega) (HK.out.below hB2 HK.out.lt)).mono ?_
  rintro e w3 ⟨rfl, hBut3, hH3⟩
  rw [HB0.out] at hH3
  have hB3 := hB2.trans (hBut3.below' (C := w.heap.size) (by omega) hB2.size)
  have hr3 := hr2.butFar hBut3 hr2.lt (by omega)
  go_wp2_with fail
  go_at_call 39
  refine (hsum_any w3 g all hH3 (by omega) (HK.out.below hB3 HK.out.lt)).mono ?_
  rintro e w4 ⟨rfl, hb4⟩
  have hB4 := hB3.trans (hb4.mono hB3.size)
  have hr4 := hr3.up hb4
  go_wp2_with fail
  go_at_call 24
  have hcall := cut_any w4 (sumF all) (sumF_len _) z
  rw [HLF.out] at hcall; refine hcall.mono ?_; clear hcall
  rintro e w5 ⟨rfl, hb5⟩
  have hB5 := hB4.trans (hb5.mono hB4.size)
  have hr5 := hr4.up hb5
  go_wp2_with (apply st_storeW (off := 0) (vs := nums .u8 (m)) (cs := nums .u8 (List.replicate 32 0)) (T := 25); rfl; rfl; exact hr5; (rw [nums_length, HML.out]; kernel_rfl); (rw [nums_length, HML.out]; decide); exact nums_one _ _; intro w6 hd6 hw6; rw [laid_all _ _ (by rw [nums_length, HML.out]; rfl)] at hd6)
  refine bodyPost_ret (ret_row rfl _ _ _ (nums .u8 (m)) 25 _ rfl hd6 Tryd.underlying25 rfl (by rw [nums_length, HML.out]; kernel_rfl)) rfl ⟨rfl, Wrote.below hB5 hw6 (Nat.le_refl _)⟩

set_option maxHeartbeats 4000000 in
theorem refleaf_any (w : World) (bs : List Int) (A : Option Addr) (c : Nat) (h : Byt w A c bs) (hl : bs.length ≤ 1000000) (z : Int) :
    Calls Tryd.prog 21 #[.slice A bs.length c, .int .i64 z] w fun e w' => e = .returned (.agg (nums .u8 (leafF bs z)).toArray) ∧ Below w.heap.size w w' := by
  have hb0 : [(0 : Int)] ++ bs = 0 :: bs := rfl
  obtain ⟨all, hall⟩ : ∃ all, all = 0 :: bs := ⟨_, rfl⟩
  have halll : all.length ≤ 1000001 := by rw [hall]; simp; omega
  have hallu : U8 all := by rw [hall]; exact u8_cons 0 (by omega) h.u
  rw [← hall] at hb0
  have hml := cutF_sum all z
  obtain ⟨m, hm⟩ : ∃ m, m = leafF bs z := ⟨_, rfl⟩
  have hlf : cutF (sumF all) z = m := by rw [hm, hall]; rfl
  rw [hlf] at hml
  rw [← hm]
  have HB0 := Lib.hid hb0
  have HML := Lib.hid hml
  have HLF := Lib.hid hlf
  have HU := Lib.hid hallu
  clear hb0 hml hlf hall hallu hm
  have hB0 : Below w.heap.size w (w.alloc (.cells (nums .u8 (List.replicate 32 0)).toArray 25)) := (Below.refl _ _).alloc (Nat.le_refl _) _
  have hr0 : Blk (w.alloc (.cells (nums .u8 (List.replicate 32 0)).toArray 25)) w.heap.size (nums .u8 (List.replicate 32 0)) 25 := Blk.new' _ _ _ _ _ rfl rfl
  have ho0 : Own ((w.alloc (.cells (nums .u8 (List.replicate 32 0)).toArray 25)).alloc (.cells (nums .u8 [0]).toArray 5)) (w.heap.size + 1) (.slice (some ⟨w.heap.size + 1, 0, none⟩) 1 1) [0] := Own.ofBlk (Blk.new' _ _ _ 5 _ rfl (by simp)) (Nat.le_refl _) (by decide)
  have hB1 := hB0.alloc (by simp) (.cells (nums .u8 [0]).toArray 5)
  have hr1 := hr0.alloc (.cells (nums .u8 [0]).toArray 5)
  have hh := h.up hB1
  go_enter Tryd.func21, Tryd.ntmps21
  go_wp2_with (apply st_append (xs := [0]) (ys := bs); rfl; rfl; exact ho0; exact hh.nn; exact hh.rd; (simp; omega); (simp); intro v2 w2 ho2 hg2)
  have hB2 := below_grown hB1 ho0 hg2 (Nat.le_succ _) (by simp)
  have hr2 := hr1.grown hg2 (by simp [Value.ownBlock, Act.eval])
  rw [HB0.out] at ho2
  obtain ⟨A2, c2, rfl, h2, hc2, hR2, hx2⟩ := ho2.from
  go_at_call 36
  refine (refsum_any w2 all A2 c2 hR2 hc2 (by omega) HU.out).mono ?_
  rintro e w3 ⟨rfl, hb3⟩
  have hB3 := hB2.trans (hb3.mono hB2.size)
  have hr3 := hr2.up hb3
  go_wp2_with fail
  go_at_call 25
  have hcall := refcutd_any w3 (sumF all) (sumF_len _) (sumF_range _) z
  rw [HLF.out] at hcall; refine hcall.mono ?_; clear hcall
  rintro e w4 ⟨rfl, hb4⟩
  have hB4 := hB3.trans (hb4.mono hB3.size)
  have hr4 := hr3.up hb4
  go_wp2_with (apply st_storeW (off := 0) (vs := nums .u8 (m)) (cs := nums .u8 (List.replicate 32 0)) (T := 25); rfl; rfl; exact hr4; (rw [nums_length, HML.out]; kernel_rfl); (rw [nums_length, HML.out]; decide); exact nums_one _ _; intro w5 hd5 hw5; rw [laid_all _ _ (by rw [nums_length, HML.out]; rfl)] at hd5)
  refine bodyPost_ret (ret_row rfl _ _ _ (nums .u8 (m)) 25 _ rfl hd5 Tryd.underlying25 rfl (by rw [nums_length, HML.out]; kernel_rfl)) rfl ⟨rfl, Wrote.below hB4 hw5 (Nat.le_refl _)⟩
end Go.Proofs.YtipigpeccegjgaaDoor
