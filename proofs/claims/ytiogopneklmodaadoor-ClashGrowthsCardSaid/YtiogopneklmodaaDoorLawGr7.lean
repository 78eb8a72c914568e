/- That inquestlaw07.ClashGrowths returns true. Condition: the table of layer 2 reads as its text lays it. -/
import Derived.Test.YtiogopneklmodaaDoorFound7
import Derived.Test.YtiogopneklmodaaDoorRefG7
import Derived.Test.YtiogopneklmodaaDoorClGr
namespace Go.Proofs.YtiogopneklmodaaDoor
open Go.RowKit

set_option maxRecDepth 100000 in
set_option maxHeartbeats 8000000 in
theorem lawgrowths7_any (w : World) (ls : List (List Int)) (A : Option Addr) (c : Nat) (hs : RdS w A ls) (_hc : ls.length ≤ c) (i : Int)
    (old : List Int) (hol : old.length = 32) (uol : U8 old) (ds : List (List Int)) (Ap0 : Option Addr) (cp0 : Nat) (hd : Dg w Ap0 cp0 ds) (z : Int) (hk : KV w) :
    Calls Tryd.prog 6 #[.slice A ls.length c, .int .i64 i, .agg (nums .u8 old).toArray, .slice Ap0 ds.length cp0, .int .i64 z] w fun e w' => e = .returned (.bool true) ∧ Below w.heap.size w w' := by
  have HK := Lib.hid hk
  obtain ⟨w0, hw0⟩ : ∃ W, W = w.alloc (.cells (nums .u8 old).toArray 45) := ⟨_, rfl⟩
  have hx0 : Blk w0 w.heap.size (nums .u8 old) 45 := by rw [hw0]; exact Blk.new' _ _ _ _ _ rfl rfl
  have hB0 : Below w.heap.size w w0 := by rw [hw0]; exact (Below.refl _ _).alloc (Nat.le_refl _) _
  have hbz : Below w.heap.size w w0 := hB0
  have hTa : TxtAt w0 A ls := by
    rcases hs.txtAt with h | ⟨g, o, h1, h2, h3⟩
    · exact .inl h
    · refine .inr ⟨g, o, h1, Nat.lt_of_lt_of_le h2 hB0.size, fun j hj => ?_⟩
      obtain ⟨B, d, h4, h5⟩ := h3 j hj
      exact ⟨B, d, (hB0.cell (p := ⟨g, o + j, none⟩) h2).trans h4, h5.up hB0⟩
  have HW0 := Lib.hid hw0
  have HF1 := Lib.hid (few7_any w0 ls A c hTa 20 60 (by omega) (by omega) 20 60 rfl rfl)
  have HD := Lib.hid (hd.up hB0)
  have HDO := Lib.hid (And.intro hol uol)
  have hLl := fewF_len ls 20 60
  have hLb := fewF_le ls 20 60
  have hff := fewF_few ls 20 60
  obtain ⟨L, hL⟩ : ∃ L, L = fewF ls 20 60 := ⟨_, rfl⟩
  rw [← hL] at HF1 hLl hLb hff
  have hl20 : L.length ≤ 20 := by omega
  have hb60 : ∀ x ∈ L, x.length ≤ 1000 := fun x hx => by have := hLb x hx; omega
  have hf2 := fun (W : World) (A : Option Addr) (c : Nat) (h : Txts W A c L) => few7_any W L A c h.at' 20 60 (by omega) (by omega) 20 60 rfl rfl
  rw [hff] at hf2
  have HF2 := Lib.hid hf2
  have HLB := Lib.hid hb60
  obtain ⟨p, hp⟩ : ∃ p, p = ds.take 70 := ⟨_, rfl⟩
  have hpl : p.length ≤ 70 := by rw [hp, List.length_take]; omega
  have hg1 := fun (W : World) (h : Dg W Ap0 cp0 ds) => few_any W ds Ap0 cp0 h 70 (by omega) 70 rfl
  have hpp : p.take 70 = p := List.take_of_length_le (by omega)
  have hg2 := fun (W : World) (A : Option Addr) (c : Nat) (h : Dg W A c p) => few_any W p A c h 70 (by omega) 70 rfl
  rw [hpp] at hg2
  rw [← hp] at hg1
  have HG1 := Lib.hid hg1
  have HG2 := Lib.hid hg2
  obtain ⟨must, hmust⟩ : ∃ m, m = growMust L i old p z := ⟨_, rfl⟩
  have hc1 := fun (W : World) (A Ap : Option Addr) (c cp : Nat) (h1 : Txts W A c L) (h3 : Dg W Ap cp p) => clgrowth_any W L A c h1 (by omega) hb60 i old HDO.out.1 HDO.out.2 p Ap cp h3 (by omega) z
  have hc2 := fun (W : World) (A Ap : Option Addr) (c cp : Nat) (h1 : Txts W A c L) (h3 : Dg W Ap cp p) => refgrowth_any7 W L A c h1 (by omega) hb60 i old HDO.out.1 HDO.out.2 p Ap cp h3 (by omega) z
  rw [← hmust] at hc1 hc2
  have HC1 := Lib.hid hc1
  have HC2 := Lib.hid hc2
  clear hk hd hs hLl hLb hff hL hf2 hb60 hp hg1 hpp hg2 hmust hc1 hc2 hTa hw0 hol uol hbz
  go_enter Tryd.func6, Tryd.ntmps6
  go_upto_region 1 with (fail)
  rw [← HW0.out]
  go_wp2_with fail
  go_at_call 12
  refine HF1.out.mono ?_
  rintro e w1 ⟨v1, rfl, ht⟩
  have hx := hx0.up ht.below
  have hB := hB0.trans (ht.below.mono hB0.size)
  have hP0 := HD.out.up ht.below
  obtain ⟨A1, c1, rfl, hT1⟩ := ht.txts
  clear ht
  go_wp2_with fail
  go_at_call 13
  refine (HG1.out _ hP0).mono ?_
  rintro e w2 ⟨v2, rfl, hb2, ho2⟩
  have hB := hB.trans (hb2.mono hB.size)
  obtain ⟨A2, c2, rfl, hP1, _⟩ := ho2.dg
  have hT1 := hT1.up hb2
  have hx := hx.up hb2
  clear hP0
  go_wp2_with fail
  go_at_call 12
  refine (HF2.out w2 _ _ hT1).mono ?_
  rintro e w3 ⟨v3, rfl, ht⟩
  have hb3 := ht.below
  obtain ⟨A3, c3, rfl, hT2⟩ := ht.txts
  clear ht
  have hB := hB.trans (hb3.mono hB.size)
  have hT1 := hT1.up hb3
  have hP1 := hP1.up hb3
  have hx := hx.up hb3
  go_wp2_with fail
  go_at_call 13
  refine (HG2.out w3 _ _ hP1).mono ?_
  rintro e w5 ⟨v5, rfl, hb5, ho5⟩
  obtain ⟨A5, c5, rfl, hP2, _⟩ := ho5.dg
  have hB := hB.trans (hb5.mono hB.size)
  have hT1 := hT1.up hb5
  have hT2 := hT2.up hb5
  have hP1 := hP1.up hb5
  have hx := hx.up hb5
  go_wp2_with ((with_reducible apply st_load (n := 32) (cs := nums .u8 (old)) (T := 45)); rfl; exact hx; exact Tryd.underlying45; rfl; kernel_rfl; (rw [nums_length, HDO.out.1]; exact Nat.le_refl _); (exact row_all _ _ (by rw [nums_length, HDO.out.1])))
  --MARK2
  go_at_call 23
  refine (HC1.out w5 _ _ _ _ hT2 hP2 (HK.out.below hB HK.out.lt)).mono ?_
  rintro e w6 ⟨v, rfl, hb6, a, b', Aa, Ab, ca, cbb, rfl, hya, hyb, hn, hy, la, lb⟩
  have hB := hB.trans (hb6.mono hB.size)
  have hT1 := hT1.up hb6
  have hT2 := hT2.up hb6
  have hP1 := hP1.up hb6
  have hP2 := hP2.up hb6
  have hx := hx.up hb6
  have HN := Lib.hid hn
  have HY := Lib.hid hy
  have hz : Blk (w6.alloc (.cells (clC [] [] none none 0 0).toArray 25)) w6.heap.size (clC [] [] none none 0 0) 25 := Blk.new' _ _ _ _ _ rfl rfl
  clear hn hy
  go_wp2_with ((with_reducible apply st_storeW (off := 0) (vs := clC a b' Aa Ab ca cbb) (cs := clC [] [] none none 0 0) (T := 25)); rfl; rfl; exact hz; exact clSize; (simp [clC]); exact clC_one _ _ _ _ _ _; intro w7 hd7 hw7; rw [laid_all _ _ (by rfl)] at hd7)
  --MARK3
  have hb7 := Wrote.below ((Below.refl w6.heap.size w6).alloc (Nat.le_refl _) (.cells (clC [] [] none none 0 0).toArray 25)) hw7 (Nat.le_refl _)
  have hB := hB.trans (hb7.mono hB.size)
  have hT1 := hT1.up hb7
  have hT2 := hT2.up hb7
  have hP1 := hP1.up hb7
  have hP2 := hP2.up hb7
  have hx := hx.up hb7
  have hya := hya.up hb7
  have hyb := hyb.up hb7
  have hq := hd7
  go_at_call 16
  refine (same7_any w7 L A3 A1 c3 c1 hT2 hT1 (by omega) HLB.out).mono ?_
  rintro e w8 ⟨rfl, hb⟩
  have hB := hB.trans (hb.mono hB.size)
  have hT1 := hT1.up hb
  have hP1 := hP1.up hb
  have hP2 := hP2.up hb
  have hx := hx.up hb
  have hya := hya.up hb
  have hyb := hyb.up hb
  have hq := hq.up hb
  go_wp2_with fail
  go_at_call 18
  have hcall := samed_any w8 p p A5 A2 c5 c2 hP2 hP1 (by omega) (by omega)
  rw [show decide (p = p) = true from decide_eq_true rfl] at hcall
  refine hcall.mono ?_
  clear hcall
  rintro e w10 ⟨rfl, hb⟩
  have hB := hB.trans (hb.mono hB.size)
  have hbd : Below w10.heap.size w10 w10.drew := (Below.refl _ _).drew
  have hsd : w10.drew.heap.size = w10.heap.size := rfl
  have hT1 := (hT1.up hb).up hbd
  have hP1 := (hP1.up hb).up hbd
  have hya := (hya.up hb).up hbd
  have hyb := (hyb.up hb).up hbd
  have hq := hq.up hb
  have hql := hq.lt
  have hx := hx.up hb
  have hxl := hx.lt
  go_wp2_with fail
  --MARK5
  refine wp_region_C (Same [w6.heap.size, w.heap.size] w10) [7, 9, 11] (by kernel_rfl) (by kernel_rfl) (by intro c a w h; first | (obtain ⟨_, h, _⟩ := h; cases h; done) | (obtain ⟨_, _, h, _⟩ := h; cases h; done) | (obtain ⟨_, _, _, h, _⟩ := h; cases h; done) | (obtain ⟨_, _, _, _, h, _⟩ := h; cases h; done) | (rcases h with ⟨_, ⟨_, _, _, _, h, _⟩ | ⟨_, _, _, _, h, _⟩⟩ <;> cases h; done)) (by intro a w h; first | (obtain ⟨h, _⟩ := h; cases h; done) | (obtain ⟨_, h, _⟩ := h; cases h; done) | (obtain ⟨_, _, h, _⟩ := h; cases h; done) | (obtain ⟨_, _, _, h, _⟩ := h; cases h; done) | (rcases h with ⟨_, _, _, _, h, _⟩ | ⟨_, _, _, _, h, _⟩ <;> cases h; done)) (Same.refl _ _) ?_
  repeat (refine wd_w (v := ?_) rfl rfl rfl rfl rfl rfl (fun w' hw' K hK => ?_) ?_; rotate_left; (have e1 := hw'.blk hq (by simp); have e2 := hw'.blk hx (by simp); go_wp2_with ((first | ((with_reducible apply st_load (n := 2) (cs := clC a b' Aa Ab ca cbb) (T := 25)); rfl; exact e1; exact Tryd.underlying25; rfl; exact clSize; (exact Nat.le_refl 2); (exact row_all _ _ rfl)) | ((with_reducible apply st_load (n := 32) (cs := nums .u8 (old)) (T := 45)); rfl; exact e2; exact Tryd.underlying45; rfl; kernel_rfl; (rw [nums_length, HDO.out.1]; exact Nat.le_refl _); (exact row_all _ _ (by rw [nums_length, HDO.out.1]))))); exact rfl); simp only [Act.put, List.setIfInBounds_toArray, List.set_cons_zero, List.set_cons_succ])
  have hB := hB.drew
  refine wd_l rfl rfl (by intro a w h; first | (obtain ⟨h, _⟩ := h; cases h; done) | (obtain ⟨_, h, _⟩ := h; cases h; done) | (obtain ⟨_, _, h, _⟩ := h; cases h; done) | (obtain ⟨_, _, _, h, _⟩ := h; cases h; done) | (rcases h with ⟨_, _, _, _, h, _⟩ | ⟨_, _, _, _, h, _⟩ <;> cases h; done)) ?_
  go_wp2_with fail
  go_at_call 24
  refine (HC2.out _ _ _ _ _ hT1 hP1).mono ?_
  rintro e w11 ⟨rfl, hb⟩
  have hB := hB.trans (hb.mono hB.size)
  have hb11 := hb
  have hs11 : Same [w6.heap.size, w.heap.size] w10 w11 := fun gg hg => hb11.block gg (by simp at hg; omega)
  go_wp2_with fail
  refine ⟨.inr (hs11), ?_⟩
  repeat (refine wd_q (v := ?_) rfl rfl rfl rfl rfl rfl (fun w' hw' K hK => ?_) ?_; rotate_left; (skip; go_wp2; exact rfl); simp only [Act.put, List.setIfInBounds_toArray, List.set_cons_zero, List.set_cons_succ])
  refine wd_l rfl rfl (by intro a w h; first | (obtain ⟨h, _⟩ := h; cases h; done) | (obtain ⟨_, h, _⟩ := h; cases h; done) | (obtain ⟨_, _, h, _⟩ := h; cases h; done) | (obtain ⟨_, _, _, h, _⟩ := h; cases h; done) | (rcases h with ⟨_, _, _, _, h, _⟩ | ⟨_, _, _, _, h, _⟩ <;> cases h; done)) ?_
  go_wp2_with fail
  go_at_call 19
  refine (found_any _ a b' Aa Ab ca cbb (hya.up hb11) (hyb.up hb11) la lb must z HN.out HY.out).mono ?_
  rintro e w12 ⟨rfl, hb⟩
  have hB := hB.trans (hb.mono hB.size)
  have hb12 := hb
  have hz11 := hb11.size
  have hs12 : Same [w6.heap.size, w.heap.size] w10 w12 := fun gg hg => (hb12.block gg (by simp at hg; omega)).trans (hs11 gg hg)
  go_wp2_with fail
  refine ⟨.inr (hs12), ?_⟩
  repeat (refine wd_q (v := ?_) rfl rfl rfl rfl rfl rfl (fun w' hw' K hK => ?_) ?_; rotate_left; (skip; go_wp2; exact rfl); simp only [Act.put, List.setIfInBounds_toArray, List.set_cons_zero, List.set_cons_succ])
  refine wd_lg rfl rfl (by intro a w h; first | (obtain ⟨h, _⟩ := h; cases h; done) | (obtain ⟨_, h, _⟩ := h; cases h; done) | (obtain ⟨_, _, h, _⟩ := h; cases h; done) | (obtain ⟨_, _, _, h, _⟩ := h; cases h; done) | (rcases h with ⟨_, _, _, _, h, _⟩ | ⟨_, _, _, _, h, _⟩ <;> cases h; done)) ?_
  go_wp2_with fail
  go_at_call 11
  refine (lives_any _ (HK.out.below hB HK.out.lt)).mono ?_
  rintro e w13 ⟨rfl, hb13⟩
  have hz12 := hb12.size
  have hB := hB.trans (hb13.mono hB.size)
  go_wp2_with fail
  refine ⟨.inr (fun gg hg => (hb13.block gg (by simp at hg; omega)).trans (hs12 gg hg)), ?_⟩
  refine wd_pick (b := true) (v := .bool true) rfl rfl rfl rfl rfl ?_
  simp only [Act.put, List.setIfInBounds_toArray, List.set_cons_zero, List.set_cons_succ]
  repeat (refine wd_q (v := ?_) rfl rfl rfl rfl rfl rfl (fun w' hw' K hK => ?_) ?_; rotate_left; (skip; go_wp2; exact rfl); simp only [Act.put, List.setIfInBounds_toArray, List.set_cons_zero, List.set_cons_succ])
  refine wd_nil ?_
  go_wp2_with fail
  go_ret
  exact ⟨rfl, hB⟩

end Go.Proofs.YtiogopneklmodaaDoor
