/- That inquestlaw21.LedgerHeads returns true. Condition: the table of layer 2 reads as its text lays it. -/
import Derived.Test.YtancldhincaphaaDoorLedL
import Derived.Test.YtancldhincaphaaDoorHeadEq
import Derived.Test.YtancldhincaphaaDoorGe
import Derived.Test.YtancldhincaphaaDoorGi
namespace Go.Proofs.YtancldhincaphaaDoor
open Go.RowKit
set_option maxRecDepth 100000

theorem cell_sign {w : World} {g : Nat} {n : Int} {r c s : List Int} {T : TypeId} (h : Blk w g (headC n r c s) T) (hr : r.length = 32) (hc : c.length = 32) : ∀ j v, (nums .u8 s)[j]? = some v → w.cell? ⟨g, 65 + j, none⟩ = some v := by
  rcases rd_sign h hr hc with h1 | ⟨g1, off, h1, h2⟩
  · intro j v hv; rw [h1] at hv; simp at hv
  · injection h1 with h1; injection h1 with e1 e2; subst e1; subst e2; exact h2
theorem signed_true {P : Program} {f : FuncId} {args : Array Value} {w : World} {p : Prop} [Decidable p] (h : Calls P f args w fun e w' => e = .returned (.bool (decide p)) ∧ Below w.heap.size w w') (hp : p) : Calls P f args w fun e w' => e = .returned (.bool true) ∧ Below w.heap.size w w' := by
  rw [decide_eq_true hp] at h; exact h
set_option maxRecDepth 100000 in
set_option maxHeartbeats 8000000 in
theorem lawheads_any (w : World) (bs0 : List Int) (A : Option Addr) (ck : Nat) (hr0 : Rd w A (nums .u8 bs0)) (hc0 : bs0.length ≤ ck) (hA : A = none → ck = 0) (hu : U8 bs0)
    (n : Int) (r c s : List Int) (hr : r.length = 32) (hc : c.length = 32) (hs : s.length = 32) (ur : U8 r) (uc : U8 c) (us : U8 s) (hk : KV w) :
    Calls Tryd.prog 3 #[.slice A bs0.length ck, .agg (headC n r c s).toArray] w fun e w' => e = .returned (.bool true) ∧ Below w.heap.size w w' := by
  obtain ⟨key, hkl, _, hyk, HCUT⟩ := (Byt.mk hr0 hc0 hA hu).cut 100 100 rfl
  obtain ⟨w0, hw0⟩ : ∃ W, W = w.alloc (.cells (headC n r c s).toArray 26) := ⟨_, rfl⟩
  have hx0 : Blk w0 w.heap.size (headC n r c s) 26 := by rw [hw0]; exact Blk.new' _ _ _ _ _ rfl rfl
  have hB0 : Below w.heap.size w w0 := by rw [hw0]; exact (Below.refl _ _).alloc (Nat.le_refl _) _
  have hlen := fun (x : List Int) (h : x.length = 32) => headC_len (n := n) (s := x) hr hc h
  have hml := macF_len key (headT n r c)
  have htl := headT_len n r c hr hc
  have hsg := fun (d : List Int) (h : d.length = 32) => headC_sign (n := n) hr hc hs h
  have hht := fun (w : World) => refheadtext_any w n r c s hr hc
  have hht2 := fun (w : World) => headtext_any w n r c s hr hc
  have htu := headT_u8 n r c ur uc
  have hsn := fun (w : World) (h : Byt w A ck key) => sign_any w key A ck h (by omega) n r c s hr hc hs ur uc
  have hsd := fun (w : World) (h : Byt w A ck key) => signed_any w key A ck h (by omega) n r c s hr hc hs ur uc us
  obtain ⟨T, hT⟩ : ∃ T, T = headT n r c := ⟨_, rfl⟩
  rw [← hT] at hml htl hht hht2 htu hsn hsd
  have hmu : U8 (macF key T) := sumF_range _
  have hsd2 := fun (w : World) (h : Byt w A ck key) (hk : KV w) => signed_true (signed_any w key A ck h (by omega) n r c (macF key T) hr hc hml ur uc hmu hk) (by rw [← hT])
  have hmac := fun (w : World) (h1 : Byt w A ck key) (B : Option Addr) (d : Nat) (h2 : Byt w B d T) => refmac_any w key A ck h1.rd h1.nn (by omega) h1.u T B d h2.rd h2.nn (by omega) h2.u
  obtain ⟨m, hm⟩ : ∃ m, m = macF key T := ⟨_, rfl⟩
  rw [← hm] at hml hmac hsn hsd hsd2 hmu
  have HW0 := Lib.hid hw0
  have HLEN := Lib.hid (hlen s hs)
  have HLEM := Lib.hid (hlen m hml)
  have HSG := Lib.hid (hsg m hml)
  have HML := Lib.hid hml
  have HHT := Lib.hid hht
  have HHT2 := Lib.hid hht2
  have HTU := Lib.hid htu
  have HTL := Lib.hid htl
  have HMAC := Lib.hid hmac
  have HKEY := Lib.hid hyk
  have HSN := Lib.hid hsn
  have HSD := Lib.hid hsd
  have HSD2 := Lib.hid hsd2
  have HSL := Lib.hid hs
  have HRC := Lib.hid (And.intro hr hc)
  have HK := Lib.hid hk
  clear hw0 hlen hml htl hsg hht hht2 htu hT hmac hm hyk hk hr hc hs ur uc us hsn hsd hsd2 hmu hr0 hc0 hA hu
  go_enter Tryd.func3, Tryd.ntmps3
  go_upto_region 1 with (fail)
  rw [← HW0.out]
  go_wp2_with fail
  go_at_call 9
  refine (HCUT.out _).mono ?_
  rintro e wz ⟨rfl, rfl⟩
  go_wp2_with ((with_reducible apply st_load (n := 97) (cs := headC n r c s) (T := 26)); rfl; exact hx0; exact Tryd.underlying26; rfl; exact headSize; (rw [HLEN.out]; exact Nat.le_refl _); (exact row_all _ _ HLEN.out))
  --MARK1
  go_at_call 10
  refine (HHT.out w0).mono ?_
  rintro e w1 ⟨v1, rfl, hb1, ho1⟩
  obtain ⟨B1, d1, rfl, hy1, _⟩ := ho1.byt HTU.out
  have hB := hB0.trans (hb1.mono hB0.size)
  have hx := hx0.up hb1
  go_wp2_with fail
  go_at_call 11
  refine (HMAC.out w1 (HKEY.out.up hB) _ _ hy1).mono ?_
  rintro e w2 ⟨rfl, hb2⟩
  have hB := hB.trans (hb2.mono hB.size)
  have hx := hx.up hb2
  have hy := hy1.up hb2
  have hz : Blk (w2.alloc (.cells (nums .u8 (List.replicate 32 0)).toArray 24)) w2.heap.size (nums .u8 (List.replicate 32 0)) 24 := Blk.new' _ _ _ _ _ rfl rfl
  have hxl := hx.lt
  --MARK2
  go_upto_region 4 with (((with_reducible apply st_storeW (off := 0) (vs := nums .u8 (m)) (cs := nums .u8 (List.replicate 32 0)) (T := 24)); rfl; rfl; exact hz; (rw [nums_length, HML.out]; kernel_rfl); (rw [nums_length, HML.out]; decide); exact nums_one _ _; intro w3 hd3 hw3; rw [laid_all _ _ (by rw [nums_length, HML.out]; rfl)] at hd3))
  have hb3 := Wrote.below ((Below.refl w2.heap.size w2).alloc (Nat.le_refl _) (.cells (nums .u8 (List.replicate 32 0)).toArray 24)) hw3 (Nat.le_refl _)
  have hB := hB.trans (hb3.mono hB.size)
  have hx := hx.up hb3
  have hy := hy.up hb3
  have hd := hd3
  have hdl := hd.lt
  have hq : Blk (w3.alloc (.cells (headC 0 zd zd zd).toArray 26)) w3.heap.size (headC 0 zd zd zd) 26 := Blk.new' _ _ _ _ _ rfl rfl
  have hxa : Blk (w3.alloc (.cells (headC 0 zd zd zd).toArray 26)) w.heap.size (headC n r c s) 26 := hx.alloc _
  have hba : Below w3.heap.size w3 (w3.alloc (.cells (headC 0 zd zd zd).toArray 26)) := (Below.refl _ _).alloc (Nat.le_refl _) _
  have hda := hd.up hba
  have hxl3 := hx.lt
  --MARK3
  go_upto_region 6 with (first | ((with_reducible apply st_load (n := 97) (cs := headC n r c s) (T := 26)); rfl; exact hx; exact Tryd.underlying26; rfl; exact headSize; (rw [HLEN.out]; exact Nat.le_refl _); (exact row_all _ _ HLEN.out)) | ((with_reducible apply st_load (n := 97) (cs := headC n r c s) (T := 26)); rfl; exact hxa; exact Tryd.underlying26; rfl; exact headSize; (rw [HLEN.out]; exact Nat.le_refl _); (exact row_all _ _ HLEN.out)) | ((with_reducible apply st_storeW (off := 0) (vs := headC n r c s) (cs := headC 0 zd zd zd) (T := 26)); rfl; rfl; exact hq; (rw [HLEN.out]; exact headSize); (rw [HLEN.out, headC_len rfl rfl rfl]; decide); exact headC_one _ _ _ _; intro w4 hd4 hw4; rw [laid_all _ _ (by rw [HLEN.out, headC_len rfl rfl rfl])] at hd4; have hm4 := hw4.blk hda (by omega); have hx4 := hw4.blk hxa (by omega)) | ((with_reducible apply st_load (n := 32) (cs := nums .u8 (m)) (T := 24)); rfl; exact hm4; exact Tryd.underlying24; rfl; kernel_rfl; (rw [nums_length, HML.out]; exact Nat.le_refl _); (exact row_all _ _ (by rw [nums_length, HML.out]))) | ((with_reducible apply st_storeW (off := 65) (vs := nums .u8 m) (cs := headC n r c s) (T := 26)); rfl; rfl; exact hd4; (rw [nums_length, HML.out]; kernel_rfl); (rw [nums_length, HML.out, HLEN.out]; decide); exact nums_one _ _; intro w5 hd5 hw5; rw [HSG.out] at hd5; have hx5 := hw5.blk hx4 (by omega); have hm5 := hw5.blk hm4 (by omega)))
  --MARK4
  have hb5 : Below w3.heap.size w3 w5 := Wrote.below (Wrote.below hba hw4 (Nat.le_refl _)) hw5 (Nat.le_refl _)
  have hB := hB.trans (hb5.mono hB.size)
  have hy := hy.up hb5
  --MARK5
  have hsame := fun (w : World) (B D : Option Addr) (x y : Nat) (h1 : Byt w B x T) (h2 : Byt w D y T) => signed_true (refsame_any w B D x y T T h1.rd h2.rd (by rw [HTL.out]; omega)) rfl
  have hlx := hx5.lt
  have hlm := hm5.lt
  have hlq := hd5.lt
  have hS0 : Same [w.heap.size, w2.heap.size, w3.heap.size] w5 w5.drew := Same.refl _ _
  have hB := hB.drew
  have heqH := run_equal_head n n r c m r c m HRC.out.1 HRC.out.2 HML.out HRC.out.1 HRC.out.2 HML.out
  have heqs : ∀ w : World, (binOp .eql 26 (.agg (headC n r c m).toArray) (.agg (headC n r c m).toArray)).run Tryd.prog w = .ok (.bool true) w := fun w => by
    simp [binOp, heqH w]
  have heqd := run_eql_nums (P := Tryd.prog) Tryd.underlying24 Tryd.underlying5 (by kernel_rfl) (by kernel_rfl) s m HSL.out HML.out
  have hds : decide (m = s) = decide (s = m) := by rw [Bool.eq_iff_iff]; simp [eq_comm]
  have hsd := HSD.out
  rw [hds] at hsd
  obtain ⟨b, hb⟩ : ∃ b, b = decide (s = m) := ⟨_, rfl⟩
  rw [← hb] at hsd
  simp only [← hb] at heqd
  have HSDb := Lib.hid hsd
  have HEQH := Lib.hid heqs
  have HEQD := Lib.hid heqd
  have HSAME := Lib.hid hsame
  clear hsame heqs heqd hsd hds hb heqH hx0 hB0 hb1 ho1 hy1 hb2 hz hxl hd3 hw3 hb3 hx hd hdl hq hxa hba hda hxl3 hd4 hw4 hm4 hx4 hw5 hb5
  refine wp_region_C (Same [w.heap.size, w2.heap.size, w3.heap.size] w5) [1, 3, 7, 14, 24, 27] (by kernel_rfl) (by kernel_rfl) (by intro c a w h; first | (obtain ⟨_, h, _⟩ := h; cases h; done) | (obtain ⟨_, _, h, _⟩ := h; cases h; done) | (obtain ⟨_, _, _, h, _⟩ := h; cases h; done) | (obtain ⟨_, _, _, _, h, _⟩ := h; cases h; done) | (rcases h with ⟨_, ⟨_, _, _, _, h, _⟩ | ⟨_, _, _, _, h, _⟩⟩ <;> cases h; done)) (by intro a w h; first | (obtain ⟨h, _⟩ := h; cases h; done) | (obtain ⟨_, h, _⟩ := h; cases h; done) | (obtain ⟨_, _, h, _⟩ := h; cases h; done) | (obtain ⟨_, _, _, h, _⟩ := h; cases h; done) | (rcases h with ⟨_, _, _, _, h, _⟩ | ⟨_, _, _, _, h, _⟩ <;> cases h; done)) (Same.refl _ _) ?_
  --MARK6
  repeat (refine wd_w (v := ?_) rfl rfl rfl rfl rfl rfl (fun w' hw' K hK => ?_) ?_; rotate_left; (have e1 := hw'.blk hx5 (by simp); go_wp2_with ((first | ((with_reducible apply st_load (n := 97) (cs := headC n r c s) (T := 26)); rfl; exact e1; exact Tryd.underlying26; rfl; exact headSize; (rw [HLEN.out]; exact Nat.le_refl _); (exact row_all _ _ HLEN.out)))); exact rfl); simp only [Act.put, List.setIfInBounds_toArray, List.set_cons_zero, List.set_cons_succ])
  refine wd_l rfl rfl (by intro a w h; first | (obtain ⟨h, _⟩ := h; cases h; done) | (obtain ⟨_, h, _⟩ := h; cases h; done) | (obtain ⟨_, _, h, _⟩ := h; cases h; done) | (obtain ⟨_, _, _, h, _⟩ := h; cases h; done) | (rcases h with ⟨_, _, _, _, h, _⟩ | ⟨_, _, _, _, h, _⟩ <;> cases h; done)) ?_
  go_wp2_with fail
  go_at_call 13
  refine (HHT2.out _).mono ?_
  rintro e w6 ⟨v6, rfl, hb6, ho6⟩
  obtain ⟨B6, d6, rfl, hy6, _⟩ := ho6.byt HTU.out
  have hS := hS0.below hb6 (fun gg hg => by simp at hg; have e7 : w5.drew.heap.size = w5.heap.size := rfl; omega)
  have hB := hB.trans (hb6.mono hB.size)
  have hs6 := hb6.size
  have hs56 : w5.heap.size ≤ w6.heap.size := hs6
  have hy := hy.up (((Below.refl w5.heap.size w5).drew).trans hb6)
  go_wp2_with fail
  refine ⟨.inr hS, ?_⟩
  repeat (refine wd_w (v := ?_) rfl rfl rfl rfl rfl rfl (fun w' hw' K hK => ?_) ?_; rotate_left; (skip; go_wp2_with (fail); exact rfl); simp only [Act.put, List.setIfInBounds_toArray, List.set_cons_zero, List.set_cons_succ])
  --MARK7
  refine wd_l rfl rfl (by intro a w h; first | (obtain ⟨h, _⟩ := h; cases h; done) | (obtain ⟨_, h, _⟩ := h; cases h; done) | (obtain ⟨_, _, h, _⟩ := h; cases h; done) | (obtain ⟨_, _, _, h, _⟩ := h; cases h; done) | (rcases h with ⟨_, _, _, _, h, _⟩ | ⟨_, _, _, _, h, _⟩ <;> cases h; done)) ?_
  go_wp2_with fail
  go_at_call 12
  refine (HSAME.out _ _ _ _ _ hy6 hy).mono ?_
  rintro e w7 ⟨rfl, hb7⟩
  have hS := hS.below hb7 (fun gg hg => by simp at hg; omega)
  have hB := hB.trans (hb7.mono hB.size)
  have hs67 := hb7.size
  go_wp2_with fail
  refine ⟨.inr hS, ?_⟩
  repeat (refine wd_wg (v := ?_) rfl rfl rfl rfl rfl rfl (fun w' hw' K hK => ?_) ?_; rotate_left; (have e1 := hw'.blk hx5 (by simp); go_wp2_with ((first | ((with_reducible apply st_load (n := 97) (cs := headC n r c s) (T := 26)); rfl; exact e1; exact Tryd.underlying26; rfl; exact headSize; (rw [HLEN.out]; exact Nat.le_refl _); (exact row_all _ _ HLEN.out)))); exact rfl); simp only [Act.put, List.setIfInBounds_toArray, List.set_cons_zero, List.set_cons_succ])
  --MARK8
  refine wd_lg rfl rfl (by intro a w h; first | (obtain ⟨h, _⟩ := h; cases h; done) | (obtain ⟨_, h, _⟩ := h; cases h; done) | (obtain ⟨_, _, h, _⟩ := h; cases h; done) | (obtain ⟨_, _, _, h, _⟩ := h; cases h; done) | (rcases h with ⟨_, _, _, _, h, _⟩ | ⟨_, _, _, _, h, _⟩ <;> cases h; done)) ?_
  go_wp2_with fail
  go_at_call 14
  refine (HSN.out _ (HKEY.out.up hB) (HK.out.up hB)).mono ?_
  rintro e w8 ⟨rfl, hb8⟩
  have hS := hS.below hb8 (fun gg hg => by simp at hg; omega)
  have hB := hB.trans (hb8.mono hB.size)
  have hs78 := hb8.size
  go_wp2_with fail
  refine ⟨.inr hS, ?_⟩
  --MARK9
  repeat (refine wd_wg (v := ?_) rfl rfl rfl rfl rfl rfl (fun w' hw' K hK => ?_) ?_; rotate_left; (have e1 := hw'.blk hd5 (by simp); have e2 := HEQH.out; go_wp2_with ((first | ((with_reducible apply st_load (n := 97) (cs := headC n r c m) (T := 26)); rfl; exact e1; exact Tryd.underlying26; rfl; exact headSize; (rw [HLEM.out]; exact Nat.le_refl _); (exact row_all _ _ HLEM.out)))); exact rfl); simp only [Act.put, List.setIfInBounds_toArray, List.set_cons_zero, List.set_cons_succ])
  --MARK10
  refine wd_pick (b := true) (v := .bool true) rfl rfl rfl rfl rfl ?_
  simp only [Act.put, List.setIfInBounds_toArray, List.set_cons_zero, List.set_cons_succ]
  repeat (refine wd_wg (v := ?_) rfl rfl rfl rfl rfl rfl (fun w' hw' K hK => ?_) ?_; rotate_left; (have e1 := hw'.blk hx5 (by simp); go_wp2_with ((first | ((with_reducible apply st_load (n := 97) (cs := headC n r c s) (T := 26)); rfl; exact e1; exact Tryd.underlying26; rfl; exact headSize; (rw [HLEN.out]; exact Nat.le_refl _); (exact row_all _ _ HLEN.out)))); exact rfl); simp only [Act.put, List.setIfInBounds_toArray, List.set_cons_zero, List.set_cons_succ])
  --MARK11
  refine wd_lg rfl rfl (by intro a w h; first | (obtain ⟨h, _⟩ := h; cases h; done) | (obtain ⟨_, h, _⟩ := h; cases h; done) | (obtain ⟨_, _, h, _⟩ := h; cases h; done) | (obtain ⟨_, _, _, h, _⟩ := h; cases h; done) | (rcases h with ⟨_, _, _, _, h, _⟩ | ⟨_, _, _, _, h, _⟩ <;> cases h; done)) ?_
  go_wp2_with fail
  go_at_call 15
  refine (HSDb.out _ (HKEY.out.up hB) (HK.out.up hB)).mono ?_
  rintro e w9 ⟨rfl, hb9⟩
  have hS := hS.below hb9 (fun gg hg => by simp at hg; omega)
  have hB := hB.trans (hb9.mono hB.size)
  have hs89 := hb9.size
  go_wp2_with fail
  refine ⟨.inr hS, ?_⟩
  --MARK12
  repeat (refine wd_wg (v := ?_) rfl rfl rfl rfl rfl rfl (fun w' hw' K hK => ?_) ?_; rotate_left; (have e1 := hw'.blk hx5 (by simp); have e2 := hw'.blk hm5 (by simp); have e4 := HEQD.out; have e3 := cell_sign e1 HRC.out.1 HRC.out.2; go_wp2_with ((first | ((with_reducible apply st_loadCells (cs := nums .u8 (s))); rfl; exact e3; exact Tryd.underlying24; rfl; (rw [nums_length, HSL.out]; kernel_rfl)) | ((with_reducible apply st_load (n := 32) (cs := nums .u8 (m)) (T := 24)); rfl; exact e2; exact Tryd.underlying24; rfl; kernel_rfl; (rw [nums_length, HML.out]; exact Nat.le_refl _); (exact row_all _ _ (by rw [nums_length, HML.out]))))); exact rfl); simp only [Act.put, List.setIfInBounds_toArray, List.set_cons_zero, List.set_cons_succ])
  --MARK13
  refine wd_pick (b := true) (v := .bool true) rfl rfl rfl rfl rfl ?_
  simp only [Act.put, List.setIfInBounds_toArray, List.set_cons_zero, List.set_cons_succ]
  repeat (refine wd_wg (v := ?_) rfl rfl rfl rfl rfl rfl (fun w' hw' K hK => ?_) ?_; rotate_left; (have e1 := hw'.blk hd5 (by simp); go_wp2_with ((first | ((with_reducible apply st_load (n := 97) (cs := headC n r c m) (T := 26)); rfl; exact e1; exact Tryd.underlying26; rfl; exact headSize; (rw [HLEM.out]; exact Nat.le_refl _); (exact row_all _ _ HLEM.out)))); exact rfl); simp only [Act.put, List.setIfInBounds_toArray, List.set_cons_zero, List.set_cons_succ])
  --MARK14
  refine wd_lg rfl rfl (by intro a w h; first | (obtain ⟨h, _⟩ := h; cases h; done) | (obtain ⟨_, h, _⟩ := h; cases h; done) | (obtain ⟨_, _, h, _⟩ := h; cases h; done) | (obtain ⟨_, _, _, h, _⟩ := h; cases h; done) | (rcases h with ⟨_, _, _, _, h, _⟩ | ⟨_, _, _, _, h, _⟩ <;> cases h; done)) ?_
  go_wp2_with fail
  go_at_call 15
  refine (HSD2.out _ (HKEY.out.up hB) (HK.out.up hB)).mono ?_
  rintro e w10 ⟨rfl, hb10⟩
  have hS := hS.below hb10 (fun gg hg => by simp at hg; omega)
  have hB := hB.trans (hb10.mono hB.size)
  have hs910 := hb10.size
  go_wp2_with fail
  refine ⟨.inr hS, ?_⟩
  refine wd_pick (b := true) (v := .bool true) rfl rfl rfl rfl rfl ?_
  simp only [Act.put, List.setIfInBounds_toArray, List.set_cons_zero, List.set_cons_succ]
  repeat (refine wd_wg (v := ?_) rfl rfl rfl rfl rfl rfl (fun w' hw' K hK => ?_) ?_; rotate_left; (skip; go_wp2_with (fail); exact rfl); simp only [Act.put, List.setIfInBounds_toArray, List.set_cons_zero, List.set_cons_succ])
  --MARK15
  refine wd_lg rfl rfl (by intro a w h; first | (obtain ⟨h, _⟩ := h; cases h; done) | (obtain ⟨_, h, _⟩ := h; cases h; done) | (obtain ⟨_, _, h, _⟩ := h; cases h; done) | (obtain ⟨_, _, _, h, _⟩ := h; cases h; done) | (rcases h with ⟨_, _, _, _, h, _⟩ | ⟨_, _, _, _, h, _⟩ <;> cases h; done)) ?_
  go_wp2_with fail
  go_at_call 16
  refine (lives21_any _ (HK.out.up hB)).mono ?_
  rintro e w11 ⟨rfl, hb11⟩
  have hS := hS.below hb11 (fun gg hg => by simp at hg; omega)
  have hB := hB.trans (hb11.mono hB.size)
  go_wp2_with fail
  refine ⟨.inr hS, ?_⟩
  refine wd_pick (b := true) (v := .bool true) rfl rfl rfl rfl rfl ?_
  simp only [Act.put, List.setIfInBounds_toArray, List.set_cons_zero, List.set_cons_succ]
  repeat (refine wd_wg (v := ?_) rfl rfl rfl rfl rfl rfl (fun w' hw' K hK => ?_) ?_; rotate_left; (skip; go_wp2_with (fail); exact rfl); simp only [Act.put, List.setIfInBounds_toArray, List.set_cons_zero, List.set_cons_succ])
  refine wd_nil ?_
  go_wp2_with fail
  go_ret
  exact ⟨rfl, hB⟩

end Go.Proofs.YtancldhincaphaaDoor
