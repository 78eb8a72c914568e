/- What ledger.Sign and ledger.Signed answer. Condition: the table of layer 2 reads as its text lays it. -/
import Derived.Test.YtancldhincaphaaDoorLedT
import Derived.Test.YtancldhincaphaaDoorGf
namespace Go.Proofs.YtancldhincaphaaDoor
open Go.RowKit
set_option maxRecDepth 100000

theorem headSize : (Tryd.prog.info? 26).map (·.size) = some 97 := by kernel_rfl
theorem headC_len {n : Int} {r c s : List Int} (hr : r.length = 32) (hc : c.length = 32) (hs : s.length = 32) : (headC n r c s).length = 97 := by simp [headC, nums_length, hr, hc, hs]
theorem headC_one (n : Int) (r c s : List Int) : ∀ v ∈ headC n r c s, v.oneCell' = true := by
  intro v hv
  simp only [headC, List.mem_cons, List.mem_append] at hv
  rcases hv with rfl | hv | hv | hv
  · rfl
  · exact nums_one _ _ v hv
  · exact nums_one _ _ v hv
  · exact nums_one _ _ v hv
theorem headC_sign {n : Int} {r c s d : List Int} (hr : r.length = 32) (hc : c.length = 32) (hs : s.length = 32) (hd : d.length = 32) : laid (headC n r c s) 65 (nums .u8 d) = headC n r c d := by
  unfold laid headC
  have h1 : (nums .u8 r).length = 32 := by rw [nums_length, hr]
  have h2 : (nums .u8 c).length = 32 := by rw [nums_length, hc]
  have h3 : (nums .u8 s).length = 32 := by rw [nums_length, hs]
  rw [show (65 : Nat) = 64 + 1 from rfl, List.take_succ_cons, ← List.append_assoc (nums .u8 r), List.take_append_of_le_length (by simp [h1, h2]), List.take_of_length_le (by simp [h1, h2]), List.drop_eq_nil_of_le (by simp [h1, h2, h3, nums_length, hd])]
  simp [List.append_assoc]
def zd : List Int := List.replicate 32 0

set_option maxRecDepth 100000 in
set_option maxHeartbeats 8000000 in
theorem sign_any (w : World) (key : List Int) (A : Option Addr) (ck : Nat) (hk0 : Byt w A ck key) (hkl : key.length ≤ 1000) (n : Int) (r c s : List Int) (hr : r.length = 32) (hc : c.length = 32) (hs : s.length = 32) (ur : U8 r) (uc : U8 c) (hk : KV w) :
    Calls Tryd.prog 14 #[.slice A key.length ck, .agg (headC n r c s).toArray] w fun e w' => e = .returned (.agg (headC n r c (macF key (headT n r c))).toArray) ∧ Below w.heap.size w w' := by
  obtain ⟨w0, hw0⟩ : ∃ W, W = (w.alloc (.cells (headC n r c s).toArray 26)).alloc (.cells (headC 0 zd zd zd).toArray 26) := ⟨_, rfl⟩
  have hx0 : Blk w0 w.heap.size (headC n r c s) 26 := by rw [hw0]; exact (Blk.new' _ _ _ _ _ rfl rfl).alloc _
  have hr0 : Blk w0 (w.heap.size + 1) (headC 0 zd zd zd) 26 := by rw [hw0]; exact Blk.new' _ _ _ _ _ rfl (by simp)
  have hB0 : Below w.heap.size w w0 := by rw [hw0]; exact ((Below.refl _ _).alloc (Nat.le_refl _) _).alloc (by simp) _
  have hlen := fun (x : List Int) (h : x.length = 32) => headC_len (n := n) (s := x) hr hc h
  have hml := macF_len key (headT n r c)
  have htl := headT_len n r c hr hc
  have hsg := fun (d : List Int) (h : d.length = 32) => headC_sign (n := n) hr hc hs h
  have hht := fun (w : World) => headtext_any w n r c s hr hc
  have htu := headT_u8 n r c ur uc
  obtain ⟨T, hT⟩ : ∃ T, T = headT n r c := ⟨_, rfl⟩
  rw [← hT] at hml htl hht htu ⊢
  have hmac := fun (w : World) (h1 : Byt w A ck key) (B : Option Addr) (d : Nat) (h2 : Byt w B d T) => mac_any w key A ck h1.rd h1.le h1.nn (by omega) T B d h2.rd h2.le h2.nn (by omega)
  obtain ⟨m, hm⟩ : ∃ m, m = macF key T := ⟨_, rfl⟩
  rw [← hm] at hml hmac ⊢
  have HW0 := Lib.hid hw0
  have HLEN := Lib.hid (hlen s hs)
  have HLEM := Lib.hid (hlen m hml)
  have HSG := Lib.hid (hsg m hml)
  have HML := Lib.hid hml
  have HHT := Lib.hid hht
  have HTU := Lib.hid htu
  have HMAC := Lib.hid hmac
  have HKEY := Lib.hid hk0
  have HK := Lib.hid hk
  clear hw0 hlen hml htl hsg hht htu hT hmac hm hk0 hk hr hc hs ur uc
  go_enter Tryd.func14, Tryd.ntmps14
  go_upto_region 1 with (fail)
  --MARK0
  refine named_world ?_
  intro wq hwq
  have e : w0 = wq := by rw [hwq, HW0.out]; rfl
  clear hwq
  subst e
  go_wp2_with ((with_reducible apply st_load (n := 97) (cs := headC n r c s) (T := 26)); rfl; exact hx0; exact Tryd.underlying26; rfl; exact headSize; (rw [HLEN.out]; exact Nat.le_refl _); (exact row_all _ _ HLEN.out))
  --MARK1
  go_at_call 13
  refine (HHT.out w0).mono ?_
  rintro e w1 ⟨v1, rfl, hb1, ho1⟩
  obtain ⟨B1, d1, rfl, hy1, _⟩ := ho1.byt HTU.out
  have hB := hB0.trans (hb1.mono hB0.size)
  have hx := hx0.up hb1
  have hz := hr0.up hb1
  go_wp2_with fail
  go_at_call 42
  refine (HMAC.out w1 (HKEY.out.up hB) _ _ hy1 (HK.out.below hB HK.out.lt)).mono ?_
  rintro e w2 ⟨rfl, hb2⟩
  have hB := hB.trans (hb2.mono hB.size)
  have hx := hx.up hb2
  have hz := hz.up hb2
  --MARK2
  go_wp2_with (first | ((with_reducible apply st_storeW (off := 65) (vs := nums .u8 m) (cs := headC n r c s) (T := 26)); rfl; rfl; exact hx; (rw [nums_length, HML.out]; kernel_rfl); (rw [nums_length, HML.out, HLEN.out]; decide); exact nums_one _ _; intro w3 hd3 hw3; rw [HSG.out] at hd3; have hz3 := hw3.blk hz (by omega)) | ((with_reducible apply st_load (n := 97) (cs := headC n r c m) (T := 26)); rfl; exact hd3; exact Tryd.underlying26; rfl; exact headSize; (rw [HLEM.out]; exact Nat.le_refl _); (exact row_all _ _ HLEM.out)) | ((with_reducible apply st_storeW (off := 0) (vs := headC n r c m) (cs := headC 0 zd zd zd) (T := 26)); rfl; rfl; exact hz3; (rw [HLEM.out]; exact headSize); (rw [HLEM.out, headC_len rfl rfl rfl]; decide); exact headC_one _ _ _ _; intro w4 hd4 hw4; rw [laid_all _ _ (by rw [HLEM.out, headC_len rfl rfl rfl])] at hd4))
  --MARK3
  refine bodyPost_ret (ret_row rfl _ _ _ (headC n r c m) 26 _ rfl hd4 Tryd.underlying26 rfl (by rw [HLEM.out]; exact headSize)) rfl ⟨rfl, Wrote.below (Wrote.below hB hw3 (Nat.le_refl _)) hw4 (by omega)⟩

set_option maxRecDepth 100000 in
set_option maxHeartbeats 8000000 in
theorem signed_any (w : World) (key : List Int) (A : Option Addr) (ck : Nat) (hk0 : Byt w A ck key) (hkl : key.length ≤ 1000) (n : Int) (r c s : List Int) (hr : r.length = 32) (hc : c.length = 32) (hs : s.length = 32) (ur : U8 r) (uc : U8 c) (us : U8 s) (hk : KV w) :
    Calls Tryd.prog 15 #[.slice A key.length ck, .agg (headC n r c s).toArray] w fun e w' => e = .returned (.bool (decide (macF key (headT n r c) = s))) ∧ Below w.heap.size w w' := by
  obtain ⟨w0, hw0⟩ : ∃ W, W = w.alloc (.cells (headC n r c s).toArray 26) := ⟨_, rfl⟩
  have hx0 : Blk w0 w.heap.size (headC n r c s) 26 := by rw [hw0]; exact Blk.new' _ _ _ _ _ rfl rfl
  have hB0 : Below w.heap.size w w0 := by rw [hw0]; exact (Below.refl _ _).alloc (Nat.le_refl _) _
  have hlen := headC_len (n := n) hr hc hs
  have htl := headT_len n r c hr hc
  have hht := fun (w : World) => headtext_any w n r c s hr hc
  have htu := headT_u8 n r c ur uc
  obtain ⟨T, hT⟩ : ∃ T, T = headT n r c := ⟨_, rfl⟩
  rw [← hT] at htl hht htu ⊢
  have hmac := fun (w : World) (h1 : Byt w A ck key) (B D : Option Addr) (d e : Nat) (h2 : Byt w B d T) (h3 : Rd w D (nums .u8 s)) => maccheck_any w key A ck h1.rd h1.le h1.nn (by omega) T B d h2.rd h2.le h2.nn (by omega) s D e h3 (by omega) us
  have HRS := Lib.hid (And.intro hr hc)
  have HW0 := Lib.hid hw0
  have HLEN := Lib.hid hlen
  have HHT := Lib.hid hht
  have HTU := Lib.hid htu
  have HMAC := Lib.hid hmac
  have HKEY := Lib.hid hk0
  have HK := Lib.hid hk
  have HSL := Lib.hid hs
  have hx0l := hx0.lt
  clear hw0 hlen htl hht htu hT hmac hk0 hk hr hc hs ur uc
  go_enter Tryd.func15, Tryd.ntmps15
  go_upto_region 1 with (fail)
  rw [← HW0.out]
  --MARK4
  refine wp_region_C (Same [w.heap.size] w0) [2, 5] (by kernel_rfl) (by kernel_rfl) (by intro c a w h; first | (obtain ⟨_, h, _⟩ := h; cases h; done) | (obtain ⟨_, _, h, _⟩ := h; cases h; done) | (obtain ⟨_, _, _, h, _⟩ := h; cases h; done) | (obtain ⟨_, _, _, _, h, _⟩ := h; cases h; done) | (rcases h with ⟨_, ⟨_, _, _, _, h, _⟩ | ⟨_, _, _, _, h, _⟩⟩ <;> cases h; done)) (by intro a w h; first | (obtain ⟨h, _⟩ := h; cases h; done) | (obtain ⟨_, h, _⟩ := h; cases h; done) | (obtain ⟨_, _, h, _⟩ := h; cases h; done) | (obtain ⟨_, _, _, h, _⟩ := h; cases h; done) | (rcases h with ⟨_, _, _, _, h, _⟩ | ⟨_, _, _, _, h, _⟩ <;> cases h; done)) (Same.refl _ _) ?_
  repeat (refine wd_w (v := ?_) rfl rfl rfl rfl rfl rfl (fun w' hw' K hK => ?_) ?_; rotate_left; (have e1 := hw'.blk hx0 (by simp); go_wp2_with (((with_reducible apply st_load (n := 97) (cs := headC n r c s) (T := 26)); rfl; exact e1; exact Tryd.underlying26; rfl; exact headSize; (rw [HLEN.out]; exact Nat.le_refl _); (exact row_all _ _ HLEN.out))); exact rfl); simp only [Act.put, List.setIfInBounds_toArray, List.set_cons_zero, List.set_cons_succ])
  have hB := hB0.drew
  refine wd_l rfl rfl (by intro a w h; first | (obtain ⟨h, _⟩ := h; cases h; done) | (obtain ⟨_, h, _⟩ := h; cases h; done) | (obtain ⟨_, _, h, _⟩ := h; cases h; done) | (obtain ⟨_, _, _, h, _⟩ := h; cases h; done) | (rcases h with ⟨_, _, _, _, h, _⟩ | ⟨_, _, _, _, h, _⟩ <;> cases h; done)) ?_
  go_wp2_with fail
  go_at_call 13
  refine (HHT.out _).mono ?_
  rintro e w1 ⟨v1, rfl, hb, ho1⟩
  have hB := hB.trans (hb.mono hB.size)
  obtain ⟨B1, d1, rfl, hy1, _⟩ := ho1.byt HTU.out
  have hx := hx0.drew.up hb
  go_wp2_with fail
  refine ⟨.inr (fun gg hg => hb.block gg (by simp at hg; have : w0.drew.heap.size = w0.heap.size := rfl; omega)), ?_⟩
  repeat (refine wd_w (v := ?_) rfl rfl rfl rfl rfl rfl (fun w' hw' K hK => ?_) ?_; rotate_left; (skip; go_wp2_with (((with_reducible apply st_allArr); exact Tryd.underlying24; kernel_rfl; rfl)); exact rfl); simp only [Act.put, List.setIfInBounds_toArray, List.set_cons_zero, List.set_cons_succ])
  --MARK5
  refine wd_l rfl rfl (by intro a w h; first | (obtain ⟨h, _⟩ := h; cases h; done) | (obtain ⟨_, h, _⟩ := h; cases h; done) | (obtain ⟨_, _, h, _⟩ := h; cases h; done) | (obtain ⟨_, _, _, h, _⟩ := h; cases h; done) | (rcases h with ⟨_, _, _, _, h, _⟩ | ⟨_, _, _, _, h, _⟩ <;> cases h; done)) ?_
  go_wp2_with fail
  go_at_call 43
  have hcall := HMAC.out w1 (HKEY.out.up hB) B1 (some ⟨w.heap.size, 65, none⟩) d1 32 hy1 (rd_sign hx HRS.out.1 HRS.out.2) (HK.out.below hB HK.out.lt)
  rw [HSL.out] at hcall
  refine hcall.mono ?_
  clear hcall
  rintro e w2 ⟨rfl, hb2⟩
  have hB := hB.trans (hb2.mono hB.size)
  have hz1 := hb.size
  go_wp2_with fail
  refine ⟨.inr (fun gg hg => (hb2.block gg (by simp at hg; have : w0.drew.heap.size = w0.heap.size := rfl; omega)).trans (hb.block gg (by simp at hg; have : w0.drew.heap.size = w0.heap.size := rfl; omega))), ?_⟩
  repeat (refine wd_q (v := ?_) rfl rfl rfl rfl rfl rfl (fun w' hw' K hK => ?_) ?_; rotate_left; (skip; go_wp2; exact rfl); simp only [Act.put, List.setIfInBounds_toArray, List.set_cons_zero, List.set_cons_succ])
  refine wd_nil ?_
  go_wp2_with fail
  go_ret
  exact ⟨rfl, hB⟩

end Go.Proofs.YtancldhincaphaaDoor
