/- What the reference's Open of layer 5 answers. No condition but lengths. -/
import Derived.Test.YtmfccnkjnkmgiaaDoorTokC
namespace Go.Proofs.YtmfccnkjnkmgiaaDoor
open Go.RowKit Go.Proofs.YtmfccnkjnkmgiaaDoor.Pure

theorem claimR_none (s : ByteArray) (h : readF s = none) : claimR s = ((⟨#[]⟩, 0), 4) := by unfold claimR; rw [h]
theorem claimR_some (s : ByteArray) (a : ByteArray) (n : Int) (l : List Int) (h : readF s = some (a, n, l)) : claimR s = ((a, n), 0) := by unfold claimR; rw [h]
theorem toList_eq (a b : ByteArray) : a.toList = b.toList ↔ a = b := by
  constructor
  · intro h; apply strL_inj; rw [strL_data, strL_data, ← toList_data, ← toList_data, h]
  · rintro rfl; rfl

set_option maxHeartbeats 4000000 in
theorem refopen_any (w : World) (key : List Int) (A : Option Addr) (c : Nat) (hkb : Byt w A c key) (hkl : key.length ≤ 1000) (s : ByteArray) (hs : s.size ≤ 300) (now : Int) :
    Calls Tryd.prog 19 #[.slice A key.length c, .string s, .int .i64 now] w (GivesP (openR key s now) w) := by
  have hr := fun w => refclaim_any w s hs
  have hB0 : Below w.heap.size w (w.alloc (.cells (passC ⟨#[]⟩ 0).toArray 35)) := (Below.refl _ _).alloc (Nat.le_refl _) _
  have hp0 : Blk (w.alloc (.cells (passC ⟨#[]⟩ 0).toArray 35)) w.heap.size (passC ⟨#[]⟩ 0) 35 := Blk.new' _ _ _ _ _ rfl rfl
  cases hF : readF s with
  | none =>
    rw [openR_none key s now hF]
    rw [claimR_none s hF] at hr
    have HR := Lib.hid hr
    clear hr hF
    go_enter Tryd.func19, Tryd.ntmps19
    go_wp2_with fail
    go_at_call 21
    refine (HR.out _).mono ?_
    rintro e w1 ⟨rfl, hb1⟩
    have hB := hB0.trans (hb1.mono hB0.size)
    have hp := hp0.up hb1
    have hq0 : Blk (w1.alloc (.cells (passC ⟨#[]⟩ 0).toArray 35)) w1.heap.size (passC ⟨#[]⟩ 0) 35 := Blk.new' _ _ _ _ _ rfl rfl
    have hpl := hp.lt
    clear hB0 hp0
    go_wp2_with (first | (((with_reducible apply st_storeW (off := 0) (vs := passC ⟨#[]⟩ 0) (cs := passC ⟨#[]⟩ 0) (T := 35)); rfl; rfl; exact hq0; exact passSize; (simp [passC]); exact passC_one _ _; intro w2 hd2 hw2; rw [laid_all _ _ (by rfl)] at hd2); have hp2 := hw2.blk (hp.alloc _) (by omega); have hB2 := Wrote.below (hB.alloc hB.size _) hw2 hB.size) | ((with_reducible apply st_load (n := 2) (cs := passC ⟨#[]⟩ 0) (T := 35)); rfl; exact hd2; exact Tryd.underlying35; rfl; exact passSize; (exact Nat.le_refl 2); (exact row_all _ _ rfl)) | ((with_reducible apply st_storeW (off := 0) (vs := passC ⟨#[]⟩ 0) (cs := passC ⟨#[]⟩ 0) (T := 35)); rfl; rfl; exact hp2; exact passSize; (simp [passC]); exact passC_one _ _; intro w3 hd3 hw3; rw [laid_all _ _ (by rfl)] at hd3))
    refine bodyPost_ret (ret_row_tmp rfl _ _ _ (passC ⟨#[]⟩ 0) 35 _ rfl hd3 Tryd.underlying35 rfl (by exact passSize)) rfl (⟨rfl, Wrote.below hB2 hw3 (Nat.le_refl _)⟩)
  | some x =>
    obtain ⟨a, n, l⟩ := x
    obtain ⟨f1, f2, f3, f4, f5, f6⟩ := readF_out s a n l hF
    have hte := tok_eq key s a n l hF
    rw [openR_some key s now a n l hF]
    rw [claimR_some s a n l hF] at hr
    have ha16 := nameB_size a f2
    have hcl := fun (w : World) (h : Byt w A c key) => reftext_any w key A c h hkl a (by omega) n (by omega) (by omega)
    obtain ⟨T, hT⟩ : ∃ T, T = tokS key a n := ⟨_, rfl⟩
    rw [← hT] at hcl hte
    have HT := Lib.hid hcl
    have HKB := Lib.hid hkb
    have HR := Lib.hid hr
    have HTE := Lib.hid hte
    clear hr hF hcl hT hkb f1 f6 f2 f5 hte
    by_cases hm : macF key (strL (claimS a n)) = l
    · rw [if_pos hm]
      have hq : (T.toList == s.toList) = true := by simpa using (toList_eq T s).2 (HTE.out.2 hm)
      clear hm HTE
      by_cases hnow : n ≤ now
      · rw [if_pos hnow]
        go_enter Tryd.func19, Tryd.ntmps19
        go_wp2_with fail
        go_at_call 21
        refine (HR.out _).mono ?_
        rintro e w1 ⟨rfl, hb1⟩
        have hB := hB0.trans (hb1.mono hB0.size)
        have hp := hp0.up hb1
        have hq0 : Blk (w1.alloc (.cells (passC ⟨#[]⟩ 0).toArray 35)) w1.heap.size (passC ⟨#[]⟩ 0) 35 := Blk.new' _ _ _ _ _ rfl rfl
        have hpl := hp.lt
        clear hB0 hp0
        go_wp2_with (((with_reducible apply st_storeW (off := 0) (vs := passC a n) (cs := passC ⟨#[]⟩ 0) (T := 35)); rfl; rfl; exact hq0; exact passSize; (simp [passC]); exact passC_one _ _; intro w2 hd2 hw2; rw [laid_all _ _ (by rfl)] at hd2); have hp2 := hw2.blk (hp.alloc _) (by omega); have hB2 := Wrote.below (hB.alloc hB.size _) hw2 hB.size; have hc0 := hd2.cell 0; have hc1 := hd2.cell 1; simp only [passC, List.getElem?_cons_zero, List.getElem?_cons_succ] at hc0 hc1)
        go_at_call 18
        refine (HT.out _ (HKB.out.up hB2)).mono ?_
        rintro e w3 ⟨rfl, hb3⟩
        have hB3 := hB2.trans (hb3.mono hB2.size)
        have hp3 := hp2.up hb3
        have hq3 := hd2.up hb3
        have hn3 := hq3.cell 1
        simp only [passC, List.getElem?_cons_zero, List.getElem?_cons_succ] at hn3
        go_wp2_with ((with_reducible apply st_storeW (off := 0) (vs := passC ⟨#[]⟩ 0) (cs := passC ⟨#[]⟩ 0) (T := 35)); rfl; rfl; exact hp3; exact passSize; (simp [passC]); exact passC_one _ _; intro w6 hd6 hw6; rw [laid_all _ _ (by rfl)] at hd6)
        refine bodyPost_ret (ret_row_tmp rfl _ _ _ (passC ⟨#[]⟩ 0) 35 _ rfl hd6 Tryd.underlying35 rfl (by exact passSize)) rfl (⟨rfl, Wrote.below hB3 hw6 (Nat.le_refl _)⟩)
      · rw [if_neg hnow]
        go_enter Tryd.func19, Tryd.ntmps19
        go_wp2_with fail
        go_at_call 21
        refine (HR.out _).mono ?_
        rintro e w1 ⟨rfl, hb1⟩
        have hB := hB0.trans (hb1.mono hB0.size)
        have hp := hp0.up hb1
        have hq0 : Blk (w1.alloc (.cells (passC ⟨#[]⟩ 0).toArray 35)) w1.heap.size (passC ⟨#[]⟩ 0) 35 := Blk.new' _ _ _ _ _ rfl rfl
        have hpl := hp.lt
        clear hB0 hp0
        go_wp2_with (((with_reducible apply st_storeW (off := 0) (vs := passC a n) (cs := passC ⟨#[]⟩ 0) (T := 35)); rfl; rfl; exact hq0; exact passSize; (simp [passC]); exact passC_one _ _; intro w2 hd2 hw2; rw [laid_all _ _ (by rfl)] at hd2); have hp2 := hw2.blk (hp.alloc _) (by omega); have hB2 := Wrote.below (hB.alloc hB.size _) hw2 hB.size; have hc0 := hd2.cell 0; have hc1 := hd2.cell 1; simp only [passC, List.getElem?_cons_zero, List.getElem?_cons_succ] at hc0 hc1)
        go_at_call 18
        refine (HT.out _ (HKB.out.up hB2)).mono ?_
        rintro e w3 ⟨rfl, hb3⟩
        have hB3 := hB2.trans (hb3.mono hB2.size)
        have hp3 := hp2.up hb3
        have hq3 := hd2.up hb3
        have hn3 := hq3.cell 1
        simp only [passC, List.getElem?_cons_zero, List.getElem?_cons_succ] at hn3
        go_wp2_with (first | ((with_reducible apply st_load (n := 2) (cs := passC a n) (T := 35)); rfl; exact hq3; exact Tryd.underlying35; rfl; exact passSize; (exact Nat.le_refl 2); (exact row_all _ _ rfl)) | ((with_reducible apply st_storeW (off := 0) (vs := passC a n) (cs := passC ⟨#[]⟩ 0) (T := 35)); rfl; rfl; exact hp3; exact passSize; (simp [passC]); exact passC_one _ _; intro w6 hd6 hw6; rw [laid_all _ _ (by rfl)] at hd6))
        refine bodyPost_ret (ret_row_tmp rfl _ _ _ (passC a n) 35 _ rfl hd6 Tryd.underlying35 rfl (by exact passSize)) rfl (⟨rfl, Wrote.below hB3 hw6 (Nat.le_refl _)⟩)
    · rw [if_neg hm]
      have hq : (T.toList == s.toList) = false := by
        rw [Bool.eq_false_iff]; intro h; exact hm (HTE.out.1 ((toList_eq T s).1 (by simpa using h)))
      clear hm HTE
      go_enter Tryd.func19, Tryd.ntmps19
      go_wp2_with fail
      go_at_call 21
      refine (HR.out _).mono ?_
      rintro e w1 ⟨rfl, hb1⟩
      have hB := hB0.trans (hb1.mono hB0.size)
      have hp := hp0.up hb1
      have hq0 : Blk (w1.alloc (.cells (passC ⟨#[]⟩ 0).toArray 35)) w1.heap.size (passC ⟨#[]⟩ 0) 35 := Blk.new' _ _ _ _ _ rfl rfl
      have hpl := hp.lt
      clear hB0 hp0
      go_wp2_with (((with_reducible apply st_storeW (off := 0) (vs := passC a n) (cs := passC ⟨#[]⟩ 0) (T := 35)); rfl; rfl; exact hq0; exact passSize; (simp [passC]); exact passC_one _ _; intro w2 hd2 hw2; rw [laid_all _ _ (by rfl)] at hd2); have hp2 := hw2.blk (hp.alloc _) (by omega); have hB2 := Wrote.below (hB.alloc hB.size _) hw2 hB.size; have hc0 := hd2.cell 0; have hc1 := hd2.cell 1; simp only [passC, List.getElem?_cons_zero, List.getElem?_cons_succ] at hc0 hc1)
      go_at_call 18
      refine (HT.out _ (HKB.out.up hB2)).mono ?_
      rintro e w3 ⟨rfl, hb3⟩
      have hB3 := hB2.trans (hb3.mono hB2.size)
      have hp3 := hp2.up hb3
      have hq3 := hd2.up hb3
      have hn3 := hq3.cell 1
      simp only [passC, List.getElem?_cons_zero, List.getElem?_cons_succ] at hn3
      go_wp2_with ((with_reducible apply st_storeW (off := 0) (vs := passC ⟨#[]⟩ 0) (cs := passC ⟨#[]⟩ 0) (T := 35)); rfl; rfl; exact hp3; exact passSize; (simp [passC]); exact passC_one _ _; intro w6 hd6 hw6; rw [laid_all _ _ (by rfl)] at hd6)
      refine bodyPost_ret (ret_row_tmp rfl _ _ _ (passC ⟨#[]⟩ 0) 35 _ rfl hd6 Tryd.underlying35 rfl (by exact passSize)) rfl (⟨rfl, Wrote.below hB3 hw6 (Nat.le_refl _)⟩)

end Go.Proofs.YtmfccnkjnkmgiaaDoor
