/- That inquestlaw05.TokenTimes returns true. Condition: the table of layer 2 reads as its text lays it. -/
import Derived.Test.YtmfccnkjnkmgiaaDoorLawOpens
namespace Go.Proofs.YtmfccnkjnkmgiaaDoor
open Go.RowKit Go.Proofs.YtmfccnkjnkmgiaaDoor.Pure

theorem times_law (key : List Int) (s : ByteArray) (lo hi : Int) (hlh : lo ≤ hi) :
    (∃ e : Int, (e = 4 ∨ e = 7 ∨ e = 8) ∧ openR key s lo = ((⟨#[]⟩, 0), e) ∧ openR key s hi = ((⟨#[]⟩, 0), e)) ∨
    (∃ a n, openR key s lo = ((a, n), 0) ∧ openR key s hi = ((⟨#[]⟩, 0), 8) ∧ lo < n ∧ n ≤ hi) ∨
    (∃ a n, openR key s lo = ((a, n), 0) ∧ openR key s hi = ((a, n), 0)) := by
  cases hF : readF s with
  | none => exact Or.inl ⟨4, by simp, openR_none key s lo hF, openR_none key s hi hF⟩
  | some x =>
    obtain ⟨a, n, l⟩ := x
    rw [openR_some key s lo a n l hF, openR_some key s hi a n l hF]
    by_cases hm : macF key (strL (claimS a n)) = l
    · rw [if_pos hm, if_pos hm]
      by_cases hn : n ≤ lo
      · rw [if_pos hn, if_pos (by omega)]; exact Or.inl ⟨8, by simp, rfl, rfl⟩
      · rw [if_neg hn]
        by_cases hn2 : n ≤ hi
        · rw [if_pos hn2]; exact Or.inr (Or.inl ⟨a, n, rfl, rfl, by omega, hn2⟩)
        · rw [if_neg hn2]; exact Or.inr (Or.inr ⟨a, n, rfl, rfl⟩)
    · rw [if_neg hm, if_neg hm]; exact Or.inl ⟨7, by simp, rfl, rfl⟩

set_option maxHeartbeats 8000000 in
theorem lawtimes_any (w : World) (bs0 : List Int) (A : Option Addr) (c : Nat) (hr : Rd w A (nums .u8 bs0)) (hc : bs0.length ≤ c) (hA : A = none → c = 0) (hu : U8 bs0) (s0 : ByteArray) (ta tb : Int) (hk : KV w) :
    Calls Tryd.prog 6 #[.slice A bs0.length c, .string s0, .int .i64 ta, .int .i64 tb] w fun e w' => e = .returned (.bool true) ∧ Below w.heap.size w w' := by
  obtain ⟨bs, hbl, _, hK, HCUT1⟩ := (Byt.mk hr hc hA hu).cut 300 300 rfl
  obtain ⟨s, hsl, HCUT2⟩ := cut4 s0
  have hc0 := fun (now : Int) (w : World) (h : Byt w A c bs) => open_any w bs A c h (by omega) s hsl now
  have HK := Lib.hid hk
  have HKB := Lib.hid hK
  clear hk hr hc hA hu hK
  by_cases hsw : tb < ta
  · rcases times_law bs s tb ta (by omega) with ⟨en, he, h1, h2⟩ | ⟨a, n, h1, h2, hlo, hhi⟩ | ⟨a, n, h1, h2⟩
    · have hc1 := hc0 tb
      have hc2 := hc0 ta
      rw [h1] at hc1
      rw [h2] at hc2
      have HC1 := Lib.hid hc1
      have HC2 := Lib.hid hc2
      clear hc0 hc1 hc2 h1 h2
      rcases he with rfl | rfl | rfl
      · go_enter Tryd.func6, Tryd.ntmps6
        go_wp2_with fail
        go_at_call 9
        refine (HCUT1.out _).mono ?_
        rintro e wz ⟨rfl, rfl⟩
        go_wp2_with fail
        go_at_call 10
        refine (HCUT2.out _).mono ?_
        rintro e w0 ⟨rfl, hB⟩
        go_wp2_with fail
        go_at_call 16
        refine (HC1.out _ (HKB.out.up hB) (HK.out.below hB HK.out.lt)).mono ?_
        rintro e w1 ⟨rfl, hb1⟩
        have hB := hB.trans (hb1.mono hB.size)
        have hq1 : Blk (w1.alloc (.cells (passC ⟨#[]⟩ 0).toArray 35)) w1.heap.size (passC ⟨#[]⟩ 0) 35 := Blk.new' _ _ _ _ _ rfl rfl
        go_wp2_with (((with_reducible apply st_storeW (off := 0) (vs := passC ⟨#[]⟩ 0) (cs := passC ⟨#[]⟩ 0) (T := 35)); rfl; rfl; exact hq1; exact passSize; (simp [passC]); exact passC_one _ _; intro w11 hd11 hw11; rw [laid_all _ _ (by rfl)] at hd11); have hB1 := Wrote.below (hB.alloc hB.size _) hw11 hB.size)
        go_at_call 16
        refine (HC2.out _ (HKB.out.up hB1) (HK.out.below hB1 HK.out.lt)).mono ?_
        rintro e w2 ⟨rfl, hb2⟩
        have hB2 := hB1.trans (hb2.mono hB1.size)
        have hp1 := hd11.up hb2
        have hl1 := hp1.lt
        have hq2 : Blk (w2.alloc (.cells (passC ⟨#[]⟩ 0).toArray 35)) w2.heap.size (passC ⟨#[]⟩ 0) 35 := Blk.new' _ _ _ _ _ rfl rfl
        go_wp2_with (first | (((with_reducible apply st_storeW (off := 0) (vs := passC ⟨#[]⟩ 0) (cs := passC ⟨#[]⟩ 0) (T := 35)); rfl; rfl; exact hq2; exact passSize; (simp [passC]); exact passC_one _ _; intro w12 hd12 hw12; rw [laid_all _ _ (by rfl)] at hd12); have hB3 := Wrote.below (hB2.alloc hB2.size _) hw12 hB2.size; have hp1 := hw12.blk (hp1.alloc _) (by omega); have hn3 := hp1.cell 1; simp only [passC, List.getElem?_cons_zero, List.getElem?_cons_succ] at hn3) | ((with_reducible apply st_un); rfl))
        go_at_call 15
        refine (lives_any _ (HK.out.below hB3 HK.out.lt)).mono ?_
        rintro e wl ⟨rfl, hbl⟩
        have hBl := Below.trans hB3 (hbl.mono (Below.size hB3))
        go_wp2_with fail
        go_ret
        exact ⟨rfl, hBl⟩
      · go_enter Tryd.func6, Tryd.ntmps6
        go_wp2_with fail
        go_at_call 9
        refine (HCUT1.out _).mono ?_
        rintro e wz ⟨rfl, rfl⟩
        go_wp2_with fail
        go_at_call 10
        refine (HCUT2.out _).mono ?_
        rintro e w0 ⟨rfl, hB⟩
        go_wp2_with fail
        go_at_call 16
        refine (HC1.out _ (HKB.out.up hB) (HK.out.below hB HK.out.lt)).mono ?_
        rintro e w1 ⟨rfl, hb1⟩
        have hB := hB.trans (hb1.mono hB.size)
        have hq1 : Blk (w1.alloc (.cells (passC ⟨#[]⟩ 0).toArray 35)) w1.heap.size (passC ⟨#[]⟩ 0) 35 := Blk.new' _ _ _ _ _ rfl rfl
        go_wp2_with (((with_reducible apply st_storeW (off := 0) (vs := passC ⟨#[]⟩ 0) (cs := passC ⟨#[]⟩ 0) (T := 35)); rfl; rfl; exact hq1; exact passSize; (simp [passC]); exact passC_one _ _; intro w11 hd11 hw11; rw [laid_all _ _ (by rfl)] at hd11); have hB1 := Wrote.below (hB.alloc hB.size _) hw11 hB.size)
        go_at_call 16
        refine (HC2.out _ (HKB.out.up hB1) (HK.out.below hB1 HK.out.lt)).mono ?_
        rintro e w2 ⟨rfl, hb2⟩
        have hB2 := hB1.trans (hb2.mono hB1.size)
        have hp1 := hd11.up hb2
        have hl1 := hp1.lt
        have hq2 : Blk (w2.alloc (.cells (passC ⟨#[]⟩ 0).toArray 35)) w2.heap.size (passC ⟨#[]⟩ 0) 35 := Blk.new' _ _ _ _ _ rfl rfl
        go_wp2_with (first | (((with_reducible apply st_storeW (off := 0) (vs := passC ⟨#[]⟩ 0) (cs := passC ⟨#[]⟩ 0) (T := 35)); rfl; rfl; exact hq2; exact passSize; (simp [passC]); exact passC_one _ _; intro w12 hd12 hw12; rw [laid_all _ _ (by rfl)] at hd12); have hB3 := Wrote.below (hB2.alloc hB2.size _) hw12 hB2.size; have hp1 := hw12.blk (hp1.alloc _) (by omega); have hn3 := hp1.cell 1; simp only [passC, List.getElem?_cons_zero, List.getElem?_cons_succ] at hn3) | ((with_reducible apply st_un); rfl))
        go_at_call 15
        refine (lives_any _ (HK.out.below hB3 HK.out.lt)).mono ?_
        rintro e wl ⟨rfl, hbl⟩
        have hBl := Below.trans hB3 (hbl.mono (Below.size hB3))
        go_wp2_with fail
        go_ret
        exact ⟨rfl, hBl⟩
      · go_enter Tryd.func6, Tryd.ntmps6
        go_wp2_with fail
        go_at_call 9
        refine (HCUT1.out _).mono ?_
        rintro e wz ⟨rfl, rfl⟩
        go_wp2_with fail
        go_at_call 10
        refine (HCUT2.out _).mono ?_
        rintro e w0 ⟨rfl, hB⟩
        go_wp2_with fail
        go_at_call 16
        refine (HC1.out _ (HKB.out.up hB) (HK.out.below hB HK.out.lt)).mono ?_
        rintro e w1 ⟨rfl, hb1⟩
        have hB := hB.trans (hb1.mono hB.size)
        have hq1 : Blk (w1.alloc (.cells (passC ⟨#[]⟩ 0).toArray 35)) w1.heap.size (passC ⟨#[]⟩ 0) 35 := Blk.new' _ _ _ _ _ rfl rfl
        go_wp2_with (((with_reducible apply st_storeW (off := 0) (vs := passC ⟨#[]⟩ 0) (cs := passC ⟨#[]⟩ 0) (T := 35)); rfl; rfl; exact hq1; exact passSize; (simp [passC]); exact passC_one _ _; intro w11 hd11 hw11; rw [laid_all _ _ (by rfl)] at hd11); have hB1 := Wrote.below (hB.alloc hB.size _) hw11 hB.size)
        go_at_call 16
        refine (HC2.out _ (HKB.out.up hB1) (HK.out.below hB1 HK.out.lt)).mono ?_
        rintro e w2 ⟨rfl, hb2⟩
        have hB2 := hB1.trans (hb2.mono hB1.size)
        have hp1 := hd11.up hb2
        have hl1 := hp1.lt
        have hq2 : Blk (w2.alloc (.cells (passC ⟨#[]⟩ 0).toArray 35)) w2.heap.size (passC ⟨#[]⟩ 0) 35 := Blk.new' _ _ _ _ _ rfl rfl
        go_wp2_with (first | (((with_reducible apply st_storeW (off := 0) (vs := passC ⟨#[]⟩ 0) (cs := passC ⟨#[]⟩ 0) (T := 35)); rfl; rfl; exact hq2; exact passSize; (simp [passC]); exact passC_one _ _; intro w12 hd12 hw12; rw [laid_all _ _ (by rfl)] at hd12); have hB3 := Wrote.below (hB2.alloc hB2.size _) hw12 hB2.size; have hp1 := hw12.blk (hp1.alloc _) (by omega); have hn3 := hp1.cell 1; simp only [passC, List.getElem?_cons_zero, List.getElem?_cons_succ] at hn3) | ((with_reducible apply st_un); rfl))
        go_at_call 15
        refine (lives_any _ (HK.out.below hB3 HK.out.lt)).mono ?_
        rintro e wl ⟨rfl, hbl⟩
        have hBl := Below.trans hB3 (hbl.mono (Below.size hB3))
        go_wp2_with fail
        go_ret
        exact ⟨rfl, hBl⟩
    · have hc1 := hc0 tb
      have hc2 := hc0 ta
      rw [h1] at hc1
      rw [h2] at hc2
      have HC1 := Lib.hid hc1
      have HC2 := Lib.hid hc2
      clear hc0 hc1 hc2 h1 h2
      go_enter Tryd.func6, Tryd.ntmps6
      go_wp2_with fail
      go_at_call 9
      refine (HCUT1.out _).mono ?_
      rintro e wz ⟨rfl, rfl⟩
      go_wp2_with fail
      go_at_call 10
      refine (HCUT2.out _).mono ?_
      rintro e w0 ⟨rfl, hB⟩
      go_wp2_with fail
      go_at_call 16
      refine (HC1.out _ (HKB.out.up hB) (HK.out.below hB HK.out.lt)).mono ?_
      rintro e w1 ⟨rfl, hb1⟩
      have hB := hB.trans (hb1.mono hB.size)
      have hq1 : Blk (w1.alloc (.cells (passC ⟨#[]⟩ 0).toArray 35)) w1.heap.size (passC ⟨#[]⟩ 0) 35 := Blk.new' _ _ _ _ _ rfl rfl
      go_wp2_with (((with_reducible apply st_storeW (off := 0) (vs := passC a n) (cs := passC ⟨#[]⟩ 0) (T := 35)); rfl; rfl; exact hq1; exact passSize; (simp [passC]); exact passC_one _ _; intro w11 hd11 hw11; rw [laid_all _ _ (by rfl)] at hd11); have hB1 := Wrote.below (hB.alloc hB.size _) hw11 hB.size)
      go_at_call 16
      refine (HC2.out _ (HKB.out.up hB1) (HK.out.below hB1 HK.out.lt)).mono ?_
      rintro e w2 ⟨rfl, hb2⟩
      have hB2 := hB1.trans (hb2.mono hB1.size)
      have hp1 := hd11.up hb2
      have hl1 := hp1.lt
      have hq2 : Blk (w2.alloc (.cells (passC ⟨#[]⟩ 0).toArray 35)) w2.heap.size (passC ⟨#[]⟩ 0) 35 := Blk.new' _ _ _ _ _ rfl rfl
      go_wp2_with (first | (((with_reducible apply st_storeW (off := 0) (vs := passC ⟨#[]⟩ 0) (cs := passC ⟨#[]⟩ 0) (T := 35)); rfl; rfl; exact hq2; exact passSize; (simp [passC]); exact passC_one _ _; intro w12 hd12 hw12; rw [laid_all _ _ (by rfl)] at hd12); have hB3 := Wrote.below (hB2.alloc hB2.size _) hw12 hB2.size; have hp1 := hw12.blk (hp1.alloc _) (by omega); have hn3 := hp1.cell 1; simp only [passC, List.getElem?_cons_zero, List.getElem?_cons_succ] at hn3) | ((with_reducible apply st_un); rfl))
      go_at_call 15
      refine (lives_any _ (HK.out.below hB3 HK.out.lt)).mono ?_
      rintro e wl ⟨rfl, hbl⟩
      have hBl := Below.trans hB3 (hbl.mono (Below.size hB3))
      go_wp2_with fail
      go_ret
      exact ⟨rfl, hBl⟩
    · have hc1 := hc0 tb
      have hc2 := hc0 ta
      rw [h1] at hc1
      rw [h2] at hc2
      have HC1 := Lib.hid hc1
      have HC2 := Lib.hid hc2
      clear hc0 hc1 hc2 h1 h2
      have heq1 := run_eql_pass a a n n
      have hsa := str_eq a
      have hnn : (n == n) = true := by simp
      rw [hsa, hnn] at heq1
      go_enter Tryd.func6, Tryd.ntmps6
      go_wp2_with fail
      go_at_call 9
      refine (HCUT1.out _).mono ?_
      rintro e wz ⟨rfl, rfl⟩
      go_wp2_with fail
      go_at_call 10
      refine (HCUT2.out _).mono ?_
      rintro e w0 ⟨rfl, hB⟩
      go_wp2_with fail
      go_at_call 16
      refine (HC1.out _ (HKB.out.up hB) (HK.out.below hB HK.out.lt)).mono ?_
      rintro e w1 ⟨rfl, hb1⟩
      have hB := hB.trans (hb1.mono hB.size)
      have hq1 : Blk (w1.alloc (.cells (passC ⟨#[]⟩ 0).toArray 35)) w1.heap.size (passC ⟨#[]⟩ 0) 35 := Blk.new' _ _ _ _ _ rfl rfl
      go_wp2_with (((with_reducible apply st_storeW (off := 0) (vs := passC a n) (cs := passC ⟨#[]⟩ 0) (T := 35)); rfl; rfl; exact hq1; exact passSize; (simp [passC]); exact passC_one _ _; intro w11 hd11 hw11; rw [laid_all _ _ (by rfl)] at hd11); have hB1 := Wrote.below (hB.alloc hB.size _) hw11 hB.size)
      go_at_call 16
      refine (HC2.out _ (HKB.out.up hB1) (HK.out.below hB1 HK.out.lt)).mono ?_
      rintro e w2 ⟨rfl, hb2⟩
      have hB2 := hB1.trans (hb2.mono hB1.size)
      have hp1 := hd11.up hb2
      have hl1 := hp1.lt
      have hq2 : Blk (w2.alloc (.cells (passC ⟨#[]⟩ 0).toArray 35)) w2.heap.size (passC ⟨#[]⟩ 0) 35 := Blk.new' _ _ _ _ _ rfl rfl
      go_wp2_with (first | (((with_reducible apply st_storeW (off := 0) (vs := passC a n) (cs := passC ⟨#[]⟩ 0) (T := 35)); rfl; rfl; exact hq2; exact passSize; (simp [passC]); exact passC_one _ _; intro w12 hd12 hw12; rw [laid_all _ _ (by rfl)] at hd12); have hB3 := Wrote.below (hB2.alloc hB2.size _) hw12 hB2.size; have hp1 := hw12.blk (hp1.alloc _) (by omega); have hn3 := hp1.cell 1; simp only [passC, List.getElem?_cons_zero, List.getElem?_cons_succ] at hn3) | ((with_reducible apply st_load (n := 2) (cs := passC a n) (T := 35)); rfl; exact hp1; exact Tryd.underlying35; rfl; exact passSize; (exact Nat.le_refl 2); (exact row_all _ _ rfl)) | ((with_reducible apply st_load (n := 2) (cs := passC a n) (T := 35)); rfl; exact hd12; exact Tryd.underlying35; rfl; exact passSize; (exact Nat.le_refl 2); (exact row_all _ _ rfl)) | ((with_reducible apply st_un); rfl))
      go_at_call 15
      refine (lives_any _ (HK.out.below hB3 HK.out.lt)).mono ?_
      rintro e wl ⟨rfl, hbl⟩
      have hBl := Below.trans hB3 (hbl.mono (Below.size hB3))
      go_wp2_with fail
      go_ret
      exact ⟨rfl, hBl⟩
  · rcases times_law bs s ta tb (by omega) with ⟨en, he, h1, h2⟩ | ⟨a, n, h1, h2, hlo, hhi⟩ | ⟨a, n, h1, h2⟩
    · have hc1 := hc0 ta
      have hc2 := hc0 tb
      rw [h1] at hc1
      rw [h2] at hc2
      have HC1 := Lib.hid hc1
      have HC2 := Lib.hid hc2
      clear hc0 hc1 hc2 h1 h2
      rcases he with rfl | rfl | rfl
      · go_enter Tryd.func6, Tryd.ntmps6
        go_wp2_with fail
        go_at_call 9
        refine (HCUT1.out _).mono ?_
        rintro e wz ⟨rfl, rfl⟩
        go_wp2_with fail
        go_at_call 10
        refine (HCUT2.out _).mono ?_
        rintro e w0 ⟨rfl, hB⟩
        go_wp2_with fail
        go_at_call 16
        refine (HC1.out _ (HKB.out.up hB) (HK.out.below hB HK.out.lt)).mono ?_
        rintro e w1 ⟨rfl, hb1⟩
        have hB := hB.trans (hb1.mono hB.size)
        have hq1 : Blk (w1.alloc (.cells (passC ⟨#[]⟩ 0).toArray 35)) w1.heap.size (passC ⟨#[]⟩ 0) 35 := Blk.new' _ _ _ _ _ rfl rfl
        go_wp2_with (((with_reducible apply st_storeW (off := 0) (vs := passC ⟨#[]⟩ 0) (cs := passC ⟨#[]⟩ 0) (T := 35)); rfl; rfl; exact hq1; exact passSize; (simp [passC]); exact passC_one _ _; intro w11 hd11 hw11; rw [laid_all _ _ (by rfl)] at hd11); have hB1 := Wrote.below (hB.alloc hB.size _) hw11 hB.size)
        go_at_call 16
        refine (HC2.out _ (HKB.out.up hB1) (HK.out.below hB1 HK.out.lt)).mono ?_
        rintro e w2 ⟨rfl, hb2⟩
        have hB2 := hB1.trans (hb2.mono hB1.size)
        have hp1 := hd11.up hb2
        have hl1 := hp1.lt
        have hq2 : Blk (w2.alloc (.cells (passC ⟨#[]⟩ 0).toArray 35)) w2.heap.size (passC ⟨#[]⟩ 0) 35 := Blk.new' _ _ _ _ _ rfl rfl
        go_wp2_with (first | (((with_reducible apply st_storeW (off := 0) (vs := passC ⟨#[]⟩ 0) (cs := passC ⟨#[]⟩ 0) (T := 35)); rfl; rfl; exact hq2; exact passSize; (simp [passC]); exact passC_one _ _; intro w12 hd12 hw12; rw [laid_all _ _ (by rfl)] at hd12); have hB3 := Wrote.below (hB2.alloc hB2.size _) hw12 hB2.size; have hp1 := hw12.blk (hp1.alloc _) (by omega); have hn3 := hp1.cell 1; simp only [passC, List.getElem?_cons_zero, List.getElem?_cons_succ] at hn3) | ((with_reducible apply st_un); rfl))
        go_at_call 15
        refine (lives_any _ (HK.out.below hB3 HK.out.lt)).mono ?_
        rintro e wl ⟨rfl, hbl⟩
        have hBl := Below.trans hB3 (hbl.mono (Below.size hB3))
        go_wp2_with fail
        go_ret
        exact ⟨rfl, hBl⟩
      · go_enter Tryd.func6, Tryd.ntmps6
        go_wp2_with fail
        go_at_call 9
        refine (HCUT1.out _).mono ?_
        rintro e wz ⟨rfl, rfl⟩
        go_wp2_with fail
        go_at_call 10
        refine (HCUT2.out _).mono ?_
        rintro e w0 ⟨rfl, hB⟩
        go_wp2_with fail
        go_at_call 16
        refine (HC1.out _ (HKB.out.up hB) (HK.out.below hB HK.out.lt)).mono ?_
        rintro e w1 ⟨rfl, hb1⟩
        have hB := hB.trans (hb1.mono hB.size)
        have hq1 : Blk (w1.alloc (.cells (passC ⟨#[]⟩ 0).toArray 35)) w1.heap.size (passC ⟨#[]⟩ 0) 35 := Blk.new' _ _ _ _ _ rfl rfl
        go_wp2_with (((with_reducible apply st_storeW (off := 0) (vs := passC ⟨#[]⟩ 0) (cs := passC ⟨#[]⟩ 0) (T := 35)); rfl; rfl; exact hq1; exact passSize; (simp [passC]); exact passC_one _ _; intro w11 hd11 hw11; rw [laid_all _ _ (by rfl)] at hd11); have hB1 := Wrote.below (hB.alloc hB.size _) hw11 hB.size)
        go_at_call 16
        refine (HC2.out _ (HKB.out.up hB1) (HK.out.below hB1 HK.out.lt)).mono ?_
        rintro e w2 ⟨rfl, hb2⟩
        have hB2 := hB1.trans (hb2.mono hB1.size)
        have hp1 := hd11.up hb2
        have hl1 := hp1.lt
        have hq2 : Blk (w2.alloc (.cells (passC ⟨#[]⟩ 0).toArray 35)) w2.heap.size (passC ⟨#[]⟩ 0) 35 := Blk.new' _ _ _ _ _ rfl rfl
        go_wp2_with (first | (((with_reducible apply st_storeW (off := 0) (vs := passC ⟨#[]⟩ 0) (cs := passC ⟨#[]⟩ 0) (T := 35)); rfl; rfl; exact hq2; exact passSize; (simp [passC]); exact passC_one _ _; intro w12 hd12 hw12; rw [laid_all _ _ (by rfl)] at hd12); have hB3 := Wrote.below (hB2.alloc hB2.size _) hw12 hB2.size; have hp1 := hw12.blk (hp1.alloc _) (by omega); have hn3 := hp1.cell 1; simp only [passC, List.getElem?_cons_zero, List.getElem?_cons_succ] at hn3) | ((with_reducible apply st_un); rfl))
        go_at_call 15
        refine (lives_any _ (HK.out.below hB3 HK.out.lt)).mono ?_
        rintro e wl ⟨rfl, hbl⟩
        have hBl := Below.trans hB3 (hbl.mono (Below.size hB3))
        go_wp2_with fail
        go_ret
        exact ⟨rfl, hBl⟩
      · go_enter Tryd.func6, Tryd.ntmps6
        go_wp2_with fail
        go_at_call 9
        refine (HCUT1.out _).mono ?_
        rintro e wz ⟨rfl, rfl⟩
        go_wp2_with fail
        go_at_call 10
        refine (HCUT2.out _).mono ?_
        rintro e w0 ⟨rfl, hB⟩
        go_wp2_with fail
        go_at_call 16
        refine (HC1.out _ (HKB.out.up hB) (HK.out.below hB HK.out.lt)).mono ?_
        rintro e w1 ⟨rfl, hb1⟩
        have hB := hB.trans (hb1.mono hB.size)
        have hq1 : Blk (w1.alloc (.cells (passC ⟨#[]⟩ 0).toArray 35)) w1.heap.size (passC ⟨#[]⟩ 0) 35 := Blk.new' _ _ _ _ _ rfl rfl
        go_wp2_with (((with_reducible apply st_storeW (off := 0) (vs := passC ⟨#[]⟩ 0) (cs := passC ⟨#[]⟩ 0) (T := 35)); rfl; rfl; exact hq1; exact passSize; (simp [passC]); exact passC_one _ _; intro w11 hd11 hw11; rw [laid_all _ _ (by rfl)] at hd11); have hB1 := Wrote.below (hB.alloc hB.size _) hw11 hB.size)
        go_at_call 16
        refine (HC2.out _ (HKB.out.up hB1) (HK.out.below hB1 HK.out.lt)).mono ?_
        rintro e w2 ⟨rfl, hb2⟩
        have hB2 := hB1.trans (hb2.mono hB1.size)
        have hp1 := hd11.up hb2
        have hl1 := hp1.lt
        have hq2 : Blk (w2.alloc (.cells (passC ⟨#[]⟩ 0).toArray 35)) w2.heap.size (passC ⟨#[]⟩ 0) 35 := Blk.new' _ _ _ _ _ rfl rfl
        go_wp2_with (first | (((with_reducible apply st_storeW (off := 0) (vs := passC ⟨#[]⟩ 0) (cs := passC ⟨#[]⟩ 0) (T := 35)); rfl; rfl; exact hq2; exact passSize; (simp [passC]); exact passC_one _ _; intro w12 hd12 hw12; rw [laid_all _ _ (by rfl)] at hd12); have hB3 := Wrote.below (hB2.alloc hB2.size _) hw12 hB2.size; have hp1 := hw12.blk (hp1.alloc _) (by omega); have hn3 := hp1.cell 1; simp only [passC, List.getElem?_cons_zero, List.getElem?_cons_succ] at hn3) | ((with_reducible apply st_un); rfl))
        go_at_call 15
        refine (lives_any _ (HK.out.below hB3 HK.out.lt)).mono ?_
        rintro e wl ⟨rfl, hbl⟩
        have hBl := Below.trans hB3 (hbl.mono (Below.size hB3))
        go_wp2_with fail
        go_ret
        exact ⟨rfl, hBl⟩
    · have hc1 := hc0 ta
      have hc2 := hc0 tb
      rw [h1] at hc1
      rw [h2] at hc2
      have HC1 := Lib.hid hc1
      have HC2 := Lib.hid hc2
      clear hc0 hc1 hc2 h1 h2
      go_enter Tryd.func6, Tryd.ntmps6
      go_wp2_with fail
      go_at_call 9
      refine (HCUT1.out _).mono ?_
      rintro e wz ⟨rfl, rfl⟩
      go_wp2_with fail
      go_at_call 10
      refine (HCUT2.out _).mono ?_
      rintro e w0 ⟨rfl, hB⟩
      go_wp2_with fail
      go_at_call 16
      refine (HC1.out _ (HKB.out.up hB) (HK.out.below hB HK.out.lt)).mono ?_
      rintro e w1 ⟨rfl, hb1⟩
      have hB := hB.trans (hb1.mono hB.size)
      have hq1 : Blk (w1.alloc (.cells (passC ⟨#[]⟩ 0).toArray 35)) w1.heap.size (passC ⟨#[]⟩ 0) 35 := Blk.new' _ _ _ _ _ rfl rfl
      go_wp2_with (((with_reducible apply st_storeW (off := 0) (vs := passC a n) (cs := passC ⟨#[]⟩ 0) (T := 35)); rfl; rfl; exact hq1; exact passSize; (simp [passC]); exact passC_one _ _; intro w11 hd11 hw11; rw [laid_all _ _ (by rfl)] at hd11); have hB1 := Wrote.below (hB.alloc hB.size _) hw11 hB.size)
      go_at_call 16
      refine (HC2.out _ (HKB.out.up hB1) (HK.out.below hB1 HK.out.lt)).mono ?_
      rintro e w2 ⟨rfl, hb2⟩
      have hB2 := hB1.trans (hb2.mono hB1.size)
      have hp1 := hd11.up hb2
      have hl1 := hp1.lt
      have hq2 : Blk (w2.alloc (.cells (passC ⟨#[]⟩ 0).toArray 35)) w2.heap.size (passC ⟨#[]⟩ 0) 35 := Blk.new' _ _ _ _ _ rfl rfl
      go_wp2_with (first | (((with_reducible apply st_storeW (off := 0) (vs := passC ⟨#[]⟩ 0) (cs := passC ⟨#[]⟩ 0) (T := 35)); rfl; rfl; exact hq2; exact passSize; (simp [passC]); exact passC_one _ _; intro w12 hd12 hw12; rw [laid_all _ _ (by rfl)] at hd12); have hB3 := Wrote.below (hB2.alloc hB2.size _) hw12 hB2.size; have hp1 := hw12.blk (hp1.alloc _) (by omega); have hn3 := hp1.cell 1; simp only [passC, List.getElem?_cons_zero, List.getElem?_cons_succ] at hn3) | ((with_reducible apply st_un); rfl))
      go_at_call 15
      refine (lives_any _ (HK.out.below hB3 HK.out.lt)).mono ?_
      rintro e wl ⟨rfl, hbl⟩
      have hBl := Below.trans hB3 (hbl.mono (Below.size hB3))
      go_wp2_with fail
      go_ret
      exact ⟨rfl, hBl⟩
    · have hc1 := hc0 ta
      have hc2 := hc0 tb
      rw [h1] at hc1
      rw [h2] at hc2
      have HC1 := Lib.hid hc1
      have HC2 := Lib.hid hc2
      clear hc0 hc1 hc2 h1 h2
      have heq1 := run_eql_pass a a n n
      have hsa := str_eq a
      have hnn : (n == n) = true := by simp
      rw [hsa, hnn] at heq1
      go_enter Tryd.func6, Tryd.ntmps6
      go_wp2_with fail
      go_at_call 9
      refine (HCUT1.out _).mono ?_
      rintro e wz ⟨rfl, rfl⟩
      go_wp2_with fail
      go_at_call 10
      refine (HCUT2.out _).mono ?_
      rintro e w0 ⟨rfl, hB⟩
      go_wp2_with fail
      go_at_call 16
      refine (HC1.out _ (HKB.out.up hB) (HK.out.below hB HK.out.lt)).mono ?_
      rintro e w1 ⟨rfl, hb1⟩
      have hB := hB.trans (hb1.mono hB.size)
      have hq1 : Blk (w1.alloc (.cells (passC ⟨#[]⟩ 0).toArray 35)) w1.heap.size (passC ⟨#[]⟩ 0) 35 := Blk.new' _ _ _ _ _ rfl rfl
      go_wp2_with (((with_reducible apply st_storeW (off := 0) (vs := passC a n) (cs := passC ⟨#[]⟩ 0) (T := 35)); rfl; rfl; exact hq1; exact passSize; (simp [passC]); exact passC_one _ _; intro w11 hd11 hw11; rw [laid_all _ _ (by rfl)] at hd11); have hB1 := Wrote.below (hB.alloc hB.size _) hw11 hB.size)
      go_at_call 16
      refine (HC2.out _ (HKB.out.up hB1) (HK.out.below hB1 HK.out.lt)).mono ?_
      rintro e w2 ⟨rfl, hb2⟩
      have hB2 := hB1.trans (hb2.mono hB1.size)
      have hp1 := hd11.up hb2
      have hl1 := hp1.lt
      have hq2 : Blk (w2.alloc (.cells (passC ⟨#[]⟩ 0).toArray 35)) w2.heap.size (passC ⟨#[]⟩ 0) 35 := Blk.new' _ _ _ _ _ rfl rfl
      go_wp2_with (first | (((with_reducible apply st_storeW (off := 0) (vs := passC a n) (cs := passC ⟨#[]⟩ 0) (T := 35)); rfl; rfl; exact hq2; exact passSize; (simp [passC]); exact passC_one _ _; intro w12 hd12 hw12; rw [laid_all _ _ (by rfl)] at hd12); have hB3 := Wrote.below (hB2.alloc hB2.size _) hw12 hB2.size; have hp1 := hw12.blk (hp1.alloc _) (by omega); have hn3 := hp1.cell 1; simp only [passC, List.getElem?_cons_zero, List.getElem?_cons_succ] at hn3) | ((with_reducible apply st_load (n := 2) (cs := passC a n) (T := 35)); rfl; exact hp1; exact Tryd.underlying35; rfl; exact passSize; (exact Nat.le_refl 2); (exact row_all _ _ rfl)) | ((with_reducible apply st_load (n := 2) (cs := passC a n) (T := 35)); rfl; exact hd12; exact Tryd.underlying35; rfl; exact passSize; (exact Nat.le_refl 2); (exact row_all _ _ rfl)) | ((with_reducible apply st_un); rfl))
      go_at_call 15
      refine (lives_any _ (HK.out.below hB3 HK.out.lt)).mono ?_
      rintro e wl ⟨rfl, hbl⟩
      have hBl := Below.trans hB3 (hbl.mono (Below.size hB3))
      go_wp2_with fail
      go_ret
      exact ⟨rfl, hBl⟩

end Go.Proofs.YtmfccnkjnkmgiaaDoor
