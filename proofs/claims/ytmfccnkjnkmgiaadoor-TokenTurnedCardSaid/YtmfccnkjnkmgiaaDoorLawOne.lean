/- That inquestlaw05.TokenOne returns true. Condition: the table of layer 2 reads as its text lays it. -/
import Derived.Test.YtmfccnkjnkmgiaaDoorLawOpens
namespace Go.Proofs.YtmfccnkjnkmgiaaDoor
open Go.RowKit Go.Proofs.YtmfccnkjnkmgiaaDoor.Pure

theorem one_law (key : List Int) (s : ByteArray) (now : Int) : (∃ e : Int, (e = 4 ∨ e = 7 ∨ e = 8) ∧ openR key s now = ((⟨#[]⟩, 0), e)) ∨ ∃ a n, openR key s now = ((a, n), 0) ∧ a.size ≤ 16 ∧ 0 ≤ n ∧ n ≤ 1099511627776 ∧ mintR key a n = (s, 0) ∧ now < n := by
  cases hF : readF s with
  | none => exact Or.inl ⟨4, by simp, openR_none key s now hF⟩
  | some x =>
    obtain ⟨a, n, l⟩ := x
    obtain ⟨f1, f2, f3, f4, f5, f6⟩ := readF_out s a n l hF
    have hte := tok_eq key s a n l hF
    rw [openR_some key s now a n l hF]
    by_cases hm : macF key (strL (claimS a n)) = l
    · rw [if_pos hm]
      by_cases hn : n ≤ now
      · rw [if_pos hn]; exact Or.inl ⟨8, by simp, rfl⟩
      · rw [if_neg hn]
        refine Or.inr ⟨a, n, rfl, nameB_size a f2, f3, f4, ?_, by omega⟩
        unfold mintR
        rw [if_pos ⟨f2, f3, f4⟩, hte.2 hm]
    · rw [if_neg hm]; exact Or.inl ⟨7, by simp, rfl⟩

theorem run_eql_zero (w : World) : (binOp .eql 35 (.agg (passC ⟨#[]⟩ 0).toArray) (.agg #[.string ⟨#[]⟩, .int .i64 0])).run Tryd.prog w = .ok (.bool true) w := by
  have h := run_eql_pass ⟨#[]⟩ ⟨#[]⟩ 0 0 w
  rw [str_eq] at h
  exact h

set_option maxHeartbeats 4000000 in
theorem lawone_any (w : World) (bs0 : List Int) (A : Option Addr) (c : Nat) (hr : Rd w A (nums .u8 bs0)) (hc : bs0.length ≤ c) (hA : A = none → c = 0) (hu : U8 bs0) (s0 : ByteArray) (now : Int) (hk : KV w) :
    Calls Tryd.prog 4 #[.slice A bs0.length c, .string s0, .int .i64 now] w fun e w' => e = .returned (.bool true) ∧ Below w.heap.size w w' := by
  obtain ⟨bs, hbl, _, hK, HCUT1⟩ := (Byt.mk hr hc hA hu).cut 300 300 rfl
  obtain ⟨s, hsl, HCUT2⟩ := cut4 s0
  have hc1 := fun (w : World) (h : Byt w A c bs) => open_any w bs A c h (by omega) s hsl now
  have HK := Lib.hid hk
  have HKB := Lib.hid hK
  rcases one_law bs s now with ⟨en, he, h1⟩ | ⟨a, n, h1, ha, hn0, hn1, hmt, hlt⟩
  · rw [h1] at hc1
    have HC1 := Lib.hid hc1
    have heq1 := run_eql_zero
    clear hc1 hk h1 hr hc hA hu hK
    rcases he with rfl | rfl | rfl
    · go_enter Tryd.func4, Tryd.ntmps4
      go_wp2_with fail
      go_at_call 9
      refine (HCUT1.out _).mono ?_
      rintro e wz ⟨rfl, rfl⟩
      go_wp2_with fail
      go_at_call 10
      refine (HCUT2.out _).mono ?_
      rintro e w0 ⟨rfl, hB⟩
      go_wp2_with fail
      go_at_call 16
      refine (HC1.out _ (HKB.out.up hB) (HK.out.below hB HK.out.lt)).mono ?_
      rintro e w1 ⟨rfl, hb1⟩
      have hB := hB.trans (hb1.mono hB.size)
      have hq1 : Blk (w1.alloc (.cells (passC ⟨#[]⟩ 0).toArray 35)) w1.heap.size (passC ⟨#[]⟩ 0) 35 := Blk.new' _ _ _ _ _ rfl rfl
      go_wp2_with (first | (((with_reducible apply st_storeW (off := 0) (vs := passC ⟨#[]⟩ 0) (cs := passC ⟨#[]⟩ 0) (T := 35)); rfl; rfl; exact hq1; exact passSize; (simp [passC]); exact passC_one _ _; intro w11 hd11 hw11; rw [laid_all _ _ (by rfl)] at hd11); have hB1 := Wrote.below (hB.alloc hB.size _) hw11 hB.size) | ((with_reducible apply st_load (n := 2) (cs := passC ⟨#[]⟩ 0) (T := 35)); rfl; exact hd11; exact Tryd.underlying35; rfl; exact passSize; (exact Nat.le_refl 2); (exact row_all _ _ rfl)) | ((with_reducible apply st_un); rfl))
      go_at_call 15
      refine (lives_any _ (HK.out.below hB1 HK.out.lt)).mono ?_
      rintro e wl ⟨rfl, hbl⟩
      have hBl := Below.trans hB1 (hbl.mono (Below.size hB1))
      go_wp2_with fail
      go_ret
      exact ⟨rfl, hBl⟩
    · go_enter Tryd.func4, Tryd.ntmps4
      go_wp2_with fail
      go_at_call 9
      refine (HCUT1.out _).mono ?_
      rintro e wz ⟨rfl, rfl⟩
      go_wp2_with fail
      go_at_call 10
      refine (HCUT2.out _).mono ?_
      rintro e w0 ⟨rfl, hB⟩
      go_wp2_with fail
      go_at_call 16
      refine (HC1.out _ (HKB.out.up hB) (HK.out.below hB HK.out.lt)).mono ?_
      rintro e w1 ⟨rfl, hb1⟩
      have hB := hB.trans (hb1.mono hB.size)
      have hq1 : Blk (w1.alloc (.cells (passC ⟨#[]⟩ 0).toArray 35)) w1.heap.size (passC ⟨#[]⟩ 0) 35 := Blk.new' _ _ _ _ _ rfl rfl
      go_wp2_with (first | (((with_reducible apply st_storeW (off := 0) (vs := passC ⟨#[]⟩ 0) (cs := passC ⟨#[]⟩ 0) (T := 35)); rfl; rfl; exact hq1; exact passSize; (simp [passC]); exact passC_one _ _; intro w11 hd11 hw11; rw [laid_all _ _ (by rfl)] at hd11); have hB1 := Wrote.below (hB.alloc hB.size _) hw11 hB.size) | ((with_reducible apply st_load (n := 2) (cs := passC ⟨#[]⟩ 0) (T := 35)); rfl; exact hd11; exact Tryd.underlying35; rfl; exact passSize; (exact Nat.le_refl 2); (exact row_all _ _ rfl)) | ((with_reducible apply st_un); rfl))
      go_at_call 15
      refine (lives_any _ (HK.out.below hB1 HK.out.lt)).mono ?_
      rintro e wl ⟨rfl, hbl⟩
      have hBl := Below.trans hB1 (hbl.mono (Below.size hB1))
      go_wp2_with fail
      go_ret
      exact ⟨rfl, hBl⟩
    · go_enter Tryd.func4, Tryd.ntmps4
      go_wp2_with fail
      go_at_call 9
      refine (HCUT1.out _).mono ?_
      rintro e wz ⟨rfl, rfl⟩
      go_wp2_with fail
      go_at_call 10
      refine (HCUT2.out _).mono ?_
      rintro e w0 ⟨rfl, hB⟩
      go_wp2_with fail
      go_at_call 16
      refine (HC1.out _ (HKB.out.up hB) (HK.out.below hB HK.out.lt)).mono ?_
      rintro e w1 ⟨rfl, hb1⟩
      have hB := hB.trans (hb1.mono hB.size)
      have hq1 : Blk (w1.alloc (.cells (passC ⟨#[]⟩ 0).toArray 35)) w1.heap.size (passC ⟨#[]⟩ 0) 35 := Blk.new' _ _ _ _ _ rfl rfl
      go_wp2_with (first | (((with_reducible apply st_storeW (off := 0) (vs := passC ⟨#[]⟩ 0) (cs := passC ⟨#[]⟩ 0) (T := 35)); rfl; rfl; exact hq1; exact passSize; (simp [passC]); exact passC_one _ _; intro w11 hd11 hw11; rw [laid_all _ _ (by rfl)] at hd11); have hB1 := Wrote.below (hB.alloc hB.size _) hw11 hB.size) | ((with_reducible apply st_load (n := 2) (cs := passC ⟨#[]⟩ 0) (T := 35)); rfl; exact hd11; exact Tryd.underlying35; rfl; exact passSize; (exact Nat.le_refl 2); (exact row_all _ _ rfl)) | ((with_reducible apply st_un); rfl))
      go_at_call 15
      refine (lives_any _ (HK.out.below hB1 HK.out.lt)).mono ?_
      rintro e wl ⟨rfl, hbl⟩
      have hBl := Below.trans hB1 (hbl.mono (Below.size hB1))
      go_wp2_with fail
      go_ret
      exact ⟨rfl, hBl⟩
  · rw [h1] at hc1
    have hc2 := fun (w : World) (h : Byt w A c bs) => mint_any w bs A c h (by omega) a (by omega) n (by omega) (by omega)
    rw [hmt] at hc2
    have HC1 := Lib.hid hc1
    have HC2 := Lib.hid hc2
    have hss := str_eq s
    clear hc1 hc2 hk h1 hr hc hA hu hK hmt
    go_enter Tryd.func4, Tryd.ntmps4
    go_wp2_with fail
    go_at_call 9
    refine (HCUT1.out _).mono ?_
    rintro e wz ⟨rfl, rfl⟩
    go_wp2_with fail
    go_at_call 10
    refine (HCUT2.out _).mono ?_
    rintro e w0 ⟨rfl, hB⟩
    go_wp2_with fail
    go_at_call 16
    refine (HC1.out _ (HKB.out.up hB) (HK.out.below hB HK.out.lt)).mono ?_
    rintro e w1 ⟨rfl, hb1⟩
    have hB := hB.trans (hb1.mono hB.size)
    have hq1 : Blk (w1.alloc (.cells (passC ⟨#[]⟩ 0).toArray 35)) w1.heap.size (passC ⟨#[]⟩ 0) 35 := Blk.new' _ _ _ _ _ rfl rfl
    go_wp2_with (((with_reducible apply st_storeW (off := 0) (vs := passC a n) (cs := passC ⟨#[]⟩ 0) (T := 35)); rfl; rfl; exact hq1; exact passSize; (simp [passC]); exact passC_one _ _; intro w11 hd11 hw11; rw [laid_all _ _ (by rfl)] at hd11); have hB1 := Wrote.below (hB.alloc hB.size _) hw11 hB.size; have hc0 := hd11.cell 0; have hc1 := hd11.cell 1; simp only [passC, List.getElem?_cons_zero, List.getElem?_cons_succ] at hc0 hc1)
    go_at_call 12
    refine (HC2.out _ (HKB.out.up hB1) (HK.out.below hB1 HK.out.lt)).mono ?_
    rintro e w3 ⟨rfl, hb3⟩
    have hB3 := hB1.trans (hb3.mono hB1.size)
    have hp3 := hd11.up hb3
    have hn3 := hp3.cell 1
    simp only [passC, List.getElem?_cons_zero, List.getElem?_cons_succ] at hn3
    go_wp2_with ((with_reducible apply st_un); rfl)
    go_at_call 15
    refine (lives_any _ (HK.out.below hB3 HK.out.lt)).mono ?_
    rintro e wl ⟨rfl, hbl⟩
    have hBl := Below.trans hB3 (hbl.mono (Below.size hB3))
    go_wp2_with fail
    go_ret
    exact ⟨rfl, hBl⟩

end Go.Proofs.YtmfccnkjnkmgiaaDoor
