/- That inquestlaw05.TokenBack returns true. Condition: the table of layer 2 reads as its text lays it. -/
import Derived.Test.YtmfccnkjnkmgiaaDoorLawOne
namespace Go.Proofs.YtmfccnkjnkmgiaaDoor
open Go.RowKit Go.Proofs.YtmfccnkjnkmgiaaDoor.Pure

theorem back_law (key : List Int) (s : ByteArray) (n now : Int) : (mintR key s n = (⟨#[]⟩, 2) ∧ (n < 0 ∨ (¬ n < 0 ∧ n > 1099511627776) ∨ (¬ n < 0 ∧ ¬ n > 1099511627776 ∧ nameB s = false))) ∨
    ∃ T : ByteArray, T.size ≤ 300 ∧ mintR key s n = (T, 0) ∧ claimR T = ((s, n), 0) ∧ ((now < n ∧ openR key T now = ((s, n), 0)) ∨ (¬ now < n ∧ openR key T now = ((⟨#[]⟩, 0), 8))) := by
  by_cases h : nameB s = true ∧ 0 ≤ n ∧ n ≤ 1099511627776
  · obtain ⟨h1, h2, h3⟩ := h
    refine Or.inr ⟨tokS key s n, ?_, ?_, ?_, ?_⟩
    · have := tokS_size key s n; have := decB_size n (by omega) (by omega); have := nameB_size s h1; omega
    · unfold mintR; rw [if_pos ⟨h1, h2, h3⟩]
    all_goals have hr := readF_in s n (macF key (strL (claimS s n))) h1 h2 h3 (macF_len _ _) (sumF_range _)
    · exact claimR_some _ s n _ hr
    · have ho := openR_some key _ now s n _ hr
      rw [if_pos rfl] at ho
      unfold tokS
      rw [ho]
      by_cases hn : n ≤ now
      · rw [if_pos hn]; exact Or.inr ⟨by omega, rfl⟩
      · rw [if_neg hn]; exact Or.inl ⟨by omega, rfl⟩
  · refine Or.inl ⟨by unfold mintR; rw [if_neg h], ?_⟩
    by_cases h1 : n < 0
    · exact Or.inl h1
    · by_cases h2 : n > 1099511627776
      · exact Or.inr (Or.inl ⟨h1, h2⟩)
      · refine Or.inr (Or.inr ⟨h1, h2, ?_⟩)
        rw [Bool.eq_false_iff]; intro h3; exact h ⟨h3, by omega, by omega⟩

theorem run_neq_pass (a b : ByteArray) (n m : Int) (w : World) : (binOp .neq 35 (.agg (passC a n).toArray) (.agg (passC b m).toArray)).run Tryd.prog w = .ok (.bool (!((a.toList == b.toList) && (n == m)))) w := by
  have h := run_eql_pass a b n m w
  rw [run_eql_struct] at h
  rw [run_neq_struct]
  cases hq : (Op.equalIn 10000 35 (.agg (passC a n).toArray) (.agg (passC b m).toArray)).run Tryd.prog w with
  | ok v w2 => rw [hq] at h; simp only [Result.andThen_ok] at h ⊢; injection h with h1 h2; injection h1 with h1; rw [h1, h2]
  | halt x w2 => rw [hq] at h; simp [Result.andThen] at h

set_option maxHeartbeats 8000000 in
theorem lawback_any (w : World) (bs0 : List Int) (A : Option Addr) (c : Nat) (hr : Rd w A (nums .u8 bs0)) (hc : bs0.length ≤ c) (hA : A = none → c = 0) (hu : U8 bs0) (s0 : ByteArray) (n : Int) (hlo : -9223372036854775808 ≤ n) (hhi : n ≤ 9223372036854775807) (now : Int) (hk : KV w) :
    Calls Tryd.prog 8 #[.slice A bs0.length c, .string s0, .int .i64 n, .int .i64 now] w fun e w' => e = .returned (.bool true) ∧ Below w.heap.size w w' := by
  obtain ⟨bs, hbl, _, hK, HCUT1⟩ := (Byt.mk hr hc hA hu).cut 300 300 rfl
  obtain ⟨s, hsl, HCUT2⟩ := cut4 s0
  have hc0 := fun (w : World) (h : Byt w A c bs) => mint_any w bs A c h (by omega) s hsl n hlo hhi
  have HK := Lib.hid hk
  have HKB := Lib.hid hK
  have hs0 : ((⟨#[]⟩ : ByteArray).toList == (⟨#[]⟩ : ByteArray).toList) = true := str_eq _
  rcases back_law bs s n now with ⟨h1, h2⟩ | ⟨T, hT, h1, h2, h3⟩
  · rw [h1] at hc0
    have HC0 := Lib.hid hc0
    have hcn := fun (w : World) => refname_any w s hsl
    clear hc0 hk h1 hr hc hA hu hK
    rcases h2 with h2 | ⟨h2, h3⟩ | ⟨h2, h3, h4⟩
    · clear hcn
      go_enter Tryd.func8, Tryd.ntmps8
      go_wp2_with fail
      go_at_call 9
      refine (HCUT1.out _).mono ?_
      rintro e wz ⟨rfl, rfl⟩
      go_wp2_with fail
      go_at_call 10
      refine (HCUT2.out _).mono ?_
      rintro e w0 ⟨rfl, hB⟩
      go_wp2_with fail
      go_at_call 12
      refine (HC0.out _ (HKB.out.up hB) (HK.out.below hB HK.out.lt)).mono ?_
      rintro e w1 ⟨rfl, hb1⟩
      have hB := hB.trans (hb1.mono hB.size)
      go_wp2_with ((with_reducible apply st_un); rfl)
      go_at_call 15
      refine (lives_any _ (HK.out.below hB HK.out.lt)).mono ?_
      rintro e wl ⟨rfl, hbl⟩
      have hBl := Below.trans hB (hbl.mono (Below.size hB))
      go_wp2_with fail
      go_ret
      exact ⟨rfl, hBl⟩
    · clear hcn
      go_enter Tryd.func8, Tryd.ntmps8
      go_wp2_with fail
      go_at_call 9
      refine (HCUT1.out _).mono ?_
      rintro e wz ⟨rfl, rfl⟩
      go_wp2_with fail
      go_at_call 10
      refine (HCUT2.out _).mono ?_
      rintro e w0 ⟨rfl, hB⟩
      go_wp2_with fail
      go_at_call 12
      refine (HC0.out _ (HKB.out.up hB) (HK.out.below hB HK.out.lt)).mono ?_
      rintro e w1 ⟨rfl, hb1⟩
      have hB := hB.trans (hb1.mono hB.size)
      go_wp2_with ((with_reducible apply st_un); rfl)
      go_at_call 15
      refine (lives_any _ (HK.out.below hB HK.out.lt)).mono ?_
      rintro e wl ⟨rfl, hbl⟩
      have hBl := Below.trans hB (hbl.mono (Below.size hB))
      go_wp2_with fail
      go_ret
      exact ⟨rfl, hBl⟩
    · rw [h4] at hcn
      have HCN := Lib.hid hcn
      clear hcn h4
      go_enter Tryd.func8, Tryd.ntmps8
      go_wp2_with fail
      go_at_call 9
      refine (HCUT1.out _).mono ?_
      rintro e wz ⟨rfl, rfl⟩
      go_wp2_with fail
      go_at_call 10
      refine (HCUT2.out _).mono ?_
      rintro e w0 ⟨rfl, hB⟩
      go_wp2_with fail
      go_at_call 12
      refine (HC0.out _ (HKB.out.up hB) (HK.out.below hB HK.out.lt)).mono ?_
      rintro e w1 ⟨rfl, hb1⟩
      have hB := hB.trans (hb1.mono hB.size)
      go_wp2_with ((with_reducible apply st_un); rfl)
      go_at_call 22
      refine (HCN.out _).mono ?_
      rintro e w2 ⟨rfl, hb2⟩
      have hB2 := hB.trans (hb2.mono hB.size)
      go_wp2_with ((with_reducible apply st_un); rfl)
      go_at_call 15
      refine (lives_any _ (HK.out.below hB2 HK.out.lt)).mono ?_
      rintro e wl ⟨rfl, hbl⟩
      have hBl := Below.trans hB2 (hbl.mono (Below.size hB2))
      go_wp2_with fail
      go_ret
      exact ⟨rfl, hBl⟩
  · rw [h1] at hc0
    have HC0 := Lib.hid hc0
    have hc2 := fun (w : World) => tclaim_any w T hT
    rw [h2] at hc2
    have HC2 := Lib.hid hc2
    have heq1 := run_eql_pass s s n n
    have hne1 := run_neq_pass s s n n
    have heq2 := run_eql_zero
    have hss := str_eq s
    have hnn : (n == n) = true := by simp
    rw [hss, hnn] at heq1 hne1
    have hc1 := fun (w : World) (h : Byt w A c bs) => open_any w bs A c h (by omega) T hT now
    rcases h3 with ⟨h3, h4⟩ | ⟨h3, h4⟩
    · rw [h4] at hc1
      have HC1 := Lib.hid hc1
      clear hc0 hc1 hc2 h1 h2 h4 hk hr hc hA hu hK
      go_enter Tryd.func8, Tryd.ntmps8
      go_wp2_with fail
      go_at_call 9
      refine (HCUT1.out _).mono ?_
      rintro e wz ⟨rfl, rfl⟩
      go_wp2_with fail
      go_at_call 10
      refine (HCUT2.out _).mono ?_
      rintro e w0 ⟨rfl, hB⟩
      go_wp2_with fail
      go_at_call 12
      refine (HC0.out _ (HKB.out.up hB) (HK.out.below hB HK.out.lt)).mono ?_
      rintro e w1 ⟨rfl, hb1⟩
      have hB := hB.trans (hb1.mono hB.size)
      go_wp2_with fail
      go_at_call 16
      refine (HC1.out _ (HKB.out.up hB) (HK.out.below hB HK.out.lt)).mono ?_
      rintro e w2 ⟨rfl, hb2⟩
      have hB2 := hB.trans (hb2.mono hB.size)
      have hq2 : Blk (w2.alloc (.cells (passC ⟨#[]⟩ 0).toArray 35)) w2.heap.size (passC ⟨#[]⟩ 0) 35 := Blk.new' _ _ _ _ _ rfl rfl
      go_wp2_with (first | (((with_reducible apply st_storeW (off := 0) (vs := passC s n) (cs := passC ⟨#[]⟩ 0) (T := 35)); rfl; rfl; exact hq2; exact passSize; (simp [passC]); exact passC_one _ _; intro w11 hd11 hw11; rw [laid_all _ _ (by rfl)] at hd11); have hB3 := Wrote.below (hB2.alloc hB2.size _) hw11 hB2.size; have hl1 := hd11.lt; have hq3 : Blk (w11.alloc (.cells (passC ⟨#[]⟩ 0).toArray 35)) w11.heap.size (passC ⟨#[]⟩ 0) 35 := Blk.new' _ _ _ _ _ rfl rfl) | (((with_reducible apply st_storeW (off := 0) (vs := passC s n) (cs := passC ⟨#[]⟩ 0) (T := 35)); rfl; rfl; exact hq3; exact passSize; (simp [passC]); exact passC_one _ _; intro w13 hd13 hw13; rw [laid_all _ _ (by rfl)] at hd13); have hB4 := Wrote.below (hB3.alloc hB3.size _) hw13 hB3.size; have hp1 := hw13.blk (hd11.alloc _) (by omega); have hl1 := hp1.lt; have hl2 := hd13.lt) | ((with_reducible apply st_un); rfl))
      go_at_call 20
      refine (HC2.out _).mono ?_
      rintro e w4 ⟨rfl, hb4⟩
      have hB5 := hB4.trans (hb4.mono hB4.size)
      have hp1 := hp1.up hb4
      have hp2 := hd13.up hb4
      have hl1 := hp1.lt
      have hl2 := hp2.lt
      have hq4 : Blk (w4.alloc (.cells (passC ⟨#[]⟩ 0).toArray 35)) w4.heap.size (passC ⟨#[]⟩ 0) 35 := Blk.new' _ _ _ _ _ rfl rfl
      go_wp2_with (first | (((with_reducible apply st_storeW (off := 0) (vs := passC s n) (cs := passC ⟨#[]⟩ 0) (T := 35)); rfl; rfl; exact hq4; exact passSize; (simp [passC]); exact passC_one _ _; intro w14 hd14 hw14; rw [laid_all _ _ (by rfl)] at hd14); have hB6 := Wrote.below (hB5.alloc hB5.size _) hw14 hB5.size; have hp1 := hw14.blk (hp1.alloc _) (by omega); have hp2 := hw14.blk (hp2.alloc _) (by omega)) | ((with_reducible apply st_load (n := 2) (cs := passC s n) (T := 35)); rfl; exact hd14; exact Tryd.underlying35; rfl; exact passSize; (exact Nat.le_refl 2); (exact row_all _ _ rfl)) | ((with_reducible apply st_load (n := 2) (cs := passC s n) (T := 35)); rfl; exact hp2; exact Tryd.underlying35; rfl; exact passSize; (exact Nat.le_refl 2); (exact row_all _ _ rfl)) | ((with_reducible apply st_load (n := 2) (cs := passC s n) (T := 35)); rfl; exact hp1; exact Tryd.underlying35; rfl; exact passSize; (exact Nat.le_refl 2); (exact row_all _ _ rfl)) | ((with_reducible apply st_un); rfl))
      go_at_call 15
      refine (lives_any _ (HK.out.below hB6 HK.out.lt)).mono ?_
      rintro e wl ⟨rfl, hbl⟩
      have hBl := Below.trans hB6 (hbl.mono (Below.size hB6))
      go_wp2_with fail
      go_ret
      exact ⟨rfl, hBl⟩
    · rw [h4] at hc1
      have HC1 := Lib.hid hc1
      clear hc0 hc1 hc2 h1 h2 h4 hk hr hc hA hu hK
      go_enter Tryd.func8, Tryd.ntmps8
      go_wp2_with fail
      go_at_call 9
      refine (HCUT1.out _).mono ?_
      rintro e wz ⟨rfl, rfl⟩
      go_wp2_with fail
      go_at_call 10
      refine (HCUT2.out _).mono ?_
      rintro e w0 ⟨rfl, hB⟩
      go_wp2_with fail
      go_at_call 12
      refine (HC0.out _ (HKB.out.up hB) (HK.out.below hB HK.out.lt)).mono ?_
      rintro e w1 ⟨rfl, hb1⟩
      have hB := hB.trans (hb1.mono hB.size)
      go_wp2_with fail
      go_at_call 16
      refine (HC1.out _ (HKB.out.up hB) (HK.out.below hB HK.out.lt)).mono ?_
      rintro e w2 ⟨rfl, hb2⟩
      have hB2 := hB.trans (hb2.mono hB.size)
      have hq2 : Blk (w2.alloc (.cells (passC ⟨#[]⟩ 0).toArray 35)) w2.heap.size (passC ⟨#[]⟩ 0) 35 := Blk.new' _ _ _ _ _ rfl rfl
      go_wp2_with (first | (((with_reducible apply st_storeW (off := 0) (vs := passC ⟨#[]⟩ 0) (cs := passC ⟨#[]⟩ 0) (T := 35)); rfl; rfl; exact hq2; exact passSize; (simp [passC]); exact passC_one _ _; intro w11 hd11 hw11; rw [laid_all _ _ (by rfl)] at hd11); have hB3 := Wrote.below (hB2.alloc hB2.size _) hw11 hB2.size; have hl1 := hd11.lt; have hq3 : Blk (w11.alloc (.cells (passC ⟨#[]⟩ 0).toArray 35)) w11.heap.size (passC ⟨#[]⟩ 0) 35 := Blk.new' _ _ _ _ _ rfl rfl) | (((with_reducible apply st_storeW (off := 0) (vs := passC s n) (cs := passC ⟨#[]⟩ 0) (T := 35)); rfl; rfl; exact hq3; exact passSize; (simp [passC]); exact passC_one _ _; intro w13 hd13 hw13; rw [laid_all _ _ (by rfl)] at hd13); have hB4 := Wrote.below (hB3.alloc hB3.size _) hw13 hB3.size; have hp1 := hw13.blk (hd11.alloc _) (by omega); have hl1 := hp1.lt; have hl2 := hd13.lt) | ((with_reducible apply st_un); rfl))
      go_at_call 20
      refine (HC2.out _).mono ?_
      rintro e w4 ⟨rfl, hb4⟩
      have hB5 := hB4.trans (hb4.mono hB4.size)
      have hp1 := hp1.up hb4
      have hp2 := hd13.up hb4
      have hl1 := hp1.lt
      have hl2 := hp2.lt
      have hq4 : Blk (w4.alloc (.cells (passC ⟨#[]⟩ 0).toArray 35)) w4.heap.size (passC ⟨#[]⟩ 0) 35 := Blk.new' _ _ _ _ _ rfl rfl
      go_wp2_with (first | (((with_reducible apply st_storeW (off := 0) (vs := passC s n) (cs := passC ⟨#[]⟩ 0) (T := 35)); rfl; rfl; exact hq4; exact passSize; (simp [passC]); exact passC_one _ _; intro w14 hd14 hw14; rw [laid_all _ _ (by rfl)] at hd14); have hB6 := Wrote.below (hB5.alloc hB5.size _) hw14 hB5.size; have hp1 := hw14.blk (hp1.alloc _) (by omega); have hp2 := hw14.blk (hp2.alloc _) (by omega)) | ((with_reducible apply st_load (n := 2) (cs := passC s n) (T := 35)); rfl; exact hd14; exact Tryd.underlying35; rfl; exact passSize; (exact Nat.le_refl 2); (exact row_all _ _ rfl)) | ((with_reducible apply st_load (n := 2) (cs := passC s n) (T := 35)); rfl; exact hp2; exact Tryd.underlying35; rfl; exact passSize; (exact Nat.le_refl 2); (exact row_all _ _ rfl)) | ((with_reducible apply st_load (n := 2) (cs := passC ⟨#[]⟩ 0) (T := 35)); rfl; exact hp1; exact Tryd.underlying35; rfl; exact passSize; (exact Nat.le_refl 2); (exact row_all _ _ rfl)) | ((with_reducible apply st_un); rfl))
      go_at_call 15
      refine (lives_any _ (HK.out.below hB6 HK.out.lt)).mono ?_
      rintro e wl ⟨rfl, hbl⟩
      have hBl := Below.trans hB6 (hbl.mono (Below.size hB6))
      go_wp2_with fail
      go_ret
      exact ⟨rfl, hBl⟩

end Go.Proofs.YtmfccnkjnkmgiaaDoor
