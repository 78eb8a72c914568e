/- That inquestlaw03.MacLong returns true. Condition: the table of layer 2 reads as its text lays it. -/
import Derived.Test.YtjmoaalchefdnaaDoorZeros
import Derived.Test.YtjmoaalchefdnaaDoorGuard
namespace Go.Proofs.YtjmoaalchefdnaaDoor
open Go.RowKit

theorem k64_sum (key : List Int) (h : 64 < key.length) : k64 (sumF key) = k64 key := by
  unfold k64 kS; rw [if_pos h, if_neg (by rw [sumF_len]; omega)]
theorem macF_sum (key text : List Int) (h : 64 < key.length) : macF (sumF key) text = macF key text := by
  unfold macF inF; rw [k64_sum key h]
theorem k64_zeros (key : List Int) (j : Nat) (h : key.length + j ≤ 64) : k64 (key ++ List.replicate j 0) = k64 key := by
  unfold k64 kS
  rw [if_neg (by simp; omega), if_neg (by omega), List.append_assoc, List.replicate_append_replicate]
  congr 2
  simp; omega
theorem macF_zeros (key text : List Int) (j : Nat) (h : key.length + j ≤ 64) : macF (key ++ List.replicate j 0) text = macF key text := by
  unfold macF inF; rw [k64_zeros key j h]

set_option maxHeartbeats 4000000 in
theorem lawmaclong_any (w : World) (key0 : List Int) (A : Option Addr) (c : Nat) (hr : Rd w A (nums .u8 key0)) (hc : key0.length ≤ c) (hA : A = none → c = 0) (hu : U8 key0)
    (text0 : List Int) (B : Option Addr) (d : Nat) (hr2 : Rd w B (nums .u8 text0)) (hd : text0.length ≤ d) (hB : B = none → d = 0) (hu2 : U8 text0) (z : Int) (hk : KV w) :
    Calls Tryd.prog 5 #[.slice A key0.length c, .slice B text0.length d, .int .i64 z] w fun e w' => e = .returned (.bool true) ∧ Below w.heap.size w w' := by
  obtain ⟨key, hkl, _, hK, HCUT1⟩ := (Byt.mk hr hc hA hu).cut 1000 1000 rfl
  obtain ⟨text, htl, _, hT, HCUT2⟩ := (Byt.mk hr2 hd hB hu2).cut 1000 1000 rfl
  have HK := Lib.hid hk
  clear hk hr hc hA hu hr2 hd hB hu2
  obtain ⟨M, hM⟩ : ∃ M, M = macF key text := ⟨_, rfl⟩
  have hMl : M.length = 32 := by rw [hM, macF_len]
  have heq := run_eql_nums (P := Tryd.prog) (t := 26) Tryd.underlying26 Tryd.underlying5 (by kernel_rfl) (by kernel_rfl) M M hMl hMl
  rw [decide_eq_true rfl] at heq
  have HM := Lib.hid hM
  have HEQ := Lib.hid heq
  clear hM heq hMl
  by_cases hlong : 64 < key.length
  · have hms : macF (sumF key) text = M := by rw [macF_sum key text hlong, HM.out]
    have HMS := Lib.hid hms
    clear hms
    go_enter Tryd.func5, Tryd.ntmps5
    go_wp2_with (first
      | (go_at_call 9; ((with_reducible refine (HCUT1.out w).mono ?_); rintro e w' ⟨rfl, rfl⟩))
      | (go_at_call 9; ((with_reducible refine (HCUT2.out w).mono ?_); rintro e w' ⟨rfl, rfl⟩)))
    go_at_call 16
    refine (sum_any w key A c hK.rd hK.le hK.nn (by omega) HK.out).mono ?_
    rintro e w1 ⟨rfl, hb1⟩
    obtain ⟨m, hm⟩ : ∃ m, m = sumF key := ⟨_, rfl⟩
    have hml : m.length = 32 := by rw [hm, sumF_len]
    rw [← hm] at HMS ⊢
    have HML := Lib.hid hml
    clear hm hml
    go_wp2_with (apply st_storeW (off := 0) (vs := nums .u8 m) (cs := nums .u8 (List.replicate 32 0)) (T := 26); rfl; rfl; exact Blk.new' w1 _ _ _ _ rfl rfl; (rw [nums_length, HML.out]; kernel_rfl); (rw [nums_length, HML.out]; decide); exact nums_one _ _; intro w2 hb2 hw2; rw [laid_all _ _ (by rw [nums_length, HML.out]; rfl)] at hb2)
    have hB2 := (Wrote.below (hb1.alloc hb1.size _) hw2 hb1.size).drew
    have hb2 := hb2.drew
    have hk2 := HK.out.below hB2 HK.out.lt
    refine wp_region_C (Same [] w2) [2, 5, 8] (by kernel_rfl) (by kernel_rfl) (by intro c a w h; first | (obtain ⟨_, h, _⟩ := h; cases h; done) | (obtain ⟨_, _, h, _⟩ := h; cases h; done)) (by intro a w h; first | (obtain ⟨h, _⟩ := h; cases h; done) | (obtain ⟨_, h, _⟩ := h; cases h; done)) (Same.refl _ _) ?_
    repeat (refine wd_q (v := ?_) rfl rfl rfl rfl rfl rfl (fun w' hw' K hK => ?_) ?_; rotate_left; (skip; go_wp2; exact rfl); simp only [Act.put, List.setIfInBounds_toArray, List.set_cons_zero, List.set_cons_succ])
    refine wd_l rfl rfl (by intro a w h; first | (obtain ⟨h, _⟩ := h; cases h; done) | (obtain ⟨_, h, _⟩ := h; cases h; done)) ?_
    go_wp2_with fail
    go_at_call 11
    have hcall := mac_any w2.drew key A c (hK.up hB2).rd hK.le hK.nn (by omega) text B d (hT.up hB2).rd hT.le hT.nn (by omega) hk2; rw [← HM.out] at hcall; refine hcall.mono ?_; clear hcall
    rintro e w3 ⟨rfl, hb3⟩
    have hB3 := hB2.trans (hb3.mono hB2.size)
    have hk3 := HK.out.below hB3 HK.out.lt
    have hr3 := Rd.ofBlk (hb2.up hb3)
    go_wp2_with fail
    refine ⟨.inr (fun g hg => by simp at hg), ?_⟩
    repeat (refine wd_w (v := ?_) rfl rfl rfl rfl rfl rfl (fun w' hw' K hK => ?_) ?_; rotate_left; (skip; go_wp2_with ((apply st_allArr; exact Tryd.underlying26; kernel_rfl; rfl)); exact rfl); simp only [Act.put, List.setIfInBounds_toArray, List.set_cons_zero, List.set_cons_succ])
    refine wd_l rfl rfl (by intro a w h; first | (obtain ⟨h, _⟩ := h; cases h; done) | (obtain ⟨_, h, _⟩ := h; cases h; done)) ?_
    go_wp2_with fail
    go_at_call 11
    have hcall := mac_any w3 m (some ⟨w1.heap.size, 0, none⟩) 32 hr3 (by rw [HML.out]; decide) (fun h => by cases h) (by rw [HML.out]; decide) text B d (hT.up hB3).rd hT.le hT.nn (by omega) hk3; rw [HMS.out, HML.out] at hcall; refine hcall.mono ?_; clear hcall
    rintro e w4 ⟨rfl, hb4⟩
    have hB4 := hB3.trans (hb4.mono hB3.size)
    have hk4 := HK.out.below hB4 HK.out.lt
    go_wp2_with fail
    refine ⟨.inr (fun g hg => by simp at hg), ?_⟩
    have heq := HEQ.out
    repeat (refine wd_q (v := ?_) rfl rfl rfl rfl rfl rfl (fun w' hw' K hK => ?_) ?_; rotate_left; (have e1 := heq; go_wp2; exact rfl); simp only [Act.put, List.setIfInBounds_toArray, List.set_cons_zero, List.set_cons_succ])
    refine wd_lg rfl rfl (by intro a w h; first | (obtain ⟨h, _⟩ := h; cases h; done) | (obtain ⟨_, h, _⟩ := h; cases h; done)) ?_
    go_wp2_with fail
    go_at_call 14
    refine (lives_any w4 hk4).mono ?_
    rintro e w5 ⟨rfl, hb5⟩
    have hB5 := hB4.trans (hb5.mono hB4.size)
    go_wp2_with fail
    refine ⟨.inr (fun g hg => by simp at hg), ?_⟩
    refine wd_pick (b := true) (v := .bool true) rfl rfl rfl rfl rfl ?_
    simp only [Act.put, List.setIfInBounds_toArray, List.set_cons_zero, List.set_cons_succ]
    repeat (refine wd_q (v := ?_) rfl rfl rfl rfl rfl rfl (fun w' hw' K hK => ?_) ?_; rotate_left; (skip; go_wp2; exact rfl); simp only [Act.put, List.setIfInBounds_toArray, List.set_cons_zero, List.set_cons_succ])
    refine wd_nil ?_
    go_wp2_with fail
    go_ret
    exact ⟨rfl, hB5⟩
  · obtain ⟨j, hj, hjz⟩ : ∃ j : Nat, key.length + j ≤ 64 ∧ (if z < 0 then (0 : Int) else if (64 : Int) - (key.length : Int) < z then (64 : Int) - (key.length : Int) else z) = (j : Int) := by
      refine ⟨(if z < 0 then (0 : Int) else if (64 : Int) - (key.length : Int) < z then (64 : Int) - (key.length : Int) else z).toNat, ?_, ?_⟩ <;> (split <;> (try split)) <;> omega
    have hleast := fun w => refleast_any w z 0 (64 - (key.length : Int))
    rw [hjz] at hleast
    have HLEAST := Lib.hid hleast
    have hms := macF_zeros key text j hj
    rw [← HM.out] at hms
    obtain ⟨kz, hkz⟩ : ∃ kz, kz = key ++ List.replicate j 0 := ⟨_, rfl⟩
    rw [← hkz] at hms
    have hkzl : kz.length ≤ 64 := by rw [hkz]; simp; omega
    have HMS := Lib.hid hms
    have HKZ := Lib.hid hkz
    clear hms hleast hjz hkz
    go_enter Tryd.func5, Tryd.ntmps5
    go_wp2_with (first
      | (go_at_call 9; ((with_reducible refine (HCUT1.out w).mono ?_); rintro e w' ⟨rfl, rfl⟩))
      | (go_at_call 9; ((with_reducible refine (HCUT2.out w).mono ?_); rintro e w' ⟨rfl, rfl⟩)))
    go_at_call 17
    refine (HLEAST.out w).mono ?_
    rintro e w0 ⟨rfl, rfl⟩
    go_wp2_with fail
    go_at_call 10
    refine (refcopy_any w A c key hK.nn hK.rd (by omega)).mono ?_
    rintro e w1 ⟨v1, rfl, hb1, ho1⟩
    go_wp2_with (apply st_zeros (base := w.heap.size) (xs := key) (n := j); rfl; rfl; exact ho1; omega; exact hb1.size; intro v2 w2 ho2 hg2; rw [← HKZ.out] at ho2)
    have hB2 := below_grown hb1 ho1 hg2 (Nat.le_refl _) hb1.size
    obtain ⟨A2, c2, rfl, h2, hc2, hR2, hx2⟩ := ho2.from
    have hk2 := HK.out.below hB2 HK.out.lt
    go_at_call 11
    have hcall := mac_any w2 kz A2 c2 hR2 h2 hc2 (by omega) text B d (hT.up hB2).rd hT.le hT.nn (by omega) hk2; rw [HMS.out] at hcall; refine hcall.mono ?_; clear hcall
    rintro e w3 ⟨rfl, hb3⟩
    have hB3 := hB2.trans (hb3.mono hB2.size)
    have hk3 := HK.out.below hB3 HK.out.lt
    go_wp2_with fail
    go_at_call 11
    have hcall := mac_any w3 key A c (hK.up hB3).rd hK.le hK.nn (by omega) text B d (hT.up hB3).rd hT.le hT.nn (by omega) hk3; rw [← HM.out] at hcall; refine hcall.mono ?_; clear hcall
    rintro e w4 ⟨rfl, hb4⟩
    have hB4 := hB3.trans (hb4.mono hB3.size)
    have hk4 := HK.out.below hB4 HK.out.lt
    have heq := HEQ.out
    go_wp2_with fail
    go_at_call 14
    refine (lives_any w4 hk4).mono ?_
    rintro e w5 ⟨rfl, hb5⟩
    have hB5 := hB4.trans (hb5.mono hB4.size)
    go_wp2_with fail
    go_ret
    exact ⟨rfl, hB5⟩
end Go.Proofs.YtjmoaalchefdnaaDoor
