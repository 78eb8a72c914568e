/- That inquestlaw02.ShaJoined returns true. Condition: the package's table k reads as its text lays it. -/
import Derived.Test.YtdbjenlmbgmflaaDoorLawSums
namespace Go.Proofs.YtdbjenlmbgmflaaDoor
open Go.RowKit

set_option maxHeartbeats 4000000 in
theorem lawjoined_any (w : World) (bs0 : List Int) (A : Option Addr) (c : Nat) (hr : Rd w A (nums .u8 bs0)) (hc : bs0.length ≤ c) (hA : A = none → c = 0) (_hu : U8 bs0) (at0 : Int) (hk : KV w) :
    Calls Tryd.prog 9 #[.slice A bs0.length c, .int .i64 at0] w fun e w' => e = .returned (.bool true) ∧ Below w.heap.size w w' := by
  have hcut := refcut_any w A bs0.length c 3000 hc
  obtain ⟨bs, hbs⟩ : ∃ bs, bs = bs0.take 3000 := ⟨_, rfl⟩
  have hbl : bs.length ≤ 3000 := by rw [hbs, List.length_take]; omega
  have hcl : bs.length ≤ c := by rw [hbs, List.length_take]; omega
  rw [show min bs0.length 3000 = bs.length by rw [hbs, List.length_take]; omega] at hcut
  have hrb : Rd w A (nums .u8 bs) := by rw [hbs, nums_take]; exact hr.take _
  have hleast := refleast_any w at0 0 bs.length
  obtain ⟨m, hm⟩ : ∃ m : Nat, (m : Int) = (if at0 < 0 then 0 else if (bs.length : Int) < at0 then (bs.length : Int) else at0) := ⟨(if at0 < 0 then 0 else if (bs.length : Int) < at0 then (bs.length : Int) else at0).toNat, by split <;> (try split) <;> omega⟩
  have hml : m ≤ bs.length := by have : (m : Int) ≤ bs.length := by { rw [hm]; split <;> (try split) <;> omega }; omega
  rw [← hm] at hleast
  have heq := run_eql_nums (P := Tryd.prog) (t := 26) Tryd.underlying26 Tryd.underlying5 (by kernel_rfl) (by kernel_rfl) (sumF bs) (sumF bs) (sumF_len _) (sumF_len _)
  rw [decide_eq_true rfl] at heq
  have HEQ := Lib.hid heq
  clear heq
  have hl1 : (bs.take m).length = m := by rw [List.length_take]; omega
  have hr1 : Rd w A (nums .u8 (bs.take m)) := by rw [nums_take]; exact hrb.take _
  have hl2 : (bs.drop m).length = bs.length - m := by rw [List.length_drop]
  have HL1 := Lib.hid hl1
  have HL2 := Lib.hid hl2
  have HR1 := Lib.hid hr1
  have HCUT := Lib.hid hcut
  have HLEAST := Lib.hid hleast
  have HR := Lib.hid hrb
  have HK := Lib.hid hk
  have HA := Lib.hid hA
  clear hcut hrb hk hA _hu hr hbs hc hleast hm hl1 hr1 hl2
  go_enter Tryd.func9, Tryd.ntmps9
  go_wp2_with (first
    | (go_at_call 11; refine HCUT.out.mono ?_; rintro e w' ⟨rfl, rfl⟩)
    | (go_at_call 28; refine HLEAST.out.mono ?_; rintro e w' ⟨rfl, rfl⟩)
    | (go_at_call 24; refine (new_any w).mono ?_; rintro e w1 ⟨g, rfl, hg1, hb1, hH1⟩; have hHl1 := hH1.lt)
    | (go_at_call 25; have hcall := add_any w1 g [] (bs.take m) A c hH1 (HR1.out.up hb1) (by rw [HL1.out]; omega) HA.out (fun hp a ha => (by have := HR1.out.lt (by rw [nums_length]; exact hp) a ha; omega)) (by rw [HL1.out]; simp; omega) (HK.out.below hb1 HK.out.lt); rw [HL1.out] at hcall; (with_reducible refine hcall.mono ?_); clear hcall;
       rintro e w2 ⟨rfl, hBut2, hH2⟩; rw [List.nil_append] at hH2; have hB2 := hb1.trans (hBut2.below' (C := w.heap.size) hg1 hb1.size); have hHl2 := hH2.lt)
    | (go_at_call 27; refine (hsum_any w2 g (bs.take m) hH2 (by rw [HL1.out]; omega) (HK.out.below hB2 HK.out.lt)).mono ?_; rintro e w3 ⟨rfl, hb3⟩; have hB3 := hB2.trans (hb3.mono hB2.size); have hH3 := hH2.up hb3)
    | (apply st_from (i := m); exact Tryd.underlying22; kernel_rfl; rfl; rfl; exact hml; intro A2 hA2; have hr2 : Rd w A2 (nums .u8 (bs.drop m)) := (by rw [hA2, nums_drop]; exact HR.out.from (by rw [nums_length]; exact hcl)); have HA2 := Lib.hid hA2; clear hA2)
    | (go_at_call 25; have hcall := add_any w3 g (bs.take m) (bs.drop m) A2 (c - m) hH3 (hr2.up hB3) (by rw [HL2.out]; omega) (fun h => (by rw [HA2.out] at h; split at h; (next e => omega); (have := HA.out (by simpa using h); omega))) (fun hp a ha => (by have := hr2.lt (by rw [nums_length]; exact hp) a ha; omega)) (by rw [HL1.out, HL2.out]; omega) (HK.out.below hB3 HK.out.lt); rw [HL2.out] at hcall; (with_reducible refine hcall.mono ?_); clear hcall;
       rintro e w4 ⟨rfl, hBut4, hH4⟩; rw [List.take_append_drop] at hH4; have hB4 := hB3.trans (hBut4.below' (C := w.heap.size) hg1 hB3.size))
    | (go_at_call 27; have hcall := hsum_any w4 g bs hH4 (by omega) (HK.out.below hB4 HK.out.lt); (with_reducible refine hcall.mono ?_); clear hcall; rintro e w5 ⟨rfl, hb5⟩; have hB5 := hB4.trans (hb5.mono hB4.size); have hH5 := hH4.up hb5)
    | (go_at_call 13; have hcall := sum_any w5 bs A c (HR.out.up hB5) hcl HA.out (by omega) (HK.out.below hB5 HK.out.lt); (with_reducible refine hcall.mono ?_); clear hcall; rintro e w6 ⟨rfl, hb6⟩; have hB6 := hB5.trans (hb6.mono hB5.size); have hH6 := hH5.up hb6; have heq := HEQ.out)
    | (go_at_call 26; have hcall := count_any w6 g bs hH6; (with_reducible refine hcall.mono ?_); clear hcall; rintro e w' ⟨rfl, rfl⟩)
    | (go_at_call 16; refine (lives_any _ (HK.out.below hB6 HK.out.lt)).mono ?_; rintro e w7 ⟨rfl, hb7⟩))
  go_ret
  exact ⟨rfl, hB6.trans (hb7.mono hB6.size)⟩
end Go.Proofs.YtdbjenlmbgmflaaDoor
