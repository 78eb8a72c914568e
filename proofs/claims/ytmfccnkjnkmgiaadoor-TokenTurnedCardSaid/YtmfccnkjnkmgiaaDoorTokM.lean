/- What the reference's Text and Mint of layer 5 answer; that inquestlaw05.TokenMints returns true. Condition: the table of layer 2 reads as its text lays it. -/
import Derived.Test.YtmfccnkjnkmgiaaDoorTok
namespace Go.Proofs.YtmfccnkjnkmgiaaDoor
open Go.RowKit Go.Proofs.YtmfccnkjnkmgiaaDoor.Pure

set_option maxHeartbeats 4000000 in
theorem reftext_any (w : World) (key : List Int) (A : Option Addr) (c : Nat) (hkb : Byt w A c key) (hkl : key.length ≤ 1000) (s : ByteArray) (hs : s.size ≤ 1000) (n : Int) (h1 : -9223372036854775808 ≤ n) (h2 : n ≤ 9223372036854775807) :
    Calls Tryd.prog 18 #[.slice A key.length c, .string s, .int .i64 n] w fun e w' => e = .returned (.string (tokS key s n)) ∧ Below w.heap.size w w' := by
  have hdec := fun w => PTokenOpens.inquestref04_Dec.calls 60 n (strOfNums (decS n)) w (rdec_f n h1 h2 60 (by omega))
  have hds := decB_size n h1 h2
  have hcs := claimS_size s n
  obtain ⟨D, hD⟩ : ∃ D, D = strOfNums (decS n) := ⟨_, rfl⟩
  have hcc : claimS s n = s ++ ⟨#[46]⟩ ++ D := by rw [hD]; rfl
  have hDB : decB n = D := by rw [hD]; rfl
  rw [hDB] at hds hcs
  rw [← hD] at hdec
  obtain ⟨C, hC⟩ : ∃ C, C = claimS s n := ⟨_, rfl⟩
  have htk : tokS key s n = C ++ ⟨#[46]⟩ ++ strOfNums (hexF (macF key (strL C))) := by rw [hC]; rfl
  rw [← hC] at hcs hcc
  have hcl60 : C.size ≤ 2000 := by omega
  have hmac := fun (w : World) (h : Byt w A c key) (B : Option Addr) (d : Nat) (hr : Rd w B (nums .u8 (strL C))) (hB : B = none → d = 0) => refmac_any w key A c h.rd h.nn (by omega) h.u (strL C) B d hr hB (by rw [strL_len]; omega) (strL_range C)
  have hml := macF_len key (strL C)
  have hmr : U8 (macF key (strL C)) := sumF_range _
  obtain ⟨m, hmm⟩ : ∃ m, m = macF key (strL C) := ⟨_, rfl⟩
  rw [← hmm] at htk hmac hml hmr
  have hxl := strOfNums_size (hexF m)
  rw [hexF_len, hml] at hxl
  have hex := fun (w : World) (A : Option Addr) (c : Nat) (h : Rd w A (nums .u8 m)) => refhex_any w A c m h (by omega) hmr
  rw [hml] at hex
  obtain ⟨X, hX⟩ : ∃ X, X = strOfNums (hexF m) := ⟨_, rfl⟩
  rw [← hX] at htk hxl hex
  have hsl := strL_len C
  have hsz0 : s.size + 1 ≤ 9223372036854775807 := by omega
  have hsz0' : (s ++ ⟨#[46]⟩).size + D.size ≤ 9223372036854775807 := by rw [ByteArray.size_append]; show s.size + 1 + D.size ≤ _; omega
  have hsz1 : C.size + 1 ≤ 9223372036854775807 := by omega
  have hsz2 : (C ++ ⟨#[46]⟩).size + X.size ≤ 9223372036854775807 := by rw [ByteArray.size_append]; show C.size + 1 + X.size ≤ _; omega
  have HCC := Lib.hid hcc.symm
  have HTK := Lib.hid htk
  have HMAC := Lib.hid hmac
  have HML := Lib.hid hml
  have HEX := Lib.hid hex
  have HSL := Lib.hid hsl
  have HKB := Lib.hid hkb
  have HDEC := Lib.hid hdec
  have HCS := Lib.hid hcs
  have HSZ1 := Lib.hid hsz1
  have HSZ2 := Lib.hid hsz2
  clear hcc hdec hD hDB hC htk hmac hml hmr hmm hex hX hkb hcs hds hsl hxl hsz1 hsz2
  have hB := Below.refl w.heap.size w
  go_enter Tryd.func18, Tryd.ntmps18
  go_wp2_with fail
  go_at_call 29
  refine (HDEC.out _).mono ?_
  rintro e w1 ⟨rfl, hd1⟩
  have hB := hB.trans ((drawn_below hd1).mono hB.size)
  clear hd1
  go_wp2_with ((with_reducible apply st_bytes); exact Tryd.underlying9; rfl; intro w3 c3 hb3 hr3 hc3)
  rw [HCC.out, ← HCS.out]
  rw [HCC.out] at hr3 hc3
  have hB := hB.trans (hb3.mono hB.size)
  have hsz1 := HSZ1.out
  have hsz2 := HSZ2.out
  go_at_call 30
  have hcall := HMAC.out w3 (HKB.out.up hB) (some ⟨w1.heap.size, 0, none⟩) c3 hr3 (fun h => by cases h)
  rw [HSL.out] at hcall
  refine hcall.mono ?_; clear hcall
  rintro e w4 ⟨rfl, hb4⟩
  have hB := hB.trans (hb4.mono hB.size)
  have hd0 : Blk (w4.alloc (.cells (nums .u8 (List.replicate 32 0)).toArray 49)) w4.heap.size (nums .u8 (List.replicate 32 0)) 49 := Blk.new' _ _ _ _ _ rfl rfl
  go_wp2_with (first | ((with_reducible apply st_storeW (off := 0) (vs := nums .u8 (m)) (cs := nums .u8 (List.replicate 32 0)) (T := 49)); rfl; rfl; exact hd0; (rw [nums_length, HML.out]; kernel_rfl); (rw [nums_length, HML.out]; decide); exact nums_one _ _; intro w5 hd5 hw5; rw [laid_all _ _ (by rw [nums_length, HML.out]; rfl)] at hd5) | ((with_reducible apply st_allArr); exact Tryd.underlying49; kernel_rfl; rfl))
  have hB := Wrote.below (hB.alloc hB.size _) hw5 hB.size
  go_at_call 31
  refine (HEX.out w5 (some ⟨w4.heap.size, 0, none⟩) 32 (Rd.ofBlk hd5)).mono ?_
  rintro e w6 ⟨rfl, hb6⟩
  have hB := hB.trans (hb6.mono hB.size)
  go_wp2_with fail
  go_ret
  exact ⟨by rw [HTK.out]; rfl, hB⟩

set_option maxHeartbeats 4000000 in
theorem refmint_any (w : World) (key : List Int) (A : Option Addr) (c : Nat) (hkb : Byt w A c key) (hkl : key.length ≤ 1000) (s : ByteArray) (hs : s.size ≤ 300) (n : Int) (h1 : -9223372036854775808 ≤ n) (h2 : n ≤ 9223372036854775807) :
    Calls Tryd.prog 13 #[.slice A key.length c, .string s, .int .i64 n] w fun e w' => e = .returned (.tuple #[.string (mintR key s n).1, .int .i64 (mintR key s n).2]) ∧ Below w.heap.size w w' := by
  have hname := fun w => PTokenBack.inquestref04_Name.calls 400 s (nameB s) w (rname_f s (by omega) 400 (by omega))
  have htx := fun (w : World) (h : Byt w A c key) => reftext_any w key A c h hkl s (by omega) n h1 h2
  have hm : mintR key s n = if nameB s = true ∧ 0 ≤ n ∧ n ≤ 1099511627776 then (tokS key s n, 0) else (⟨#[]⟩, 2) := rfl
  obtain ⟨nb, hnb⟩ : ∃ nb, nb = nameB s := ⟨_, rfl⟩
  rw [← hnb] at hname hm
  have HN := Lib.hid hname
  have HM := Lib.hid hm
  have HTX := Lib.hid htx
  have HKB := Lib.hid hkb
  clear hname hm hnb htx hkb
  by_cases hall : nb = true ∧ 0 ≤ n ∧ n ≤ 1099511627776
  · have hm := HM.out
    rw [if_pos hall] at hm
    rw [hm]
    obtain ⟨rfl, hlo, hhi⟩ := hall
    clear hm
    go_enter Tryd.func13, Tryd.ntmps13
    go_wp2_with fail
    go_at_call 22
    refine (HN.out _).mono ?_
    rintro e w1 ⟨rfl, hd1⟩
    have hB := drawn_below hd1
    clear hd1
    go_wp2_with fail
    go_at_call 18
    refine (HTX.out _ (HKB.out.up hB)).mono ?_
    rintro e w2 ⟨rfl, hb⟩
    have hB := hB.trans (hb.mono hB.size)
    go_wp2_with fail
    go_ret2
    exact ⟨rfl, hB⟩
  · have hm := HM.out
    rw [if_neg hall] at hm
    rw [hm]
    clear hm
    cases nb
    · go_enter Tryd.func13, Tryd.ntmps13
      go_wp2_with fail
      go_at_call 22
      refine (HN.out _).mono ?_
      rintro e w1 ⟨rfl, hd1⟩
      have hB := drawn_below hd1
      clear hd1
      go_wp2_with fail
      go_ret2
      exact ⟨rfl, hB⟩
    · by_cases hlo : n < 0
      · go_enter Tryd.func13, Tryd.ntmps13
        go_wp2_with fail
        go_at_call 22
        refine (HN.out _).mono ?_
        rintro e w1 ⟨rfl, hd1⟩
        have hB := drawn_below hd1
        clear hd1
        go_wp2_with fail
        go_ret2
        exact ⟨rfl, hB⟩
      · have hhi : 1099511627776 < n := by
          by_cases h : n ≤ 1099511627776
          · exact absurd ⟨rfl, by omega, h⟩ hall
          · omega
        clear hall
        go_enter Tryd.func13, Tryd.ntmps13
        go_wp2_with fail
        go_at_call 22
        refine (HN.out _).mono ?_
        rintro e w1 ⟨rfl, hd1⟩
        have hB := drawn_below hd1
        clear hd1
        go_wp2_with fail
        go_ret2
        exact ⟨rfl, hB⟩

theorem name_a : nameB ⟨#[97]⟩ = true := by decide +kernel
set_option maxHeartbeats 1000000 in
theorem lives_any (w : World) (hk : KV w) : Calls Tryd.prog 15 #[] w fun e w' => e = .returned (.bool true) ∧ Below w.heap.size w w' := by
  have hcall := mint_any w [] none 0 ⟨Rd.nil _ _, Nat.le_refl _, fun _ => rfl, U8.nil⟩ (by decide) ⟨#[97]⟩ (by decide) 5 (by decide) (by decide) hk
  have hm : mintR [] ⟨#[97]⟩ 5 = (tokS [] ⟨#[97]⟩ 5, 0) := by unfold mintR; rw [if_pos ⟨name_a, by decide, by decide⟩]
  have hsz := tokS_size [] ⟨#[97]⟩ 5
  have h5 : (decB 5).size = 1 := by decide +kernel
  rw [h5] at hsz
  rw [hm] at hcall
  obtain ⟨T, hT⟩ : ∃ T, T = tokS [] ⟨#[97]⟩ 5 := ⟨_, rfl⟩
  rw [← hT] at hcall hsz
  have hsz : T.size = 68 := hsz
  have HC := Lib.hid hcall
  clear hcall hm hT h5
  go_enter Tryd.func15, Tryd.ntmps15
  go_wp2_with fail
  go_at_call 12
  refine HC.out.mono ?_
  rintro e w1 ⟨rfl, hb1⟩
  go_wp2_with fail
  go_ret
  exact ⟨by first | rfl | (rw [hsz]; rfl), hb1⟩

end Go.Proofs.YtmfccnkjnkmgiaaDoor
