/- What token.claim, token.Mint and the reference's Text and Mint answer. Condition (token's): the table of layer 2 reads as its text lays it. -/
import Derived.Test.YtmfccnkjnkmgiaaDoorDec
import Derived.Test.YtmfccnkjnkmgiaaDoorGg
import Derived.Test.YtmfccnkjnkmgiaaDoorGf
import Derived.Test.YtmfccnkjnkmgiaaDoorGe
import Derived.Test.YtmfccnkjnkmgiaaDoorGh
namespace Go.Proofs.YtmfccnkjnkmgiaaDoor
open Go.RowKit Go.Proofs.YtmfccnkjnkmgiaaDoor.Pure

def decB (n : Int) : ByteArray := strOfNums (decS n)
theorem decB_size (n : Int) (h1 : -9223372036854775808 ≤ n) (h2 : n ≤ 9223372036854775807) : (decB n).size ≤ 21 := by unfold decB; rw [strOfNums_size]; exact (decS_bytes n h1 h2).2
def DOT : ByteArray := ⟨#[46]⟩
/-- A claim's text. -/
def claimS (s : ByteArray) (n : Int) : ByteArray := s ++ DOT ++ decB n
theorem claimS_size (s : ByteArray) (n : Int) : (claimS s n).size = s.size + 1 + (decB n).size := by unfold claimS; rw [ByteArray.size_append, ByteArray.size_append]; rfl

theorem drawn_below {w w' : World} (h : Go.Proofs.YtmfccnkjnkmgiaaDoorW.PrintWords.Drawn0 w w') : Below w.heap.size w w' := by
  obtain ⟨n, rfl⟩ := h.out
  exact ⟨rfl, rfl, rfl, Nat.le_refl _, fun _ _ => rfl⟩

set_option maxHeartbeats 2000000 in
theorem claim_any (w : World) (s : ByteArray) (hs : s.size ≤ 1000) (n : Int) (h1 : -9223372036854775808 ≤ n) (h2 : n ≤ 9223372036854775807) :
    Calls Tryd.prog 24 #[.agg #[.string s, .int .i64 n]] w fun e w' => e = .returned (.string (claimS s n)) ∧ Below w.heap.size w w' := by
  have hd := fun w => dec_any w n h1 h2
  have hds := decB_size n h1 h2
  obtain ⟨D, hD⟩ : ∃ D, D = decB n := ⟨_, rfl⟩
  have hr : Hid (claimS s n = s ++ ⟨#[46]⟩ ++ D) := by rw [hD]; rfl
  have hd : Hid (∀ w, Calls Tryd.prog 34 #[.int .i64 n] w fun e w' => e = .returned (.string D) ∧ Below w.heap.size w w') := by rw [hD]; exact hd
  rw [← hD] at hds
  clear hD
  have hz1 : s.size + 1 ≤ 9223372036854775807 := by omega
  have hz2 : (s ++ ⟨#[46]⟩).size + D.size ≤ 9223372036854775807 := by rw [ByteArray.size_append]; show s.size + 1 + D.size ≤ _; omega
  have hb : Blk (w.alloc (.cells #[.string s, .int .i64 n] 35)) w.heap.size [.string s, .int .i64 n] 35 := Blk.new' _ _ _ _ _ rfl rfl
  have hB : Below w.heap.size w (w.alloc (.cells #[.string s, .int .i64 n] 35)) := (Below.refl _ _).alloc (Nat.le_refl _) _
  go_enter Tryd.func24, Tryd.ntmps24
  go_wp2_with fail
  refine named_world ?_
  intro w0 hw0
  rw [← hw0] at hb hB
  have c0 := hb.cell 0
  have c1 := hb.cell 1
  simp only [List.getElem?_cons_zero, List.getElem?_cons_succ] at c0 c1
  have hB := hB.drew
  clear hw0 hb
  refine wp_region_C (Same [w.heap.size] w0) [5] (by kernel_rfl) (by kernel_rfl) (by intro c a w h; first | (obtain ⟨_, h, _⟩ := h; cases h; done) | (obtain ⟨_, _, h, _⟩ := h; cases h; done) | (obtain ⟨_, _, _, h, _⟩ := h; cases h; done) | (obtain ⟨_, _, _, _, h, _⟩ := h; cases h; done)) (by intro a w h; first | (obtain ⟨h, _⟩ := h; cases h; done) | (obtain ⟨_, h, _⟩ := h; cases h; done) | (obtain ⟨_, _, h, _⟩ := h; cases h; done) | (obtain ⟨_, _, _, h, _⟩ := h; cases h; done)) (Same.refl _ _) ?_
  repeat (refine wd_q (v := ?_) rfl rfl rfl rfl rfl rfl (fun w' hw' K hK => ?_) ?_; rotate_left; (have e1 := (hw'.cell w.heap.size (by simp) 0).trans c0; have e2 := (hw'.cell w.heap.size (by simp) 1).trans c1; go_wp2; exact rfl); simp only [Act.put, List.setIfInBounds_toArray, List.set_cons_zero, List.set_cons_succ])
  refine wd_l rfl rfl (by intro a w h; first | (obtain ⟨h, _⟩ := h; cases h; done) | (obtain ⟨_, h, _⟩ := h; cases h; done) | (obtain ⟨_, _, h, _⟩ := h; cases h; done) | (obtain ⟨_, _, _, h, _⟩ := h; cases h; done)) ?_
  go_wp2_with fail
  go_at_call 34
  refine (hd.out _).mono ?_
  rintro e w1 ⟨rfl, hb1⟩
  have hB := hB.trans (hb1.mono hB.size)
  go_wp2_with fail
  refine ⟨.inr ((Same.refl _ _).below (show Below w0.heap.size w0 w1 from (Below.refl _ _).drew.trans (hb1.mono (Nat.le_refl _))) (by intro q hq; simp at hq; subst hq; exact World.block_lt_of_cell? (h := c0))), ?_⟩
  repeat (refine wd_q (v := ?_) rfl rfl rfl rfl rfl rfl (fun w' hw' K hK => ?_) ?_; rotate_left; (skip; go_wp2; exact rfl); simp only [Act.put, List.setIfInBounds_toArray, List.set_cons_zero, List.set_cons_succ])
  refine wd_nil ?_
  go_wp2_with fail
  go_ret
  exact ⟨by rw [hr.out]; rfl, hB⟩

/-- The token of a key, a name and a time. -/
def tokS (key : List Int) (s : ByteArray) (n : Int) : ByteArray := claimS s n ++ DOT ++ strOfNums (hexF (macF key (strL (claimS s n))))
theorem tokS_size (key : List Int) (s : ByteArray) (n : Int) : (tokS key s n).size = s.size + (decB n).size + 66 := by
  unfold tokS
  rw [ByteArray.size_append, ByteArray.size_append, claimS_size, strOfNums_size, hexF_len, macF_len]
  show s.size + 1 + (decB n).size + 1 + 2 * 32 = _
  omega
def mintR (key : List Int) (s : ByteArray) (n : Int) : ByteArray × Int := if nameB s = true ∧ 0 ≤ n ∧ n ≤ 1099511627776 then (tokS key s n, 0) else (⟨#[]⟩, 2)
theorem nameB_size (s : ByteArray) (h : nameB s = true) : s.size ≤ 16 := by
  unfold nameB at h
  simp only [Bool.and_eq_true, decide_eq_true_eq] at h
  exact h.1.1.1.2

set_option maxHeartbeats 4000000 in
theorem mint_any (w : World) (key : List Int) (A : Option Addr) (c : Nat) (hkb : Byt w A c key) (hkl : key.length ≤ 1000) (s : ByteArray) (hs : s.size ≤ 300) (n : Int) (h1 : -9223372036854775808 ≤ n) (h2 : n ≤ 9223372036854775807) (hk : KV w) :
    Calls Tryd.prog 12 #[.slice A key.length c, .string s, .int .i64 n] w fun e w' => e = .returned (.tuple #[.string (mintR key s n).1, .int .i64 (mintR key s n).2]) ∧ Below w.heap.size w w' := by
  have hname := fun w => PTokenOpens.text_Name.calls 400 s (nameB s) w (name_f s (by omega) 400 (by omega))
  obtain ⟨nb, hnb⟩ : ∃ nb, nb = nameB s := ⟨_, rfl⟩
  have hm : mintR key s n = if nb = true ∧ 0 ≤ n ∧ n ≤ 1099511627776 then (tokS key s n, 0) else (⟨#[]⟩, 2) := by rw [hnb]; rfl
  have hsz := fun h : nb = true => nameB_size s (by rw [← hnb]; exact h)
  rw [← hnb] at hname
  have HN := Lib.hid hname
  have HM := Lib.hid hm
  have HSZ := Lib.hid hsz
  clear hname hm hnb hsz
  cases nb
  · have hm := HM.out
    rw [if_neg (by simp)] at hm
    rw [hm]
    clear hm
    go_enter Tryd.func12, Tryd.ntmps12
    go_wp2_with fail
    go_at_call 23
    refine (HN.out _).mono ?_
    rintro e w1 ⟨rfl, hd1⟩
    have hB := drawn_below hd1
    clear hd1
    go_wp2_with fail
    go_ret2
    exact ⟨rfl, hB⟩
  · have hs16 := HSZ.out rfl
    by_cases hlo : 0 ≤ n
    · by_cases hhi : n ≤ 1099511627776
      · have hm := HM.out
        rw [if_pos ⟨rfl, hlo, hhi⟩] at hm
        rw [hm]
        have hcl := fun w => claim_any w s (by omega) n h1 h2
        have hcs := claimS_size s n
        have hds := decB_size n h1 h2
        obtain ⟨C, hC⟩ : ∃ C, C = claimS s n := ⟨_, rfl⟩
        have htk : tokS key s n = C ++ ⟨#[46]⟩ ++ strOfNums (hexF (macF key (strL C))) := by rw [hC]; rfl
        rw [← hC] at hcl hcs
        have hcl60 : C.size ≤ 60 := by omega
        have hmac := fun (w : World) (h : Byt w A c key) (B : Option Addr) (d : Nat) (hr : Rd w B (nums .u8 (strL C))) (hd : (strL C).length ≤ d) (hB : B = none → d = 0) => mac_any w key A c h.rd h.le h.nn (by omega) (strL C) B d hr hd hB (by rw [strL_len]; omega)
        have hml := macF_len key (strL C)
        have hmr : U8 (macF key (strL C)) := sumF_range _
        obtain ⟨m, hmm⟩ : ∃ m, m = macF key (strL C) := ⟨_, rfl⟩
        rw [← hmm] at htk hmac hml hmr
        have hxl := strOfNums_size (hexF m)
        rw [hexF_len, hml] at hxl
        have hex := fun (w : World) (A : Option Addr) (c : Nat) (h : Rd w A (nums .u8 m)) => hex_any w A c m h (by omega) hmr
        rw [hml] at hex
        obtain ⟨X, hX⟩ : ∃ X, X = strOfNums (hexF m) := ⟨_, rfl⟩
        rw [← hX] at htk hxl hex
        have hsl := strL_len C
        have hsz1 : C.size + 1 ≤ 9223372036854775807 := by omega
        have hsz2 : (C ++ ⟨#[46]⟩).size + X.size ≤ 9223372036854775807 := by rw [ByteArray.size_append]; show C.size + 1 + X.size ≤ _; omega
        have HCL := Lib.hid hcl
        have HTK := Lib.hid htk
        have HMAC := Lib.hid hmac
        have HML := Lib.hid hml
        have HEX := Lib.hid hex
        have HSL := Lib.hid hsl
        have HKB := Lib.hid hkb
        have HK := Lib.hid hk
        clear hm hcl hC htk hmac hml hmr hmm hex hX hkb hk hcs hds hsl hxl
        go_enter Tryd.func12, Tryd.ntmps12
        go_wp2_with fail
        go_at_call 23
        refine (HN.out _).mono ?_
        rintro e w1 ⟨rfl, hd1⟩
        have hB := drawn_below hd1
        clear hd1
        go_wp2_with fail
        go_at_call 24
        refine (HCL.out _).mono ?_
        rintro e w2 ⟨rfl, hb⟩
        have hB := hB.trans (hb.mono hB.size)
        go_wp2_with (apply st_bytes; exact Tryd.underlying9; rfl; intro w3 c3 hb3 hr3 hc3)
        have hB := hB.trans (hb3.mono hB.size)
        go_at_call 25
        have hcall := HMAC.out w3 (HKB.out.up hB) (some ⟨w2.heap.size, 0, none⟩) c3 hr3 (by rw [HSL.out]; exact hc3) (fun h => by cases h) (HK.out.below hB HK.out.lt)
        rw [HSL.out] at hcall
        refine hcall.mono ?_; clear hcall
        rintro e w4 ⟨rfl, hb4⟩
        have hB := hB.trans (hb4.mono hB.size)
        have hd0 : Blk (w4.alloc (.cells (nums .u8 (List.replicate 32 0)).toArray 49)) w4.heap.size (nums .u8 (List.replicate 32 0)) 49 := Blk.new' _ _ _ _ _ rfl rfl
        go_wp2_with (first | ((with_reducible apply st_storeW (off := 0) (vs := nums .u8 (m)) (cs := nums .u8 (List.replicate 32 0)) (T := 49)); rfl; rfl; exact hd0; (rw [nums_length, HML.out]; kernel_rfl); (rw [nums_length, HML.out]; decide); exact nums_one _ _; intro w5 hd5 hw5; rw [laid_all _ _ (by rw [nums_length, HML.out]; rfl)] at hd5) | (apply st_allArr; exact Tryd.underlying49; kernel_rfl; rfl))
        have hB := Wrote.below (hB.alloc hB.size _) hw5 hB.size
        go_at_call 26
        refine (HEX.out w5 (some ⟨w4.heap.size, 0, none⟩) 32 (Rd.ofBlk hd5)).mono ?_
        rintro e w6 ⟨rfl, hb6⟩
        have hB := hB.trans (hb6.mono hB.size)
        go_wp2_with fail
        go_ret2
        exact ⟨by rw [HTK.out]; rfl, hB⟩
      · have hm := HM.out
        rw [if_neg (fun h => hhi h.2.2)] at hm
        rw [hm]
        clear hm
        go_enter Tryd.func12, Tryd.ntmps12
        go_wp2_with fail
        go_at_call 23
        refine (HN.out _).mono ?_
        rintro e w1 ⟨rfl, hd1⟩
        have hB := drawn_below hd1
        clear hd1
        go_wp2_with fail
        go_ret2
        exact ⟨rfl, hB⟩
    · have hm := HM.out
      rw [if_neg (fun h => hlo h.2.1)] at hm
      rw [hm]
      clear hm
      go_enter Tryd.func12, Tryd.ntmps12
      go_wp2_with fail
      go_at_call 23
      refine (HN.out _).mono ?_
      rintro e w1 ⟨rfl, hd1⟩
      have hB := drawn_below hd1
      clear hd1
      go_wp2_with fail
      go_ret2
      exact ⟨rfl, hB⟩

end Go.Proofs.YtmfccnkjnkmgiaaDoor
