/- That inquestlaw03.MacChecks returns true. Condition: the table of layer 2 reads as its text lays it. -/
import Derived.Test.YtjmoaalchefdnaaDoorMacL
import Derived.Test.YtjmoaalchefdnaaDoorGuard
namespace Go.Proofs.YtjmoaalchefdnaaDoor
open Go.RowKit

theorem xor_same (a b : Int) (ha : 0 ≤ a ∧ a < 256) (hb : 0 ≤ b ∧ b < 256) : bits .xor .u8 a b = a ↔ b = 0 := by
  have h := or_xor_zero 0 (bits .xor .u8 a b) a ⟨by omega, by omega⟩ (bits_u8_range _ _ _) ha
  rw [bits_u8 .xor a b] at h ⊢
  have hr : (BitVec.ofInt 8 a).toNat = a.toNat := by rw [BitVec.toNat_ofInt]; omega
  constructor
  · intro hh
    have h2 : ((BitVec.ofInt 8 a ^^^ BitVec.ofInt 8 b).toNat : Int) = a := hh
    have h3 : BitVec.ofInt 8 a ^^^ BitVec.ofInt 8 b = BitVec.ofInt 8 a := by
      apply BitVec.eq_of_toNat_eq; rw [hr]; omega
    have h4 : BitVec.ofInt 8 b = 0#8 := by
      have := congrArg (fun x => BitVec.ofInt 8 a ^^^ x) h3
      simpa [← BitVec.xor_assoc] using this
    exact ofInt8_inj b 0 hb (by omega) h4
  · rintro rfl
    show ((BitVec.ofInt 8 a ^^^ BitVec.ofInt 8 0).toNat : Int) = a
    have : BitVec.ofInt 8 0 = 0#8 := rfl
    rw [this, BitVec.xor_zero, hr]; omega
theorem set_same (m : List Int) (j : Nat) (hj : j < m.length) (x : Int) : m = m.set j x ↔ x = ga m j := by
  constructor
  · intro h
    have h2 := congrArg (fun l => ga l j) h
    have h3 : ga (m.set j x) j = x := by simp [ga, hj]
    exact (h3.symm.trans h2.symm)
  · rintro rfl
    apply List.ext_getElem?
    intro i
    rw [List.getElem?_set]
    split
    · subst_vars; simp [ga, hj]
    · rfl

theorem u8_set {l : List Int} (h : U8 l) (j : Nat) (x : Int) (hx : 0 ≤ x ∧ x < 256) : U8 (l.set j x) := fun i => by
  unfold ga
  rw [List.getD_eq_getElem?_getD, List.getElem?_set]
  split
  · split
    · exact hx
    · simp
  · have := h i; unfold ga at this; rw [List.getD_eq_getElem?_getD] at this; exact this

set_option maxHeartbeats 4000000 in
theorem lawmacchecks_any (w : World) (key0 : List Int) (A : Option Addr) (c : Nat) (hr : Rd w A (nums .u8 key0)) (hc : key0.length ≤ c) (hA : A = none → c = 0) (hu : U8 key0)
    (text0 : List Int) (B : Option Addr) (d : Nat) (hr2 : Rd w B (nums .u8 text0)) (hd : text0.length ≤ d) (hB : B = none → d = 0) (hu2 : U8 text0)
    (s0 : List Int) (D : Option Addr) (c3 : Nat) (hr3 : Rd w D (nums .u8 s0)) (hd3 : s0.length ≤ c3) (hD : D = none → c3 = 0) (hu3 : U8 s0) (z : Int) (by' : Int) (hby : 0 ≤ by' ∧ by' < 256) (hk : KV w) :
    Calls Tryd.prog 7 #[.slice A key0.length c, .slice B text0.length d, .slice D s0.length c3, .int .i64 z, .int .u8 by'] w fun e w' => e = .returned (.bool true) ∧ Below w.heap.size w w' := by
  obtain ⟨key, hkl, _, hK, HCUT1⟩ := (Byt.mk hr hc hA hu).cut 1000 1000 rfl
  obtain ⟨text, htl, _, hT, HCUT2⟩ := (Byt.mk hr2 hd hB hu2).cut 1000 1000 rfl
  obtain ⟨s, hsl, _, hS, HCUT3⟩ := (Byt.mk hr3 hd3 hD hu3).cut 100 100 rfl
  have HK := Lib.hid hk
  clear hk hr hc hA hu hr2 hd hB hu2 hr3 hd3 hD hu3
  obtain ⟨m, hm⟩ : ∃ m, m = macF key text := ⟨_, rfl⟩
  have hml : m.length = 32 := by rw [hm, macF_len]
  have hmu : U8 m := by rw [hm]; exact sumF_range _
  have hsum := refmac_any (key := key) (A := A) (c := c) (hA := hK.nn) (hl := by omega) (hu := hK.u) (text := text) (B := B) (d := d) (hB := hT.nn) (hl2 := by omega) (hu2 := hT.u)
  have hchk := fun (w : World) (hr : Rd w A (nums .u8 key)) (hr2 : Rd w B (nums .u8 text)) (s : List Int) (D : Option Addr) (e : Nat) (hr3 : Rd w D (nums .u8 s)) (hl3 : s.length ≤ 274877906944) (us : U8 s) (hk : KV w) => maccheck_any w key A c hr hK.le hK.nn (by omega) text B d hr2 hT.le hT.nn (by omega) s D e hr3 hl3 us hk
  rw [← hm] at hsum hchk
  obtain ⟨j, hj, hjz⟩ : ∃ j : Nat, j < 32 ∧ (if z < 0 then 0 else if 31 < z then 31 else z) = (j : Int) := by
    refine ⟨(if z < 0 then 0 else if 31 < z then 31 else z).toNat, ?_, ?_⟩ <;> (split <;> (try split)) <;> omega
  have hleast := fun w => refleast_any w z 0 31
  rw [hjz] at hleast
  have hx := bits_u8_range .xor (ga m j) by'
  obtain ⟨x, hxx⟩ : ∃ x, bits .xor .u8 (ga m j) by' = x := ⟨_, rfl⟩
  have hdec : decide (m = m.set j x) = decide (by' = 0) := by
    rw [decide_eq_decide, set_same m j (by omega), ← hxx, xor_same _ _ (hmu j) hby]
  rw [hxx] at hx
  obtain ⟨m2, hm2⟩ : ∃ m2, m2 = m.set j x := ⟨_, rfl⟩
  have hm2l : m2.length = 32 := by rw [hm2]; simp [hml]
  have hm2u : U8 m2 := by rw [hm2]; exact u8_set hmu _ _ hx
  rw [← hm2] at hdec
  have HSUM := Lib.hid hsum
  have HCHK := Lib.hid hchk
  have HML := Lib.hid hml
  have HMU := Lib.hid hmu
  have HM2 := Lib.hid hm2
  have HM2L := Lib.hid hm2l
  have HM2U := Lib.hid hm2u
  have HDEC := Lib.hid hdec
  have HXX := Lib.hid hxx
  have HLEAST := Lib.hid hleast
  obtain ⟨b, hb⟩ : ∃ b, b = decide (m = s) := ⟨_, rfl⟩
  have hb2 : decide (s = m) = b := by rw [hb, decide_eq_decide]; exact eq_comm
  have HB := Lib.hid hb
  have HB2 := Lib.hid hb2
  clear hsum hchk hm hml hmu hm2 hm2l hm2u hdec hxx hleast hjz hb hb2
  go_enter Tryd.func7, Tryd.ntmps7
  go_wp2_with (first
    | (go_at_call 9; ((with_reducible refine (HCUT1.out w).mono ?_); rintro e w' ⟨rfl, rfl⟩))
    | (go_at_call 9; ((with_reducible refine (HCUT2.out w).mono ?_); rintro e w' ⟨rfl, rfl⟩))
    | (go_at_call 9; ((with_reducible refine (HCUT3.out w).mono ?_); rintro e w' ⟨rfl, rfl⟩)))
  go_at_call 12
  refine (HSUM.out w hK.rd hT.rd).mono ?_
  rintro e w1 ⟨rfl, hb1⟩
  go_wp2_with (apply st_storeW (off := 0) (vs := nums .u8 m) (cs := nums .u8 (List.replicate 32 0)) (T := 26); rfl; rfl; exact Blk.new' w1 _ _ _ _ rfl rfl; (rw [nums_length, HML.out]; kernel_rfl); (rw [nums_length, HML.out]; decide); exact nums_one _ _; intro w2 hb2 hw2; rw [laid_all _ _ (by rw [nums_length, HML.out]; rfl)] at hb2; have hB2 := Wrote.below (hb1.alloc hb1.size _) hw2 hb1.size)
  have hB2 := hB2.drew
  have hb2 := hb2.drew
  have HK2 := HK.out.below hB2 HK.out.lt
  have z2 := hB2.size
  have g0 := hb2.lt
  refine wp_region_C (Same [] w2) [3, 6, 12] (by kernel_rfl) (by kernel_rfl) (by intro c a w h; first | (obtain ⟨_, h, _⟩ := h; cases h; done) | (obtain ⟨_, _, h, _⟩ := h; cases h; done)) (by intro a w h; first | (obtain ⟨h, _⟩ := h; cases h; done) | (obtain ⟨_, h, _⟩ := h; cases h; done)) (Same.refl _ _) ?_
  repeat (refine wd_q (v := ?_) rfl rfl rfl rfl rfl rfl (fun w' hw' K hK => ?_) ?_; rotate_left; (skip; go_wp2; exact rfl); simp only [Act.put, List.setIfInBounds_toArray, List.set_cons_zero, List.set_cons_succ])
  refine wd_l rfl rfl (by intro a w h; first | (obtain ⟨h, _⟩ := h; cases h; done) | (obtain ⟨_, h, _⟩ := h; cases h; done)) ?_
  go_wp2_with fail
  go_at_call 18
  refine (HCHK.out _ (hK.up hB2).rd (hT.up hB2).rd s D c3 (hS.up hB2).rd (by omega) hS.u HK2).mono ?_
  rintro e w3 ⟨rfl, hb3⟩
  rw [← HB.out]
  have hB3 := hB2.trans (hb3.mono hB2.size)
  have hk3 := hb2.up hb3
  go_wp2_with fail
  refine ⟨.inr (fun g hg => by simp at hg), ?_⟩
  repeat (refine wd_w (v := ?_) rfl rfl rfl rfl rfl rfl (fun w' hw' K hK => ?_) ?_; rotate_left; (skip; go_wp2_with ((apply st_allArr; exact Tryd.underlying26; kernel_rfl; rfl)); exact rfl); simp only [Act.put, List.setIfInBounds_toArray, List.set_cons_zero, List.set_cons_succ])
  refine wd_l rfl rfl (by intro a w h; first | (obtain ⟨h, _⟩ := h; cases h; done) | (obtain ⟨_, h, _⟩ := h; cases h; done)) ?_
  go_wp2_with fail
  go_at_call 13
  have hcall := refsame_any w3 D (some ⟨w1.heap.size, 0, none⟩) c3 32 s m (hS.up hB3).rd (Rd.ofBlk hk3) (by rw [HML.out]; decide); rw [HML.out, HB2.out] at hcall; refine hcall.mono ?_; clear hcall
  rintro e w4 ⟨rfl, hb4⟩
  have hB4 := hB3.trans (hb4.mono hB3.size)
  have hk4 := hk3.up hb4
  go_wp2_with fail
  refine ⟨.inr (fun g hg => by simp at hg), ?_⟩
  have hbb : (b != b) = false := by simp
  repeat (refine wd_q (v := ?_) rfl rfl rfl rfl rfl rfl (fun w' hw' K hK => ?_) ?_; rotate_left; (have e1 := hbb; go_wp2; exact rfl); simp only [Act.put, List.setIfInBounds_toArray, List.set_cons_zero, List.set_cons_succ])
  repeat (refine wd_w (v := ?_) rfl rfl rfl rfl rfl rfl (fun w' hw' K hK => ?_) ?_; rotate_left; (skip; go_wp2_with ((apply st_allArr; exact Tryd.underlying26; kernel_rfl; rfl)); exact rfl); simp only [Act.put, List.setIfInBounds_toArray, List.set_cons_zero, List.set_cons_succ])
  have HK4 := HK.out.below hB4 HK.out.lt
  refine wd_lg rfl rfl (by intro a w h; first | (obtain ⟨h, _⟩ := h; cases h; done) | (obtain ⟨_, h, _⟩ := h; cases h; done)) ?_
  go_wp2_with fail
  go_at_call 18
  have hcall := HCHK.out w4 (hK.up hB4).rd (hT.up hB4).rd m (some ⟨w1.heap.size, 0, none⟩) 32 (Rd.ofBlk hk4) (by rw [HML.out]; decide) HMU.out HK4; rw [HML.out, decide_eq_true rfl] at hcall; refine hcall.mono ?_; clear hcall
  rintro e w5 ⟨rfl, hb5⟩
  have hB5 := hB4.trans (hb5.mono hB4.size)
  have hk5 := hk4.up hb5
  go_wp2_with fail
  refine ⟨.inr (fun g hg => by simp at hg), ?_⟩
  repeat (refine wd_q (v := ?_) rfl rfl rfl rfl rfl rfl (fun w' hw' K hK => ?_) ?_; rotate_left; (skip; go_wp2; exact rfl); simp only [Act.put, List.setIfInBounds_toArray, List.set_cons_zero, List.set_cons_succ])
  refine wd_pick (b := false) (v := .bool false) rfl rfl rfl rfl rfl ?_
  simp only [Act.put, List.setIfInBounds_toArray, List.set_cons_zero, List.set_cons_succ]
  refine wd_nil ?_
  go_wp2_with fail
  go_at_call 17
  refine (HLEAST.out w5).mono ?_
  rintro e w6 ⟨rfl, rfl⟩
  have cc := hk5.num j (by rw [HML.out]; exact hj)
  have ff := hk5.frozen j
  go_wp2_with fail
  rw [HXX.out]
  have hk6 := hk5.setNum j x
  rw [← HM2.out] at hk6
  have hB6 := hB5.setCell (p := ⟨w1.heap.size, j, none⟩) hb1.size (.int .u8 x)
  have HK6 := HK.out.below hB6 HK.out.lt
  obtain ⟨w6, hw6⟩ : ∃ w6, w6 = w5.setCell ⟨w1.heap.size, j, none⟩ (.int .u8 x) := ⟨_, rfl⟩
  rw [← hw6] at hB6 hk6 HK6 ⊢
  go_at_call 18
  have hcall := HCHK.out w6 (hK.up hB6).rd (hT.up hB6).rd m2 (some ⟨w1.heap.size, 0, none⟩) 32 (Rd.ofBlk hk6) (by rw [HM2L.out]; decide) HM2U.out HK6; rw [HM2L.out, HDEC.out] at hcall; refine hcall.mono ?_; clear hcall
  rintro e w7 ⟨rfl, hb7⟩
  have hB7 := hB6.trans (hb7.mono hB6.size)
  have hee : (decide (by' = 0) == (by' == 0)) = true := by by_cases h : by' = 0 <;> simp [h]
  go_wp2_with fail
  go_at_call 14
  refine (lives_any w7 (HK.out.below hB7 HK.out.lt)).mono ?_
  rintro e w8 ⟨rfl, hb8⟩
  have hB8 := hB7.trans (hb8.mono hB7.size)
  go_wp2_with fail
  go_ret
  exact ⟨rfl, hB8⟩
end Go.Proofs.YtjmoaalchefdnaaDoor
