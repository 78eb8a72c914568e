/- That inquestlaw03.MacKeys, MacChecks and MacTwo return true. Condition: the table of layer 2 reads as its text lays it. -/
import Derived.Test.YtjmoaalchefdnaaDoorMacL
namespace Go.Proofs.YtjmoaalchefdnaaDoor
open Go.RowKit

set_option maxHeartbeats 2000000 in
theorem refmackey_any (w : World) (key : List Int) (A : Option Addr) (c : Nat) (h : Byt w A c key) (hl : key.length ≤ 274877906944) (s : ByteArray) (hs : s.size ≤ 274877906944) :
    Calls Tryd.prog 20 #[.slice A key.length c, .string s] w (Gives (macF key (strL s)) w) := by
  have hml := macF_len key (strL s)
  have HML := Lib.hid hml
  have hsl := strL_len s
  have HSL := Lib.hid hsl
  clear hml hsl
  go_enter Tryd.func20, Tryd.ntmps20
  go_wp2_with (first
    | (apply st_bytes; exact Tryd.underlying9; rfl; intro w1 c1 hB1 hR1 hc1)
    | (go_at_call 12; have hcall := refmac_any w1 key A c (h.up hB1).rd h.nn hl h.u (strL s) (some ⟨w.heap.size, 0, none⟩) c1 hR1 (fun h => by cases h) (by rw [HSL.out]; exact hs) (strL_range s); rw [HSL.out] at hcall; refine hcall.mono ?_; clear hcall; rintro e w2 ⟨rfl, hb2⟩; have hB2 := hB1.trans (hb2.mono hB1.size))
    | (apply st_storeW (off := 0) (vs := nums .u8 (macF key (strL s))) (cs := nums .u8 (List.replicate 32 0)) (T := 26); rfl; rfl; exact Blk.new' w2 _ _ _ _ rfl rfl; (rw [nums_length, HML.out]; kernel_rfl); (rw [nums_length, HML.out]; decide); exact nums_one _ _; intro w3 hb3 hw3; rw [laid_all _ _ (by rw [nums_length, HML.out]; rfl)] at hb3; have hB3 := Wrote.below (hB2.alloc hB2.size _) hw3 hB2.size)
    | (apply st_allArr; exact Tryd.underlying26; kernel_rfl; rfl)
    | (go_at_call 10; have hcall := refcopy_any w3 (some ⟨w2.heap.size, 0, none⟩) 32 (macF key (strL s)) (fun h => by cases h) (Rd.ofBlk hb3) (by rw [HML.out]; decide); rw [HML.out] at hcall; refine hcall.mono ?_; clear hcall; rintro e w4 ⟨v4, rfl, hb4, ho4⟩))
  go_ret
  exact ⟨v4, rfl, hB3.trans (hb4.mono hB3.size), ho4.mono hB3.size⟩

set_option maxHeartbeats 4000000 in
theorem lawmackeys_any (w : World) (key0 : List Int) (A : Option Addr) (c : Nat) (hr : Rd w A (nums .u8 key0)) (hc : key0.length ≤ c) (hA : A = none → c = 0) (hu : U8 key0) (s0 : ByteArray) (hk : KV w) :
    Calls Tryd.prog 8 #[.slice A key0.length c, .string s0] w fun e w' => e = .returned (.bool true) ∧ Below w.heap.size w w' := by
  obtain ⟨key, hkl, _, hK, HCUT1⟩ := (Byt.mk hr hc hA hu).cut 1000 1000 rfl
  have hX : ∃ s : ByteArray, s.size ≤ 1000 ∧ ((1000 < s0.size ∧ s0.extract 0 1000 = s) ∨ (s0.size ≤ 1000 ∧ s0 = s)) := by
    by_cases h : 1000 < s0.size
    · exact ⟨s0.extract 0 1000, by simp; omega, .inl ⟨h, rfl⟩⟩
    · exact ⟨s0, by omega, .inr ⟨by omega, rfl⟩⟩
  obtain ⟨s, hsl, hX⟩ := hX
  have HK := Lib.hid hk
  clear hk hr hc hA hu
  obtain ⟨m, hm⟩ : ∃ m, m = macF key (strL s) := ⟨_, rfl⟩
  have hml : m.length = 32 := by rw [hm, macF_len]
  have hkey := mackey_any (key := key) (A := A) (c := c) (hc := hK.le) (hA := hK.nn) (hl := by omega) (s := s) (hs := by omega)
  have hrkey := refmackey_any (key := key) (A := A) (c := c) (hl := by omega) (s := s) (hs := by omega)
  rw [← hm] at hkey hrkey
  have HKEY := Lib.hid hkey
  have HRKEY := Lib.hid hrkey
  have HML := Lib.hid hml
  clear hkey hrkey hml hm
  rcases hX with ⟨h1000, he⟩ | ⟨h1000, he⟩
  all_goals
    have HE := Lib.hid he
    clear he
    go_enter Tryd.func8, Tryd.ntmps8
    go_wp2_with (go_at_call 9; ((with_reducible refine (HCUT1.out w).mono ?_); rintro e w' ⟨rfl, rfl⟩))
    rw [HE.out]
    go_wp2_with fail
    go_at_call 19
    refine (HKEY.out w hK.rd HK.out).mono ?_; rintro e w1 ⟨g1, rfl, hg1, hb1, hk1⟩; rw [HML.out]
    go_wp2_with fail
    go_at_call 19
    refine (HKEY.out w1 (hK.up hb1).rd (HK.out.below hb1 HK.out.lt)).mono ?_; rintro e w2 ⟨g2, rfl, hg2, hb2, hk2⟩; rw [HML.out]; have hB2 := hb1.trans (hb2.mono hb1.size); have hk12 := hk1.up hb2
    go_wp2_with fail
    go_at_call 20
    refine (HRKEY.out w2 (hK.up hB2)).mono ?_; rintro e w3 ⟨v3, rfl, hb3, ho3⟩; obtain ⟨A3, c3, rfl, h3, hc3, hR3, hx3⟩ := ho3.from; rw [HML.out]; have hB3 := hB2.trans (hb3.mono hB2.size); have hk13 := hk12.up hb3; have hk23 := hk2.up hb3
    go_wp2_with fail
    go_at_call 13
    have hcall := refsame_any w3 (some ⟨g1, 0, none⟩) A3 32 c3 m m (Rd.ofBlk hk13) hR3 (by rw [HML.out]; decide); rw [HML.out] at hcall; refine hcall.mono ?_; clear hcall; rintro e w4 ⟨rfl, hb4⟩; have hB4 := hB3.trans (hb4.mono hB3.size); have hk14 := hk13.up hb4; have hk24 := hk23.up hb4; have hR4 := hR3.up hb4; have cc := hk14.num 0 (by rw [HML.out]; decide); have ff := hk14.frozen 0
    go_wp2_with fail
    have h12 : g1 < g2 := by have := hk1.lt; omega
    have hB5 := hB4.setCell (p := ⟨g1, 0, none⟩) hg1 (.int .u8 ((ga m 0 + 1) % 256))
    have hk25 := hk24.far ⟨g1, 0, none⟩ (.int .u8 ((ga m 0 + 1) % 256)) (by simp; omega)
    have hR5 := hR4.but ((But.refl g1 w4.heap.size w4).set 0 (.int .u8 ((ga m 0 + 1) % 256))) (by intro a ha; have := hx3 a ha; have := hk12.lt; omega)
    have HK5 := HK.out.below hB5 HK.out.lt
    obtain ⟨w5, hw5⟩ : ∃ w5, w5 = w4.setCell ⟨g1, 0, none⟩ (.int .u8 ((ga m 0 + 1) % 256)) := ⟨_, rfl⟩
    rw [← hw5] at hB5 hk25 hR5 HK5 ⊢
    go_at_call 13
    have hcall := refsame_any w5 (some ⟨g2, 0, none⟩) A3 32 c3 m m (Rd.ofBlk hk25) hR5 (by rw [HML.out]; decide); rw [HML.out] at hcall; refine hcall.mono ?_; clear hcall; rintro e w6 ⟨rfl, hb6⟩; have hB6 := hB5.trans (hb6.mono hB5.size); have hk6 := HK5.below hb6 HK5.lt
    go_wp2_with fail
    go_at_call 14
    refine (lives_any w6 hk6).mono ?_
    rintro e w7 ⟨rfl, hb7⟩; have hB7 := hB6.trans (hb7.mono hB6.size)
    go_wp2_with fail
    go_ret
    exact ⟨rfl, hB7⟩
end Go.Proofs.YtjmoaalchefdnaaDoor
