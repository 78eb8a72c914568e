/- What inquestlaw03.lives answers; that inquestlaw03.MacSums and MacSames return true. Condition: the table of layer 2 reads as its text lays it. -/
import Derived.Test.YtjmoaalchefdnaaDoorMacR
import Derived.Test.YtjmoaalchefdnaaDoorByt
namespace Go.Proofs.YtjmoaalchefdnaaDoor
open Go.RowKit

theorem macF_nil : ga (macF [] []) 0 = 182 := by decide +kernel
set_option maxHeartbeats 1000000 in
theorem lives_any (w : World) (hk : KV w) : Calls Tryd.prog 14 #[] w fun e w' => e = .returned (.bool true) ∧ Below w.heap.size w w' := by
  have hidx0 := run_index_num (P := Tryd.prog) (kk := .i64) (t := 26) (nums .u8 (macF [] [])) 0 _ Tryd.underlying26 Tryd.underlying5 rfl (by kernel_rfl) (by decide) (nums_at .u8 (macF [] []) 0 (by rw [macF_len]; decide))
  rw [← ga_eq, macF_nil] at hidx0
  have hidx : ∀ w : World, (Instr.index 26 (.agg (nums .u8 (macF [] [])).toArray) (.int .i64 0)).run Tryd.prog w = .ok (.int .u8 182) w := hidx0
  clear hidx0
  have HK := Lib.hid hk
  clear hk
  go_enter Tryd.func14, Tryd.ntmps14
  go_wp2_with (first
    | (go_at_call 11; refine (mac_any w [] none 0 (Rd.nil _ _) (Nat.le_refl _) (fun _ => rfl) (by decide) [] none 0 (Rd.nil _ _) (Nat.le_refl _) (fun _ => rfl) (by decide) HK.out).mono ?_; rintro e w1 ⟨rfl, hb1⟩)
    | (go_at_call 15; refine (macsame_any w1 none none 0 0 [] [] (Rd.nil _ _) (Rd.nil _ _) (by decide) U8.nil U8.nil).mono ?_; rintro e w2 ⟨rfl, hb2⟩))
  go_ret
  exact ⟨rfl, hb1.trans (hb2.mono hb1.size)⟩

set_option maxHeartbeats 4000000 in
theorem lawmacsums_any (w : World) (key0 : List Int) (A : Option Addr) (c : Nat) (hr : Rd w A (nums .u8 key0)) (hc : key0.length ≤ c) (hA : A = none → c = 0) (hu : U8 key0)
    (text0 : List Int) (B : Option Addr) (d : Nat) (hr2 : Rd w B (nums .u8 text0)) (hd : text0.length ≤ d) (hB : B = none → d = 0) (hu2 : U8 text0) (hk : KV w) :
    Calls Tryd.prog 3 #[.slice A key0.length c, .slice B text0.length d] w fun e w' => e = .returned (.bool true) ∧ Below w.heap.size w w' := by
  obtain ⟨key, hkl, _, hK, HCUT1⟩ := (Byt.mk hr hc hA hu).cut 1000 1000 rfl
  obtain ⟨text, htl, _, hT, HCUT2⟩ := (Byt.mk hr2 hd hB hu2).cut 1000 1000 rfl
  have heq := run_eql_nums (P := Tryd.prog) (t := 26) Tryd.underlying26 Tryd.underlying5 (by kernel_rfl) (by kernel_rfl) (macF key text) (macF key text) (macF_len _ _) (macF_len _ _)
  rw [decide_eq_true rfl] at heq
  have HEQ := Lib.hid heq
  have HK := Lib.hid hk
  clear heq hk hr hc hA hu hr2 hd hB hu2
  go_enter Tryd.func3, Tryd.ntmps3
  go_wp2_with (first
    | (go_at_call 9; ((with_reducible refine (HCUT1.out w).mono ?_); rintro e w' ⟨rfl, rfl⟩))
    | (go_at_call 9; ((with_reducible refine (HCUT2.out w).mono ?_); rintro e w' ⟨rfl, rfl⟩))
    | (go_at_call 10; ((with_reducible refine (refcopy_any w A c key hK.nn hK.rd (by omega)).mono ?_); rintro e w1 ⟨v1, rfl, hb1, ho1⟩; obtain ⟨A1, c1, rfl, h1, hx1⟩ := ho1.byt hK.u))
    | (go_at_call 10; ((with_reducible refine (refcopy_any w1 B d text hT.nn (hT.up hb1).rd (by omega)).mono ?_); rintro e w2 ⟨v2, rfl, hb2, ho2⟩; obtain ⟨A2, c2, rfl, h2, hx2⟩ := ho2.byt hT.u; have hB2 := hb1.trans (hb2.mono hb1.size)))
    | (go_at_call 11; (refine (mac_any w2 key A1 c1 (h1.up hb2).rd h1.le h1.nn (by omega) text A2 c2 h2.rd h2.le h2.nn (by omega) (HK.out.below hB2 HK.out.lt)).mono ?_; rintro e w3 ⟨rfl, hb3⟩; have hB3 := hB2.trans (hb3.mono hB2.size)))
    | (go_at_call 12; (refine (refmac_any w3 key A c (hK.up hB3).rd hK.nn (by omega) hK.u text B d (hT.up hB3).rd hT.nn (by omega) hT.u).mono ?_; rintro e w4 ⟨rfl, hb4⟩; have hB4 := hB3.trans (hb4.mono hB3.size); have heq := HEQ.out))
    | (go_at_call 13; ((with_reducible refine (refsame_any w4 A1 A c1 c key key (((h1.up hb2).up hb3).up hb4).rd (hK.up hB4).rd (by omega)).mono ?_); rintro e w5 ⟨rfl, hb5⟩; have hB5 := hB4.trans (hb5.mono hB4.size)))
    | (go_at_call 13; ((with_reducible refine (refsame_any w5 A2 B c2 d text text (((h2.up hb3).up hb4).up hb5).rd (hT.up hB5).rd (by omega)).mono ?_); rintro e w6 ⟨rfl, hb6⟩; have hB6 := hB5.trans (hb6.mono hB5.size)))
    | (go_at_call 14; refine (lives_any _ (HK.out.below hB6 HK.out.lt)).mono ?_; rintro e w7 ⟨rfl, hb7⟩))
  go_ret
  exact ⟨rfl, hB6.trans (hb7.mono hB6.size)⟩

set_option maxHeartbeats 4000000 in
theorem lawmacsames_any (w : World) (key0 : List Int) (A : Option Addr) (c : Nat) (hr : Rd w A (nums .u8 key0)) (hc : key0.length ≤ c) (hA : A = none → c = 0) (hu : U8 key0)
    (text0 : List Int) (B : Option Addr) (d : Nat) (hr2 : Rd w B (nums .u8 text0)) (hd : text0.length ≤ d) (hB : B = none → d = 0) (hu2 : U8 text0) (hk : KV w) :
    Calls Tryd.prog 4 #[.slice A key0.length c, .slice B text0.length d] w fun e w' => e = .returned (.bool true) ∧ Below w.heap.size w w' := by
  obtain ⟨key, hkl, _, hK, HCUT1⟩ := (Byt.mk hr hc hA hu).cut 1000 1000 rfl
  obtain ⟨text, htl, _, hT, HCUT2⟩ := (Byt.mk hr2 hd hB hu2).cut 1000 1000 rfl
  obtain ⟨b, hb⟩ : ∃ b, b = decide (key = text) := ⟨_, rfl⟩
  have hs1 := macsame_any (A := A) (B := B) (c := c) (d := d) (xs := key) (ys := text) (hy := by omega) (ux := hK.u) (uy := hT.u)
  have hs2 := refsame_any (A := A) (B := B) (c := c) (d := d) (xs := key) (ys := text) (hy := by omega)
  rw [← hb] at hs1 hs2
  have HS1 := Lib.hid hs1
  have HS2 := Lib.hid hs2
  have HK := Lib.hid hk
  clear hk hr hc hA hu hr2 hd hB hu2 hb hs1 hs2
  go_enter Tryd.func4, Tryd.ntmps4
  go_wp2_with (first
    | (go_at_call 9; ((with_reducible refine (HCUT1.out w).mono ?_); rintro e w' ⟨rfl, rfl⟩))
    | (go_at_call 9; ((with_reducible refine (HCUT2.out w).mono ?_); rintro e w' ⟨rfl, rfl⟩))
    | (go_at_call 15; ((with_reducible refine (HS1.out w hK.rd hT.rd).mono ?_); rintro e w1 ⟨rfl, hb1⟩))
    | (go_at_call 13; ((with_reducible refine (HS2.out w1 (hK.up hb1).rd (hT.up hb1).rd).mono ?_); rintro e w2 ⟨rfl, hb2⟩; have hB2 := hb1.trans (hb2.mono hb1.size)))
    | (go_at_call 10; refine (refcopy_any w2 A c key hK.nn (hK.up hB2).rd (by omega)).mono ?_; rintro e w3 ⟨v3, rfl, hb3, ho3⟩; obtain ⟨A3, c3, rfl, h3, hx3⟩ := ho3.byt hK.u; have hB3 := hB2.trans (hb3.mono hB2.size))
    | (go_at_call 15; ((with_reducible refine (macsame_any w3 A A3 c c3 key key (hK.up hB3).rd h3.rd (by omega) hK.u hK.u).mono ?_); rintro e w4 ⟨rfl, hb4⟩; have hB4 := hB3.trans (hb4.mono hB3.size)))
    | (go_at_call 14; refine (lives_any _ (HK.out.below hB4 HK.out.lt)).mono ?_; rintro e w5 ⟨rfl, hb5⟩))
  go_ret
  exact ⟨rfl, hB4.trans (hb5.mono hB4.size)⟩
end Go.Proofs.YtjmoaalchefdnaaDoor
