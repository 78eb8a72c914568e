/- That inquestlaw05.TokenMints returns true. Condition: the table of layer 2 reads as its text lays it. -/
import Derived.Test.YtmfccnkjnkmgiaaDoorTokM
namespace Go.Proofs.YtmfccnkjnkmgiaaDoor
open Go.RowKit Go.Proofs.YtmfccnkjnkmgiaaDoor.Pure

theorem str_eq (s : ByteArray) : (s.toList == s.toList) = true := by simp
/-- The reference's Cut of a text. -/
theorem cut4 (s0 : ByteArray) : ∃ s : ByteArray, s.size ≤ 300 ∧ Hid (∀ w, Calls Tryd.prog 10 #[.string s0, .int .i64 300] w fun e w' => e = .returned (.string s) ∧ Below w.heap.size w w') := by
  obtain ⟨s, hcs, hsl⟩ := cut_f s0
  exact ⟨s, hsl, fun w => (PTokenOpens.inquestref04_Cut.calls s0 300 s w hcs).mono fun e w' ⟨h, hd⟩ => ⟨h, drawn_below hd⟩⟩

set_option maxHeartbeats 4000000 in
theorem lawmints_any (w : World) (bs0 : List Int) (A : Option Addr) (c : Nat) (hr : Rd w A (nums .u8 bs0)) (hc : bs0.length ≤ c) (hA : A = none → c = 0) (hu : U8 bs0) (s0 : ByteArray) (n : Int) (hlo : -9223372036854775808 ≤ n) (hhi : n ≤ 9223372036854775807) (hk : KV w) :
    Calls Tryd.prog 3 #[.slice A bs0.length c, .string s0, .int .i64 n] w fun e w' => e = .returned (.bool true) ∧ Below w.heap.size w w' := by
  obtain ⟨bs, hbl, _, hK, HCUT1⟩ := (Byt.mk hr hc hA hu).cut 300 300 rfl
  obtain ⟨s, hsl, HCUT2⟩ := cut4 s0
  have hc1 := fun (w : World) (A : Option Addr) (c : Nat) (h : Byt w A c bs) => mint_any w bs A c h (by omega) s (by omega) n hlo hhi
  have hc2 := fun (w : World) (A : Option Addr) (c : Nat) (h : Byt w A c bs) => refmint_any w bs A c h (by omega) s (by omega) n hlo hhi
  obtain ⟨⟨T, en⟩, hr⟩ : ∃ r, r = mintR bs s n := ⟨_, rfl⟩
  rw [← hr] at hc1 hc2
  have HC1 := Lib.hid hc1
  have HC2 := Lib.hid hc2
  have HK := Lib.hid hk
  have HKB := Lib.hid hK
  have hst := str_eq T
  have hen : (en == en) = true := by simp
  clear hc1 hc2 hk hr hc hA hu hK
  go_enter Tryd.func3, Tryd.ntmps3
  go_wp2_with fail
  go_at_call 9
  refine (HCUT1.out _).mono ?_
  rintro e wz ⟨rfl, rfl⟩
  go_wp2_with fail
  go_at_call 10
  refine (HCUT2.out _).mono ?_
  rintro e w1 ⟨rfl, hB⟩
  go_wp2_with fail
  go_at_call 11
  refine (refcopy_any w1 A c bs HKB.out.nn (HKB.out.up hB).rd (by omega)).mono ?_
  rintro e w2 ⟨v2, rfl, hb, ho2⟩
  obtain ⟨A2, c2, rfl, h2, hx2⟩ := ho2.byt HKB.out.u
  have hB := hB.trans (hb.mono hB.size)
  clear ho2 hx2
  go_wp2_with fail
  go_at_call 12
  refine (HC1.out _ A2 c2 h2 (HK.out.below hB HK.out.lt)).mono ?_
  rintro e w3 ⟨rfl, hb⟩
  have hB := hB.trans (hb.mono hB.size)
  have h2 := h2.up hb
  go_wp2_with fail
  go_at_call 13
  refine (HC2.out _ A c (HKB.out.up hB)).mono ?_
  rintro e w4 ⟨rfl, hb⟩
  have hB := hB.trans (hb.mono hB.size)
  have h2 := h2.up hb
  go_wp2_with fail
  go_at_call 14
  have hcall := refsame_any w4 A2 A c2 c bs bs h2.rd (HKB.out.up hB).rd (by omega)
  rw [decide_eq_true rfl] at hcall
  refine hcall.mono ?_; clear hcall
  rintro e w5 ⟨rfl, hb⟩
  have hB := hB.trans (hb.mono hB.size)
  go_wp2_with fail
  go_at_call 15
  refine (lives_any w5 (HK.out.below hB HK.out.lt)).mono ?_
  rintro e w6 ⟨rfl, hb⟩
  have hB := hB.trans (hb.mono hB.size)
  go_wp2_with fail
  go_ret
  exact ⟨rfl, hB⟩

end Go.Proofs.YtmfccnkjnkmgiaaDoor
