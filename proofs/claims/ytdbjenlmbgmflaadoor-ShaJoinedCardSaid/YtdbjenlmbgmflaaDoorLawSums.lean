/- That inquestlaw02.ShaSums returns true. Condition: the package's table k reads as its text lays it. -/
import Derived.Test.YtdbjenlmbgmflaaDoorLives
import Derived.Test.YtdbjenlmbgmflaaDoorEql
namespace Go.Proofs.YtdbjenlmbgmflaaDoor
open Go.RowKit

theorem Rd.take {w : World} {A : Option Addr} {cs : List Value} (h : Rd w A cs) (n : Nat) : Rd w A (cs.take n) := by
  rcases h with h | ⟨g, off, rfl, hc⟩
  · subst h; rw [List.take_nil]; exact Rd.nil _ _
  · refine .inr ⟨g, off, rfl, fun j v hv => hc j v ?_⟩
    rw [List.getElem?_take] at hv
    split at hv
    · exact hv
    · cases hv
theorem nums_take (k : IntKind) (xs : List Int) (n : Nat) : nums k (xs.take n) = (nums k xs).take n := by simp [nums, List.map_take]
theorem U8.take {l : List Int} (h : U8 l) (n : Nat) : U8 (l.take n) := by
  have := h.part 0 n
  simpa using this

set_option maxHeartbeats 2000000 in
theorem lawsums_any (w : World) (bs0 : List Int) (A : Option Addr) (c : Nat) (hr : Rd w A (nums .u8 bs0)) (hc : bs0.length ≤ c) (hA : A = none → c = 0) (hu : U8 bs0) (hk : KV w) :
    Calls Tryd.prog 3 #[.slice A bs0.length c] w fun e w' => e = .returned (.bool true) ∧ Below w.heap.size w w' := by
  have hcut := refcut_any w A bs0.length c 3000 hc
  obtain ⟨bs, hbs⟩ : ∃ bs, bs = bs0.take 3000 := ⟨_, rfl⟩
  have hbl : bs.length ≤ 3000 := by rw [hbs, List.length_take]; omega
  have hcl : bs.length ≤ c := by rw [hbs, List.length_take]; omega
  rw [show min bs0.length 3000 = bs.length by rw [hbs, List.length_take]; omega] at hcut
  have hrb : Rd w A (nums .u8 bs) := by rw [hbs, nums_take]; exact hr.take _
  have hub : U8 bs := by rw [hbs]; exact hu.take _
  have HCUT := Lib.hid hcut
  have HR := Lib.hid hrb
  have HK := Lib.hid hk
  have HA := Lib.hid hA
  have HU := Lib.hid hub
  clear hcut hrb hk hA hub hu hr hbs hc
  have heq := run_eql_nums (P := Tryd.prog) (t := 26) Tryd.underlying26 Tryd.underlying5 (by kernel_rfl) (by kernel_rfl) (sumF bs) (sumF bs) (sumF_len _) (sumF_len _)
  rw [decide_eq_true rfl] at heq
  go_enter Tryd.func3, Tryd.ntmps3
  go_wp2_with (first
    | (go_at_call 11; refine HCUT.out.mono ?_; rintro e w' ⟨rfl, rfl⟩)
    | (go_at_call 12; refine (refcopy_any w A c bs HA.out HR.out (by omega)).mono ?_; rintro e w1 ⟨v1, rfl, hb1, ho1⟩; obtain ⟨A1, c1, rfl, h1, hA1, hR1, hx1⟩ := ho1.from)
    | (go_at_call 13; refine (sum_any w1 bs A1 c1 hR1 h1 hA1 (by omega) (HK.out.below hb1 HK.out.lt)).mono ?_; rintro e w2 ⟨rfl, hb2⟩; have hB2 := hb1.trans (hb2.mono hb1.size))
    | (go_at_call 14; refine (refsum_any w2 bs A c (HR.out.up hB2) HA.out (by omega) HU.out).mono ?_; rintro e w3 ⟨rfl, hb3⟩; have hB3 := hB2.trans (hb3.mono hB2.size))
    | (go_at_call 15; refine (refsame_any w3 A1 A c1 c bs bs ((hR1.up hb2).up hb3) (HR.out.up hB3) (by omega)).mono ?_; rintro e w4 ⟨rfl, hb4⟩; have hB4 := hB3.trans (hb4.mono hB3.size))
    | (go_at_call 16; refine (lives_any _ (HK.out.below hB4 HK.out.lt)).mono ?_; rintro e w5 ⟨rfl, hb5⟩))
  go_ret
  exact ⟨rfl, hB4.trans (hb5.mono hB4.size)⟩
end Go.Proofs.YtdbjenlmbgmflaaDoor
