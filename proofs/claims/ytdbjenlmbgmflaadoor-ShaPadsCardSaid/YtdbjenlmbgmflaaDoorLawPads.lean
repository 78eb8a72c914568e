/- That inquestlaw02.ShaPads returns true. Condition: the package's table k reads as its text lays it. -/
import Derived.Test.YtdbjenlmbgmflaaDoorLives
namespace Go.Proofs.YtdbjenlmbgmflaaDoor
open Go.RowKit

theorem Rd.but {g : Nat} {w w' : World} {A : Option Addr} {cs : List Value} (h : Rd w A cs) (hB : But g w.heap.size w w') (hA : ∀ a, A = some a → a.block ≠ g) : Rd w' A cs := by
  rcases h with h | ⟨k, off, rfl, hc⟩
  · exact .inl h
  · refine .inr ⟨k, off, rfl, fun j v hv => ?_⟩
    have := hc j v hv
    rw [hB.cell k _ (World.block_lt_of_cell? (h := this)) (hA ⟨k, off, none⟩ rfl)]; exact this
theorem Own.blk {w : World} {base : Nat} {v : Value} {bs : List Int} (h : Own w base v bs) (hl : 0 < bs.length) : ∃ g cap cur, v = .slice (some ⟨g, 0, none⟩) bs.length cap ∧ base ≤ g ∧ Blk w g cur 5 ∧ bs.length ≤ cur.length ∧ bs.length ≤ cap ∧ Rd w (some ⟨g, 0, none⟩) (nums .u8 bs) := by
  obtain ⟨A, c, h1, h2, h3, h4, _⟩ := h.from
  obtain ⟨hl2, h | ⟨g, cap, cur, hv, hg, hh, hn, hm, hsz, ht⟩⟩ := h
  · omega
  · have hA : A = some ⟨g, 0, none⟩ := by rw [h1] at hv; injection hv
    refine ⟨g, cap, cur.toList, hv, hg, by unfold Blk; simpa using hh, ?_, hn, by rw [← hA]; exact h4⟩
    have := congrArg List.length ht
    rw [List.length_take, nums_length] at this
    omega

set_option maxHeartbeats 2000000 in
theorem lawpads_any (w : World) (n : Int) (h0 : 0 ≤ n) (h1 : n < 18446744073709551616) (hk : KV w) :
    Calls Tryd.prog 4 #[.int .u64 n] w fun e w' => e = .returned (.bool true) ∧ Below w.heap.size w w' := by
  have hpl : 0 < (padF n).length := by rw [padF_len]; omega
  have hpm : (padF n).length ≤ 1099511627776 := by rw [padF_len]; unfold noughts; omega
  have HK := Lib.hid hk
  have H0 := Lib.hid h0
  have H1 := Lib.hid h1
  have HPL := Lib.hid hpl
  have HPM := Lib.hid hpm
  clear hk h0 h1 hpl
  go_enter Tryd.func4, Tryd.ntmps4
  go_wp2_with (first
    | (go_at_call 17; refine (pad_any w n H0.out H1.out).mono ?_; rintro e w1 ⟨v1, rfl, hb1, ho1⟩; obtain ⟨g1, c1, cur1, rfl, hg1, hk1, hn1, hc1, hr1⟩ := ho1.blk HPL.out)
    | (go_at_call 17; refine (pad_any w1 n H0.out H1.out).mono ?_; rintro e w2 ⟨v2, rfl, hb2, ho2⟩; obtain ⟨A2, c2, rfl, h2, hA2, hR2, hx2⟩ := ho2.from)
    | (go_at_call 18; refine (refpad_any w2 n).mono ?_; rintro e w3 ⟨v3, rfl, hb3, ho3⟩; obtain ⟨A3, c3, rfl, h3, hA3, hR3, hx3⟩ := ho3.from; have hr1c := (hr1.up hb2).up hb3)
    | (go_at_call 15; refine (refsame_any w3 (some ⟨g1, 0, none⟩) A3 c1 c3 (padF n) (padF n) hr1c hR3 HPM.out).mono ?_; rintro e w4 ⟨rfl, hb4⟩; have hk1c := ((hk1.up hb2).up hb3).up hb4))
  have hl1 := hk1.lt
  have hR2c := (hR2.up hb3).up hb4
  have hR3c := hR3.up hb4
  have hB4 : Below w.heap.size w w4 := ((hb1.trans (hb2.mono hb1.size)).trans (hb3.mono (Nat.le_trans hb1.size hb2.size))).trans (hb4.mono (Nat.le_trans (Nat.le_trans hb1.size hb2.size) hb3.size))
  have s2 := hb2.size
  have s3 := hb3.size
  have s4 := hb4.size
  clear hb1 hb2 hb3 hb4 ho1 ho2 ho3 hk1 hr1 hr1c hR2 hR3
  go_loopw [6] (fun i wr => ∃ (k : Nat) (cur : List Value), i = .int .i64 k ∧ k ≤ (padF n).length ∧ But g1 w4.heap.size w4 wr ∧ Blk wr g1 cur 5 ∧ (padF n).length ≤ cur.length) (fun i _ => (padF n).length - (intOf i).toNat)
  case atStart => exact ⟨0, cur1, rfl, by omega, But.refl _ _ _, hk1c, hn1⟩
  case round =>
    clear hk1c
    obtain ⟨k, cur, rfl, hk, hB, hb, hcl⟩ := hrel
    by_cases hlt : k < (padF n).length
    · have cc : wr.cell? ⟨g1, k, none⟩ = some (cur[k]'(by omega)) := by rw [hb.cell]; simp
      have ff := hb.frozen k
      go_wp2
      go_roundw
      case rel => exact ⟨k + 1, _, by go_num, by omega, hB.set _ _, hb.set _ _, by rw [List.length_set]; exact hcl⟩
      case measure => simp [intOf]; omega
    · have hR2d : Rd wr A2 (nums .u8 (padF n)) := hR2c.but hB (fun a ha => by have := hx2 a ha; omega)
      have hR3d : Rd wr A3 (nums .u8 (padF n)) := hR3c.but hB (fun a ha => by have := hx3 a ha; omega)
      have hBw : Below w.heap.size w wr := hB4.trans (hB.below' hg1 (by omega))
      go_wp2_with (first
        | (go_at_call 15; refine (refsame_any wr A2 A3 c2 c3 (padF n) (padF n) hR2d hR3d HPM.out).mono ?_; rintro e w5 ⟨rfl, hb5⟩; have hB5 := hBw.trans (hb5.mono hBw.size))
        | (go_at_call 16; refine (lives_any _ (HK.out.below hB5 HK.out.lt)).mono ?_; rintro e w6 ⟨rfl, hb6⟩))
      go_ret
      exact ⟨rfl, hB5.trans (hb6.mono hB5.size)⟩
end Go.Proofs.YtdbjenlmbgmflaaDoor
