/- What merkle.Split and the reference's answer: the greatest power of two below n. No condition. -/
import Derived.Test.YtipigpeccegjgaaDoorMerM
namespace Go.Proofs.YtipigpeccegjgaaDoor
open Go.RowKit

def splitF (n : Int) : Int := if n < 2 then 0 else ((2 ^ Nat.log2 (n - 1).toNat : Nat) : Int)
theorem splitF_eq (n : Int) (a : Nat) (h1 : ((2 ^ a : Nat) : Int) < n) (h2 : n ≤ 2 * ((2 ^ a : Nat) : Int)) : splitF n = ((2 ^ a : Nat) : Int) := by
  have hp : 0 < 2 ^ a := Nat.two_pow_pos a
  unfold splitF
  rw [if_neg (by omega)]
  have : Nat.log2 (n - 1).toNat = a := (Nat.log2_eq_iff (by omega)).2 ⟨by omega, by rw [Nat.pow_succ]; omega⟩
  rw [this]
theorem splitF_spec (n : Int) (h : 2 ≤ n) : ∃ a : Nat, splitF n = ((2 ^ a : Nat) : Int) ∧ ((2 ^ a : Nat) : Int) < n ∧ n ≤ 2 * ((2 ^ a : Nat) : Int) := by
  refine ⟨Nat.log2 (n - 1).toNat, ?_, ?_, ?_⟩
  · unfold splitF; rw [if_neg (by omega)]
  · have := Nat.log2_self_le (n := (n - 1).toNat) (by omega)
    omega
  · have := Nat.lt_log2_self (n := (n - 1).toNat)
    rw [Nat.pow_succ] at this
    omega

set_option maxHeartbeats 1000000 in
theorem split_any (w : World) (n : Int) (hi : n ≤ 9223372036854775807) (lo : -9223372036854775808 ≤ n) :
    Calls Tryd.prog 16 #[.int .i64 n] w fun e w' => e = .returned (.int .i64 (splitF n)) ∧ w = w' := by
  by_cases hn : n < 2
  · have hs : splitF n = 0 := by unfold splitF; rw [if_pos hn]
    rw [hs]
    go_enter Tryd.func16, Tryd.ntmps16
    go_wp2
    go_ret
    exact ⟨rfl, rfl⟩
  · go_enter Tryd.func16, Tryd.ntmps16
    go_wp2
    go_loopw [3] (fun k wr => wr = w ∧ ∃ a : Nat, k = .int .i64 ((2 ^ a : Nat) : Int) ∧ ((2 ^ a : Nat) : Int) < n) (fun k _ => (n - intOf k).toNat)
    case atStart => exact ⟨rfl, 0, rfl, by simp; omega⟩
    case round =>
      obtain ⟨rfl, a, rfl, ha⟩ := hrel
      have hp : 0 < 2 ^ a := Nat.two_pow_pos a
      have hq : 2 ^ (a + 1) = 2 ^ a * 2 := Nat.pow_succ 2 a
      have hsp := splitF_eq n a ha
      obtain ⟨K, hK⟩ : ∃ K : Nat, K = 2 ^ a := ⟨_, rfl⟩
      rw [← hK] at ha hp hq hsp ⊢
      have HK := Lib.hid hK
      have HQ := Lib.hid hq
      have HSP := Lib.hid hsp
      clear hK hq hsp
      by_cases hlt : (K : Int) < n - K
      · go_wp2
        go_roundw
        case rel => exact ⟨trivial, a + 1, by rw [HQ.out]; simp, by rw [HQ.out]; omega⟩
        case measure => simp [intOf]; omega
      · go_wp2
        go_ret
        exact ⟨by rw [HSP.out (by omega)]; rfl, rfl⟩

set_option maxHeartbeats 1000000 in
theorem refsplit_any (w : World) (n : Int) (hi : n ≤ 9223372036854775807) (lo : -9223372036854775808 ≤ n) :
    Calls Tryd.prog 26 #[.int .i64 n] w fun e w' => e = .returned (.int .i64 (splitF n)) ∧ w = w' := by
  by_cases hn : n < 2
  · have hs : splitF n = 0 := by unfold splitF; rw [if_pos hn]
    rw [hs]
    go_enter Tryd.func26, Tryd.ntmps26
    go_wp2
    go_ret
    exact ⟨rfl, rfl⟩
  · go_enter Tryd.func26, Tryd.ntmps26
    go_wp2
    go_loopw [3] (fun k wr => wr = w ∧ ∃ a : Nat, k = .int .i64 ((2 ^ a : Nat) : Int) ∧ n ≤ 2 * ((2 ^ a : Nat) : Int) ∧ 2 ^ a ≤ 4611686018427387904) (fun k _ => (intOf k).toNat)
    case atStart => exact ⟨rfl, 62, rfl, by omega, by decide⟩
    case round =>
      obtain ⟨rfl, a, rfl, ha, hm⟩ := hrel
      have hp : 0 < 2 ^ a := Nat.two_pow_pos a
      have hsp := fun h => splitF_eq n a h ha
      have hq : 2 ≤ 2 ^ a → ∃ b, 2 ^ a = 2 ^ b * 2 := fun h => by
        cases a with
        | zero => simp at h
        | succ b => exact ⟨b, Nat.pow_succ 2 b⟩
      obtain ⟨K, hK⟩ : ∃ K : Nat, K = 2 ^ a := ⟨_, rfl⟩
      rw [← hK] at ha hp hq hsp hm ⊢
      have HQ := Lib.hid hq
      have HSP := Lib.hid hsp
      clear hK hq hsp
      by_cases hlt : n ≤ (K : Int)
      · obtain ⟨b, hb⟩ := HQ.out (by omega)
        have HB := Lib.hid hb
        have hdiv : (K : Int) / 2 = ((2 ^ b : Nat) : Int) := by rw [hb]; omega
        have HDIV := Lib.hid hdiv
        clear hb hdiv
        go_wp2
        go_roundw
        case rel => exact ⟨trivial, b, by first | rfl | (rw [HDIV.out]) | (simp; omega), by have := HB.out; omega, by have := HB.out; omega⟩
        case measure => simp [intOf]; omega
      · go_wp2
        go_ret
        exact ⟨by rw [HSP.out (by omega)]; rfl, rfl⟩
end Go.Proofs.YtipigpeccegjgaaDoor
