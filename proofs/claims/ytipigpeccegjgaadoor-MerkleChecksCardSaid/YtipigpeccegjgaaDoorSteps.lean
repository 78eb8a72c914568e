/- What the reference's Steps answers. No condition. -/
import Derived.Test.YtipigpeccegjgaaDoorOwnC
import Derived.Test.YtipigpeccegjgaaDoorPure6
namespace Go.Proofs.YtipigpeccegjgaaDoor
open Go.RowKit

theorem binfo : (Tryd.prog.info? 4).map (fun i => (i.zero, i.size, i.bytes)) = some (some (.bool false), 1, 1) := by kernel_rfl
def bools (l : List Bool) : List Value := l.map Value.bool
theorem bools_len (l : List Bool) : (bools l).length = l.length := by simp [bools]
theorem bools_snoc (l : List Bool) (b : Bool) : bools l ++ [.bool b] = bools (l ++ [b]) := by simp [bools]
theorem bools_one (l : List Bool) : ∀ u ∈ bools l, u.oneCell' = true := by
  intro u hu
  obtain ⟨x, _, rfl⟩ := List.mem_map.1 hu
  rfl

theorem steps_next_left {n k : Nat} {i : Int} {all done : List Bool} (hk : k = kF n) (h : 2 ≤ n) (hi : i < k) (e : all = done ++ stepsF n i) : all = (done ++ [false]) ++ stepsF k i := by
  subst hk; rw [e, stepsF_left n i h hi]; simp
theorem steps_next_right {n k : Nat} {i : Int} {all done : List Bool} (hk : k = kF n) (h : 2 ≤ n) (hi : ¬ i < k) (e : all = done ++ stepsF n i) : all = (done ++ [true]) ++ stepsF (n - k) (i - k) := by
  subst hk; rw [e, stepsF_right n i h hi]; simp

set_option maxHeartbeats 4000000 in
theorem steps_any (w : World) (n : Nat) (i : Int) (hn : 1 ≤ n) (hmax : n ≤ 9223372036854775807) (hi0 : 0 ≤ i) (hi : i < n) :
    Calls Tryd.prog 44 #[.int .i64 n, .int .i64 i] w fun e w' => ∃ v, e = .returned v ∧ GrowC w 4 (bools (stepsF n i)) v w' := by
  obtain ⟨all, hall⟩ : ∃ all, all = stepsF n i := ⟨_, rfl⟩
  have hlen : all.length ≤ 64 := by rw [hall]; exact stepsF_len 64 n i (by omega)
  rw [← hall]
  have HALL := Lib.hid hall
  clear hall
  go_enter Tryd.func44, Tryd.ntmps44
  go_wp2_with fail
  go_loopw [0, 1, 5] (fun vn vi v wr => ∃ (m : Nat) (j : Int) (done : List Bool), vn = .int .i64 m ∧ vi = .int .i64 j ∧ 1 ≤ m ∧ m ≤ 9223372036854775807 ∧ 0 ≤ j ∧ j < m ∧ done.length ≤ 64 ∧ Hid (all = done ++ stepsF m j) ∧ GrowC w 4 (bools done) v wr) (fun vn _ _ _ => (intOf vn).toNat)
  case atStart => exact ⟨n, i, [], rfl, rfl, hn, hmax, hi0, hi, by simp, HALL.out, GrowC.nil _ _⟩
  case round =>
    clear hn hmax hi0 hi
    obtain ⟨m, j, done, rfl, rfl, hn, hmax, hi0, hi, hdl, HE, hG⟩ := hrel
    by_cases h1 : m = 1
    · have he : all = done := by
        have := HE.out
        rw [stepsF_small m j (by omega), List.append_nil] at this; exact this
      have HAD := Lib.hid he
      subst h1
      clear he
      go_wp2_with fail
      go_ret
      exact ⟨_, rfl, by rw [HAD.out]; exact hG⟩
    · have hks := kF_spec m (by omega)
      have hnl := fun k h => @steps_next_left m k j all done h (by omega)
      have hnr := fun k h => @steps_next_right m k j all done h (by omega)
      obtain ⟨k, hkk⟩ : ∃ k, k = kF m := ⟨_, rfl⟩
      rw [← hkk] at hks
      obtain ⟨k1, k2, k3, k4⟩ := hks
      have hlb : ∀ d : List Bool, all = d ++ stepsF k j ∨ all = d ++ stepsF (m - k) (j - k) → d.length ≤ 64 := fun d h => by
        rcases h with h | h
        all_goals
          have := congrArg List.length h
          rw [List.length_append] at this
          omega
      have HSP := Lib.hid k4
      by_cases hik : j < k
      · have hnext := hnl k hkk hik HE.out
        have hl1 := hlb _ (.inl hnext)
        have HNEXT := Lib.hid hnext
        clear hnext hnl hnr hlb hkk k4
        go_wp2_with fail
        go_at_call 26
        refine (refsplit_any _ m (by omega) (by omega)).mono ?_
        rw [HSP.out]
        rintro e wz ⟨rfl, rfl⟩
        go_wp2_with ((with_reducible apply st_growC (w0 := w) (xs := bools done) (ys := [.bool false]) (z := .bool false) (b := 1)); exact Tryd.underlying58; exact binfo; rfl; decide; rfl; rfl; exact hG.alloc _; rfl; exact cell_one_new _ _ _; (intro u hu; simp at hu; subst hu; rfl); (rw [bools_len]; omega); intro v2 w2 hG2)
        rw [bools_snoc] at hG2
        go_roundw
        case rel => exact ⟨k, j, done ++ [false], rfl, rfl, k1, by omega, hi0, hik, hl1, HNEXT.out, hG2⟩
        case measure => simp [intOf]; omega
      · have hnext := hnr k hkk hik HE.out
        have hl1 := hlb _ (.inr hnext)
        have HNEXT := Lib.hid hnext
        clear hnext hnl hnr hlb hkk k4
        go_wp2_with fail
        go_at_call 26
        refine (refsplit_any _ m (by omega) (by omega)).mono ?_
        rw [HSP.out]
        rintro e wz ⟨rfl, rfl⟩
        go_wp2_with ((with_reducible apply st_growC (w0 := w) (xs := bools done) (ys := [.bool true]) (z := .bool false) (b := 1)); exact Tryd.underlying58; exact binfo; rfl; decide; rfl; rfl; exact hG.alloc _; rfl; exact cell_one_new _ _ _; (intro u hu; simp at hu; subst hu; rfl); (rw [bools_len]; omega); intro v2 w2 hG2)
        rw [bools_snoc] at hG2
        go_roundw
        case rel => exact ⟨m - k, j - k, done ++ [true], by go_num, rfl, by omega, by omega, by omega, by omega, hl1, HNEXT.out, hG2⟩
        case measure => simp [intOf]; omega
end Go.Proofs.YtipigpeccegjgaaDoor
