/- What merkle.Path and merkle.Growth answer. Condition: the table of layer 2 reads as its text lays it. -/
import Derived.Test.YtipigpeccegjgaaDoorGrow
namespace Go.Proofs.YtipigpeccegjgaaDoor
open Go.RowKit

def GivesDE (r : List (List Int) × Int) (w : World) (e : Ending) (w' : World) : Prop := ∃ v, e = .returned (.tuple #[v, .int .i64 r.2]) ∧ Below w.heap.size w w' ∧ OwnD w' w.heap.size v r.1
def pathR (ds : List (List Int)) (i z : Int) : List (List Int) × Int := if 0 ≤ i ∧ i < ds.length then (pathF ds i z, 0) else ([], 2)
def growthR (ds : List (List Int)) (m z : Int) : List (List Int) × Int := if 1 ≤ m ∧ m ≤ ds.length then (growthF ds m.toNat z true, 0) else ([], 2)
theorem pathR_ok (ds : List (List Int)) (i z : Int) (hu : Dgs ds) : Dgs (pathR ds i z).1 ∧ (pathR ds i z).1.length ≤ ds.length + 1 := by
  unfold pathR
  split
  · have := pathF_ok ds.length ds i z rfl hu
    exact ⟨this.1, by have := this.2; simp only; omega⟩
  · exact ⟨Dgs.nil, Nat.zero_le _⟩
theorem growthR_ok (ds : List (List Int)) (m z : Int) (hu : Dgs ds) : Dgs (growthR ds m z).1 ∧ (growthR ds m z).1.length ≤ ds.length + 1 := by
  unfold growthR
  split
  · exact growthF_ok ds.length ds m.toNat z true rfl hu
  · exact ⟨Dgs.nil, Nat.zero_le _⟩


set_option maxHeartbeats 4000000 in
theorem Path_any (w : World) (ds : List (List Int)) (A : Option Addr) (c : Nat) (hd : Dg w A c ds) (hl : ds.length ≤ 1000) (i z : Int) (hk : KV w) :
    Calls Tryd.prog 27 #[.slice A ds.length c, .int .i64 i, .int .i64 z] w (GivesDE (pathR ds i z) w) := by
  by_cases h : 0 ≤ i ∧ i < ds.length
  · have hr : pathR ds i z = (pathF ds i z, 0) := by unfold pathR; rw [if_pos h]
    have hp := path_any ds.length w ds A c rfl hd hl i z h.1 h.2 hk
    rw [hr]
    obtain ⟨p, hpp⟩ : ∃ p, p = pathF ds i z := ⟨_, rfl⟩
    rw [← hpp] at hp ⊢
    have HP := Lib.hid hp
    obtain ⟨h1, h2⟩ := h
    clear hp hpp hr hk
    go_enter Tryd.func27, Tryd.ntmps27
    go_wp2_with fail
    go_at_call 40
    refine HP.out.mono ?_
    rintro e w1 ⟨v1, rfl, hb1, ho1⟩
    go_wp2_with fail
    go_ret2
    exact ⟨v1, rfl, hb1, ho1⟩
  · have hr : pathR ds i z = ([], 2) := by unfold pathR; rw [if_neg h]
    rw [hr]
    clear hr hk
    by_cases h0 : i < 0
    · go_enter Tryd.func27, Tryd.ntmps27
      go_wp2_with fail
      go_ret2
      exact ⟨_, rfl, Below.refl _ _, OwnD.nil _ _⟩
    · go_enter Tryd.func27, Tryd.ntmps27
      go_wp2_with fail
      go_ret2
      exact ⟨_, rfl, Below.refl _ _, OwnD.nil _ _⟩

set_option maxHeartbeats 4000000 in
theorem Growth_any (w : World) (ds : List (List Int)) (A : Option Addr) (c : Nat) (hd : Dg w A c ds) (hl : ds.length ≤ 1000) (i z : Int) (hk : KV w) :
    Calls Tryd.prog 29 #[.slice A ds.length c, .int .i64 i, .int .i64 z] w (GivesDE (growthR ds i z) w) := by
  by_cases h : 1 ≤ i ∧ i ≤ ds.length
  · have hr : growthR ds i z = (growthF ds i.toNat z true, 0) := by unfold growthR; rw [if_pos h]
    have hp := (by have := growth_any ds.length w ds A c rfl hd hl i.toNat z true (by omega) (by omega) hk; rwa [show ((i.toNat : Nat) : Int) = i by omega] at this)
    rw [hr]
    obtain ⟨p, hpp⟩ : ∃ p, p = growthF ds i.toNat z true := ⟨_, rfl⟩
    rw [← hpp] at hp ⊢
    have HP := Lib.hid hp
    obtain ⟨h1, h2⟩ := h
    clear hp hpp hr hk
    go_enter Tryd.func29, Tryd.ntmps29
    go_wp2_with fail
    go_at_call 41
    refine HP.out.mono ?_
    rintro e w1 ⟨v1, rfl, hb1, ho1⟩
    go_wp2_with fail
    go_ret2
    exact ⟨v1, rfl, hb1, ho1⟩
  · have hr : growthR ds i z = ([], 2) := by unfold growthR; rw [if_neg h]
    rw [hr]
    clear hr hk
    by_cases h0 : i < 1
    · go_enter Tryd.func29, Tryd.ntmps29
      go_wp2_with fail
      go_ret2
      exact ⟨_, rfl, Below.refl _ _, OwnD.nil _ _⟩
    · go_enter Tryd.func29, Tryd.ntmps29
      go_wp2_with fail
      go_ret2
      exact ⟨_, rfl, Below.refl _ _, OwnD.nil _ _⟩
end Go.Proofs.YtipigpeccegjgaaDoor
