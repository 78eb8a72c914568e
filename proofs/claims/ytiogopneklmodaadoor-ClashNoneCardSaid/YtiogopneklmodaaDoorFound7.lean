/- What inquestlaw07.found answers of what clash.Path or clash.Growth answered: true. No condition. -/
import Derived.Test.YtiogopneklmodaaDoorLeaves7
import Derived.Test.YtiogopneklmodaaDoorLv7
import Derived.Test.YtiogopneklmodaaDoorGg
namespace Go.Proofs.YtiogopneklmodaaDoor
open Go.RowKit

theorem RdS.txtAt {w : World} {A : Option Addr} {ls : List (List Int)} (h : RdS w A ls) : TxtAt w A ls := by
  rcases h with h | ⟨g, off, rfl, hc⟩
  · exact .inl h
  · by_cases h0 : ls = []
    · exact .inl h0
    · have hp : 0 < ls.length := List.length_pos_iff.2 h0
      obtain ⟨_, _, h1, _⟩ := hc 0 ls[0] (by simp [hp])
      refine .inr ⟨g, off, rfl, World.block_lt_of_cell? (h := h1), fun j hj => ?_⟩
      obtain ⟨Aj, cj, h2, h3, h4, h5, h6⟩ := hc j ls[j] (by simp [hj])
      exact ⟨Aj, cj, h2, h5, h3, h4, h6⟩
theorem fewF_le (l : List (List Int)) (n m : Nat) : ∀ x ∈ fewF l n m, x.length ≤ m := fun x hx => by
  obtain ⟨y, _, rfl⟩ := List.mem_map.1 hx
  rw [List.length_take]; omega
theorem fewF_few (l : List (List Int)) (n m : Nat) : fewF (fewF l n m) n m = fewF l n m := by
  unfold fewF
  rw [← List.map_take, List.take_take, Nat.min_self, List.map_map]
  congr 1
  funext x
  show List.take m (List.take m x) = List.take m x
  rw [List.take_take, Nat.min_self]

set_option maxRecDepth 100000 in
set_option maxHeartbeats 4000000 in
theorem found_any (w : World) (a b : List Int) (A B : Option Addr) (c d : Nat) (ha : Byt w A c a) (hb : Byt w B d b) (la : a.length ≤ 1100) (lb : b.length ≤ 1100) (must : Bool) (z : Int) (h0 : must = false → a = [] ∧ b = []) (h1 : must = true → IsF a b z) :
    Calls Tryd.prog 19 #[.agg (clC a b A B c d).toArray, .bool must, .bool must, .int .i64 z] w fun e w' => e = .returned (.bool true) ∧ Below w.heap.size w w' := by
  obtain ⟨W, hW⟩ : ∃ W, W = w.alloc (.cells (clC a b A B c d).toArray 25) := ⟨_, rfl⟩
  have hx : Blk W w.heap.size (clC a b A B c d) 25 := by rw [hW]; exact Blk.new' _ _ _ _ _ rfl rfl
  have hB : Below w.heap.size w W := by rw [hW]; exact (Below.refl _ _).alloc (Nat.le_refl _) _
  have HW := Lib.hid hW
  clear hW
  cases must with
  | false =>
    obtain ⟨rfl, rfl⟩ := h0 rfl
    have c0 := hx.cell 0
    have c1 := hx.cell 1
    simp only [clC, List.getElem?_cons_zero, List.getElem?_cons_succ, List.length_nil] at c0 c1
    have hl := hx.lt
    clear h0 h1 ha hb
    go_enter Tryd.func19, Tryd.ntmps19
    go_upto_region 1 with (fail)
    rw [← HW.out]
    --MARK1
    go_wp2_with ((with_reducible apply st_met); rfl)
    go_ret
    exact ⟨rfl, hB⟩
  | true =>
    have hi : decide (IsF a b z) = true := decide_eq_true (h1 rfl)
    have HI := Lib.hid hi
    have HA := Lib.hid ha
    have HBY := Lib.hid hb
    clear h0 h1 hi ha hb
    go_enter Tryd.func19, Tryd.ntmps19
    go_upto_region 1 with (fail)
    rw [← HW.out]
    go_wp2_with (first | ((with_reducible apply st_met); rfl) | ((with_reducible apply st_load (n := 2) (cs := clC a b A B c d) (T := 25)); rfl; exact hx; exact Tryd.underlying25; rfl; exact clSize; (exact Nat.le_refl 2); (exact row_all _ _ rfl)))
    --MARK2
    have k1 := refis_any W a b A B c d (HA.out.up hB) (HBY.out.up hB) (by omega) (by omega) z
    rw [HI.out] at k1
    go_at_call 10
    refine k1.mono ?_
    clear k1
    rintro e w4 ⟨rfl, hb4⟩
    have hB := hB.trans (hb4.mono hB.size)
    go_wp2_with fail
    go_ret
    exact ⟨rfl, hB⟩

end Go.Proofs.YtiogopneklmodaaDoor
