/- What clash.leaves answers. Condition: the table of layer 2 reads as its text lays it. -/
import Derived.Test.YtiogopneklmodaaDoorClR
namespace Go.Proofs.YtiogopneklmodaaDoor
open Go.RowKit

/-- A list of texts in memory. -/
structure Txts (w : World) (A : Option Addr) (c : Nat) (l : List (List Int)) : Prop where
  le : l.length ≤ c
  nn : A = none → c = 0
  at' : l = [] ∨ ∃ g o, A = some ⟨g, o, none⟩ ∧ g < w.heap.size ∧ ∀ j (hj : j < l.length), ∃ B d, w.cell? ⟨g, o + j, none⟩ = some (.slice B (l[j]).length d) ∧ Byt w B d l[j]
theorem Txts.up {w w' : World} {A : Option Addr} {c : Nat} {l : List (List Int)} (h : Txts w A c l) (hb : Below w.heap.size w w') : Txts w' A c l := by
  refine ⟨h.le, h.nn, ?_⟩
  rcases h.at' with h | ⟨g, o, h1, h2, h3⟩
  · exact .inl h
  · refine .inr ⟨g, o, h1, Nat.lt_of_lt_of_le h2 hb.size, fun j hj => ?_⟩
    obtain ⟨B, d, h4, h5⟩ := h3 j hj
    exact ⟨B, d, (hb.cell (p := ⟨g, o + j, none⟩) h2).trans h4, h5.up hb⟩
theorem Txts.get {w : World} {A : Option Addr} {c : Nat} {l : List (List Int)} (h : Txts w A c l) (hl : 0 < l.length) : ∃ g o, A = some ⟨g, o, none⟩ ∧ g < w.heap.size ∧ ∀ j (hj : j < l.length), ∃ B d, w.cell? ⟨g, o + j, none⟩ = some (.slice B (l[j]).length d) ∧ Byt w B d l[j] := by
  rcases h.at' with rfl | h
  · simp at hl
  · exact h

theorem madeCells_rep (z : Value) (m n : Nat) (hm : 0 < m) : (madeCells (List.replicate m z).toArray n).toList = List.replicate n z := by
  apply List.ext_getElem?
  intro j
  by_cases hj : j < n
  · have := Nat.mod_lt j hm
    simp [madeCells, hj, this]
  · simp [madeCells, hj]
theorem madeD (n : Nat) : (madeCells (nums .u8 (List.replicate 32 0)).toArray n).toList = nums .u8 (List.replicate n 0) := by
  have h : ∀ m, nums .u8 (List.replicate m 0) = List.replicate m (.int .u8 0) := fun m => List.map_replicate
  rw [h, h, madeCells_rep _ _ _ (by decide)]
theorem make_D (w : World) (n : Nat) (h : n ≤ 1000000) : (Instr.makeSlice 30 (.int .i64 n) (.int .i64 n)).run Tryd.prog w = .ok (.slice (some ⟨w.heap.size, 0, none⟩) n n) (w.alloc (.cells (nums .u8 (List.replicate (n * 32) 0)).toArray 45)) := by
  obtain ⟨i0, hi, hz0, hz1, hz2⟩ := info_parts dinfo
  rw [run_make (P := Tryd.prog) w _ _ i0 _ Tryd.underlying30 hi hz0 .i64 .i64 n n (by omega) (by omega) (by rw [hz2]; omega) (by omega), hz1, Int.toNat_natCast]
  have h2 := congrArg List.toArray (madeD (n * 32))
  rw [Array.toArray_toList] at h2
  show Result.ok _ (w.alloc (.cells (madeCells (nums .u8 (List.replicate 32 0)).toArray (n * 32)) _)) = _
  rw [h2]

def leavesF (l : List (List Int)) (z : Int) : List (List Int) := l.map fun b => leafF b z
theorem leavesF_ok (l : List (List Int)) (z : Int) : Dgs (leavesF l z) := fun d hd => by
  obtain ⟨b, _, rfl⟩ := List.mem_map.1 hd
  exact ⟨leafF_len b z, leafF_range b z⟩
theorem leavesF_len (l : List (List Int)) (z : Int) : (leavesF l z).length = l.length := List.length_map _
/-- The leaves so far, noughts behind them. -/
def partL (l : List (List Int)) (z : Int) (k : Nat) : List Int := (leavesF (l.take k) z).flatten ++ List.replicate ((l.length - k) * 32) 0
theorem partL_len (l : List (List Int)) (z : Int) (k : Nat) (h : k ≤ l.length) : (partL l z k).length = l.length * 32 := by
  unfold partL
  rw [List.length_append, (leavesF_ok _ z).flat, leavesF_len, List.length_take, List.length_replicate, Nat.min_eq_left h]
  have := Nat.sub_add_cancel h
  rw [← Nat.mul_comm k 32, ← Nat.add_mul]; congr 1; omega
theorem partL_zero (l : List (List Int)) (z : Int) : partL l z 0 = List.replicate (l.length * 32) 0 := by simp [partL, leavesF]
theorem partL_all (l : List (List Int)) (z : Int) : partL l z l.length = (leavesF l z).flatten := by simp [partL]
theorem partL_step (l : List (List Int)) (z : Int) (k : Nat) (h : k < l.length) : laid (nums .u8 (partL l z k)) (k * 32) (nums .u8 (leafF l[k] z)) = nums .u8 (partL l z (k + 1)) := by
  have hp : (leavesF (l.take k) z).flatten.length = k * 32 := by
    rw [(leavesF_ok _ z).flat, leavesF_len, List.length_take, Nat.min_eq_left (by omega)]; omega
  have hs : (l.length - k) * 32 = 32 + (l.length - (k + 1)) * 32 := by omega
  unfold laid
  have e1 : (nums .u8 (partL l z k)).take (k * 32) = nums .u8 (leavesF (l.take k) z).flatten := by
    rw [← nums_take]; unfold partL; rw [List.take_append_of_le_length (by omega), List.take_of_length_le (by omega)]
  have e2 : (nums .u8 (partL l z k)).drop (k * 32 + (nums .u8 (leafF l[k] z)).length) = nums .u8 (List.replicate ((l.length - (k + 1)) * 32) 0) := by
    rw [nums_length, leafF_len, ← nums_drop]; unfold partL
    rw [List.drop_append, List.drop_eq_nil_of_le (by omega), List.nil_append, hp, List.drop_replicate]
    congr 2; omega
  rw [e1, e2]
  have e3 : l.take (k + 1) = l.take k ++ [l[k]] := by rw [List.take_add_one, List.getElem?_eq_getElem h]; rfl
  unfold partL
  rw [e3]
  simp only [leavesF, nums, List.map_append, List.flatten_append, List.map_cons, List.map_nil, List.flatten_cons, List.flatten_nil, List.append_nil, List.append_assoc]

set_option maxRecDepth 100000 in
set_option maxHeartbeats 4000000 in
theorem leaves_any (w : World) (l : List (List Int)) (A : Option Addr) (c : Nat) (h : Txts w A c l) (hl : l.length ≤ 1000) (hb : ∀ b ∈ l, b.length ≤ 1000) (z : Int) (hk : KV w) :
    Calls Tryd.prog 34 #[.slice A l.length c, .int .i64 z] w fun e w' => e = .returned (.slice (some ⟨w.heap.size, 0, none⟩) l.length l.length) ∧ Below w.heap.size w w' ∧ Blk w' w.heap.size (nums .u8 (leavesF l z).flatten) 45 := by
  have hmk := make_D w l.length (by omega)
  have hx0 : Blk (w.alloc (.cells (nums .u8 (List.replicate (l.length * 32) 0)).toArray 45)) w.heap.size (nums .u8 (List.replicate (l.length * 32) 0)) 45 := Blk.new' _ _ _ _ _ rfl rfl
  have hB0 : Below w.heap.size w (w.alloc (.cells (nums .u8 (List.replicate (l.length * 32) 0)).toArray 45)) := (Below.refl _ _).alloc (Nat.le_refl _) _
  rw [← partL_zero l z] at hmk hx0 hB0
  have HT := Lib.hid h
  have HK := Lib.hid hk
  have HLB := Lib.hid hb
  clear h hk hb
  obtain ⟨Z, hZ⟩ : ∃ Z, Z = nums .u8 (partL l z 0) := ⟨_, rfl⟩
  have HZ := Lib.hid hZ
  rw [← hZ] at hmk hx0 hB0
  clear hZ
  go_enter Tryd.func34, Tryd.ntmps34
  go_wp2
  go_loopw [13] (fun i wr => ∃ k : Nat, i = .int .i64 k ∧ k ≤ l.length ∧ Blk wr w.heap.size (nums .u8 (partL l z k)) 45 ∧ Below w.heap.size w wr) (fun i _ => l.length - (intOf i).toNat)
  case atStart => exact ⟨0, rfl, by omega, by rw [← HZ.out]; exact hx0, hB0⟩
  case round =>
    clear hx0 hB0 hmk
    obtain ⟨k, rfl, hk, hx, hB⟩ := hrel
    by_cases hlt : k < l.length
    · obtain ⟨g, o, rfl, hg, hc⟩ := HT.out.get (by omega)
      obtain ⟨B, d, hcell, hbyt⟩ := hc k hlt
      have c1 := (hB.cell (p := ⟨g, o + k, none⟩) hg).trans hcell
      have hbl : (l[k]).length ≤ 1000 := HLB.out _ (List.getElem_mem hlt)
      have hstep := partL_step l z k hlt
      obtain ⟨b, hb⟩ : ∃ b, b = l[k] := ⟨_, rfl⟩
      rw [← hb] at c1 hbyt hbl hstep
      have HS := Lib.hid hstep
      have HBY := Lib.hid hbyt
      clear hc hcell hstep hbyt hb
      go_wp2_with fail
      go_at_call 35
      refine (leaf_any _ b B d (HBY.out.up hB) (by omega) z (HK.out.below hB HK.out.lt)).mono ?_
      rintro e w1 ⟨rfl, hb1⟩
      have hx1 := hx.up hb1
      have hB1 := hB.trans (hb1.mono hB.size)
      clear hx hB
      have HPL := Lib.hid (partL_len l z k (by omega))
      go_wp2_with ((with_reducible apply st_storeW (off := k * 32) (vs := nums .u8 (leafF b z)) (cs := nums .u8 (partL l z k)) (T := 45)); rfl; rfl; exact hx1; (rw [nums_length, leafF_len]; kernel_rfl); (rw [nums_length, nums_length, leafF_len, HPL.out]; omega); exact nums_one _ _; intro w2 hd2 hw2; rw [HS.out] at hd2; have hB2 := Wrote.below hB1 hw2 (Nat.le_refl _))
      --MARK1
      go_roundw
      case rel => exact ⟨k + 1, by go_num, by omega, hd2, hB2⟩
      case measure => simp [intOf]; omega
    · have e9 : k = l.length := by omega
      subst e9
      rw [partL_all] at hx
      go_wp2
      go_ret
      exact ⟨rfl, hB, hx⟩

end Go.Proofs.YtiogopneklmodaaDoor
