/- How a row's argument of rows of bytes is opened. No condition. -/
import Derived.Test.YtiogopneklmodaaDoorLaid
import Derived.Test.YtiogopneklmodaaDoorGe
import Derived.Deep.Matrix
namespace Go.Proofs.YtiogopneklmodaaDoor
open Go.ChangeShapes Go.WideShapes Go.ChangeAt Go.WideMaps Go.WideElems Go.RowKit

/-- Rows of bytes that a row hands over. -/
theorem open_slices {H : Type} {enc : TypeId × Value → H} {W : World} {base : Nat} {r : Reach} {v : Value} {d : DataW H} {ps : List MemPlace} (hval : Value.okWide Tryd.prog W r base 29 v)
    (h : DataW.Trod enc Tryd.prog W 0 (fun _ => true) true 29 v d ps) : ∃ A c ls, v = .slice A ls.length c ∧ ls.length ≤ c ∧ RdS W A ls := by
  obtain ⟨a0, len, cap, rfl⟩ := okWide_slice Tryd.underlying29 hval
  obtain ⟨fuel, hf⟩ := h
  have c1 : Tryd.prog.cellsOf 5 = 1 := by kernel_rfl
  have c2 : Tryd.prog.cellsOf 22 = 1 := by kernel_rfl
  rcases Go.Deep.open_int_rows Tryd.underlying29 Tryd.underlying22 Tryd.underlying5 c2 c1 hf with ⟨hcs, hx⟩ | ⟨a, len', cap', As, L, C, Z, hcs, _, hl, hm, hx, hrow⟩
  · have e : Value.slice a0 len cap = .slice none 0 0 := by simpa [Value.cells] using hcs
    injection e with e1 e2 e3
    exact ⟨none, 0, [], by rw [e1, e2, e3]; rfl, Nat.le_refl _, .inl rfl⟩
  · have e : Value.slice a0 len cap = .slice (some a) len' cap' := by simpa [Value.cells] using hcs
    injection e with e1 e2 e3
    have hlen : ((List.range len').map fun r => (Z r).take (L r)).length = len' := by simp
    refine ⟨some a, cap', (List.range len').map fun r => (Z r).take (L r), by rw [e1, e2, e3, hlen], by omega, ?_⟩
    by_cases h0 : len' = 0
    · left; rw [h0]; rfl
    · have hs := World.cell?_spot (hrow 0 (by omega)).1
      have e0 : a.add 0 = a := by simp [Addr.add]
      rw [e0] at hs
      refine .inr ⟨a.block, a.off, by cases a; simp_all, fun j l hj => ?_⟩
      have hjl : j < len' := by
        have := (List.getElem?_eq_some_iff.1 hj).1
        rwa [hlen] at this
      have hjl2 : l = (Z j).take (L j) := by
        rw [List.getElem?_map, List.getElem?_range hjl] at hj
        exact (Option.some.inj hj).symm
      obtain ⟨r1, r2, r3, r4, r5, r6, r7⟩ := hrow j (by omega)
      have e3 : a.add j = ⟨a.block, a.off + j, none⟩ := by unfold Addr.add; split <;> cases a <;> simp_all
      rw [e3] at r1
      have hll : l.length = L j := by rw [hjl2, List.length_take]; omega
      refine ⟨As j, C j, by rw [r1, hll], by omega, r6, ?_, ?_⟩
      · by_cases hz : L j = 0
        · left; rw [hjl2, hz]; rfl
        · cases hA : As j with
          | none => have := r6 hA; omega
          | some b =>
            obtain ⟨_, hcell⟩ := r7 b hA
            have hs := World.cell?_spot (hcell 0 (by omega))
            have e0 : b.add 0 = b := by simp [Addr.add]
            rw [e0] at hs
            refine .inr ⟨b.block, b.off, by cases b; simp_all, fun i u hu => ?_⟩
            have hi : i < L j := by
              have := (List.getElem?_eq_some_iff.1 hu).1
              rw [nums_length, hll] at this; exact this
            have h1 := hcell i (by omega)
            have e4 : b.add i = ⟨b.block, b.off + i, none⟩ := by unfold Addr.add; split <;> cases b <;> simp_all
            rw [e4] at h1
            rw [h1, ← hu, nums_at _ _ _ (by rw [hll]; exact hi), hjl2]
            have := ga_take (Z j) (L j) i hi
            unfold ga at this
            rw [this]
      · refine U8.of fun x hx => ?_
        rw [hjl2] at hx
        have := r5 x (List.mem_of_mem_take hx)
        simp [Lit.wf, IntKind.min, IntKind.max, IntKind.signed, IntKind.bits] at this
        omega

end Go.Proofs.YtiogopneklmodaaDoor
