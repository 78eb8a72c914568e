/- How a plain row's arguments are opened. No condition. -/
import Derived.Test.YtepicdcmcagipaaRows
import Derived.Test.YtepicdcmcagipaaGa
import Derived.ProofKit
import Derived.LaidMore
import Derived.OpenShut
import Derived.ShutString
import Derived.ChangeOld
import Derived.Carry
import Derived.SizedLaws
import Derived.Handed
namespace Go.Proofs.Ytepicdcmcagipaa
open Go.ChangeShapes Go.WideShapes Go.ChangeAt Go.WideMaps Go.WideElems Go.RowKit

theorem own : ownKnob Try.prog.godebug = none := by kernel_rfl
theorem laidOut : laidOutB Try.prog = true := by kernel_rfl

/-- Bytes that a row hands over. -/
theorem open_bytes {H : Type} {enc : TypeId × Value → H} {W : World} {base : Nat} {r : Reach} {v : Value} {d : DataW H} {ps : List MemPlace} (hval : Value.okWide Try.prog W r base 29 v)
    (h : DataW.Trod enc Try.prog W 0 (fun _ => true) true 29 v d ps) : ∃ A c bs, v = .slice A bs.length c ∧ bs.length ≤ c ∧ (A = none → c = 0) ∧ Rd W A (nums .u8 bs) ∧ (∀ i, 0 ≤ ga bs i ∧ ga bs i < 256) := by
  obtain ⟨a0, len, cap, rfl⟩ := okWide_slice Try.underlying29 hval
  obtain ⟨fuel, hf⟩ := h
  have c1 : Try.prog.cellsOf 5 = 1 := by kernel_rfl
  rcases open_ints Try.underlying29 Try.underlying5 c1 hf with ⟨hcs, hx⟩ | ⟨a, len', cap', zs, hcs, _, hl, hm, hz, hx, hcell, hwf⟩
  · have e : Value.slice a0 len cap = .slice none 0 0 := by simpa [Value.cells] using hcs
    injection e with e1 e2 e3
    exact ⟨none, 0, [], by rw [e1, e2, e3]; rfl, Nat.le_refl _, fun _ => rfl, Rd.nil _ _, (fun i => by simp [ga])⟩
  · have e : Value.slice a0 len cap = .slice (some a) len' cap' := by simpa [Value.cells] using hcs
    injection e with e1 e2 e3
    have hz2 : zs.length = cap' := by simpa using hz
    have hlen : (zs.take len').length = len' := by simp; omega
    refine ⟨some a, cap', zs.take len', by rw [e1, e2, e3, hlen], by omega, (fun h => by cases h), ?_, ?_⟩
    · by_cases h0 : len' = 0
      · left; rw [h0]; rfl
      · have hs := World.cell?_spot (hcell 0 (by omega))
        have e0 : a.add 0 = a := by simp [Addr.add]
        rw [e0] at hs
        refine .inr ⟨a.block, a.off, by cases a; simp_all, fun j u hu => ?_⟩
        have hj : j < len' := by
          have := (List.getElem?_eq_some_iff.1 hu).1
          rw [nums_length, hlen] at this; exact this
        have h1 := hcell j (by omega)
        have e3 : a.add j = ⟨a.block, a.off + j, none⟩ := by unfold Addr.add; split <;> cases a <;> simp_all
        rw [e3] at h1
        rw [h1, ← hu, nums_at _ _ _ (by rw [hlen]; exact hj)]
        rw [List.getD_eq_getElem?_getD, List.getD_eq_getElem?_getD, List.getElem?_take_of_lt hj]
    · intro i
      by_cases hi : i < len'
      · have e : ga (zs.take len') i = (zs.take len')[i]'(by omega) := by unfold ga; rw [List.getD_eq_getElem?_getD, List.getElem?_eq_getElem (by omega)]; rfl
        have := hwf _ (List.mem_of_mem_take (List.getElem_mem (l := zs.take len') (by omega : i < (zs.take len').length)))
        rw [e]
        simp [Lit.wf, IntKind.min, IntKind.max, IntKind.signed, IntKind.bits] at this ⊢
        omega
      · have e : ga (zs.take len') i = 0 := by unfold ga; rw [List.getD_eq_getElem?_getD, List.getElem?_eq_none (by omega)]; rfl
        rw [e]; omega

end Go.Proofs.Ytepicdcmcagipaa
