/- How a row's argument of digests is opened. No condition. -/
import Derived.Test.YtiogopneklmodaaDoorLaid
import Derived.Test.YtiogopneklmodaaDoorGg
import Derived.Deep.Matrix
namespace Go.Proofs.YtiogopneklmodaaDoor
open Go.ChangeShapes Go.WideShapes Go.ChangeAt Go.WideMaps Go.WideElems Go.RowKit Go.Deep

theorem flat_at {ds : List (List Int)} (h : Dgs ds) (i j : Nat) (hi : i < ds.length) (hj : j < 32) : ds.flatten[32 * i + j]? = (ds[i])[j]? := by
  rw [← h.atFlat i hi, List.getElem?_take_of_lt hj, List.getElem?_drop]

theorem add_off (a : Addr) (h : a.spot = none) (n : Nat) : a.add n = ⟨a.block, a.off + n, none⟩ := by
  unfold Addr.add; split <;> cases a <;> simp_all

/-- Digests that a row hands over. -/
theorem open_digs {H : Type} {enc : TypeId × Value → H} {W : World} {base : Nat} {r : Reach} {v : Value} {d : DataW H} {ps : List MemPlace} (hval : Value.okWide Tryd.prog W r base 30 v)
    (h : DataW.Trod enc Tryd.prog W 0 (fun _ => true) true 30 v d ps) : ∃ A c ds, v = .slice A ds.length c ∧ Dg W A c ds := by
  obtain ⟨a0, len, cap, rfl⟩ := okWide_slice Tryd.underlying30 hval
  obtain ⟨fuel, hf⟩ := h
  have c1 : Tryd.prog.cellsOf 45 = 32 := by kernel_rfl
  have c2 : Tryd.prog.cellsOf 5 = 1 := by kernel_rfl
  rcases DataW.trod_slice Tryd.underlying30 hf with ⟨hcs, hx⟩ | ⟨a, len', cap', elems, rest, n, _, hcs, hx, hb, hl, hm, hlen, hel, hsp, hns⟩
  · have e : Value.slice a0 len cap = .slice none 0 0 := by simpa [Value.cells] using hcs
    injection e with e1 e2 e3
    exact ⟨none, 0, [], by rw [e1, e2, e3]; rfl, Dg.nil W⟩
  · have e : Value.slice a0 len cap = .slice (some a) len' cap' := by simpa [Value.cells] using hcs
    injection e with e1 e2 e3
    have each : ∀ i, i < len' → ∃ zs : List Int, zs.length = 32 ∧ U8 zs ∧ ∀ j, j < 32 → W.cell? ((a.add (i * 32)).add j) = some (.int .u8 (ga zs j)) := by
      intro i hi
      have h1 := hel i hi
      rw [c1, List.getElem?_eq_getElem (by omega), Option.bind_eq_some_iff] at h1
      obtain ⟨cs, hcells, htr⟩ := h1
      have hcell := (World.cells?_some hcells).2.2
      obtain ⟨xs, m, _, _, hl2, hxl, hel2⟩ := DataW.trod_array Tryd.underlying45 htr
      rw [c1] at hl2
      have each2 : ∀ j (hj : j < 32), ∃ z, cs[j]? = some (.int .u8 z) ∧ (Lit.int .u8 z).wf = true := by
        intro j hj
        have h1 := hel2 j hj
        rw [c2, Nat.mul_one, List.getElem?_eq_getElem (by omega)] at h1
        obtain ⟨z, e1, _, hw⟩ := DataW.trod_int Tryd.underlying5 h1
        refine ⟨z, ?_, hw⟩
        have h3 := congrArg (fun l => l[0]?) e1
        simpa using h3
      refine ⟨cs.map intOf, by simpa using hl2, U8.of fun x hx => ?_, fun j hj => ?_⟩
      · obtain ⟨c, hc2, rfl⟩ := List.mem_map.1 hx
        obtain ⟨j, hj, rfl⟩ := List.mem_iff_getElem.1 hc2
        obtain ⟨z, hz, hw⟩ := each2 j (by omega)
        rw [List.getElem?_eq_getElem hj] at hz
        injection hz with hz
        rw [hz]
        simp [Lit.wf, IntKind.min, IntKind.max, IntKind.signed, IntKind.bits] at hw
        simp only [intOf]; omega
      · obtain ⟨z, hz, _⟩ := each2 j hj
        have h5 := hcell j (by omega)
        rw [h5]
        have h6 : cs[j]? = some (cs[j]'(by omega)) := List.getElem?_eq_getElem (by omega)
        simp [ga, hz, intOf]
    obtain ⟨y, hy⟩ := choose_lt each
    have hdl : ((List.range len').map y).length = len' := by simp
    have hu : Dgs ((List.range len').map y) := fun d hd => by
      obtain ⟨i, hi, rfl⟩ := List.mem_map.1 hd
      have := hy i (List.mem_range.1 hi)
      exact ⟨this.1, this.2.1⟩
    have hfl := hu.flat
    refine ⟨some a, cap', (List.range len').map y, by rw [e1, e2, e3, hdl], ?_, by omega, (fun h => by cases h), hu⟩
    by_cases h0 : len' = 0
    · left; rw [h0]; rfl
    · have hs := World.cell?_spot ((hy 0 (by omega)).2.2 0 (by omega))
      have e0 : (a.add (0 * 32)).add 0 = a := by simp [Addr.add]
      rw [e0] at hs
      refine .inr ⟨a.block, a.off, by cases a; simp_all, fun j u hu2 => ?_⟩
      have hj : j < 32 * len' := by
        have := (List.getElem?_eq_some_iff.1 hu2).1
        rw [nums_length, hfl, hdl] at this; exact this
      have hi : j / 32 < len' := by omega
      have h1 := (hy (j / 32) hi).2.2 (j % 32) (by omega)
      have e3 : (a.add (j / 32 * 32)).add (j % 32) = ⟨a.block, a.off + j, none⟩ := by
        have : a.off + j / 32 * 32 + j % 32 = a.off + j := by omega
        rw [add_off a hs, add_off _ rfl, this]
      rw [e3] at h1
      rw [h1, ← hu2]
      unfold nums
      have h2 := flat_at hu (j / 32) (j % 32) (by rw [hdl]; exact hi) (by omega)
      rw [show 32 * (j / 32) + j % 32 = j by omega] at h2
      rw [List.getElem?_map, h2]
      have h3 : ((List.range len').map y)[j / 32]'(by rw [hdl]; exact hi) = y (j / 32) := by simp
      rw [h3, List.getElem?_eq_getElem (by rw [(hy _ hi).1]; omega)]
      simp [ga, (hy _ hi).1, Nat.mod_lt]

end Go.Proofs.YtiogopneklmodaaDoor
