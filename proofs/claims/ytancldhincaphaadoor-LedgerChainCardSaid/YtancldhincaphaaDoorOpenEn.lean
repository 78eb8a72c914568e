/- How a row's argument, an entry, is opened. No condition. -/
import Derived.Test.YtancldhincaphaaDoorLaid
import Derived.Test.YtancldhincaphaaDoorGi
import Derived.OpenShut
import Derived.ChangeArms
import Derived.Lib.SmallJoins
namespace Go.Proofs.YtancldhincaphaaDoor
open Go.ChangeShapes Go.WideShapes Go.ChangeAt Go.WideMaps Go.WideElems Go.RowKit
set_option maxRecDepth 100000

section
variable {H : Type} {enc : TypeId × Value → H} {P : Program} {W : World} {fuel : Nat} {cs : List Value} {x : DataW H × List MemPlace}
theorem row_nums {n : Nat} {t e : TypeId} {k : IntKind} (ht : P.underlying t = some (.array n e)) (he : P.underlying e = some (.int k)) (hc : P.cellsOf e = 1) (hct : P.cellsOf t = n)
    (h : DataW.trod enc P W 0 (fun _ => true) true fuel t cs = some x) : ∃ zs : List Int, cs = nums k zs ∧ zs.length = n ∧ ∀ z ∈ zs, (Lit.int k z).wf = true := by
  obtain ⟨xs, m, _, _, hl, hxl, hel⟩ := DataW.trod_array ht h
  rw [hct] at hl
  have each : ∀ i (hi : i < n), ∃ z, cs[i]? = some (.int k z) ∧ (Lit.int k z).wf = true := by
    intro i hi
    have h1 := hel i hi
    rw [hc, Nat.mul_one, List.getElem?_eq_getElem (by omega)] at h1
    obtain ⟨z, e1, _, hw⟩ := DataW.trod_int he h1
    refine ⟨z, ?_, hw⟩
    have h3 := congrArg (fun l => l[0]?) e1
    simpa using h3
  refine ⟨cs.map intOf, ?_, by simpa using hl, ?_⟩
  · apply List.ext_getElem?
    intro i
    by_cases hi : i < n
    · obtain ⟨z, hz, _⟩ := each i hi
      simp [nums, hz, intOf]
    · rw [List.getElem?_eq_none (by omega), List.getElem?_eq_none (by rw [nums_length, List.length_map]; omega)]
  · intro z hz
    obtain ⟨c, hc2, rfl⟩ := List.mem_map.1 hz
    obtain ⟨i, hi, rfl⟩ := List.mem_iff_getElem.1 hc2
    obtain ⟨z, hz, hw⟩ := each i (by omega)
    rw [List.getElem?_eq_getElem hi] at hz
    injection hz with hz
    rw [hz]; exact hw
theorem one_int {t : TypeId} {k : IntKind} (ht : P.underlying t = some (.int k)) (h : DataW.trod enc P W 0 (fun _ => true) true fuel t cs = some x) : ∃ z, cs = [.int k z] ∧ (Lit.int k z).wf = true := by
  obtain ⟨z, e1, _, hw⟩ := DataW.trod_int ht h
  exact ⟨z, e1, hw⟩
theorem ints_nts {t e : TypeId} (ht : P.underlying t = some (.slice e)) (he : P.underlying e = some (.int .i64)) (hc : P.cellsOf e = 1)
    (h : DataW.trod enc P W 0 (fun _ => true) true fuel t cs = some x) : ∃ A c l, cs = [.slice A l.length c] ∧ Nts W A c l ∧ l.length ≤ 9223372036854775807 ∧ ∀ z ∈ l, B64 z := by
  rcases open_ints ht he hc h with ⟨hcs, _⟩ | ⟨a, len', cap', zs, hcs, _, hl, hm, hz, hx, hcell, hwf⟩
  · exact ⟨none, 0, [], hcs, ⟨Rd.nil _ _, Nat.le_refl _, fun _ => rfl⟩, by simp, fun z hz => by cases hz⟩
  · have hz2 : zs.length = cap' := by simpa using hz
    have hlen : (zs.take len').length = len' := by simp; omega
    refine ⟨some a, cap', zs.take len', by rw [hcs, hlen], ⟨?_, by omega, fun h => by cases h⟩, by unfold maxLen at hm; omega, fun z hz => ?_⟩
    · by_cases h0 : len' = 0
      · left; rw [h0]; rfl
      · have hs := World.cell?_spot (hcell 0 (by omega))
        have e0 : a.add 0 = a := by simp [Addr.add]
        rw [e0] at hs
        refine .inr ⟨a.block, a.off, by cases a; simp_all, fun j u hu => ?_⟩
        have hj : j < len' := by
          have := (List.getElem?_eq_some_iff.1 hu).1
          rw [nums_length, hlen] at this; exact this
        have h1 := hcell j (by omega)
        have e3 : a.add j = ⟨a.block, a.off + j, none⟩ := by unfold Addr.add; split <;> cases a <;> simp_all
        rw [e3] at h1
        rw [h1, ← hu, nums_at _ _ _ (by rw [hlen]; exact hj)]
        rw [List.getD_eq_getElem?_getD, List.getD_eq_getElem?_getD, List.getElem?_take_of_lt hj]
    · have := hwf z (List.mem_of_mem_take hz)
      simp [Lit.wf, IntKind.min, IntKind.max, IntKind.signed, IntKind.bits] at this
      exact ⟨by omega, by omega⟩
end
theorem wf_b64 {z : Int} (h : (Lit.int .i64 z).wf = true) : B64 z := by
  simp [Lit.wf, IntKind.min, IntKind.max, IntKind.signed, IntKind.bits] at h
  exact ⟨by omega, by omega⟩
theorem wf_u8 {zs : List Int} (h : ∀ z ∈ zs, (Lit.int .u8 z).wf = true) : U8 zs := U8.of fun z hz => by
  have := h z hz
  simp [Lit.wf, IntKind.min, IntKind.max, IntKind.signed, IntKind.bits] at this
  omega
theorem piece {α : Type} (l : List α) (a b c : Nat) (h : a + b = c) : l.drop a = (l.drop a).take b ++ l.drop c := by
  subst h; rw [← List.drop_drop, List.take_append_drop]

/-- An entry that a row hands over. -/
theorem open_entry {H : Type} {enc : TypeId × Value → H} {W : World} {base : Nat} {r : Reach} {v : Value} {d : DataW H} {ps : List MemPlace} (hval : Value.okWide Tryd.prog W r base 39 v)
    (h : DataW.Trod enc Tryd.prog W 0 (fun _ => true) true 39 v d ps) : ∃ e A c, v = .agg (entC e A c).toArray ∧ EntB e ∧ Nts W A c e.ord ∧ e.ord.length ≤ 9223372036854775807 := by
  obtain ⟨cs, rfl, hsz⟩ := okWide_struct Tryd.underlying39 hval
  obtain ⟨fuel, hf⟩ := h
  obtain ⟨xs, n, _, _, hl, hxl, hel⟩ := DataW.trod_struct Tryd.underlying39 hf
  have k69 : Tryd.prog.cellsOf 39 = 69 := by kernel_rfl
  have k32 : Tryd.prog.cellsOf 24 = 32 := by kernel_rfl
  have k3 : Tryd.prog.cellsOf 37 = 3 := by kernel_rfl
  have k1 : Tryd.prog.cellsOf 3 = 1 := by kernel_rfl
  have k8 : Tryd.prog.cellsOf 5 = 1 := by kernel_rfl
  have ks : Tryd.prog.cellsOf 35 = 1 := by kernel_rfl
  have hcs : (Value.agg cs).cells.toList = cs.toList := rfl
  rw [hcs] at hl hel
  rw [k69] at hl
  have hx5 : xs.length = 5 := hxl
  have f0 : DataW.trod enc Tryd.prog W 0 (fun _ => true) true n 3 ((cs.toList.drop 0).take (Tryd.prog.cellsOf 3)) = xs[0]? := hel 0 _ rfl
  have f1 : DataW.trod enc Tryd.prog W 0 (fun _ => true) true n 3 ((cs.toList.drop 1).take (Tryd.prog.cellsOf 3)) = xs[1]? := hel 1 _ rfl
  have f2 : DataW.trod enc Tryd.prog W 0 (fun _ => true) true n 24 ((cs.toList.drop 2).take (Tryd.prog.cellsOf 24)) = xs[2]? := hel 2 _ rfl
  have f3 : DataW.trod enc Tryd.prog W 0 (fun _ => true) true n 24 ((cs.toList.drop 34).take (Tryd.prog.cellsOf 24)) = xs[3]? := hel 3 _ rfl
  have f4 : DataW.trod enc Tryd.prog W 0 (fun _ => true) true n 37 ((cs.toList.drop 66).take (Tryd.prog.cellsOf 37)) = xs[4]? := hel 4 _ rfl
  rw [List.getElem?_eq_getElem (by omega)] at f0 f1 f2 f3 f4
  rw [k1] at f0 f1
  rw [k32] at f2 f3
  rw [k3] at f4
  obtain ⟨z0, e0, w0⟩ := one_int Tryd.underlying3 f0
  obtain ⟨z1, e1, w1⟩ := one_int Tryd.underlying3 f1
  obtain ⟨z2, e2, l2, w2⟩ := row_nums Tryd.underlying24 Tryd.underlying5 k8 k32 f2
  obtain ⟨z3, e3, l3, w3⟩ := row_nums Tryd.underlying24 Tryd.underlying5 k8 k32 f3
  obtain ⟨ys, m, _, _, gl, gxl, gel⟩ := DataW.trod_struct Tryd.underlying37 f4
  have hx3 : ys.length = 3 := gxl
  rw [k3] at gl
  obtain ⟨V, hV⟩ : ∃ V, V = (cs.toList.drop 66).take 3 := ⟨_, rfl⟩
  have g0 : DataW.trod enc Tryd.prog W 0 (fun _ => true) true m 3 ((((cs.toList.drop 66).take 3).drop 0).take (Tryd.prog.cellsOf 3)) = ys[0]? := gel 0 _ rfl
  have g1 : DataW.trod enc Tryd.prog W 0 (fun _ => true) true m 35 ((((cs.toList.drop 66).take 3).drop 1).take (Tryd.prog.cellsOf 35)) = ys[1]? := gel 1 _ rfl
  have g2 : DataW.trod enc Tryd.prog W 0 (fun _ => true) true m 3 ((((cs.toList.drop 66).take 3).drop 2).take (Tryd.prog.cellsOf 3)) = ys[2]? := gel 2 _ rfl
  rw [List.getElem?_eq_getElem (by omega)] at g0 g1 g2
  rw [k1] at g0 g2
  rw [ks] at g1
  obtain ⟨y0, d0, v0⟩ := one_int Tryd.underlying3 g0
  obtain ⟨A, c, o, d1, hn, ho, ob⟩ := ints_nts Tryd.underlying35 Tryd.underlying3 k1 g1
  obtain ⟨y2, d2, v2⟩ := one_int Tryd.underlying3 g2
  refine ⟨⟨z0, z1, z2, z3, y0, o, y2⟩, A, c, ?_, ⟨l2, l3, wf_u8 w2, wf_u8 w3, wf_b64 w0, wf_b64 w1, wf_b64 v0, wf_b64 v2, ob⟩, hn, ho⟩
  congr 1
  apply Array.ext'
  have p0 := piece cs.toList 0 1 1 rfl
  have p1 := piece cs.toList 1 1 2 rfl
  have p2 := piece cs.toList 2 32 34 rfl
  have p3 := piece cs.toList 34 32 66 rfl
  have p4 := piece cs.toList 66 3 69 rfl
  have p5 : cs.toList.drop 69 = [] := List.drop_eq_nil_of_le (by omega)
  have q0 := piece ((cs.toList.drop 66).take 3) 0 1 1 rfl
  have q1 := piece ((cs.toList.drop 66).take 3) 1 1 2 rfl
  have q2 := piece ((cs.toList.drop 66).take 3) 2 1 3 rfl
  have q3 : ((cs.toList.drop 66).take 3).drop 3 = [] := List.drop_eq_nil_of_le (by simp; omega)
  rw [q3, List.append_nil] at q2
  rw [p5, List.append_nil] at p4
  have hver : (cs.toList.drop 66).take 3 = [.int .i64 y0, .slice A o.length c, .int .i64 y2] := by
    have := q0
    rw [List.drop_zero] at this
    rw [this, q1, q2]
    have a0 : List.take 1 (List.take 3 (List.drop 66 cs.toList)) = [Value.int .i64 y0] := d0
    have a1 : List.take 1 (List.drop 1 (List.take 3 (List.drop 66 cs.toList))) = [Value.slice A o.length c] := d1
    have a2 : List.take 1 (List.drop 2 (List.take 3 (List.drop 66 cs.toList))) = [Value.int .i64 y2] := d2
    rw [a0, a1, a2]; rfl
  have b0 : List.take 1 cs.toList = [Value.int .i64 z0] := e0
  have b1 : List.take 1 (List.drop 1 cs.toList) = [Value.int .i64 z1] := e1
  have b2 : List.take 32 (List.drop 2 cs.toList) = nums .u8 z2 := e2
  have b3 : List.take 32 (List.drop 34 cs.toList) = nums .u8 z3 := e3
  rw [List.drop_zero] at p0
  rw [p0, b0, p1, b1, p2, b2, p3, b3, p4, hver]
  simp [entC, verC]

end Go.Proofs.YtancldhincaphaaDoor
