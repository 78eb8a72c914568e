/- How a row's argument, a head, is opened. No condition. -/
import Derived.Test.YtancldhincaphaaDoorOpenEn
import Derived.Test.YtancldhincaphaaDoorLedT
namespace Go.Proofs.YtancldhincaphaaDoor
open Go.ChangeShapes Go.WideShapes Go.ChangeAt Go.WideMaps Go.WideElems Go.RowKit
set_option maxRecDepth 100000

/-- A head that a row hands over. -/
theorem open_head {H : Type} {enc : TypeId × Value → H} {W : World} {base : Nat} {r : Reach} {v : Value} {d : DataW H} {ps : List MemPlace} (hval : Value.okWide Tryd.prog W r base 26 v)
    (h : DataW.Trod enc Tryd.prog W 0 (fun _ => true) true 26 v d ps) : ∃ n a b c, v = .agg (headC n a b c).toArray ∧ a.length = 32 ∧ b.length = 32 ∧ c.length = 32 ∧ U8 a ∧ U8 b ∧ U8 c ∧ B64 n := by
  obtain ⟨cs, rfl, hsz⟩ := okWide_struct Tryd.underlying26 hval
  obtain ⟨fuel, hf⟩ := h
  obtain ⟨xs, n, _, _, hl, hxl, hel⟩ := DataW.trod_struct Tryd.underlying26 hf
  have k97 : Tryd.prog.cellsOf 26 = 97 := by kernel_rfl
  have k32 : Tryd.prog.cellsOf 24 = 32 := by kernel_rfl
  have k1 : Tryd.prog.cellsOf 3 = 1 := by kernel_rfl
  have k8 : Tryd.prog.cellsOf 5 = 1 := by kernel_rfl
  have hcs : (Value.agg cs).cells.toList = cs.toList := rfl
  rw [hcs] at hl hel
  rw [k97] at hl
  have hx4 : xs.length = 4 := hxl
  have f0 : DataW.trod enc Tryd.prog W 0 (fun _ => true) true n 3 ((cs.toList.drop 0).take (Tryd.prog.cellsOf 3)) = xs[0]? := hel 0 _ rfl
  have f1 : DataW.trod enc Tryd.prog W 0 (fun _ => true) true n 24 ((cs.toList.drop 1).take (Tryd.prog.cellsOf 24)) = xs[1]? := hel 1 _ rfl
  have f2 : DataW.trod enc Tryd.prog W 0 (fun _ => true) true n 24 ((cs.toList.drop 33).take (Tryd.prog.cellsOf 24)) = xs[2]? := hel 2 _ rfl
  have f3 : DataW.trod enc Tryd.prog W 0 (fun _ => true) true n 24 ((cs.toList.drop 65).take (Tryd.prog.cellsOf 24)) = xs[3]? := hel 3 _ rfl
  rw [List.getElem?_eq_getElem (by omega)] at f0 f1 f2 f3
  rw [k1] at f0
  rw [k32] at f1 f2 f3
  obtain ⟨z0, e0, w0⟩ := one_int Tryd.underlying3 f0
  obtain ⟨z1, e1, l1, w1⟩ := row_nums Tryd.underlying24 Tryd.underlying5 k8 k32 f1
  obtain ⟨z2, e2, l2, w2⟩ := row_nums Tryd.underlying24 Tryd.underlying5 k8 k32 f2
  obtain ⟨z3, e3, l3, w3⟩ := row_nums Tryd.underlying24 Tryd.underlying5 k8 k32 f3
  refine ⟨z0, z1, z2, z3, ?_, l1, l2, l3, wf_u8 w1, wf_u8 w2, wf_u8 w3, wf_b64 w0⟩
  congr 1
  apply Array.ext'
  have p0 := piece cs.toList 0 1 1 rfl
  have p1 := piece cs.toList 1 32 33 rfl
  have p2 := piece cs.toList 33 32 65 rfl
  have p3 := piece cs.toList 65 32 97 rfl
  have p4 : cs.toList.drop 97 = [] := List.drop_eq_nil_of_le (by omega)
  rw [p4, List.append_nil] at p3
  rw [List.drop_zero] at p0
  have e0' : List.take 1 cs.toList = [Value.int .i64 z0] := e0
  rw [p0, p1, p2, p3, e0', e1, e2, e3]
  rfl

end Go.Proofs.YtancldhincaphaaDoor
