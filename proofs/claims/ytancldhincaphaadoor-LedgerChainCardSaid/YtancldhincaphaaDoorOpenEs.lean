/- How a row's argument, a list of entries, is opened. No condition. -/
import Derived.Test.YtancldhincaphaaDoorOpenEn
import Derived.Test.YtancldhincaphaaDoorNum
import Derived.Deep.Matrix
namespace Go.Proofs.YtancldhincaphaaDoor
open Go.ChangeShapes Go.WideShapes Go.ChangeAt Go.WideMaps Go.WideElems Go.RowKit Go.Deep
set_option maxRecDepth 100000

theorem entry_cells {H : Type} {enc : TypeId × Value → H} {W : World} {fuel : Nat} {cs : List Value} {x : DataW H × List MemPlace} (hf : DataW.trod enc Tryd.prog W 0 (fun _ => true) true fuel 39 cs = some x) :
    ∃ e A c, cs = entC e A c ∧ EntB e ∧ Nts W A c e.ord ∧ e.ord.length ≤ 9223372036854775807 := by
  obtain ⟨xs, n, _, _, hl, hxl, hel⟩ := DataW.trod_struct Tryd.underlying39 hf
  have k69 : Tryd.prog.cellsOf 39 = 69 := by kernel_rfl
  have k32 : Tryd.prog.cellsOf 24 = 32 := by kernel_rfl
  have k3 : Tryd.prog.cellsOf 37 = 3 := by kernel_rfl
  have k1 : Tryd.prog.cellsOf 3 = 1 := by kernel_rfl
  have k8 : Tryd.prog.cellsOf 5 = 1 := by kernel_rfl
  have ks : Tryd.prog.cellsOf 35 = 1 := by kernel_rfl
  rw [k69] at hl
  have hx5 : xs.length = 5 := hxl
  have f0 : DataW.trod enc Tryd.prog W 0 (fun _ => true) true n 3 ((cs.drop 0).take (Tryd.prog.cellsOf 3)) = xs[0]? := hel 0 _ rfl
  have f1 : DataW.trod enc Tryd.prog W 0 (fun _ => true) true n 3 ((cs.drop 1).take (Tryd.prog.cellsOf 3)) = xs[1]? := hel 1 _ rfl
  have f2 : DataW.trod enc Tryd.prog W 0 (fun _ => true) true n 24 ((cs.drop 2).take (Tryd.prog.cellsOf 24)) = xs[2]? := hel 2 _ rfl
  have f3 : DataW.trod enc Tryd.prog W 0 (fun _ => true) true n 24 ((cs.drop 34).take (Tryd.prog.cellsOf 24)) = xs[3]? := hel 3 _ rfl
  have f4 : DataW.trod enc Tryd.prog W 0 (fun _ => true) true n 37 ((cs.drop 66).take (Tryd.prog.cellsOf 37)) = xs[4]? := hel 4 _ rfl
  rw [List.getElem?_eq_getElem (by omega)] at f0 f1 f2 f3 f4
  rw [k1] at f0 f1
  rw [k32] at f2 f3
  rw [k3] at f4
  obtain ⟨z0, e0, w0⟩ := one_int Tryd.underlying3 f0
  obtain ⟨z1, e1, w1⟩ := one_int Tryd.underlying3 f1
  obtain ⟨z2, e2, l2, w2⟩ := row_nums Tryd.underlying24 Tryd.underlying5 k8 k32 f2
  obtain ⟨z3, e3, l3, w3⟩ := row_nums Tryd.underlying24 Tryd.underlying5 k8 k32 f3
  obtain ⟨ys, m, _, _, gl, gxl, gel⟩ := DataW.trod_struct Tryd.underlying37 f4
  have hx3 : ys.length = 3 := gxl
  rw [k3] at gl
  obtain ⟨V, hV⟩ : ∃ V, V = (cs.drop 66).take 3 := ⟨_, rfl⟩
  have g0 : DataW.trod enc Tryd.prog W 0 (fun _ => true) true m 3 ((((cs.drop 66).take 3).drop 0).take (Tryd.prog.cellsOf 3)) = ys[0]? := gel 0 _ rfl
  have g1 : DataW.trod enc Tryd.prog W 0 (fun _ => true) true m 35 ((((cs.drop 66).take 3).drop 1).take (Tryd.prog.cellsOf 35)) = ys[1]? := gel 1 _ rfl
  have g2 : DataW.trod enc Tryd.prog W 0 (fun _ => true) true m 3 ((((cs.drop 66).take 3).drop 2).take (Tryd.prog.cellsOf 3)) = ys[2]? := gel 2 _ rfl
  rw [List.getElem?_eq_getElem (by omega)] at g0 g1 g2
  rw [k1] at g0 g2
  rw [ks] at g1
  obtain ⟨y0, d0, v0⟩ := one_int Tryd.underlying3 g0
  obtain ⟨A, c, o, d1, hn, ho, ob⟩ := ints_nts Tryd.underlying35 Tryd.underlying3 k1 g1
  obtain ⟨y2, d2, v2⟩ := one_int Tryd.underlying3 g2
  refine ⟨⟨z0, z1, z2, z3, y0, o, y2⟩, A, c, ?_, ⟨l2, l3, wf_u8 w2, wf_u8 w3, wf_b64 w0, wf_b64 w1, wf_b64 v0, wf_b64 v2, ob⟩, hn, ho⟩
  have p0 := piece cs 0 1 1 rfl
  have p1 := piece cs 1 1 2 rfl
  have p2 := piece cs 2 32 34 rfl
  have p3 := piece cs 34 32 66 rfl
  have p4 := piece cs 66 3 69 rfl
  have p5 : cs.drop 69 = [] := List.drop_eq_nil_of_le (by omega)
  have q0 := piece ((cs.drop 66).take 3) 0 1 1 rfl
  have q1 := piece ((cs.drop 66).take 3) 1 1 2 rfl
  have q2 := piece ((cs.drop 66).take 3) 2 1 3 rfl
  have q3 : ((cs.drop 66).take 3).drop 3 = [] := List.drop_eq_nil_of_le (by simp; omega)
  rw [q3, List.append_nil] at q2
  rw [p5, List.append_nil] at p4
  have hver : (cs.drop 66).take 3 = [.int .i64 y0, .slice A o.length c, .int .i64 y2] := by
    have := q0
    rw [List.drop_zero] at this
    rw [this, q1, q2]
    have a0 : List.take 1 (List.take 3 (List.drop 66 cs)) = [Value.int .i64 y0] := d0
    have a1 : List.take 1 (List.drop 1 (List.take 3 (List.drop 66 cs))) = [Value.slice A o.length c] := d1
    have a2 : List.take 1 (List.drop 2 (List.take 3 (List.drop 66 cs))) = [Value.int .i64 y2] := d2
    rw [a0, a1, a2]; rfl
  have b0 : List.take 1 cs = [Value.int .i64 z0] := e0
  have b1 : List.take 1 (List.drop 1 cs) = [Value.int .i64 z1] := e1
  have b2 : List.take 32 (List.drop 2 cs) = nums .u8 z2 := e2
  have b3 : List.take 32 (List.drop 34 cs) = nums .u8 z3 := e3
  rw [List.drop_zero] at p0
  rw [p0, b0, p1, b1, p2, b2, p3, b3, p4, hver]
  simp [entC, verC]
theorem add_offE (a : Addr) (h : a.spot = none) (n : Nat) : a.add n = ⟨a.block, a.off + n, none⟩ := by
  unfold Addr.add; split <;> cases a <;> simp_all
/-- Entries that a row hands over. -/
theorem open_entries {H : Type} {enc : TypeId × Value → H} {W : World} {base : Nat} {r : Reach} {v : Value} {d : DataW H} {ps : List MemPlace} (hval : Value.okWide Tryd.prog W r base 34 v)
    (h : DataW.Trod enc Tryd.prog W 0 (fun _ => true) true 34 v d ps) : ∃ A c L, v = .slice A L.length c ∧ Ents W A c L := by
  obtain ⟨a0, len, cap, rfl⟩ := okWide_slice Tryd.underlying34 hval
  obtain ⟨fuel, hf⟩ := h
  have c1 : Tryd.prog.cellsOf 39 = 69 := by kernel_rfl
  rcases DataW.trod_slice Tryd.underlying34 hf with ⟨hcs, hx⟩ | ⟨a, len', cap', elems, rest, n, _, hcs, hx, hb, hl, hm, hlen, hel, hsp, hns⟩
  · have e : Value.slice a0 len cap = .slice none 0 0 := by simpa [Value.cells] using hcs
    injection e with e1 e2 e3
    exact ⟨none, 0, [], by rw [e1, e2, e3]; rfl, ⟨Nat.le_refl _, fun _ => rfl, fun e he => (by cases he), .inl rfl⟩⟩
  · have e : Value.slice a0 len cap = .slice (some a) len' cap' := by simpa [Value.cells] using hcs
    injection e with e1 e2 e3
    have each : ∀ i, i < len' → ∃ y : Ent × Option Addr × Nat, (∀ j v, (entC y.1 y.2.1 y.2.2)[j]? = some v → W.cell? ((a.add (i * 69)).add j) = some v) ∧ EntB y.1 ∧ Nts W y.2.1 y.2.2 y.1.ord ∧ y.1.ord.length ≤ 9223372036854775807 := by
      intro i hi
      have h1 := hel i hi
      rw [c1, List.getElem?_eq_getElem (by omega), Option.bind_eq_some_iff] at h1
      obtain ⟨cs, hcells, htr⟩ := h1
      have hcell := (World.cells?_some hcells).2.2
      have hcl := (World.cells?_some hcells).2.1
      obtain ⟨e, A, c, rfl, hE, hN, hO⟩ := entry_cells htr
      refine ⟨(e, A, c), fun j v hv => ?_, hE, hN, hO⟩
      have hj : j < 69 := by
        have := (List.getElem?_eq_some_iff.1 hv).1
        rw [entC_len hE] at this; exact this
      have h5 := hcell j hj
      rw [h5]
      exact hv
    haveI : Inhabited (Ent × Option Addr × Nat) := ⟨(zeroE, none, 0)⟩
    obtain ⟨y, hy⟩ := choose_lt each
    have hdl : ((List.range len').map fun i => (y i).1).length = len' := by simp
    refine ⟨some a, cap', (List.range len').map fun i => (y i).1, by rw [e1, e2, e3, hdl], by omega, (fun h => by cases h), fun e he => ?_, ?_⟩
    · obtain ⟨i, hi, rfl⟩ := List.mem_map.1 he
      have := hy i (List.mem_range.1 hi)
      exact ⟨this.2.1, this.2.2.2⟩
    · by_cases h0 : len' = 0
      · left; rw [h0]; rfl
      · have hE0 := (hy 0 (by omega)).2.1
        have hc0 : W.cell? ((a.add (0 * 69)).add 0) = some (.int .i64 (y 0).1.job) := (hy 0 (by omega)).1 0 _ rfl
        have hs := World.cell?_spot hc0
        have e0 : (a.add (0 * 69)).add 0 = a := by simp [Addr.add]
        rw [e0] at hs hc0
        refine .inr ⟨a.block, a.off, by cases a; simp_all, World.block_lt_of_cell? (h := hc0), fun j hj => ?_⟩
        have hj' : j < len' := by rw [hdl] at hj; exact hj
        have h3 : ((List.range len').map fun i => (y i).1)[j] = (y j).1 := by simp
        rw [h3]
        refine ⟨(y j).2.1, (y j).2.2, fun i v hv => ?_, (hy j hj').2.2.1⟩
        have h1 := (hy j hj').1 i v hv
        rw [add_offE a hs, add_offE _ rfl] at h1
        exact h1

end Go.Proofs.YtancldhincaphaaDoor
