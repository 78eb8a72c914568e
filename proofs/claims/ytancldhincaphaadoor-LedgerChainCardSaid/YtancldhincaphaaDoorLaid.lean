/- What the rows' condition (the package's table k reads as its text lays it) gives the walks, and how a row's arguments are opened. -/
import Derived.Test.YtancldhincaphaaDoorRows
import Derived.Test.YtancldhincaphaaDoorTie
import Derived.Test.YtancldhincaphaaDoorCards
import Derived.Test.YtancldhincaphaaDoorGe
import Derived.ProofKit
import Derived.LaidMore
import Derived.OpenShut
import Derived.Carry
import Derived.SevenTiedAt
import Derived.LaidHandle
import Derived.SizedLaws
import Derived.Handed
namespace Go.Proofs.YtancldhincaphaaDoor
open Go.ChangeShapes Go.WideShapes Go.ChangeAt Go.WideMaps Go.WideElems Go.RowKit
set_option maxRecDepth 100000

theorem own : ownKnob Tryd.prog.godebug = none := by kernel_rfl
def laidK : List (String × DataW Unit) := [("inquest/sha.k", Rows.laid_inquest_sha_k)]
set_option maxRecDepth 100000 in
/-- The door's own heap meets the condition. -/
theorem door_met (os : Os) (args : Array Value) : laidMetH Tryd.prog laidK ((World.doorLaid Tryd.prog 400 os).forCall (fun _ _ => 0) ⟨#[], args, []⟩).memory :=
  laidMetH_of_parts3 (fuel := 8) (laidMet_of_run' 8 (by kernel_rfl) (by kernel_rfl)) (by kernel_rfl) (by kernel_rfl)
theorem kdata : (Rows.laid_inquest_sha_k : DataW Unit) = .agg (KS.map fun n => .lit (.int .u32 n)) := rfl

/-- What the condition gives the walks. -/
theorem kv_of_laid {W : World} (h : laidMetH Tryd.prog laidK W) : KV W := by
  rw [MakeChecks.laidMetH_plain _ _ _ (by kernel_rfl)] at h
  obtain ⟨ps, ⟨g, t, cs, f, p, q, hg, ht, hv, hd, _, _⟩, _, _⟩ := h
  obtain rfl := Option.some.inj ((show Tryd.prog.globalNamed "inquest/sha.k" = some 0 by kernel_rfl).symm.trans hg)
  obtain rfl := Option.some.inj ((show (Tryd.prog.globals[0]?).map (·.type) = some 126 by kernel_rfl).symm.trans ht)
  obtain ⟨xs, m, rfl, hx, hlen, hn, hel⟩ := DataW.trod_array Tryd.underlying126 hd
  have c1 : Tryd.prog.cellsOf 90 = 1 := by kernel_rfl
  have c2 : Tryd.prog.cellsOf 126 = 64 := by kernel_rfl
  rw [c2] at hlen
  simp only [Prod.mk.injEq] at hx
  have hx1 := hx.1
  rw [kdata, DataW.agg.injEq] at hx1
  intro j hj
  rw [World.var?_cell hg hv j]
  have h1 := hel j hj
  rw [c1, Nat.mul_one] at h1
  have hjx : j < xs.length := by omega
  rw [List.getElem?_eq_getElem hjx] at h1
  obtain ⟨n, e1, e2, _⟩ := DataW.trod_int Tryd.underlying90 h1
  have h2 := congrArg (fun l => l[j]?) hx1
  simp only [List.getElem?_map, List.getElem?_eq_getElem hjx, Option.map_some, e2] at h2
  have hjk : j < KS.length := hj
  rw [List.getElem?_eq_getElem hjk] at h2
  simp only [Option.map_some, Option.some.injEq, DataW.lit.injEq, Lit.int.injEq, true_and] at h2
  have h3 := congrArg (fun l => l[0]?) e1
  simp only [List.getElem?_take, List.getElem?_drop, Nat.add_zero] at h3
  rw [if_pos (by decide)] at h3
  rw [← Array.getElem?_toList, h3, ← h2]
  simp [ga, hjk]

/-- An array of numbers that a row hands over. -/
theorem open_numrow {H : Type} {enc : TypeId × Value → H} {P : Program} {W : World} {base n : Nat} {r : Reach} {t e : TypeId} {k : IntKind} {v : Value} {d : DataW H} {ps : List MemPlace} (ht : P.underlying t = some (.array n e)) (he : P.underlying e = some (.int k)) (hc : P.cellsOf e = 1) (hct : P.cellsOf t = n)
    (hval : Value.okWide P W r base t v) (h : DataW.Trod enc P W 0 (fun _ => true) true t v d ps) : ∃ xs : List Int, v = .agg (nums k xs).toArray ∧ xs.length = n ∧ ∀ x ∈ xs, (Lit.int k x).wf = true := by
  simp only [Value.okWide, ht] at hval
  obtain ⟨cs, rfl, _, _⟩ := hval
  obtain ⟨fuel, hf⟩ := h
  obtain ⟨xs, m, _, _, hl, hxl, hel⟩ := DataW.trod_array ht hf
  simp only [Value.cells] at hl hel
  rw [hct] at hl
  have each : ∀ i (hi : i < n), ∃ z, cs.toList[i]? = some (.int k z) ∧ (Lit.int k z).wf = true := by
    intro i hi
    have h1 := hel i hi
    rw [hc, Nat.mul_one, List.getElem?_eq_getElem (by omega)] at h1
    obtain ⟨z, e1, _, hw⟩ := DataW.trod_int he h1
    refine ⟨z, ?_, hw⟩
    have h3 := congrArg (fun l => l[0]?) e1
    simpa using h3
  refine ⟨cs.toList.map intOf, ?_, by simpa using hl, ?_⟩
  · congr 1
    apply Array.ext'
    apply List.ext_getElem?
    intro i
    by_cases hi : i < n
    · obtain ⟨z, hz, _⟩ := each i hi
      simp [nums, hz, intOf]
    · rw [List.getElem?_eq_none (by omega), List.getElem?_eq_none (by rw [nums_length, List.length_map]; omega)]
  · intro x hx
    obtain ⟨c, hc2, rfl⟩ := List.mem_map.1 hx
    obtain ⟨i, hi, rfl⟩ := List.mem_iff_getElem.1 hc2
    obtain ⟨z, hz, hw⟩ := each i (by omega)
    rw [List.getElem?_eq_getElem hi] at hz
    injection hz with hz
    rw [hz]
    exact hw
theorem U32.of {l : List Int} (h : ∀ x ∈ l, (Lit.int .u32 x).wf = true) : U32 l := by
  intro i
  by_cases hi : i < l.length
  · have e : ga l i = l[i] := by unfold ga; simp [hi]
    have := h _ (List.getElem_mem hi)
    rw [e]
    simp [Lit.wf, IntKind.min, IntKind.max, IntKind.signed, IntKind.bits] at this
    omega
  · rw [ga_out _ _ (by omega)]; omega
theorem U8.ofWf {l : List Int} (h : ∀ x ∈ l, (Lit.int .u8 x).wf = true) : U8 l := U8.of fun x hx => by
  have := h x hx
  simp [Lit.wf, IntKind.min, IntKind.max, IntKind.signed, IntKind.bits] at this
  omega
theorem laidOut : laidOutB Tryd.prog = true := by kernel_rfl

/-- Bytes that a row hands over. -/
theorem open_bytes {H : Type} {enc : TypeId × Value → H} {W : World} {base : Nat} {r : Reach} {v : Value} {d : DataW H} {ps : List MemPlace} (hval : Value.okWide Tryd.prog W r base 22 v)
    (h : DataW.Trod enc Tryd.prog W 0 (fun _ => true) true 22 v d ps) : ∃ A c bs, v = .slice A bs.length c ∧ bs.length ≤ c ∧ (A = none → c = 0) ∧ Rd W A (nums .u8 bs) ∧ U8 bs := by
  obtain ⟨a0, len, cap, rfl⟩ := okWide_slice Tryd.underlying22 hval
  obtain ⟨fuel, hf⟩ := h
  have c1 : Tryd.prog.cellsOf 5 = 1 := by kernel_rfl
  rcases open_ints Tryd.underlying22 Tryd.underlying5 c1 hf with ⟨hcs, hx⟩ | ⟨a, len', cap', zs, hcs, _, hl, hm, hz, hx, hcell, hwf⟩
  · have e : Value.slice a0 len cap = .slice none 0 0 := by simpa [Value.cells] using hcs
    injection e with e1 e2 e3
    exact ⟨none, 0, [], by rw [e1, e2, e3]; rfl, Nat.le_refl _, fun _ => rfl, Rd.nil _ _, U8.of (by simp)⟩
  · have e : Value.slice a0 len cap = .slice (some a) len' cap' := by simpa [Value.cells] using hcs
    injection e with e1 e2 e3
    have hz2 : zs.length = cap' := by simpa using hz
    have hlen : (zs.take len').length = len' := by simp; omega
    refine ⟨some a, cap', zs.take len', by rw [e1, e2, e3, hlen], by omega, (fun h => by cases h), ?_, ?_⟩
    · by_cases h0 : len' = 0
      · left; rw [h0]; rfl
      · have hs := World.cell?_spot (hcell 0 (by omega))
        have e0 : a.add 0 = a := by simp [Addr.add]
        rw [e0] at hs
        refine .inr ⟨a.block, a.off, by cases a; simp_all, fun j u hu => ?_⟩
        have hj : j < len' := by
          have := (List.getElem?_eq_some_iff.1 hu).1
          rw [nums_length, hlen] at this; exact this
        have h1 := hcell j (by omega)
        have e3 : a.add j = ⟨a.block, a.off + j, none⟩ := by unfold Addr.add; split <;> cases a <;> simp_all
        rw [e3] at h1
        rw [h1, ← hu, nums_at _ _ _ (by rw [hlen]; exact hj)]
        have := ga_take zs len' j hj
        unfold ga at this
        rw [this]
    · refine U8.of fun x hx => ?_
      have := hwf x (List.mem_of_mem_take hx)
      simp [Lit.wf, IntKind.min, IntKind.max, IntKind.signed, IntKind.bits] at this
      omega

end Go.Proofs.YtancldhincaphaaDoor
