/- Results that lie in rows: one row and a slot, two rows and a slot. No condition. -/
import Derived.Test.YtmfccnkjnkmgiaaDoorGa
import Derived.Laws.ResultCell
namespace Go.Proofs.YtmfccnkjnkmgiaaDoor
open Go.RowKit

section
variable {P : Program}
theorem ret_row_tmp {fn : Func} {p u : Tmp} {ty : TypeId} (hf : fn.results = #[.cell p ty, .tmp u]) (tmps : Array Value) (w : World) (g : Nat) (cs : List Value) (T : TypeId) (d : TypeDesc)
    (hp : tmps.getD p undef = .pointer (some ⟨g, 0, none⟩)) (hg : Blk w g cs T) (hu : P.underlying ty = some d) (hd : isRow d = true) (hi : (P.info? ty).map (·.size) = some cs.length) :
    (results fn tmps).run P w = .ok (.tuple #[.agg cs.toArray, tmps.getD u undef]) w := by
  rw [results_cell_tmp hf, hp]
  have := run_loadVar_row (P := P) w g T ty cs.toArray (0, 0) d hg hu (by cases d <;> simp_all [isRow]) (by simpa using hi)
  simp [asAddr, this]
theorem ret_row2_tmp {fn : Func} {p q u : Tmp} {ty : TypeId} (hf : fn.results = #[.cell p ty, .cell q ty, .tmp u]) (tmps : Array Value) (w : World) (g g2 : Nat) (cs cs2 : List Value) (T T2 : TypeId) (d : TypeDesc)
    (hp : tmps.getD p undef = .pointer (some ⟨g, 0, none⟩)) (hg : Blk w g cs T) (hp2 : tmps.getD q undef = .pointer (some ⟨g2, 0, none⟩)) (hg2 : Blk w g2 cs2 T2) (hu : P.underlying ty = some d) (hd : isRow d = true) (hi : (P.info? ty).map (·.size) = some cs.length) (hi2 : (P.info? ty).map (·.size) = some cs2.length) :
    (results fn tmps).run P w = .ok (.tuple #[.agg cs.toArray, .agg cs2.toArray, tmps.getD u undef]) w := by
  have h1 := run_loadVar_row (P := P) w g T ty cs.toArray (0, 0) d hg hu (by cases d <;> simp_all [isRow]) (by simpa using hi)
  have h2 := run_loadVar_row (P := P) w g2 T2 ty cs2.toArray (0, 0) d hg2 hu (by cases d <;> simp_all [isRow]) (by simpa using hi2)
  simp only [results, hf]
  have hp' : tmps[p]?.getD undef = .pointer (some ⟨g, 0, none⟩) := by simpa using hp
  have hp2' : tmps[q]?.getD undef = .pointer (some ⟨g2, 0, none⟩) := by simpa using hp2
  simp [Sem.run_bind, Result.andThen, hp', hp2', asAddr, h1, h2]
/-- A guarded operation whose guard is met. -/
theorem st_un {ops : Array Oper} {rest : List Oper} {a : Act} {w : World} {Q : Exit → Act → World → Prop} {d' : Option Tmp} {op : Op} {tt : TypeId} {pos : String} {after : Array Edge} {g : Nat × Bool}
    (hg : Region.wanted ⟨d', op, tt, pos, after, some g⟩ (yielded ops a.tmps) = true) (h : wpList P ops Q (⟨d', op, tt, pos, after, none⟩ :: rest) a w) : wpList P ops Q (⟨d', op, tt, pos, after, some g⟩ :: rest) a w := by
  unfold wpList at h ⊢
  rw [if_pos (by simp [Region.wanted])] at h
  rw [if_pos hg]
  exact h
end

end Go.Proofs.YtmfccnkjnkmgiaaDoor
