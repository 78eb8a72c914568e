/- Words and small laws that the walks of this seat use: rows of cells in memory, numbers of 32 bits. No condition: nothing is claimed here of the program. -/
import Derived.Test.YtipigpeccegjgaaDoorRegion
import Derived.WalkKit
import Derived.WalkSpells
import Derived.WalkLawsBesides
import Derived.Deep.QuietTactic
import Derived.BigQuiet
import Derived.StillTailTactics
import Derived.BigRegion
import Derived.Deep.DeepCutAuto
import Derived.Lib.Hide
import Derived.Laws.CopyOwn
namespace Go.Proofs.YtipigpeccegjgaaDoor
open Go.RowKit

/-- Block g of w is a row of these cells, none of them shared with a string. -/
def Blk (w : World) (g : Nat) (cs : List Value) (T : TypeId) : Prop := w.heap[g]? = some (.cells cs.toArray T (0, 0))

theorem Blk.cell {w : World} {g : Nat} {cs : List Value} {T : TypeId} (h : Blk w g cs T) (j : Nat) : w.cell? ⟨g, j, none⟩ = cs[j]? := by
  unfold Blk at h; simp [World.cell?, h]
theorem Blk.frozen {w : World} {g : Nat} {cs : List Value} {T : TypeId} (h : Blk w g cs T) (j : Nat) : w.frozen? ⟨g, j, none⟩ = false := by
  unfold Blk at h; simp [World.frozen?, h]
theorem Blk.lt {w : World} {g : Nat} {cs : List Value} {T : TypeId} (h : Blk w g cs T) : g < w.heap.size := by
  unfold Blk at h; exact (Array.getElem?_eq_some_iff.1 h).1
theorem Blk.set {w : World} {g : Nat} {cs : List Value} {T : TypeId} (h : Blk w g cs T) (j : Nat) (v : Value) : Blk (w.setCell ⟨g, j, none⟩ v) g (cs.set j v) T := by
  unfold Blk at h ⊢; rw [heap_setCell_same w g j cs.toArray T v h]; simp
theorem Blk.far {w : World} {g : Nat} {cs : List Value} {T : TypeId} (h : Blk w g cs T) (p : Addr) (v : Value) (hne : g ≠ p.block) : Blk (w.setCell p v) g cs T := by
  unfold Blk at h ⊢; rw [heap_setCell_other w p g v hne]; exact h
theorem Blk.alloc {w : World} {g : Nat} {cs : List Value} {T : TypeId} (h : Blk w g cs T) (o : Obj) : Blk (w.alloc o) g cs T := by
  have hl := h.lt
  unfold Blk at h ⊢; rw [Below.heap_alloc w o g hl]; exact h
theorem Blk.new (w : World) (cs : List Value) (T : TypeId) : Blk (w.alloc (.cells cs.toArray T)) w.heap.size cs T := heap_alloc_new w _
theorem Blk.new' (w : World) (c : Array Value) (cs : List Value) (T : TypeId) (g : Nat) (hc : c = cs.toArray) (hg : g = w.heap.size) : Blk (w.alloc (.cells c T)) g cs T := by
  subst hc; subst hg; exact Blk.new w cs T
theorem Blk.below {w w' : World} {B g : Nat} {cs : List Value} {T : TypeId} (h : Blk w g cs T) (hb : Below B w w') (hg : g < B) : Blk w' g cs T := by
  unfold Blk at h ⊢; rw [hb.block g hg]; exact h
theorem Blk.drew {w : World} {g : Nat} {cs : List Value} {T : TypeId} (h : Blk w g cs T) : Blk w.drew g cs T := h
theorem Blk.drewN {w : World} {g n : Nat} {cs : List Value} {T : TypeId} (h : Blk w g cs T) : Blk (w.drewN n) g cs T := h

/-- The blocks of the list are as they were. -/
def Same (S : List Nat) (w w' : World) : Prop := ∀ g, g ∈ S → w'.heap[g]? = w.heap[g]?
theorem Same.refl (S : List Nat) (w : World) : Same S w w := fun _ _ => rfl
theorem Same.drew {S : List Nat} {w w' : World} (h : Same S w w') : Same S w.drew w' := h
theorem Same.cell {S : List Nat} {w w' : World} (h : Same S w w') (g : Nat) (hg : g ∈ S) (j : Nat) : w'.cell? ⟨g, j, none⟩ = w.cell? ⟨g, j, none⟩ := World.cell?_of_block (w := w) (h g hg)
theorem Same.below {S : List Nat} {w w' w'' : World} {B : Nat} (h : Same S w w') (hb : Below B w' w'') (hS : ∀ g, g ∈ S → g < B) : Same S w w'' := fun g hg => (hb.block g (hS g hg)).trans (h g hg)
theorem Same.set {S : List Nat} {w w' : World} (h : Same S w w') (p : Addr) (v : Value) (hp : p.block ∉ S) : Same S w (w'.setCell p v) := fun g hg => (heap_setCell_other w' p g v (fun e => hp (e ▸ hg))).trans (h g hg)

/-- Every cell of block g but the one at place k is as it was. -/
def SameBut (g k : Nat) (w w' : World) : Prop := ∀ j, j ≠ k → w'.cell? ⟨g, j, none⟩ = w.cell? ⟨g, j, none⟩
theorem SameBut.refl (g k : Nat) (w : World) : SameBut g k w w := fun _ _ => rfl
theorem SameBut.set {g k : Nat} {w w' : World} (h : SameBut g k w w') (v : Value) : SameBut g k w (w'.setCell ⟨g, k, none⟩ v) := fun j hj => by
  rw [World.cell?_setCell_other (h := fun e => hj (by injection e with _ e2; exact e2.symm))]; exact h j hj

def nums (k : IntKind) (xs : List Int) : List Value := xs.map (Value.int k)
theorem nums_at (k : IntKind) (xs : List Int) (j : Nat) (h : j < xs.length) : (nums k xs)[j]? = some (.int k (xs.getD j 0)) := by
  simp [nums, h]
theorem nums_set (k : IntKind) (xs : List Int) (j : Nat) (x : Int) : (nums k xs).set j (.int k x) = nums k (xs.set j x) := by
  simp [nums, List.map_set]
theorem nums_length (k : IntKind) (xs : List Int) : (nums k xs).length = xs.length := by simp [nums]
theorem Blk.setNum {w : World} {g : Nat} {k : IntKind} {xs : List Int} {T : TypeId} (h : Blk w g (nums k xs) T) (j : Nat) (x : Int) : Blk (w.setCell ⟨g, j, none⟩ (.int k x)) g (nums k (xs.set j x)) T := by
  rw [← nums_set]; exact h.set j _

/-- A number of a list, by its place; 0 behind its end. -/
def ga (xs : List Int) (i : Nat) : Int := xs.getD i 0
theorem ga_eq (xs : List Int) (i : Nat) : ga xs i = xs.getD i 0 := rfl
theorem Blk.num {w : World} {g : Nat} {k : IntKind} {xs : List Int} {T : TypeId} (h : Blk w g (nums k xs) T) (j : Nat) (hj : j < xs.length) : w.cell? ⟨g, j, none⟩ = some (.int k (ga xs j)) := by
  rw [h.cell, nums_at k xs j hj]; rfl
theorem Blk.up {w w' : World} {g : Nat} {cs : List Value} {T : TypeId} (h : Blk w g cs T) (hb : Below w.heap.size w w') : Blk w' g cs T := h.below hb h.lt
theorem Blk.row {w : World} {g : Nat} {cs : List Value} {T : TypeId} (h : Blk w g cs T) (cs' : List Value) : Blk (w.setRow g cs'.toArray) g cs' T := setRow_heap w g _ _ T (0, 0) h
theorem Blk.row' {w : World} {g : Nat} {cs : List Value} {T : TypeId} (h : Blk w g cs T) (r : Array Value) (cs' : List Value) (hr : r = cs'.toArray) : Blk (w.setRow g r) g cs' T := by
  subst hr; exact h.row cs'
theorem Blk.rowFar {w : World} {g k : Nat} {cs : List Value} {T : TypeId} (h : Blk w g cs T) (r : Array Value) (hne : g ≠ k) : Blk (w.setRow k r) g cs T := by
  unfold Blk at h ⊢; rw [setRow_other w k g r hne]; exact h
theorem Same.row {S : List Nat} {w w' : World} (h : Same S w w') (g : Nat) (r : Array Value) (hp : g ∉ S) : Same S w (w'.setRow g r) := fun k hk => (setRow_other w' g k r (fun e => hp (e ▸ hk))).trans (h k hk)
theorem Same.blk {S : List Nat} {w w' : World} {g : Nat} {cs : List Value} {T : TypeId} (h : Same S w w') (hb : Blk w g cs T) (hg : g ∈ S) : Blk w' g cs T := by
  unfold Blk at hb ⊢; rw [h g hg]; exact hb
theorem nums_one (k : IntKind) (xs : List Int) : ∀ v ∈ nums k xs, v.oneCell' = true := by
  intro v hv
  obtain ⟨x, _, rfl⟩ := List.mem_map.1 hv
  rfl

section
variable {P : Program}
def isRow : TypeDesc → Bool
  | .struct _ | .array _ _ => true
  | _ => false

theorem run_load_at (w : World) (g off n : Nat) (ty : TypeId) (cs : List Value) (T : TypeId) (d : TypeDesc) (hg : Blk w g cs T) (hu : P.underlying ty = some d) (hd : isRow d = true)
    (hi : (P.info? ty).map (·.size) = some n) (hle : off + n ≤ cs.length) : (loadVar ty ⟨g, off, none⟩).run P w = .ok (.agg ((cs.drop off).take n).toArray) w := by
  have hlen : ((cs.drop off).take n).length = n := by simp; omega
  have hl : (loadCells ⟨g, off, none⟩ ((cs.drop off).take n).length).run P w = .ok ((cs.drop off).take n).toArray w :=
    run_loadCells_list (P := P) w ⟨g, off, none⟩ _ (fun j v hv => by
      have hadd : (⟨g, off, none⟩ : Addr).add j = ⟨g, off + j, none⟩ := by unfold Addr.add; split <;> simp_all
      rw [hadd, hg.cell]
      by_cases hj : j < n
      · rw [List.getElem?_take_of_lt hj, List.getElem?_drop] at hv; exact hv
      · rw [List.getElem?_eq_none (by rw [hlen]; omega)] at hv; cases hv)
  cases hq : P.info? ty with
  | none => simp [hq] at hi
  | some i =>
    have hs : i.size = n := by simpa [hq] using hi
    have hagg : (isAgg ty).run P w = .ok true w := by
      unfold isAgg
      rw [Sem.run_bind, run_underlying hu w]
      cases d <;> simp_all [isRow]
    rw [hlen] at hl
    simp [loadVar, Sem.run_bind, hagg, sizeOf, typeInfo, hq, hs, hl]

/-- A row of cells loaded as one value. -/
theorem wpList_load_at {ops : Array Oper} {rest : List Oper} {o : Oper} {a : Act} {w : World} {Q : Exit → Act → World → Prop} (hgd : o.guard = none) (ty : TypeId) (x : Operand) (ho : o.op = .load ty x)
    (g off n : Nat) (hx : a.eval x = .pointer (some ⟨g, off, none⟩)) (cs : List Value) (T : TypeId) (d : TypeDesc) (hg : Blk w g cs T) (hu : P.underlying ty = some d) (hd : isRow d = true)
    (hi : (P.info? ty).map (·.size) = some n) (hle : off + n ≤ cs.length) (r : Array Value) (hr : ((cs.drop off).take n).toArray = r)
    (h : wpList P ops Q rest (a.put o.dst (.agg r)) w) : wpList P ops Q (o :: rest) a w :=
  wpList_plain hgd fun K hK => by
    subst hr
    unfold Oper.wp execOp
    simp only [ho, hx, Instr.loadAt, Instr.sureAddr, Sem.run_bind, Sem.run_pure, Result.andThen_ok, run_load_at w g off n ty cs T d hg hu hd hi hle]
    exact hK _ _ h

/-- What stands in a row behind a store of several cells. -/
def laid (cs : List Value) (off : Nat) (vs : List Value) : List Value := cs.take off ++ vs ++ cs.drop (off + vs.length)
theorem laid_all (cs vs : List Value) (h : vs.length = cs.length) : laid cs 0 vs = vs := by simp [laid, h]

theorem run_store_at (w : World) (g off : Nat) (ty : TypeId) (cs vs : List Value) (T : TypeId) (hg : Blk w g cs T)
    (hi : (P.info? ty).map (·.size) = some vs.length) (hle : off + vs.length ≤ cs.length) (h1 : ∀ v ∈ vs, v.oneCell' = true) :
    (storeVar ty ⟨g, off, none⟩ (.agg vs.toArray)).run P w = .ok () (w.setRow g (laid cs off vs).toArray) := by
  have hst := run_storeCells_at P g off T vs 0 cs.toArray w hg (by simpa using hle) h1
  cases hq : P.info? ty with
  | none => simp [hq] at hi
  | some i =>
    have hs : i.size = vs.length := by simpa [hq] using hi
    simp only [Nat.add_zero] at hst
    simp [storeVar, Value.cells, Sem.run_bind, sizeOf, typeInfo, hq, hs, hst, laid]

/-- One value of several cells stored into a row. -/
theorem wpList_store_at {ops : Array Oper} {rest : List Oper} {o : Oper} {a : Act} {w : World} {Q : Exit → Act → World → Prop} (hgd : o.guard = none) (ty : TypeId) (x y : Operand) (ho : o.op = .store ty x y) (hdst : o.dst = none)
    (g off : Nat) (hx : a.eval x = .pointer (some ⟨g, off, none⟩)) (vs : List Value) (hy : a.eval y = .agg vs.toArray) (cs : List Value) (T : TypeId) (hg : Blk w g cs T)
    (hi : (P.info? ty).map (·.size) = some vs.length) (hle : off + vs.length ≤ cs.length) (h1 : ∀ v ∈ vs, v.oneCell' = true)
    (h : wpList P ops Q rest a (w.setRow g (laid cs off vs).toArray)) : wpList P ops Q (o :: rest) a w :=
  wpList_plain hgd fun K hK => by
    unfold Oper.wp execOp
    simp only [ho, hx, hy, Instr.storeAt, Instr.sureAddr, Sem.run_bind, Sem.run_pure, Result.andThen_ok, run_store_at w g off ty cs vs T hg hi hle h1, Oper.upon, Act.put, hdst]
    exact hK _ _ h

theorem row_all (cs : List Value) (n : Nat) (h : cs.length = n) : ((cs.drop 0).take n).toArray = cs.toArray := by
  rw [List.drop_zero, List.take_of_length_le (by omega)]

theorem st_store {ops : Array Oper} {rest : List Oper} {a : Act} {w : World} {Q : Exit → Act → World → Prop} {ty tt : TypeId} {x y : Operand} {pos : String} {after : Array Edge} {g off : Nat} {vs cs : List Value} {T : TypeId}
    (hx : a.eval x = .pointer (some ⟨g, off, none⟩)) (hy : a.eval y = .agg vs.toArray) (hg : Blk w g cs T)
    (hi : (P.info? ty).map (·.size) = some vs.length) (hle : off + vs.length ≤ cs.length) (h1 : ∀ v ∈ vs, v.oneCell' = true)
    (h : wpList P ops Q rest a (w.setRow g (laid cs off vs).toArray)) : wpList P ops Q (⟨none, .store ty x y, tt, pos, after, none⟩ :: rest) a w :=
  wpList_store_at rfl ty x y rfl rfl g off hx vs hy cs T hg hi hle h1 h
theorem st_load {ops : Array Oper} {rest : List Oper} {a : Act} {w : World} {Q : Exit → Act → World → Prop} {d' : Option Tmp} {ty tt : TypeId} {x : Operand} {pos : String} {after : Array Edge} {g off n : Nat} {cs : List Value} {T : TypeId} {d : TypeDesc} {r : Array Value}
    (hx : a.eval x = .pointer (some ⟨g, off, none⟩)) (hg : Blk w g cs T) (hu : P.underlying ty = some d) (hd : isRow d = true) (hi : (P.info? ty).map (·.size) = some n) (hle : off + n ≤ cs.length)
    (hr : ((cs.drop off).take n).toArray = r) (h : wpList P ops Q rest (a.put d' (.agg r)) w) : wpList P ops Q (⟨d', .load ty x, tt, pos, after, none⟩ :: rest) a w :=
  wpList_load_at rfl ty x rfl g off n hx cs T d hg hu hd hi hle r hr h

/-- A call's one result, a row in memory. -/
theorem ret_row {fn : Func} {p : Tmp} {ty : TypeId} (hf : fn.results = #[.cell p ty]) (tmps : Array Value) (w : World) (g : Nat) (cs : List Value) (T : TypeId) (d : TypeDesc)
    (hp : tmps.getD p undef = .pointer (some ⟨g, 0, none⟩)) (hg : Blk w g cs T) (hu : P.underlying ty = some d) (hd : isRow d = true) (hi : (P.info? ty).map (·.size) = some cs.length) :
    (results fn tmps).run P w = .ok (.agg cs.toArray) w :=
  results_cell_row hf tmps w g T cs.toArray (0, 0) d hp hg hu (by cases d <;> simp_all [isRow]) (by simpa using hi)
end

@[go_sem] theorem run_shr32 {P : Program} (x y : Int) (yk : IntKind) (h : 0 ≤ y) (w : World) : (Op.shift .shr .u32 x yk y).run P w = .ok (.int .u32 (x.fdiv (2 ^ min y.toNat 32))) w := by
  unfold Op.shift
  rw [if_neg (by omega)]
  rfl
@[go_sem] theorem run_shl32 {P : Program} (x y : Int) (yk : IntKind) (h : 0 ≤ y) (w : World) : (Op.shift .shl .u32 x yk y).run P w = .ok (.int .u32 (IntKind.u32.wrap (x * 2 ^ min y.toNat 32))) w := by
  unfold Op.shift
  rw [if_neg (by omega)]
  rfl
end Go.Proofs.YtipigpeccegjgaaDoor
