/- What sha.New, (*sha.Hash).Add and (*sha.Hash).Count do. Condition: the package's table k reads as its text lays it; texts of fewer than 2^40 bytes. -/
import Derived.Test.YtipigpeccegjgaaDoorHashF
namespace Go.Proofs.YtipigpeccegjgaaDoor
open Go.RowKit

/-- The cells of a hash. -/
def hashCells (s part : List Int) (n : Int) : List Value := .bool true :: (nums .u32 s ++ nums .u8 part ++ [.int .i64 n])
/-- Block g is a hash of this text. -/
def IsHash (w : World) (g : Nat) (all : List Int) : Prop := ∃ s part, Blk w g (hashCells s part all.length) 71 ∧ HashOf all s part
theorem IsHash.lt {w : World} {g : Nat} {all : List Int} (h : IsHash w g all) : g < w.heap.size := by
  obtain ⟨s, part, hb, _⟩ := h; exact hb.lt
theorem IsHash.up {w w' : World} {g : Nat} {all : List Int} (h : IsHash w g all) (hb : Below w.heap.size w w') : IsHash w' g all := by
  obtain ⟨s, part, h1, h2⟩ := h; exact ⟨s, part, h1.up hb, h2⟩

section
variable {P : Program} {ops : Array Oper} {C : World → Prop} {Q : Exit → Act → World → Prop} {E F : List Nat} {k : Nat} {rest : List Oper} {a : Act} {w : World} {o : Oper} {v : Value}
/-- A quiet operation, run as a region of its own. -/
theorem wd_w {d : Nat} (hE : E.contains k = false) (hF : F.contains k = false) (hg : o.guard = none) (hq : valueOp o.op = true) (hd : o.dst = some d) (hl0 : Nat.blt d a.tmps.size = true)
    (hv : ∀ w', C w' → ∀ K : Act → World → Prop, (∀ a', a' = a.put (some d) v → K a' w') → wpList P #[] (Exit.then K (fun _ _ _ => False)) [o] a w')
    (h : WD P ops C Q E F (k + 1) rest (a.put (some d) v) w) : WD P ops C Q E F k (o :: rest) a w := by
  refine wd_q hE hF (by simp [Region.wanted, hg]) hq hd hl0 (fun w' hC K hK => ?_) h
  have h1 := hv w' hC K hK
  unfold wpList at h1
  rw [if_pos (by simp [Region.wanted, hg])] at h1
  rcases h1 with h1 | ⟨_, a', w'', hl⟩
  · unfold Oper.wp at h1 ⊢
    generalize (execOp a.eval o).run P w' = r at h1 ⊢
    cases r with
    | ok n w2 =>
      cases n <;> simp only [Oper.upon] at h1 ⊢
      case value u => exact h1
      case skip => exact h1
      case defer d => exact h1
      case enter f args => exact Calls.mono h1 fun e w'' he => by
                            cases e with
                            | returned u => exact he
                            | panicked c => exact he
                            | outgrown => obtain ⟨_, _, hl⟩ := he; exact hl.elim
      case row row args => exact Rows.mono h1 fun _ _ he => he
    | halt z w2 => cases z <;> simp only [Oper.upon] at h1 ⊢; exact h1
  · exact hl.elim

/-- A struct built of parts. -/
theorem st_build {d' : Option Tmp} {tt t : TypeId} {parts : Array (Nat × Operand)} {ps : Array (Nat × Value)} {pos : String} {after : Array Edge} {r : Array Value}
    (hp : (parts.map fun p => (p.1, a.eval p.2)) = ps) (hr : (Instr.build t ps).run P w = .ok (.agg r) w)
    (h : wpList P ops Q rest (a.put d' (.agg r)) w) : wpList P ops Q (⟨d', .build t parts, tt, pos, after, none⟩ :: rest) a w :=
  wpList_plain rfl fun K hK => by
    unfold Oper.wp execOp
    simp only [Sem.run_bind]
    rw [show (parts.map fun x => match x with | (i, x) => (i, a.eval x)) = ps from hp, hr]
    exact hK _ _ h

/-- A copy of bytes into a row. -/
theorem st_copy {d' : Option Tmp} {tt dT sT elem : TypeId} {d s : Operand} {pos : String} {after : Array Edge} {g off dLen dCap g2 off2 sLen sCap : Nat} {cur cs : List Value} {T : TypeId}
    (hu : P.underlying dT = some (.slice elem)) (hsz : (P.info? elem).map (·.size) = some 1)
    (hd : a.eval d = .slice (some ⟨g, off, none⟩) dLen dCap) (hs : a.eval s = .slice (some ⟨g2, off2, none⟩) sLen sCap) (hg : Blk w g cur T) (hn : cs.length = Nat.min sLen dLen)
    (hsrc : ∀ j v, cs[j]? = some v → w.cell? ⟨g2, off2 + j, none⟩ = some v) (hfit : off + cs.length ≤ cur.length) (h1 : ∀ v ∈ cs, v.oneCell' = true)
    (h : wpList P ops Q rest (a.put d' (.int .i64 cs.length)) (w.setRow g (laid cur off cs).toArray)) : wpList P ops Q (⟨d', .call ⟨.builtin .copy, #[d, s], #[dT, sT]⟩, tt, pos, after, none⟩ :: rest) a w := by
  refine wpList_copy_own rfl d s dT sT rfl elem hu hsz g off dLen dCap ⟨g2, off2, none⟩ sLen sCap hd hs cur.toArray T hg cs hn (fun j v hv => ?_) (by simpa using hfit) h1 ?_
  · have : (⟨g2, off2, none⟩ : Addr).add j = ⟨g2, off2 + j, none⟩ := by unfold Addr.add; split <;> simp_all
    rw [this]; exact hsrc j v hv
  · simpa [laid, goInt] using h
end

/-- It answers a new hash of nothing. -/
def NewGives (w : World) (e : Ending) (w' : World) : Prop := ∃ g, e = .returned (.pointer (some ⟨g, 0, none⟩)) ∧ w.heap.size ≤ g ∧ Below w.heap.size w w' ∧ IsHash w' g []

set_option maxHeartbeats 1000000 in
theorem new_any (w : World) : Calls Tryd.prog 37 #[] w (NewGives w) := by
  have hbuild : ∀ w : World, (Instr.build 71 #[(0, .bool true), (1, .agg (nums .u32 FIRST).toArray)]).run Tryd.prog w = .ok (.agg (hashCells FIRST (List.replicate 64 0) 0).toArray) w := fun w => by kernel_rfl
  go_enter Tryd.func37, Tryd.ntmps37
  go_wp2_with (first
    | (go_at_call 50; refine (first_any _).mono ?_; rintro e w1 ⟨rfl, hb1⟩)
    | (apply st_build (ps := #[(0, .bool true), (1, .agg (nums .u32 FIRST).toArray)]); (simp only [List.map_toArray, List.map_cons, List.map_nil]; rfl); exact hbuild w1))
  go_ret
  exact ⟨w1.heap.size, rfl, hb1.size, hb1.alloc hb1.size _, FIRST, List.replicate 64 0, Blk.new' _ _ _ _ _ rfl rfl, HashOf.nil⟩

/-- Below B all is as it was, but block g. -/
structure But (g B : Nat) (w w' : World) : Prop where
  os : w'.os = w.os
  tape : w'.tape = w.tape
  output : w'.output = w.output
  size : w.heap.size ≤ w'.heap.size
  block : ∀ k, k < B → k ≠ g → w'.heap[k]? = w.heap[k]?
theorem But.refl (g B : Nat) (w : World) : But g B w w := ⟨rfl, rfl, rfl, Nat.le_refl _, fun _ _ _ => rfl⟩
theorem But.row {g B : Nat} {w w' : World} (h : But g B w w') (r : Array Value) : But g B w (w'.setRow g r) := ⟨h.os, h.tape, h.output, by simp [h.size], fun k hk hg => by rw [setRow_other w' g k r hg]; exact h.block k hk hg⟩
theorem But.set {g B : Nat} {w w' : World} (h : But g B w w') (j : Nat) (v : Value) : But g B w (w'.setCell ⟨g, j, none⟩ v) := ⟨h.os, h.tape, h.output, by simp [h.size], fun k hk hg => by rw [heap_setCell_other w' _ k v hg]; exact h.block k hk hg⟩
theorem But.drew {g B : Nat} {w w' : World} (h : But g B w w') : But g B w w'.drew := ⟨h.os, h.tape, h.output, h.size, h.block⟩
theorem But.up {g B : Nat} {w w' w'' : World} (h : But g B w w') (hb : Below w'.heap.size w' w'') (hB : B ≤ w.heap.size) : But g B w w'' :=
  ⟨hb.os.trans h.os, hb.tape.trans h.tape, hb.output.trans h.output, Nat.le_trans h.size hb.size, fun k hk hg => by rw [hb.block k (by have := h.size; omega)]; exact h.block k hk hg⟩
theorem But.below {g B : Nat} {w w' : World} (h : But g B w w') (hB : B ≤ g) : Below B w w' := ⟨h.os, h.tape, h.output, h.size, fun k hk => h.block k hk (by omega)⟩
theorem But.cell {g B : Nat} {w w' : World} (h : But g B w w') (k j : Nat) (hk : k < B) (hg : k ≠ g) : w'.cell? ⟨k, j, none⟩ = w.cell? ⟨k, j, none⟩ := World.cell?_of_block (w := w) (h.block k hk hg)
end Go.Proofs.YtipigpeccegjgaaDoor
