/- The plain side of sha.Hash: what a hash holds of the bytes that were added. Lists alone. What sha.New, (*sha.Hash).Add and (*sha.Hash).Count do. Condition: the package's table k reads as its text lays it; texts of fewer than 2^40 bytes. What (*sha.Hash).Add does. Condition: the package's table k reads as its text lays it; texts of fewer than 2^40 bytes. What (*sha.Hash).Sum and sha.Sum answer. Condition: the package's table k reads as its text lays it; texts of fewer than 2^39 bytes. -/
import Derived.Test.YtancldhincaphaaDoorGb
namespace Go.Proofs.YtancldhincaphaaDoor
set_option maxRecDepth 100000
section HashF
open Go.RowKit

/-- The eight numbers behind so many blocks of a text. -/
def chainF (all : List Int) : Nat → List Int
  | 0 => FIRST
  | k + 1 => blockF (chainF all k) ((all.drop (64 * k)).take 64)
theorem chainF_len (all : List Int) (k : Nat) : (chainF all k).length = 8 := by
  induction k with
  | zero => rfl
  | succ k ih => exact blockF_len _ _ ih
theorem chainF_more (all more : List Int) (k : Nat) (h : 64 * k ≤ all.length) : chainF (all ++ more) k = chainF all k := by
  induction k with
  | zero => rfl
  | succ k ih =>
    have hk : 64 * k ≤ all.length := by omega
    simp only [chainF]
    rw [ih hk, List.drop_append_of_le_length hk, List.take_append_of_le_length (by simp; omega)]

/-- What a hash holds behind a text. -/
structure HashOf (all s part : List Int) : Prop where
  chain : s = chainF all (all.length / 64)
  size : part.length = 64
  rest : part.take (all.length % 64) = all.drop (64 * (all.length / 64))
theorem HashOf.len {all s part : List Int} (h : HashOf all s part) : s.length = 8 := by rw [h.chain]; exact chainF_len _ _
theorem HashOf.nil : HashOf [] FIRST (List.replicate 64 0) := ⟨rfl, by simp, by simp⟩

/-- The part behind a copy. -/
def partTo (part : List Int) (at_ : Nat) (new : List Int) : List Int := part.take at_ ++ new ++ part.drop (at_ + new.length)
theorem partTo_len (part : List Int) (at_ : Nat) (new : List Int) (h : at_ + new.length ≤ part.length) : (partTo part at_ new).length = part.length := by
  simp [partTo]; omega

theorem HashOf.short {all s part new : List Int} (h : HashOf all s part) (hl : all.length % 64 + new.length < 64) : HashOf (all ++ new) s (partTo part (all.length % 64) new) := by
  have e1 : (all ++ new).length / 64 = all.length / 64 := by simp; omega
  have e2 : (all ++ new).length % 64 = all.length % 64 + new.length := by simp; omega
  have h64 : 64 * (all.length / 64) ≤ all.length := by omega
  refine ⟨?_, by rw [partTo_len _ _ _ (by rw [h.size]; omega), h.size], ?_⟩
  · rw [e1, chainF_more _ _ _ h64]; exact h.chain
  · rw [e1, e2, List.drop_append_of_le_length h64, ← h.rest]
    unfold partTo
    have hlen : (part.take (all.length % 64)).length = all.length % 64 := by simp [h.size]; omega
    rw [List.append_assoc, ← List.append_assoc, List.take_append_of_le_length (by simp [h.size]; omega)]
    rw [List.take_of_length_le (by simp [h.size]; omega)]
theorem HashOf.full {all s part new : List Int} (h : HashOf all s part) (hl : all.length % 64 + new.length = 64) : HashOf (all ++ new) (blockF s (partTo part (all.length % 64) new)) (partTo part (all.length % 64) new) := by
  have e1 : (all ++ new).length / 64 = all.length / 64 + 1 := by simp; omega
  have e2 : (all ++ new).length % 64 = 0 := by simp; omega
  have h64 : 64 * (all.length / 64) ≤ all.length := by omega
  refine ⟨?_, by rw [partTo_len _ _ _ (by rw [h.size]; omega), h.size], ?_⟩
  · rw [e1]
    simp only [chainF]
    rw [chainF_more _ _ _ h64, ← h.chain, List.drop_append_of_le_length h64, ← h.rest]
    congr 1
    unfold partTo
    rw [List.drop_of_length_le (by rw [h.size]; omega), List.append_nil]
    exact (List.take_of_length_le (by simp [h.size]; omega)).symm
  · have e3 : (all ++ new).length = 64 * (all.length / 64 + 1) := by simp; omega
    rw [e1, e2, List.take_zero, List.drop_of_length_le (by omega)]

/-- The bytes of eight numbers, the highest first. -/
def bytesF : List Int → List Int
  | [] => []
  | x :: l => putF x 4 ++ bytesF l
/-- The sum of a text. -/
def sumF (all : List Int) : List Int :=
  bytesF (chainF (all ++ padF all.length) ((all.length + (noughts all.length + 9)) / 64))
end HashF
section Hash
open Go.RowKit

/-- The cells of a hash. -/
def hashCells (s part : List Int) (n : Int) : List Value := .bool true :: (nums .u32 s ++ nums .u8 part ++ [.int .i64 n])
/-- Block g is a hash of this text. -/
def IsHash (w : World) (g : Nat) (all : List Int) : Prop := ∃ s part, Blk w g (hashCells s part all.length) 124 ∧ HashOf all s part
theorem IsHash.lt {w : World} {g : Nat} {all : List Int} (h : IsHash w g all) : g < w.heap.size := by
  obtain ⟨s, part, hb, _⟩ := h; exact hb.lt
theorem IsHash.up {w w' : World} {g : Nat} {all : List Int} (h : IsHash w g all) (hb : Below w.heap.size w w') : IsHash w' g all := by
  obtain ⟨s, part, h1, h2⟩ := h; exact ⟨s, part, h1.up hb, h2⟩

section
variable {P : Program} {ops : Array Oper} {C : World → Prop} {Q : Exit → Act → World → Prop} {E F : List Nat} {k : Nat} {rest : List Oper} {a : Act} {w : World} {o : Oper} {v : Value}
/-- A quiet operation, run as a region of its own. -/
theorem wd_w {d : Nat} (hE : E.contains k = false) (hF : F.contains k = false) (hg : o.guard = none) (hq : valueOp o.op = true) (hd : o.dst = some d) (hl0 : Nat.blt d a.tmps.size = true)
    (hv : ∀ w', C w' → ∀ K : Act → World → Prop, (∀ a', a' = a.put (some d) v → K a' w') → wpList P #[] (Exit.then K (fun _ _ _ => False)) [o] a w')
    (h : WD P ops C Q E F (k + 1) rest (a.put (some d) v) w) : WD P ops C Q E F k (o :: rest) a w := by
  refine wd_q hE hF (by simp [Region.wanted, hg]) hq hd hl0 (fun w' hC K hK => ?_) h
  have h1 := hv w' hC K hK
  unfold wpList at h1
  rw [if_pos (by simp [Region.wanted, hg])] at h1
  rcases h1 with h1 | ⟨_, a', w'', hl⟩
  · unfold Oper.wp at h1 ⊢
    generalize (execOp a.eval o).run P w' = r at h1 ⊢
    cases r with
    | ok n w2 =>
      cases n <;> simp only [Oper.upon] at h1 ⊢
      case value u => exact h1
      case skip => exact h1
      case defer d => exact h1
      case enter f args => exact Calls.mono h1 fun e w'' he => by
                            cases e with
                            | returned u => exact he
                            | panicked c => exact he
                            | outgrown => obtain ⟨_, _, hl⟩ := he; exact hl.elim
      case row row args => exact Rows.mono h1 fun _ _ he => he
    | halt z w2 => cases z <;> simp only [Oper.upon] at h1 ⊢; exact h1
  · exact hl.elim

/-- A struct built of parts. -/
theorem st_build {d' : Option Tmp} {tt t : TypeId} {parts : Array (Nat × Operand)} {ps : Array (Nat × Value)} {pos : String} {after : Array Edge} {r : Array Value}
    (hp : (parts.map fun p => (p.1, a.eval p.2)) = ps) (hr : (Instr.build t ps).run P w = .ok (.agg r) w)
    (h : wpList P ops Q rest (a.put d' (.agg r)) w) : wpList P ops Q (⟨d', .build t parts, tt, pos, after, none⟩ :: rest) a w :=
  wpList_plain rfl fun K hK => by
    unfold Oper.wp execOp
    simp only [Sem.run_bind]
    rw [show (parts.map fun x => match x with | (i, x) => (i, a.eval x)) = ps from hp, hr]
    exact hK _ _ h

/-- A copy of bytes into a row. -/
theorem st_copy {d' : Option Tmp} {tt dT sT elem : TypeId} {d s : Operand} {pos : String} {after : Array Edge} {g off dLen dCap g2 off2 sLen sCap : Nat} {cur cs : List Value} {T : TypeId}
    (hu : P.underlying dT = some (.slice elem)) (hsz : (P.info? elem).map (·.size) = some 1)
    (hd : a.eval d = .slice (some ⟨g, off, none⟩) dLen dCap) (hs : a.eval s = .slice (some ⟨g2, off2, none⟩) sLen sCap) (hg : Blk w g cur T) (hn : cs.length = Nat.min sLen dLen)
    (hsrc : ∀ j v, cs[j]? = some v → w.cell? ⟨g2, off2 + j, none⟩ = some v) (hfit : off + cs.length ≤ cur.length) (h1 : ∀ v ∈ cs, v.oneCell' = true)
    (h : wpList P ops Q rest (a.put d' (.int .i64 cs.length)) (w.setRow g (laid cur off cs).toArray)) : wpList P ops Q (⟨d', .call ⟨.builtin .copy, #[d, s], #[dT, sT]⟩, tt, pos, after, none⟩ :: rest) a w := by
  refine wpList_copy_own rfl d s dT sT rfl elem hu hsz g off dLen dCap ⟨g2, off2, none⟩ sLen sCap hd hs cur.toArray T hg cs hn (fun j v hv => ?_) (by simpa using hfit) h1 ?_
  · have : (⟨g2, off2, none⟩ : Addr).add j = ⟨g2, off2 + j, none⟩ := by unfold Addr.add; split <;> simp_all
    rw [this]; exact hsrc j v hv
  · simpa [laid, goInt] using h
end

/-- It answers a new hash of nothing. -/
def NewGives (w : World) (e : Ending) (w' : World) : Prop := ∃ g, e = .returned (.pointer (some ⟨g, 0, none⟩)) ∧ w.heap.size ≤ g ∧ Below w.heap.size w w' ∧ IsHash w' g []

set_option maxRecDepth 100000 in
set_option maxHeartbeats 1000000 in
theorem new_any (w : World) : Calls Tryd.prog 65 #[] w (NewGives w) := by
  have hbuild : ∀ w : World, (Instr.build 124 #[(0, .bool true), (1, .agg (nums .u32 FIRST).toArray)]).run Tryd.prog w = .ok (.agg (hashCells FIRST (List.replicate 64 0) 0).toArray) w := fun w => by kernel_rfl
  go_enter Tryd.func65, Tryd.ntmps65
  go_wp2_with (first
    | (go_at_call 88; refine (first_any _).mono ?_; rintro e w1 ⟨rfl, hb1⟩)
    | (apply st_build (ps := #[(0, .bool true), (1, .agg (nums .u32 FIRST).toArray)]); (simp only [List.map_toArray, List.map_cons, List.map_nil]; rfl); exact hbuild w1))
  go_ret
  exact ⟨w1.heap.size, rfl, hb1.size, hb1.alloc hb1.size _, FIRST, List.replicate 64 0, Blk.new' _ _ _ _ _ rfl rfl, HashOf.nil⟩

/-- Below B all is as it was, but block g. -/
structure But (g B : Nat) (w w' : World) : Prop where
  os : w'.os = w.os
  tape : w'.tape = w.tape
  output : w'.output = w.output
  size : w.heap.size ≤ w'.heap.size
  block : ∀ k, k < B → k ≠ g → w'.heap[k]? = w.heap[k]?
theorem But.refl (g B : Nat) (w : World) : But g B w w := ⟨rfl, rfl, rfl, Nat.le_refl _, fun _ _ _ => rfl⟩
theorem But.row {g B : Nat} {w w' : World} (h : But g B w w') (r : Array Value) : But g B w (w'.setRow g r) := ⟨h.os, h.tape, h.output, by simp [h.size], fun k hk hg => by rw [setRow_other w' g k r hg]; exact h.block k hk hg⟩
theorem But.set {g B : Nat} {w w' : World} (h : But g B w w') (j : Nat) (v : Value) : But g B w (w'.setCell ⟨g, j, none⟩ v) := ⟨h.os, h.tape, h.output, by simp [h.size], fun k hk hg => by rw [heap_setCell_other w' _ k v hg]; exact h.block k hk hg⟩
theorem But.drew {g B : Nat} {w w' : World} (h : But g B w w') : But g B w w'.drew := ⟨h.os, h.tape, h.output, h.size, h.block⟩
theorem But.up {g B : Nat} {w w' w'' : World} (h : But g B w w') (hb : Below w'.heap.size w' w'') (hB : B ≤ w.heap.size) : But g B w w'' :=
  ⟨hb.os.trans h.os, hb.tape.trans h.tape, hb.output.trans h.output, Nat.le_trans h.size hb.size, fun k hk hg => by rw [hb.block k (by have := h.size; omega)]; exact h.block k hk hg⟩
theorem But.below {g B : Nat} {w w' : World} (h : But g B w w') (hB : B ≤ g) : Below B w w' := ⟨h.os, h.tape, h.output, h.size, fun k hk => h.block k hk (by omega)⟩
theorem But.cell {g B : Nat} {w w' : World} (h : But g B w w') (k j : Nat) (hk : k < B) (hg : k ≠ g) : w'.cell? ⟨k, j, none⟩ = w.cell? ⟨k, j, none⟩ := World.cell?_of_block (w := w) (h.block k hk hg)
end Hash
section Add
open Go.RowKit

theorem laid_mid (A X B V : List Value) (q n : Nat) (hA : A.length = n) (h : q + V.length ≤ X.length) : laid (A ++ X ++ B) (n + q) V = A ++ laid X q V ++ B := by
  subst hA
  unfold laid
  rw [List.append_assoc A X B, List.take_append, List.drop_append]
  rw [List.take_of_length_le (by omega), List.drop_of_length_le (by omega)]
  rw [show A.length + q - A.length = q by omega, show A.length + q + V.length - A.length = q + V.length by omega]
  rw [List.take_append_of_le_length (by omega), List.drop_append_of_le_length h]
  simp
theorem nums_partTo (part new : List Int) (q : Nat) : nums .u8 (partTo part q new) = laid (nums .u8 part) q (nums .u8 new) := by
  simp [partTo, laid, nums, List.map_take, List.map_drop]
theorem nums_drop (k : IntKind) (xs : List Int) (n : Nat) : nums k (xs.drop n) = (nums k xs).drop n := by simp [nums, List.map_drop]
theorem hash_part (s part new : List Int) (n : Int) (q : Nat) (hs : s.length = 8) (hp : part.length = 64) (h : q + new.length ≤ 64) : laid (hashCells s part n) (9 + q) (nums .u8 new) = hashCells s (partTo part q new) n := by
  unfold hashCells
  rw [← List.cons_append, ← List.cons_append, laid_mid _ _ _ _ _ 9 (by simp [nums_length, hs]) (by rw [nums_length, nums_length, hp]; exact h), nums_partTo]
  rfl
theorem hash_s (s s' part : List Int) (n : Int) (hs : s.length = 8) (hs' : s'.length = 8) : laid (hashCells s part n) 1 (nums .u32 s') = hashCells s' part n := by
  unfold hashCells
  have := laid_mid [.bool true] (nums .u32 s) (nums .u8 part ++ [.int .i64 n]) (nums .u32 s') 0 1 rfl (by rw [nums_length, nums_length, hs, hs']; omega)
  rw [laid_all _ _ (by rw [nums_length, nums_length, hs, hs'])] at this
  simpa using this
theorem hash_n (s part : List Int) (n n' : Int) (hs : s.length = 8) (hp : part.length = 64) : (hashCells s part n).set 73 (.int .i64 n') = hashCells s part n' := by
  unfold hashCells
  rw [← List.cons_append, ← List.cons_append, List.set_append_right _ _ (by simp [nums_length, hs, hp])]
  simp [nums_length, hs, hp]

theorem hash_get_s (s part : List Int) (n : Int) (hs : s.length = 8) : (((hashCells s part n).drop 1).take 8).toArray = (nums .u32 s).toArray := by
  unfold hashCells
  rw [List.drop_succ_cons, List.drop_zero, List.append_assoc, List.take_append_of_le_length (by rw [nums_length, hs]; omega), List.take_of_length_le (by rw [nums_length, hs]; omega)]
theorem hash_get_part (s part : List Int) (n : Int) (hs : s.length = 8) (hp : part.length = 64) : (((hashCells s part n).drop 9).take 64).toArray = (nums .u8 part).toArray := by
  unfold hashCells
  rw [show (9 : Nat) = 8 + 1 from rfl, List.drop_succ_cons, List.append_assoc, List.drop_append_of_le_length (by rw [nums_length, hs]; omega), List.drop_of_length_le (by rw [nums_length, hs]; omega), List.nil_append,
    List.take_append_of_le_length (by rw [nums_length, hp]; omega), List.take_of_length_le (by rw [nums_length, hp]; omega)]
theorem hash_len (s part : List Int) (n : Int) (hs : s.length = 8) (hp : part.length = 64) : (hashCells s part n).length = 74 := by
  simp [hashCells, nums_length, hs, hp]

/-- One row was written, nothing else. -/
structure Wrote (w w' : World) (g : Nat) : Prop where
  os : w'.os = w.os
  tape : w'.tape = w.tape
  output : w'.output = w.output
  size : w'.heap.size = w.heap.size
  far : ∀ k, k ≠ g → w'.heap[k]? = w.heap[k]?
theorem Wrote.row (w : World) (g : Nat) (r : Array Value) : Wrote w (w.setRow g r) g := ⟨rfl, rfl, rfl, by simp, fun k hk => setRow_other w g k r hk⟩
theorem Wrote.blk {w w' : World} {g k : Nat} {cs : List Value} {T : TypeId} (h : Wrote w w' g) (hb : Blk w k cs T) (hne : k ≠ g) : Blk w' k cs T := by
  unfold Blk at hb ⊢; rw [h.far k hne]; exact hb
theorem Wrote.cell {w w' : World} {g k j : Nat} (h : Wrote w w' g) (hne : k ≠ g) : w'.cell? ⟨k, j, none⟩ = w.cell? ⟨k, j, none⟩ := World.cell?_of_block (w := w) (h.far k hne)
theorem But.wrote {g B : Nat} {w w' w'' : World} (h : But g B w w') (hw : Wrote w' w'' g) : But g B w w'' :=
  ⟨hw.os.trans h.os, hw.tape.trans h.tape, hw.output.trans h.output, by rw [hw.size]; exact h.size, fun k hk hg => by rw [hw.far k hg]; exact h.block k hk hg⟩
theorem Wrote.below {B g : Nat} {w w' w'' : World} (h : Below B w w') (hw : Wrote w' w'' g) (hB : B ≤ g) : Below B w w'' :=
  h.trans ⟨hw.os, hw.tape, hw.output, by rw [hw.size]; exact Nat.le_refl _, fun k hk => hw.far k (by omega)⟩

section
variable {P : Program} {ops : Array Oper} {Q : Exit → Act → World → Prop} {rest : List Oper} {a : Act} {w : World}
/-- A copy of bytes into a row; the world behind it by a name. -/
theorem st_copyW {d' : Option Tmp} {tt dT sT elem : TypeId} {d s : Operand} {pos : String} {after : Array Edge} {g off dLen dCap g2 off2 sLen sCap m : Nat} {cur cs : List Value} {T : TypeId}
    (hu : P.underlying dT = some (.slice elem)) (hsz : (P.info? elem).map (·.size) = some 1)
    (hd : a.eval d = .slice (some ⟨g, off, none⟩) dLen dCap) (hs : a.eval s = .slice (some ⟨g2, off2, none⟩) sLen sCap) (hg : Blk w g cur T) (hm : cs.length = m) (hn : m = Nat.min sLen dLen)
    (hsrc : ∀ j v, cs[j]? = some v → w.cell? ⟨g2, off2 + j, none⟩ = some v) (hfit : off + m ≤ cur.length) (h1 : ∀ v ∈ cs, v.oneCell' = true)
    (h : ∀ w', Blk w' g (laid cur off cs) T → Wrote w w' g → wpList P ops Q rest (a.put d' (.int .i64 m)) w') : wpList P ops Q (⟨d', .call ⟨.builtin .copy, #[d, s], #[dT, sT]⟩, tt, pos, after, none⟩ :: rest) a w := by
  subst hm
  exact st_copy hu hsz hd hs hg hn hsrc hfit h1 (h _ (hg.row _) (Wrote.row _ _ _))
theorem st_storeW {ty tt : TypeId} {x y : Operand} {pos : String} {after : Array Edge} {g off : Nat} {vs cs : List Value} {T : TypeId}
    (hx : a.eval x = .pointer (some ⟨g, off, none⟩)) (hy : a.eval y = .agg vs.toArray) (hg : Blk w g cs T)
    (hi : (P.info? ty).map (·.size) = some vs.length) (hle : off + vs.length ≤ cs.length) (h1 : ∀ v ∈ vs, v.oneCell' = true)
    (h : ∀ w', Blk w' g (laid cs off vs) T → Wrote w w' g → wpList P ops Q rest a w') : wpList P ops Q (⟨none, .store ty x y, tt, pos, after, none⟩ :: rest) a w :=
  st_store hx hy hg hi hle h1 (h _ (hg.row _) (Wrote.row _ _ _))

/-- x[i:] of a slice of elements of one cell. -/
theorem st_from {d' : Option Tmp} {tt t e : TypeId} {x lo : Operand} {pos : String} {after : Array Edge} {A : Option Addr} {n c i : Nat} {k : IntKind}
    (hu : P.underlying t = some (.slice e)) (hsz : (P.info? e).map (·.size) = some 1) (hx : a.eval x = .slice A n c) (hlo : a.eval lo = .int k i) (hi : i ≤ n)
    (h : ∀ A2, A2 = (if c = i then A else A.map (·.add i)) → wpList P ops Q rest (a.put d' (.slice A2 (n - i) (c - i))) w) :
    wpList P ops Q (⟨d', .slice t x (some lo) none none, tt, pos, after, none⟩ :: rest) a w :=
  wpList_plain rfl fun K hK => by
    have hrun : (Instr.sliceAt t (.slice A n c) (some (.int k i)) none none).run P w = .ok (.slice (if c = i then A else A.map (·.add i)) (n - i) (c - i)) w := by
      cases hq : P.info? e with
      | none => simp [hq] at hsz
      | some info =>
        have hs : info.size = 1 := by simpa [hq] using hsz
        simp [Instr.sliceAt, run_underlying hu, Instr.slice, Instr.sliceBounds, Instr.sliceBound, asIntOf, sizeOf, typeInfo, hq, hs, hi]
    unfold Oper.wp execOp
    simp only [Sem.run_bind, hx, Option.map_some, Option.map_none, hlo, hrun]
    exact hK _ _ (h _ rfl)
/-- x[i:] of an array of elements of one cell, in memory. -/
theorem st_fromArr {d' : Option Tmp} {tt t e : TypeId} {x lo : Operand} {pos : String} {after : Array Edge} {g off n i : Nat} {k : IntKind} {z : Int}
    (hu : P.underlying t = some (.array n e)) (hsz : (P.info? e).map (·.size) = some 1) (hx : a.eval x = .pointer (some ⟨g, off, none⟩)) (hlo : a.eval lo = .int k z) (hz : z = i) (hi : i < n)
    (h : wpList P ops Q rest (a.put d' (.slice (some ⟨g, off + i, none⟩) (n - i) (n - i))) w) :
    wpList P ops Q (⟨d', .slice t x (some lo) none none, tt, pos, after, none⟩ :: rest) a w :=
  wpList_plain rfl fun K hK => by
    subst hz
    have hrun : (Instr.sliceAt t (.pointer (some ⟨g, off, none⟩)) (some (.int k i)) none none).run P w = .ok (.slice (some ⟨g, off + i, none⟩) (n - i) (n - i)) w := by
      cases hq : P.info? e with
      | none => simp [hq] at hsz
      | some info =>
        have hs : info.size = 1 := by simpa [hq] using hsz
        have hi' : i ≤ n := by omega
        have hne : ¬ n = i := by omega
        have hadd : (⟨g, off, none⟩ : Addr).add i = ⟨g, off + i, none⟩ := by unfold Addr.add; split <;> simp_all
        simp [Instr.sliceAt, run_underlying hu, Instr.sureAddr, Instr.sliceBounds, Instr.sliceBound, asIntOf, sizeOf, typeInfo, hq, hs, hi', hne, hadd]
    unfold Oper.wp execOp
    simp only [Sem.run_bind, hx, Option.map_some, Option.map_none, hlo, hrun]
    exact hK _ _ h
end

theorem Rd.from {w : World} {A : Option Addr} {cs : List Value} {c i : Nat} (h : Rd w A cs) (hc : cs.length ≤ c) : Rd w (if c = i then A else A.map (·.add i)) (cs.drop i) := by
  by_cases e : c = i
  · rw [if_pos e, List.drop_of_length_le (by omega)]; exact Rd.nil _ _
  · rw [if_neg e]
    rcases h with h | ⟨g, off, rfl, hr⟩
    · subst h; rw [List.drop_nil]; exact Rd.nil _ _
    · refine .inr ⟨g, off + i, ?_, fun j v hv => ?_⟩
      · simp only [Option.map_some, Option.some.injEq]; unfold Addr.add; split <;> simp_all
      · rw [List.getElem?_drop] at hv
        have := hr (i + j) v hv
        rwa [← Nat.add_assoc] at this

set_option maxRecDepth 100000 in
set_option maxHeartbeats 2000000 in
set_option maxRecDepth 100000 in
theorem add_any (w : World) (g : Nat) (all bs : List Int) (A : Option Addr) (c : Nat) (h : IsHash w g all) (hr : Rd w A (nums .u8 bs)) (hc : bs.length ≤ c) (hA : A = none → c = 0)
    (hne : 0 < bs.length → ∀ a, A = some a → a.block ≠ g) (hl : all.length + bs.length ≤ 1099511627776) (hk : KV w) :
    Calls Tryd.prog 66 #[.pointer (some ⟨g, 0, none⟩), .slice A bs.length c] w fun e w' => e = .returned (.int .i64 0) ∧ But g w.heap.size w w' ∧ IsHash w' g (all ++ bs) := by
  have hgk : g ≠ 0 := by
    rintro rfl
    obtain ⟨s, part, hb, _⟩ := h
    have h1 := hk 0 (by decide)
    rw [hb.cell] at h1
    simp [hashCells] at h1
  have c0 : w.cell? ⟨g, 0, none⟩ = some (.bool true) := by
    obtain ⟨s, part, hb, _⟩ := h
    rw [hb.cell]; rfl
  have HIH := Lib.hid h
  have hglt := h.lt
  have HR := Lib.hid hr
  have HK := Lib.hid hk
  have HNE := Lib.hid hne
  have HC := Lib.hid hA
  clear h hr hk hne hA
  go_enter Tryd.func66, Tryd.ntmps66
  go_wp2
  go_loopw [1] (fun b wr => ∃ (j : Nat) (A' : Option Addr) (c' : Nat), b = .slice A' (bs.length - j) c' ∧ j ≤ bs.length ∧ bs.length - j ≤ c' ∧ Hid (A' = none → c' = 0) ∧ Hid (Rd w A' (nums .u8 (bs.drop j))) ∧ Hid (0 < bs.length → ∀ a, A' = some a → a.block ≠ g) ∧ But g w.heap.size w wr ∧ IsHash wr g (all ++ bs.take j)) (fun b _ => lenV b)
  case atStart => exact ⟨0, A, c, rfl, by omega, by omega, HC, by rw [List.drop_zero]; exact HR, HNE, But.refl _ _ _, by rw [List.take_zero, List.append_nil]; exact HIH.out⟩
  case round =>
    obtain ⟨j, A', c', rfl, hj, hc', HC', HR', HNE', hB, hH⟩ := hrel
    by_cases hlt : j < bs.length
    · have HR2 := HR'.out
      obtain ⟨g2, off2, rfl, hsrc⟩ := HR2.get (by rw [nums_length, List.length_drop]; omega)
      clear HR2
      have hg2 : g2 ≠ g := HNE'.out (by omega) _ rfl
      have hg2lt : g2 < w.heap.size := World.block_lt_of_cell? (h := hsrc 0 _ (nums_at .u8 (bs.drop j) 0 (by simp; omega)))
      have hsrc' : ∀ i v, (nums .u8 (bs.drop j))[i]? = some v → wr.cell? ⟨g2, off2 + i, none⟩ = some v := fun i v hv => by rw [hB.cell g2 _ hg2lt hg2]; exact hsrc i v hv
      have HSRC := Lib.hid hsrc'
      clear hsrc hsrc'
      obtain ⟨s, part, hb, hh⟩ := hH
      have hsl := hh.len
      have hpl := hh.size
      obtain ⟨n0, hn0⟩ : ∃ n0, n0 = (all ++ bs.take j).length := ⟨_, rfl⟩
      have hn0' : n0 = all.length + j := by rw [hn0]; simp; omega
      rw [← hn0] at hb
      obtain ⟨q, hq⟩ : ∃ q, n0 % 64 = q := ⟨_, rfl⟩
      have hq63 : q < 64 := by omega
      have hqi : (n0 : Int) % 64 = (q : Int) := by omega
      obtain ⟨m, hm⟩ : ∃ m, m = min (bs.length - j) (64 - q) := ⟨_, rfl⟩
      have hm1 : m ≤ bs.length - j := by omega
      have hm2 : q + m ≤ 64 := by omega
      have hm0 : 0 < m := by omega
      have c73 : wr.cell? ⟨g, 73, none⟩ = some (.int .i64 n0) := by
        rw [hb.cell]; simp [hashCells, nums_length, hsl, hpl]
      have hnl : ((bs.drop j).take m).length = m := by simp; omega
      have e1 : q < 64 := hq63
      have hn0b : n0 + m ≤ 1099511627776 := by omega
      have HN0 := Lib.hid hn0
      have HM := Lib.hid hm
      have HQ := Lib.hid hq
      have HNL := Lib.hid hnl
      have HSL := Lib.hid hsl
      have HPL := Lib.hid hpl
      have HH := Lib.hid hh
      clear hn0 hn0' hm hq hnl hsl hpl hh
      obtain ⟨part2, hp2⟩ : ∃ p, p = partTo part q ((bs.drop j).take m) := ⟨_, rfl⟩
      have hpl2 : part2.length = 64 := by rw [hp2, partTo_len part q _ (by rw [HNL.out, HPL.out]; exact hm2), HPL.out]
      have HP := Lib.hid hp2
      have HPL2 := Lib.hid hpl2
      clear hp2 hpl2
      by_cases h64 : q + m = 64
      · have b64 : ((q : Int) + (m : Int) == 64) = true := by simp; omega
        go_wp2_with (first
          | (apply st_fromArr (i := q); exact Tryd.underlying93; kernel_rfl; rfl; rfl; exact hqi; exact hq63)
          | (apply st_copyW (m := m) (cs := nums .u8 ((bs.drop j).take m)) (cur := hashCells s part n0) (T := 124); exact Tryd.underlying22; kernel_rfl; rfl; rfl; exact hb; (rw [nums_length, HNL.out]); exact HM.out; (intro i v hv; refine HSRC.out i v ?_; rw [show nums .u8 ((bs.drop j).take m) = (nums .u8 (bs.drop j)).take m by simp [nums, List.map_take], List.getElem?_take] at hv; split at hv; exact hv; cases hv); (rw [hash_len _ _ _ HSL.out HPL.out]; omega); exact nums_one _ _;
              intro w2 hb2 hw2; rw [hash_part s part _ n0 q HSL.out HPL.out (by rw [HNL.out]; exact hm2), ← HP.out] at hb2;
              have d73 : w2.cell? ⟨g, 73, none⟩ = some (.int .i64 n0) := (by rw [hb2.cell]; simp [hashCells, nums_length, HSL.out, HPL2.out]); have f73 := hb2.frozen 73)
          | (apply st_from (i := m); exact Tryd.underlying22; kernel_rfl; rfl; rfl; exact hm1; intro A2 hA2; have HA2 := Lib.hid hA2; clear hA2))
        have hb3 : Blk (w2.setCell ⟨g, 73, none⟩ (.int .i64 (n0 + m))) g (hashCells s part2 (n0 + m)) 124 := by
          rw [← hash_n s part2 n0 _ HSL.out HPL2.out]; exact hb2.set 73 _
        have hB3 : But g w.heap.size w (w2.setCell ⟨g, 73, none⟩ (.int .i64 (n0 + m))) := (hB.wrote hw2).set 73 _
        have hK3 : KV (w2.setCell ⟨g, 73, none⟩ (.int .i64 (n0 + m))) := fun i hi => by rw [hB3.cell _ i HK.out.lt (Ne.symm hgk)]; exact HK.out i hi
        obtain ⟨w3, hw3⟩ : ∃ w3, w3 = w2.setCell ⟨g, 73, none⟩ (.int .i64 (n0 + m)) := ⟨_, rfl⟩
        rw [← hw3] at hb3 hB3 hK3 ⊢
        clear hw3 hw2 hb2 d73 f73
        have HB3 := Lib.hid hb3
        have HK3 := Lib.hid hK3
        clear hK3
        refine wp_region_C (Same [g] w3) [9, 12] (by kernel_rfl) (by kernel_rfl) (by intro c a w h; first | (obtain ⟨_, h, _⟩ := h; cases h; done) | (obtain ⟨_, _, h, _⟩ := h; cases h; done) | (obtain ⟨_, _, _, h, _⟩ := h; cases h; done) | (obtain ⟨_, _, _, _, h, _⟩ := h; cases h; done) | (rcases h with ⟨_, ⟨_, _, _, _, h, _⟩ | ⟨_, _, _, _, h, _⟩⟩ <;> cases h; done)) (by intro a w h; first | (obtain ⟨h, _⟩ := h; cases h; done) | (obtain ⟨_, h, _⟩ := h; cases h; done) | (obtain ⟨_, _, h, _⟩ := h; cases h; done) | (obtain ⟨_, _, _, h, _⟩ := h; cases h; done) | (rcases h with ⟨_, _, _, _, h, _⟩ | ⟨_, _, _, _, h, _⟩ <;> cases h; done)) (Same.refl _ _) ?_
        repeat (refine wd_w (v := ?_) rfl rfl rfl rfl rfl rfl (fun w' hw' K hK => ?_) ?_; rotate_left; (have e1 := hw'.blk HB3.out (by simp); go_wp2_with ((first | (apply st_load (n := 8) (cs := hashCells s part2 (n0 + m)) (T := 124); rfl; exact e1; exact Tryd.underlying91; rfl; kernel_rfl; (rw [hash_len _ _ _ HSL.out HPL2.out]; omega); exact hash_get_s _ _ _ HSL.out) | (apply st_load (n := 64) (cs := hashCells s part2 (n0 + m)) (T := 124); rfl; exact e1; exact Tryd.underlying93; rfl; kernel_rfl; (rw [hash_len _ _ _ HSL.out HPL2.out]; omega); exact hash_get_part _ _ _ HSL.out HPL2.out))); exact rfl); simp only [Act.put, List.setIfInBounds_toArray, List.set_cons_zero, List.set_cons_succ])
        refine wd_l rfl rfl (by intro a w h; first | (obtain ⟨h, _⟩ := h; cases h; done) | (obtain ⟨_, h, _⟩ := h; cases h; done) | (obtain ⟨_, _, h, _⟩ := h; cases h; done) | (obtain ⟨_, _, _, h, _⟩ := h; cases h; done) | (rcases h with ⟨_, _, _, _, h, _⟩ | ⟨_, _, _, _, h, _⟩ <;> cases h; done)) ?_
        go_wp2_with (go_at_call 89; refine (block_any _ s part2 HSL.out HPL2.out ?_).mono ?_; exact HK3.out; rintro e w4 ⟨rfl, hb4⟩)
        replace hb4 : Below w3.heap.size w3 w4 := ⟨hb4.os, hb4.tape, hb4.output, hb4.size, hb4.block⟩
        refine ⟨.inr ((Same.refl _ _).below hb4 (by simp; exact hb3.lt)), ?_⟩
        repeat (refine wd_q (v := ?_) rfl rfl rfl rfl rfl rfl (fun w' hw' K hK => ?_) ?_; rotate_left; (go_wp2; exact rfl); simp only [Act.put, List.setIfInBounds_toArray, List.set_cons_zero, List.set_cons_succ])
        have hb5 : Blk w4 g (hashCells s part2 (n0 + m)) 124 := hb3.up hb4
        refine wd_last rfl (by kernel_rfl) rfl (by intro a w h; first | (obtain ⟨h, _⟩ := h; cases h; done) | (obtain ⟨_, h, _⟩ := h; cases h; done) | (obtain ⟨_, _, h, _⟩ := h; cases h; done) | (obtain ⟨_, _, _, h, _⟩ := h; cases h; done) | (rcases h with ⟨_, _, _, _, h, _⟩ | ⟨_, _, _, _, h, _⟩ <;> cases h; done)) ?_
        go_wp2_with (apply st_storeW (off := 1) (vs := nums .u32 (blockF s part2)) (cs := hashCells s part2 (n0 + m)) (T := 124); rfl; rfl; exact hb5; (rw [nums_length, blockF_len _ _ HSL.out]; kernel_rfl); (rw [nums_length, blockF_len _ _ HSL.out, hash_len _ _ _ HSL.out HPL2.out]; omega); exact nums_one _ _; intro w5 hb6 hw5)
        rw [hash_s _ _ _ _ HSL.out (blockF_len _ _ HSL.out)] at hb6
        go_roundw
        case rel =>
          refine ⟨j + m, A2, c' - m, by rw [Nat.sub_sub], by omega, by omega, ?_, ?_, ?_, (hB3.up hb4 (Nat.le_refl _)).wrote hw5, ?_⟩
          · intro h0; rw [HA2.out] at h0; split at h0 <;> cases h0
          · have := Rd.from (i := m) HR'.out (c := c') (by rw [nums_length, List.length_drop]; exact hc')
            rw [← nums_drop, List.drop_drop] at this
            rw [HA2.out]
            exact this
          · intro _ a ha
            rw [HA2.out] at ha
            split at ha
            · injection ha with ha; rw [← ha]; exact hg2
            · simp only [Option.map_some, Option.some.injEq] at ha
              rw [← ha]; unfold Addr.add; split <;> exact hg2
          · refine ⟨blockF s part2, part2, ?_, ?_⟩
            · have e3 : ((all ++ bs.take (j + m)).length : Int) = (n0 : Int) + (m : Int) := by
                rw [List.length_append, List.length_take]; have := HN0.out; rw [List.length_append, List.length_take] at this; omega
              rw [e3]
              exact hb6
            · rw [show all ++ bs.take (j + m) = (all ++ bs.take j) ++ (bs.drop j).take m by rw [List.append_assoc, ← List.take_add]]
              have := HH.out.full (new := (bs.drop j).take m) (by rw [HNL.out, ← HN0.out, HQ.out]; exact h64)
              rw [← HN0.out, HQ.out, ← HP.out] at this
              exact this
        case measure => simp [lenV]; omega
      · have b64 : ((q : Int) + (m : Int) == 64) = false := by simp; omega
        go_wp2_with (first
          | (apply st_fromArr (i := q); exact Tryd.underlying93; kernel_rfl; rfl; rfl; exact hqi; exact hq63)
          | (apply st_copyW (m := m) (cs := nums .u8 ((bs.drop j).take m)) (cur := hashCells s part n0) (T := 124); exact Tryd.underlying22; kernel_rfl; rfl; rfl; exact hb; (rw [nums_length, HNL.out]); exact HM.out; (intro i v hv; refine HSRC.out i v ?_; rw [show nums .u8 ((bs.drop j).take m) = (nums .u8 (bs.drop j)).take m by simp [nums, List.map_take], List.getElem?_take] at hv; split at hv; exact hv; cases hv); (rw [hash_len _ _ _ HSL.out HPL.out]; omega); exact nums_one _ _;
              intro w2 hb2 hw2; rw [hash_part s part _ n0 q HSL.out HPL.out (by rw [HNL.out]; exact hm2), ← HP.out] at hb2;
              have d73 : w2.cell? ⟨g, 73, none⟩ = some (.int .i64 n0) := (by rw [hb2.cell]; simp [hashCells, nums_length, HSL.out, HPL2.out]); have f73 := hb2.frozen 73)
          | (apply st_from (i := m); exact Tryd.underlying22; kernel_rfl; rfl; rfl; exact hm1; intro A2 hA2; have HA2 := Lib.hid hA2; clear hA2))
        go_roundw
        case rel =>
          refine ⟨j + m, A2, c' - m, by rw [Nat.sub_sub], by omega, by omega, ?_, ?_, ?_, (hB.wrote hw2).set 73 _, ?_⟩
          · intro h0; rw [HA2.out] at h0; split at h0 <;> cases h0
          · have := Rd.from (i := m) HR'.out (c := c') (by rw [nums_length, List.length_drop]; exact hc')
            rw [← nums_drop, List.drop_drop] at this
            rw [HA2.out]
            exact this
          · intro _ a ha
            rw [HA2.out] at ha
            split at ha
            · injection ha with ha; rw [← ha]; exact hg2
            · simp only [Option.map_some, Option.some.injEq] at ha
              rw [← ha]; unfold Addr.add; split <;> exact hg2
          · refine ⟨s, part2, ?_, ?_⟩
            · have e3 : ((all ++ bs.take (j + m)).length : Int) = (n0 : Int) + (m : Int) := by
                rw [List.length_append, List.length_take]; have := HN0.out; rw [List.length_append, List.length_take] at this; omega
              rw [e3]
              rw [← hash_n s part2 n0 _ HSL.out HPL2.out]; exact hb2.set 73 _
            · rw [show all ++ bs.take (j + m) = (all ++ bs.take j) ++ (bs.drop j).take m by rw [List.append_assoc, ← List.take_add]]
              have := HH.out.short (new := (bs.drop j).take m) (by rw [HNL.out, ← HN0.out, HQ.out]; omega)
              rw [← HN0.out, HQ.out, ← HP.out] at this
              exact this
        case measure => simp [lenV]; omega
    · have e : bs.length - j = 0 := by omega
      have e2 : j = bs.length := by omega
      rw [e2, List.take_length] at hH
      clear e2
      go_wp2
      go_ret
      exact ⟨rfl, hB, hH⟩
end Add
section Sum
open Go.RowKit

theorem bytesF_len (l : List Int) : (bytesF l).length = 4 * l.length := by
  induction l with
  | nil => rfl
  | cons x l ih => simp [bytesF, ih, putF, putTo_len]; omega
theorem bytesF_append (l m : List Int) : bytesF (l ++ m) = bytesF l ++ bytesF m := by
  induction l with
  | nil => rfl
  | cons x l ih => simp [bytesF, ih]
/-- The answer's bytes when so many numbers are laid. -/
def bytesTo (s : List Int) (k : Nat) : List Int := bytesF (s.take k) ++ List.replicate (32 - 4 * k) 0
theorem bytesTo_len (s : List Int) (k : Nat) (hs : s.length = 8) (hk : k ≤ 8) : (bytesTo s k).length = 32 := by
  simp [bytesTo, bytesF_len, hs]; omega
theorem bytesTo_all (s : List Int) (hs : s.length = 8) : bytesTo s 8 = bytesF s := by
  simp [bytesTo, List.take_of_length_le (Nat.le_of_eq hs)]
theorem bytesTo_step (s : List Int) (k : Nat) (hs : s.length = 8) (hk : k < 8) : laid (nums .u8 (bytesTo s k)) (4 * k) (nums .u8 (putF (ga s k) 4)) = nums .u8 (bytesTo s (k + 1)) := by
  have e1 : s.take (k + 1) = s.take k ++ [ga s k] := by
    rw [List.take_add_one, List.getElem?_eq_getElem (by omega)]
    simp [ga, hs, hk]
  have e2 : (32 - 4 * k) = 4 + (32 - 4 * (k + 1)) := by omega
  have e3 : (bytesF (s.take k)).length = 4 * k := by simp [bytesF_len, hs]; omega
  unfold bytesTo
  rw [e1, bytesF_append, e2, ← List.replicate_append_replicate]
  have h4 : (putF (ga s k) 4).length = 4 := putTo_len _ _ _
  have := laid_mid (nums .u8 (bytesF (s.take k))) (nums .u8 (List.replicate 4 0)) (nums .u8 (List.replicate (32 - 4 * (k + 1)) 0)) (nums .u8 (putF (ga s k) 4)) 0 (4 * k) (by rw [nums_length, e3]) (by rw [nums_length, nums_length, h4]; simp)
  rw [laid_all _ _ (by rw [nums_length, nums_length, h4]; rfl)] at this
  simpa [nums, bytesF] using this
theorem putF_low (x : Int) : putF (x % 18446744073709551616) 4 = putF x 4 := by
  simp only [putF, putTo]
  apply List.map_congr_left
  intro j hj
  simp at hj
  obtain rfl | rfl | rfl | rfl : j = 0 ∨ j = 1 ∨ j = 2 ∨ j = 3 := by omega
  all_goals first | (simp; done) | (simp; omega)

/-- The cells of a hash that holds nothing. -/
def zeroHash : List Value := .bool false :: (nums .u32 (List.replicate 8 0) ++ nums .u8 (List.replicate 64 0) ++ [.int .i64 0])
theorem wpad (n : Nat) (h : n ≤ 549755813888) : IntKind.u64.wrap (n : Int) = n := by rw [wu]; omega

theorem Blk.copied {w w1 : World} {g : Nat} {cs z : List Value} {T Z : TypeId} {zs : Array Value} {o2 : Obj} (hb : Blk w g cs T) (hz : zs = z.toArray) (hw : Wrote ((w.alloc (.cells zs Z)).alloc o2) w1 (w.heap.size + 1)) :
    Blk w1 g cs T ∧ Below w.heap.size w w1 ∧ w1.heap.size = w.heap.size + 1 + 1 ∧ Blk w1 w.heap.size z Z :=
  ⟨hw.blk ((hb.alloc _).alloc _) (by have := hb.lt; omega), Wrote.below (((Below.refl _ _).alloc (Nat.le_refl _) _).alloc (by simp) _) hw (by omega), by rw [hw.size]; simp,
    hw.blk ((Blk.new' w _ _ _ w.heap.size hz rfl).alloc _) (by omega)⟩
theorem But.below' {g B C : Nat} {w w' : World} (h : But g B w w') (hB : C ≤ g) (hC : C ≤ B) : Below C w w' := ⟨h.os, h.tape, h.output, h.size, fun k hk => h.block k (by omega) (by omega)⟩
theorem Blk.butFar {g B h : Nat} {w w' : World} {cs : List Value} {T : TypeId} (hb : Blk w h cs T) (hB : But g B w w') (h1 : h < B) (h2 : h ≠ g) : Blk w' h cs T := by
  unfold Blk at hb ⊢; rw [hB.block h h1 h2]; exact hb
theorem run_index_num {P : Program} {t e : TypeId} {n : Nat} {d : TypeDesc} {kk : IntKind} (cs : List Value) (i : Nat) (v : Value) (ht : P.underlying t = some (.array n e)) (he : P.underlying e = some d) (hd : isRow d = false)
    (hs : (P.info? e).map (·.size) = some 1) (hi : i < n) (hv : cs[i]? = some v) (w : World) : (Instr.index t (.agg cs.toArray) (.int kk i)).run P w = .ok v w := by
  have hagg : (isAgg e).run P w = .ok false w := by
    unfold isAgg
    rw [Sem.run_bind, run_underlying he w]
    cases d <;> simp_all [isRow]
  cases hq : P.info? e with
  | none => simp [hq] at hs
  | some info =>
    have hs : info.size = 1 := by simpa [hq] using hs
    have h0 : (0 : Int) ≤ (i : Int) ∧ (i : Int) < (n : Int) := by omega
    simp [Instr.index, asIntOf, run_underlying ht, part, hagg, sizeOf, typeInfo, hq, hs, hv, hi]
set_option maxRecDepth 100000 in
set_option maxHeartbeats 2000000 in
set_option maxRecDepth 100000 in
theorem hsum_any (w : World) (g : Nat) (all : List Int) (h : IsHash w g all) (hl : all.length ≤ 549755813888) (hk : KV w) :
    Calls Tryd.prog 68 #[.pointer (some ⟨g, 0, none⟩)] w fun e w' => e = .returned (.agg (nums .u8 (sumF all)).toArray) ∧ Below w.heap.size w w' := by
  obtain ⟨s, part, hb, hh⟩ := h
  have hsl := hh.len
  have hpl := hh.size
  have hglt := hb.lt
  have c0 : w.cell? ⟨g, 0, none⟩ = some (.bool true) := by rw [hb.cell]; rfl
  obtain ⟨cs, hcs⟩ : ∃ cs, cs = hashCells s part all.length := ⟨_, rfl⟩
  have hcl : cs.length = 74 := by rw [hcs]; exact hash_len _ _ _ hsl hpl
  have hone : ∀ v ∈ cs, v.oneCell' = true := by
    intro v hv
    rw [hcs] at hv
    simp only [hashCells, List.mem_cons, List.mem_append, List.not_mem_nil, or_false] at hv
    rcases hv with rfl | (hv | hv) | rfl
    · rfl
    · exact nums_one _ _ v hv
    · exact nums_one _ _ v hv
    · rfl
  have hc73 : cs[73]? = some (.int .i64 all.length) := by
    rw [hcs]; simp [hashCells, nums_length, hsl, hpl]
  rw [← hcs] at hb
  have HCS := Lib.hid hcs
  have HH := Lib.hid hh
  have HCL := Lib.hid hcl
  have HK := Lib.hid hk
  have HL := Lib.hid hl
  have H73 := Lib.hid hc73
  clear hcs hh hcl hk hsl hpl hl hc73
  go_enter Tryd.func68, Tryd.ntmps68
  have hzero : ∀ w : World, (zeroValue 124).run Tryd.prog w = .ok (.agg zeroHash.toArray) w := fun w => by kernel_rfl
  go_wp2_with (first
    | (apply st_load (n := 74) (cs := cs) (T := 124); rfl; exact hb.alloc _; exact Tryd.underlying124; rfl; kernel_rfl; (rw [HCL.out]; exact Nat.le_refl _); exact row_all _ _ HCL.out)
    | (apply st_load (n := 8) (off := 1) (cs := hashCells s3 part3 N) (T := 124); rfl; exact hb3.alloc _; exact Tryd.underlying91; rfl; kernel_rfl; (rw [hash_len _ _ _ HS3.out HP3.out]; omega); exact hash_get_s _ _ _ HS3.out)
    | (apply st_storeW (off := 0) (vs := cs) (cs := zeroHash) (T := 124); rfl; rfl; exact Blk.new' _ _ _ _ _ rfl (World.size_alloc _ _).symm; (rw [HCL.out]; kernel_rfl); (rw [HCL.out]; exact Nat.le_refl _); exact hone;
       intro w1 hc1 hw1; rw [laid_all _ _ (by rw [HCL.out]; rfl)] at hc1;
       obtain ⟨hg1, hB1, hz1, hr1⟩ := hb.copied (z := nums .u8 (List.replicate 32 0)) (Z := 24) rfl hw1;
       have c73 : w1.cell? ⟨g, 73, none⟩ = some (.int .i64 all.length) := (by rw [hg1.cell, H73.out]))
    | (rw [wpad _ HL.out]; go_at_call 90; refine (pad_any _ all.length (by omega) (by have := HL.out; omega)).mono ?_; rintro e w2 ⟨v2, rfl, hb2, ho2⟩;
       obtain ⟨A, c, rfl, hc, hA, hR, hAb⟩ := ho2.from;
       have hH2 : IsHash w2 (w.heap.size + 1) all := (by rw [HCS.out] at hc1; exact IsHash.up ⟨s, part, hc1, HH.out⟩ hb2);
       have hB2 := hB1.trans (hb2.mono (by omega)))
    | (go_at_call 66; refine (add_any w2 (w.heap.size + 1) all (padF all.length) A c hH2 hR hc hA (fun _ a ha => (by have := hAb a ha; omega)) (by rw [padF_len]; have := HL.out; have : noughts all.length < 64 := (by unfold noughts; omega); omega) (HK.out.below hB2 HK.out.lt)).mono ?_;
       rintro e w3 ⟨rfl, hBut3, s3, part3, hb3, hh3⟩;
       have hB3 : Below w.heap.size w w3 := hB2.trans (hBut3.below' (by omega) (by have := hb2.size; omega));
       have hr3 : Blk w3 w.heap.size (nums .u8 (List.replicate 32 0)) 24 := (hr1.up hb2).butFar hBut3 (by have := hb2.size; omega) (by omega);
       obtain ⟨N, hN⟩ : ∃ N : Int, N = ((all ++ padF all.length).length : Int) := ⟨_, rfl⟩;
       rw [← hN] at hb3;
       have HS3 := Lib.hid hh3.len; have HP3 := Lib.hid hh3.size; have HH3 := Lib.hid hh3; clear hh3 hN))
  clear hb2 ho2 hb hc1 hw1 hBut3 hH2 hR hAb hB2 hB1 hr1
  have hb4 := hb3.alloc (.cells (nums .u8 (List.replicate 32 0)).toArray 24)
  have hB4 : Below w.heap.size w (w3.alloc (.cells (nums .u8 (List.replicate 32 0)).toArray 24)) := hB3.alloc hB3.size _
  have hr4 := hr3.alloc (.cells (nums .u8 (List.replicate 32 0)).toArray 24)
  have hn4 : Blk (w3.alloc (.cells (nums .u8 (List.replicate 32 0)).toArray 24)) w3.heap.size (nums .u8 (bytesTo s3 0)) 24 := Blk.new' _ _ _ _ _ rfl rfl
  have hrlt := hr3.lt
  have hrlt2 := hB3.size
  clear hb3 hr3 hb4
  go_loopw [29] (fun i wr => ∃ k : Nat, i = .int .i64 k ∧ k ≤ 8 ∧ Below w.heap.size w wr ∧ Blk wr w.heap.size (nums .u8 (List.replicate 32 0)) 24 ∧ Blk wr w3.heap.size (nums .u8 (bytesTo s3 k)) 24) (fun i _ => 8 - (intOf i).toNat)
  case atStart => exact ⟨0, rfl, by omega, hB4, hr4, hn4⟩
  case round =>
    clear hB4 hr4 hn4
    obtain ⟨k, rfl, hk, hB, hr, hn⟩ := hrel
    by_cases hlt : k < 8
    · have hidx := run_index_num (P := Tryd.prog) (kk := .i64) (nums .u32 s3) k _ Tryd.underlying91 Tryd.underlying90 rfl (by kernel_rfl) hlt (nums_at .u32 s3 k (by rw [HS3.out]; exact hlt))
      rw [← ga_eq] at hidx
      go_wp2
      clear hidx
      refine wp_region_C (Same [w3.heap.size] wr) [5, 6] (by kernel_rfl) (by kernel_rfl) (by intro c a w h; first | (obtain ⟨_, h, _⟩ := h; cases h; done) | (obtain ⟨_, _, h, _⟩ := h; cases h; done) | (obtain ⟨_, _, _, h, _⟩ := h; cases h; done) | (obtain ⟨_, _, _, _, h, _⟩ := h; cases h; done) | (rcases h with ⟨_, ⟨_, _, _, _, h, _⟩ | ⟨_, _, _, _, h, _⟩⟩ <;> cases h; done)) (by intro a w h; first | (obtain ⟨h, _⟩ := h; cases h; done) | (obtain ⟨_, h, _⟩ := h; cases h; done) | (obtain ⟨_, _, h, _⟩ := h; cases h; done) | (obtain ⟨_, _, _, h, _⟩ := h; cases h; done) | (rcases h with ⟨_, _, _, _, h, _⟩ | ⟨_, _, _, _, h, _⟩ <;> cases h; done)) (Same.refl _ _) ?_
      repeat (refine wd_w (v := ?_) rfl rfl rfl rfl rfl rfl (fun w' hw' K hK => ?_) ?_; rotate_left; (skip; go_wp2_with ((apply st_fromArr (i := 4 * k); exact Tryd.underlying24; kernel_rfl; rfl; rfl; omega; omega)); exact rfl); simp only [Act.put, List.setIfInBounds_toArray, List.set_cons_zero, List.set_cons_succ])
      refine wd_l rfl rfl (by intro a w h; first | (obtain ⟨h, _⟩ := h; cases h; done) | (obtain ⟨_, h, _⟩ := h; cases h; done) | (obtain ⟨_, _, h, _⟩ := h; cases h; done) | (obtain ⟨_, _, _, h, _⟩ := h; cases h; done) | (rcases h with ⟨_, _, _, _, h, _⟩ | ⟨_, _, _, _, h, _⟩ <;> cases h; done)) ?_
      go_wp2_with (go_at_call 41; refine (put4_any _ (IntKind.u64.wrap (ga s3 k)) (by rw [wu]; omega) (by rw [wu]; omega)).mono ?_; rintro e w4 ⟨rfl, hb4, hblk4⟩)
      replace hb4 : Below wr.heap.size wr w4 := ⟨hb4.os, hb4.tape, hb4.output, hb4.size, hb4.block⟩
      rw [wu, putF_low] at hblk4
      replace hblk4 : Blk w4 wr.heap.size (nums .u8 (putF (ga s3 k) 4)) 5 := hblk4
      refine ⟨.inr ((Same.refl _ _).below hb4 (by simp; exact hn.lt)), ?_⟩
      refine wd_last rfl (by kernel_rfl) rfl (by intro a w h; first | (obtain ⟨h, _⟩ := h; cases h; done) | (obtain ⟨_, h, _⟩ := h; cases h; done) | (obtain ⟨_, _, h, _⟩ := h; cases h; done) | (obtain ⟨_, _, _, h, _⟩ := h; cases h; done) | (rcases h with ⟨_, _, _, _, h, _⟩ | ⟨_, _, _, _, h, _⟩ <;> cases h; done)) ?_
      have hp4 : (putF (ga s3 k) 4).length = 4 := putTo_len _ _ _
      go_wp2_with (apply st_copyW (m := 4) (cs := nums .u8 (putF (ga s3 k) 4)) (cur := nums .u8 (bytesTo s3 k)) (T := 24); exact Tryd.underlying22; kernel_rfl; rfl; rfl; exact hn.up hb4; (rw [nums_length, hp4]); (have h4 : 4 ≤ 32 - 4 * k := (by omega); exact (Nat.min_eq_left h4).symm); (intro i v hv; rw [Nat.zero_add, hblk4.cell]; exact hv); (rw [nums_length, bytesTo_len _ _ HS3.out hk]; omega); exact nums_one _ _; intro w5 hn5 hw5)
      rw [bytesTo_step _ _ HS3.out hlt] at hn5
      go_roundw
      case rel =>
        exact ⟨k + 1, by go_num, by omega, Wrote.below (hB.trans (hb4.mono hB.size)) hw5 hrlt2, hw5.blk (hr.up hb4) (by omega), hn5⟩
      case measure => simp [intOf]; omega
    · have e8 : k = 8 := by omega
      rw [e8] at hn
      clear e8
      have hl8 := bytesTo_len s3 8 HS3.out (Nat.le_refl _)
      obtain ⟨v8, hv8⟩ : ∃ v8, v8 = bytesTo s3 8 := ⟨_, rfl⟩
      rw [← hv8] at hn hl8
      have HV8 := Lib.hid hv8
      have HL8 := Lib.hid hl8
      clear hv8 hl8
      go_wp2_with (first
        | (apply st_load (n := 32) (cs := nums .u8 v8) (T := 24); rfl; exact hn; exact Tryd.underlying24; rfl; kernel_rfl; (rw [nums_length, HL8.out]; exact Nat.le_refl _); (exact row_all _ _ (by rw [nums_length, HL8.out])))
        | (apply st_store (off := 0) (cs := nums .u8 (List.replicate 32 0)) (T := 24); rfl; rfl; exact hr; (rw [nums_length, HL8.out]; kernel_rfl); (rw [nums_length, HL8.out]; exact Nat.le_refl _); (exact nums_one _ _)))
      refine bodyPost_ret (ret_row rfl _ _ _ (nums .u8 v8) 24 _ rfl ?_ Tryd.underlying24 rfl (by rw [nums_length, HL8.out]; kernel_rfl)) rfl ⟨?_, ?_⟩
      · exact Blk.row' hr _ _ (by rw [laid_all _ _ (by rw [nums_length, HL8.out]; rfl)])
      · rw [HV8.out, bytesTo_all _ HS3.out, HH3.out.chain, sumF, List.length_append, padF_len]
      · exact below_setRow hB (Nat.le_refl _) _
theorem sumF_len (all : List Int) : (sumF all).length = 32 := by
  rw [sumF, bytesF_len, chainF_len]

set_option maxRecDepth 100000 in
set_option maxHeartbeats 1000000 in
theorem sum_any (w : World) (bs : List Int) (A : Option Addr) (c : Nat) (hr : Rd w A (nums .u8 bs)) (hc : bs.length ≤ c) (hA : A = none → c = 0) (hl : bs.length ≤ 549755813888) (hk : KV w) :
    Calls Tryd.prog 72 #[.slice A bs.length c] w fun e w' => e = .returned (.agg (nums .u8 (sumF bs)).toArray) ∧ Below w.heap.size w w' := by
  have HR := Lib.hid hr
  have HK := Lib.hid hk
  have HL := Lib.hid hl
  have HC := Lib.hid hA
  clear hr hk hl hA
  go_enter Tryd.func72, Tryd.ntmps72
  have hB0 : Below w.heap.size w (w.alloc (.cells (nums .u8 (List.replicate 32 0)).toArray 24)) := (Below.refl _ _).alloc (Nat.le_refl _) _
  have hr0 : Blk (w.alloc (.cells (nums .u8 (List.replicate 32 0)).toArray 24)) w.heap.size (nums .u8 (List.replicate 32 0)) 24 := Blk.new' _ _ _ _ _ rfl rfl
  have hz0 : (w.alloc (.cells (nums .u8 (List.replicate 32 0)).toArray 24)).heap.size = w.heap.size + 1 := World.size_alloc _ _
  go_wp2_with (first
    | (go_at_call 65; refine (new_any _).mono ?_; rintro e w1 ⟨g, rfl, hg1, hb1, hH1⟩; rw [World.size_alloc] at hg1;
       have hB1 := hB0.trans (hb1.mono (by rw [World.size_alloc]; omega));
       have hr1 := hr0.up hb1)
    | (go_at_call 66; refine (add_any w1 g [] bs A c hH1 (HR.out.up hB1) hc HC.out (fun hp a ha => (by have := HR.out.lt (by rw [nums_length]; exact hp) a ha; omega)) (by have := HL.out; simp; omega) (HK.out.below hB1 HK.out.lt)).mono ?_;
       rintro e w2 ⟨rfl, hBut2, hH2⟩; rw [List.nil_append] at hH2;
       have hB2 := hB1.trans (hBut2.below' (C := w.heap.size) (by omega) hB1.size);
       have hr2 := hr1.butFar hBut2 hr1.lt (by omega))
    | (go_at_call 68; refine (hsum_any w2 g bs hH2 HL.out (HK.out.below hB2 HK.out.lt)).mono ?_;
       rintro e w3 ⟨rfl, hb3⟩;
       have hB3 := hB2.trans (hb3.mono hB2.size);
       have hr3 := hr2.up hb3)
    | (apply st_storeW (off := 0) (cs := nums .u8 (List.replicate 32 0)) (vs := nums .u8 (sumF bs)) (T := 24); rfl; rfl; exact hr3; (rw [nums_length, sumF_len]; kernel_rfl); (rw [nums_length, sumF_len]; exact Nat.le_refl _); (exact nums_one _ _);
       intro w4 hr4 hw4))
  refine bodyPost_ret (ret_row rfl _ _ _ (nums .u8 (sumF bs)) 24 _ rfl ?_ Tryd.underlying24 rfl (by rw [nums_length, sumF_len]; kernel_rfl)) rfl ⟨rfl, Wrote.below hB3 hw4 (Nat.le_refl _)⟩
  rw [laid_all _ _ (by rw [nums_length, sumF_len]; rfl)] at hr4
  exact hr4
end Sum
end Go.Proofs.YtancldhincaphaaDoor
