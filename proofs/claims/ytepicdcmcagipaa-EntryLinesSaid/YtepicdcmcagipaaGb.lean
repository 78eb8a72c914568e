/- Words and small laws on rows of cells, slices and bytes that came in, for a seat without sha. No condition. Two rules more for a region whose order is open: a guarded operation that may turn the world; a pick. No condition. A rule more for a region whose order is open: a quiet operation with a guard that is met, run as the walk runs it. No condition. Results that lie in rows: one row and a slot, two rows and a slot. No condition. Slices in memory of the call's own whose elements are one cell each: grown by append, read. No condition. Entries as numbers and lists: how they are written, how read, by the program's way and by the document's. No program in sight, no condition. -/
import Derived.Test.YtepicdcmcagipaaGa
import Derived.Laws.BytesArg
import Derived.Laws.ResultCell
import Derived.Maps.AppendAt
namespace Go.Proofs.Ytepicdcmcagipaa
section ByN
open Go.RowKit
section
variable {P : Program} {ops : Array Oper} {Q : Exit → Act → World → Prop} {rest : List Oper} {a : Act} {w : World}
/-- A struct built of parts. -/
theorem st_build {d' : Option Tmp} {tt t : TypeId} {parts : Array (Nat × Operand)} {ps : Array (Nat × Value)} {pos : String} {after : Array Edge} {r : Array Value}
    (hp : (parts.map fun p => (p.1, a.eval p.2)) = ps) (hr : (Instr.build t ps).run P w = .ok (.agg r) w)
    (h : wpList P ops Q rest (a.put d' (.agg r)) w) : wpList P ops Q (⟨d', .build t parts, tt, pos, after, none⟩ :: rest) a w :=
  wpList_plain rfl fun K hK => by
    unfold Oper.wp execOp
    simp only [Sem.run_bind]
    rw [show (parts.map fun x => match x with | (i, x) => (i, a.eval x)) = ps from hp, hr]
    exact hK _ _ h
/-- A copy of bytes into a row. -/
theorem st_copy {d' : Option Tmp} {tt dT sT elem : TypeId} {d s : Operand} {pos : String} {after : Array Edge} {g off dLen dCap g2 off2 sLen sCap : Nat} {cur cs : List Value} {T : TypeId}
    (hu : P.underlying dT = some (.slice elem)) (hsz : (P.info? elem).map (·.size) = some 1)
    (hd : a.eval d = .slice (some ⟨g, off, none⟩) dLen dCap) (hs : a.eval s = .slice (some ⟨g2, off2, none⟩) sLen sCap) (hg : Blk w g cur T) (hn : cs.length = Nat.min sLen dLen)
    (hsrc : ∀ j v, cs[j]? = some v → w.cell? ⟨g2, off2 + j, none⟩ = some v) (hfit : off + cs.length ≤ cur.length) (h1 : ∀ v ∈ cs, v.oneCell' = true)
    (h : wpList P ops Q rest (a.put d' (.int .i64 cs.length)) (w.setRow g (laid cur off cs).toArray)) : wpList P ops Q (⟨d', .call ⟨.builtin .copy, #[d, s], #[dT, sT]⟩, tt, pos, after, none⟩ :: rest) a w := by
  refine wpList_copy_own rfl d s dT sT rfl elem hu hsz g off dLen dCap ⟨g2, off2, none⟩ sLen sCap hd hs cur.toArray T hg cs hn (fun j v hv => ?_) (by simpa using hfit) h1 ?_
  · have : (⟨g2, off2, none⟩ : Addr).add j = ⟨g2, off2 + j, none⟩ := by unfold Addr.add; split <;> simp_all
    rw [this]; exact hsrc j v hv
  · simpa [laid, goInt] using h
theorem nums_drop (k : IntKind) (xs : List Int) (n : Nat) : nums k (xs.drop n) = (nums k xs).drop n := by simp [nums, List.map_drop]
/-- One row was written, nothing else. -/
structure Wrote (w w' : World) (g : Nat) : Prop where
  os : w'.os = w.os
  tape : w'.tape = w.tape
  output : w'.output = w.output
  size : w'.heap.size = w.heap.size
  far : ∀ k, k ≠ g → w'.heap[k]? = w.heap[k]?
theorem Wrote.row (w : World) (g : Nat) (r : Array Value) : Wrote w (w.setRow g r) g := ⟨rfl, rfl, rfl, by simp, fun k hk => setRow_other w g k r hk⟩
theorem Wrote.blk {w w' : World} {g k : Nat} {cs : List Value} {T : TypeId} (h : Wrote w w' g) (hb : Blk w k cs T) (hne : k ≠ g) : Blk w' k cs T := by
  unfold Blk at hb ⊢; rw [h.far k hne]; exact hb
theorem Wrote.cell {w w' : World} {g k j : Nat} (h : Wrote w w' g) (hne : k ≠ g) : w'.cell? ⟨k, j, none⟩ = w.cell? ⟨k, j, none⟩ := World.cell?_of_block (w := w) (h.far k hne)
theorem Wrote.below {B g : Nat} {w w' w'' : World} (h : Below B w w') (hw : Wrote w' w'' g) (hB : B ≤ g) : Below B w w'' :=
  h.trans ⟨hw.os, hw.tape, hw.output, by rw [hw.size]; exact Nat.le_refl _, fun k hk => hw.far k (by omega)⟩
/-- A copy of bytes into a row; the world behind it by a name. -/
theorem st_copyW {d' : Option Tmp} {tt dT sT elem : TypeId} {d s : Operand} {pos : String} {after : Array Edge} {g off dLen dCap g2 off2 sLen sCap m : Nat} {cur cs : List Value} {T : TypeId}
    (hu : P.underlying dT = some (.slice elem)) (hsz : (P.info? elem).map (·.size) = some 1)
    (hd : a.eval d = .slice (some ⟨g, off, none⟩) dLen dCap) (hs : a.eval s = .slice (some ⟨g2, off2, none⟩) sLen sCap) (hg : Blk w g cur T) (hm : cs.length = m) (hn : m = Nat.min sLen dLen)
    (hsrc : ∀ j v, cs[j]? = some v → w.cell? ⟨g2, off2 + j, none⟩ = some v) (hfit : off + m ≤ cur.length) (h1 : ∀ v ∈ cs, v.oneCell' = true)
    (h : ∀ w', Blk w' g (laid cur off cs) T → Wrote w w' g → wpList P ops Q rest (a.put d' (.int .i64 m)) w') : wpList P ops Q (⟨d', .call ⟨.builtin .copy, #[d, s], #[dT, sT]⟩, tt, pos, after, none⟩ :: rest) a w := by
  subst hm
  exact st_copy hu hsz hd hs hg hn hsrc hfit h1 (h _ (hg.row _) (Wrote.row _ _ _))
theorem st_storeW {ty tt : TypeId} {x y : Operand} {pos : String} {after : Array Edge} {g off : Nat} {vs cs : List Value} {T : TypeId}
    (hx : a.eval x = .pointer (some ⟨g, off, none⟩)) (hy : a.eval y = .agg vs.toArray) (hg : Blk w g cs T)
    (hi : (P.info? ty).map (·.size) = some vs.length) (hle : off + vs.length ≤ cs.length) (h1 : ∀ v ∈ vs, v.oneCell' = true)
    (h : ∀ w', Blk w' g (laid cs off vs) T → Wrote w w' g → wpList P ops Q rest a w') : wpList P ops Q (⟨none, .store ty x y, tt, pos, after, none⟩ :: rest) a w :=
  st_store hx hy hg hi hle h1 (h _ (hg.row _) (Wrote.row _ _ _))
/-- x[i:] of a slice of elements of one cell. -/
theorem st_from {d' : Option Tmp} {tt t e : TypeId} {x lo : Operand} {pos : String} {after : Array Edge} {A : Option Addr} {n c i : Nat} {k : IntKind}
    (hu : P.underlying t = some (.slice e)) (hsz : (P.info? e).map (·.size) = some 1) (hx : a.eval x = .slice A n c) (hlo : a.eval lo = .int k i) (hi : i ≤ n)
    (h : ∀ A2, A2 = (if c = i then A else A.map (·.add i)) → wpList P ops Q rest (a.put d' (.slice A2 (n - i) (c - i))) w) :
    wpList P ops Q (⟨d', .slice t x (some lo) none none, tt, pos, after, none⟩ :: rest) a w :=
  wpList_plain rfl fun K hK => by
    have hrun : (Instr.sliceAt t (.slice A n c) (some (.int k i)) none none).run P w = .ok (.slice (if c = i then A else A.map (·.add i)) (n - i) (c - i)) w := by
      cases hq : P.info? e with
      | none => simp [hq] at hsz
      | some info =>
        have hs : info.size = 1 := by simpa [hq] using hsz
        simp [Instr.sliceAt, run_underlying hu, Instr.slice, Instr.sliceBounds, Instr.sliceBound, asIntOf, sizeOf, typeInfo, hq, hs, hi]
    unfold Oper.wp execOp
    simp only [Sem.run_bind, hx, Option.map_some, Option.map_none, hlo, hrun]
    exact hK _ _ (h _ rfl)
/-- x[i:] of an array of elements of one cell, in memory. -/
theorem st_fromArr {d' : Option Tmp} {tt t e : TypeId} {x lo : Operand} {pos : String} {after : Array Edge} {g off n i : Nat} {k : IntKind} {z : Int}
    (hu : P.underlying t = some (.array n e)) (hsz : (P.info? e).map (·.size) = some 1) (hx : a.eval x = .pointer (some ⟨g, off, none⟩)) (hlo : a.eval lo = .int k z) (hz : z = i) (hi : i < n)
    (h : wpList P ops Q rest (a.put d' (.slice (some ⟨g, off + i, none⟩) (n - i) (n - i))) w) :
    wpList P ops Q (⟨d', .slice t x (some lo) none none, tt, pos, after, none⟩ :: rest) a w :=
  wpList_plain rfl fun K hK => by
    subst hz
    have hrun : (Instr.sliceAt t (.pointer (some ⟨g, off, none⟩)) (some (.int k i)) none none).run P w = .ok (.slice (some ⟨g, off + i, none⟩) (n - i) (n - i)) w := by
      cases hq : P.info? e with
      | none => simp [hq] at hsz
      | some info =>
        have hs : info.size = 1 := by simpa [hq] using hsz
        have hi' : i ≤ n := by omega
        have hne : ¬ n = i := by omega
        have hadd : (⟨g, off, none⟩ : Addr).add i = ⟨g, off + i, none⟩ := by unfold Addr.add; split <;> simp_all
        simp [Instr.sliceAt, run_underlying hu, Instr.sureAddr, Instr.sliceBounds, Instr.sliceBound, asIntOf, sizeOf, typeInfo, hq, hs, hi', hne, hadd]
    unfold Oper.wp execOp
    simp only [Sem.run_bind, hx, Option.map_some, Option.map_none, hlo, hrun]
    exact hK _ _ h
theorem Rd.from {w : World} {A : Option Addr} {cs : List Value} {c i : Nat} (h : Rd w A cs) (hc : cs.length ≤ c) : Rd w (if c = i then A else A.map (·.add i)) (cs.drop i) := by
  by_cases e : c = i
  · rw [if_pos e, List.drop_of_length_le (by omega)]; exact Rd.nil _ _
  · rw [if_neg e]
    rcases h with h | ⟨g, off, rfl, hr⟩
    · subst h; rw [List.drop_nil]; exact Rd.nil _ _
    · refine .inr ⟨g, off + i, ?_, fun j v hv => ?_⟩
      · simp only [Option.map_some, Option.some.injEq]; unfold Addr.add; split <;> simp_all
      · rw [List.getElem?_drop] at hv
        have := hr (i + j) v hv
        rwa [← Nat.add_assoc] at this
def U8 (l : List Int) : Prop := ∀ i, 0 ≤ ga l i ∧ ga l i < 256
theorem ga_append_left (l m : List Int) (i : Nat) (h : i < l.length) : ga (l ++ m) i = ga l i := by
  unfold ga; rw [List.getD_eq_getElem?_getD, List.getD_eq_getElem?_getD, List.getElem?_append_left h]
theorem ga_out (l : List Int) (i : Nat) (h : l.length ≤ i) : ga l i = 0 := by
  unfold ga; rw [List.getD_eq_getElem?_getD, List.getElem?_eq_none h]; rfl
/-- x[lo:hi] of an array of elements of one cell, in memory. -/
theorem st_cutArr {P : Program} {ops : Array Oper} {Q : Exit → Act → World → Prop} {rest : List Oper} {a : Act} {w : World} {d' : Option Tmp} {tt t e : TypeId} {x lo hi : Operand} {pos : String} {after : Array Edge} {g off n i j : Nat} {k k2 : IntKind} {z y : Int}
    (hu : P.underlying t = some (.array n e)) (hsz : (P.info? e).map (·.size) = some 1) (hx : a.eval x = .pointer (some ⟨g, off, none⟩)) (hlo : a.eval lo = .int k z) (hhi : a.eval hi = .int k2 y) (hz : z = i) (hy : y = j) (hi1 : i < n) (hi2 : i ≤ j) (hi3 : j ≤ n)
    (h : wpList P ops Q rest (a.put d' (.slice (some ⟨g, off + i, none⟩) (j - i) (n - i))) w) :
    wpList P ops Q (⟨d', .slice t x (some lo) (some hi) none, tt, pos, after, none⟩ :: rest) a w :=
  wpList_plain rfl fun K hK => by
    subst hz hy
    have hrun : (Instr.sliceAt t (.pointer (some ⟨g, off, none⟩)) (some (.int k i)) (some (.int k2 j)) none).run P w = .ok (.slice (some ⟨g, off + i, none⟩) (j - i) (n - i)) w := by
      cases hq : P.info? e with
      | none => simp [hq] at hsz
      | some info =>
        have hs : info.size = 1 := by simpa [hq] using hsz
        have hne : ¬ n = i := by omega
        have hadd : (⟨g, off, none⟩ : Addr).add i = ⟨g, off + i, none⟩ := by unfold Addr.add; split <;> simp_all
        simp [Instr.sliceAt, run_underlying hu, Instr.sureAddr, Instr.sliceBounds, Instr.sliceBound, asIntOf, sizeOf, typeInfo, hq, hs, hi2, hi3, hne, hadd]
    unfold Oper.wp execOp
    simp only [Sem.run_bind, hx, Option.map_some, Option.map_none, hlo, hhi, hrun]
    exact hK _ _ h
theorem ga_take (l : List Int) (n i : Nat) (h : i < n) : ga (l.take n) i = ga l i := by
  unfold ga; rw [List.getD_eq_getElem?_getD, List.getD_eq_getElem?_getD, List.getElem?_take_of_lt h]
theorem ga_drop (l : List Int) (n i : Nat) : ga (l.drop n) i = ga l (n + i) := by
  unfold ga; rw [List.getD_eq_getElem?_getD, List.getD_eq_getElem?_getD, List.getElem?_drop]
theorem U8.part {l : List Int} (h : U8 l) (n m : Nat) : U8 ((l.drop n).take m) := by
  intro i
  by_cases hi : i < m
  · rw [ga_take _ _ _ hi, ga_drop]; exact h _
  · rw [ga_out _ _ (by simp; omega)]; omega
theorem named_world {P : Program} {c : Code} {Q : Exit → Act → World → Prop} {a : Act} {w0 : World} (h : ∀ w', w' = w0 → c.wp P Q a w') : c.wp P Q a w0 := h _ rfl
theorem U8.append {l m : List Int} (h : U8 l) (h2 : U8 m) : U8 (l ++ m) := by
  intro i
  by_cases hi : i < l.length
  · rw [ga_append_left _ _ _ hi]; exact h i
  · have : ga (l ++ m) i = ga m (i - l.length) := by
      unfold ga; rw [List.getD_eq_getElem?_getD, List.getD_eq_getElem?_getD, List.getElem?_append_right (by omega)]
    rw [this]; exact h2 _
theorem U8.of {l : List Int} (h : ∀ x ∈ l, 0 ≤ x ∧ x < 256) : U8 l := by
  intro i
  by_cases hi : i < l.length
  · have : ga l i = l[i] := by unfold ga; simp [hi]
    rw [this]; exact h _ (List.getElem_mem hi)
  · rw [ga_out _ _ (by omega)]; omega
theorem Rd.take {w : World} {A : Option Addr} {cs : List Value} (h : Rd w A cs) (n : Nat) : Rd w A (cs.take n) := by
  rcases h with h | ⟨g, off, rfl, hc⟩
  · subst h; rw [List.take_nil]; exact Rd.nil _ _
  · refine .inr ⟨g, off, rfl, fun j v hv => hc j v ?_⟩
    rw [List.getElem?_take] at hv
    split at hv
    · exact hv
    · cases hv
theorem nums_take (k : IntKind) (xs : List Int) (n : Nat) : nums k (xs.take n) = (nums k xs).take n := by simp [nums, List.map_take]
theorem U8.take {l : List Int} (h : U8 l) (n : Nat) : U8 (l.take n) := by
  have := h.part 0 n
  simpa using this
theorem Own.blk {w : World} {base : Nat} {v : Value} {bs : List Int} (h : Own w base v bs) (hl : 0 < bs.length) : ∃ g cap cur, v = .slice (some ⟨g, 0, none⟩) bs.length cap ∧ base ≤ g ∧ Blk w g cur 5 ∧ bs.length ≤ cur.length ∧ bs.length ≤ cap ∧ Rd w (some ⟨g, 0, none⟩) (nums .u8 bs) := by
  obtain ⟨A, c, h1, h2, h3, h4, _⟩ := h.from
  obtain ⟨hl2, h | ⟨g, cap, cur, hv, hg, hh, hn, hm, hsz, ht⟩⟩ := h
  · omega
  · have hA : A = some ⟨g, 0, none⟩ := by rw [h1] at hv; injection hv
    refine ⟨g, cap, cur.toList, hv, hg, by unfold Blk; simpa using hh, ?_, hn, by rw [← hA]; exact h4⟩
    have := congrArg List.length ht
    rw [List.length_take, nums_length] at this
    omega
theorem Own.lt {w : World} {base : Nat} {v : Value} {bs : List Int} (h : Own w base v bs) (k : Nat) (hk : v.ownBlock = some k) : base ≤ k ∧ k < w.heap.size := World.ownsRow.lt h k hk
/-- The call's own row, where its block is as it was. -/
theorem Own.same {w w' : World} {base : Nat} {v : Value} {bs : List Int} (h : Own w base v bs) (hs : ∀ k, base ≤ k → k < w.heap.size → w'.heap[k]? = w.heap[k]?) : Own w' base v bs := by
  obtain ⟨hl, h | ⟨g, cap, cur, hv, hg, hh, r⟩⟩ := h
  · exact ⟨hl, .inl h⟩
  · exact ⟨hl, .inr ⟨g, cap, cur, hv, hg, (hs g hg (Array.getElem?_eq_some_iff.1 hh).1).trans hh, r⟩⟩
theorem U8.nil : U8 [] := fun i => by rw [ga_out _ _ (by simp)]; omega
/-- At this address rows of bytes are read. -/
def RdS (w : World) (A : Option Addr) (ls : List (List Int)) : Prop := ls = [] ∨ ∃ g off, A = some ⟨g, off, none⟩ ∧ ∀ j l, ls[j]? = some l → ∃ Aj cj, w.cell? ⟨g, off + j, none⟩ = some (.slice Aj l.length cj) ∧ l.length ≤ cj ∧ (Aj = none → cj = 0) ∧ Rd w Aj (nums .u8 l) ∧ U8 l
theorem RdS.take {w : World} {A : Option Addr} {ls : List (List Int)} (h : RdS w A ls) (n : Nat) : RdS w A (ls.take n) := by
  rcases h with h | ⟨g, off, rfl, hc⟩
  · subst h; rw [List.take_nil]; exact .inl rfl
  · refine .inr ⟨g, off, rfl, fun j l hl => hc j l ?_⟩
    rw [List.getElem?_take] at hl
    split at hl
    · exact hl
    · cases hl
/-- x[i:] of a slice of elements of one cell, somewhere ahead of its end. -/
theorem st_fromLt {P : Program} {ops : Array Oper} {Q : Exit → Act → World → Prop} {rest : List Oper} {a : Act} {w : World} {d' : Option Tmp} {tt t e : TypeId} {x lo : Operand} {pos : String} {after : Array Edge} {g off n c i : Nat} {k : IntKind} {z : Int}
    (hu : P.underlying t = some (.slice e)) (hsz : (P.info? e).map (·.size) = some 1) (hx : a.eval x = .slice (some ⟨g, off, none⟩) n c) (hlo : a.eval lo = .int k z) (hz : z = i) (hi : i ≤ n) (hc : i < c)
    (h : wpList P ops Q rest (a.put d' (.slice (some ⟨g, off + i, none⟩) (n - i) (c - i))) w) :
    wpList P ops Q (⟨d', .slice t x (some lo) none none, tt, pos, after, none⟩ :: rest) a w := by
  subst hz
  refine st_from hu hsz hx hlo hi fun A2 hA2 => ?_
  have e : A2 = some ⟨g, off + i, none⟩ := by
    rw [hA2, if_neg (by omega)]
    simp only [Option.map_some, Option.some.injEq]; unfold Addr.add; split <;> simp_all
  rw [e]; exact h
/-- x[:] of an array in memory. -/
theorem st_allArr {P : Program} {ops : Array Oper} {Q : Exit → Act → World → Prop} {rest : List Oper} {a : Act} {w : World} {d' : Option Tmp} {tt t e : TypeId} {x : Operand} {pos : String} {after : Array Edge} {g off n : Nat}
    (hu : P.underlying t = some (.array n e)) (hsz : (P.info? e).map (·.size) = some 1) (hx : a.eval x = .pointer (some ⟨g, off, none⟩))
    (h : wpList P ops Q rest (a.put d' (.slice (some ⟨g, off, none⟩) n n)) w) :
    wpList P ops Q (⟨d', .slice t x none none none, tt, pos, after, none⟩ :: rest) a w :=
  wpList_plain rfl fun K hK => by
    have hrun : (Instr.sliceAt t (.pointer (some ⟨g, off, none⟩)) none none none).run P w = .ok (.slice (some ⟨g, off, none⟩) n n) w := by
      cases hq : P.info? e with
      | none => simp [hq] at hsz
      | some info =>
        have hadd : (⟨g, off, none⟩ : Addr).add 0 = ⟨g, off, none⟩ := by unfold Addr.add; split <;> simp_all
        simp [Instr.sliceAt, run_underlying hu, Instr.sureAddr, Instr.sliceBounds, sizeOf, typeInfo, hq, hadd]
    unfold Oper.wp execOp
    simp only [Sem.run_bind, hx, Option.map_none, hrun]
    exact hK _ _ h
/-- x[:j] of an array in memory. -/
theorem st_hiArr {d' : Option Tmp} {tt t e : TypeId} {x hi : Operand} {pos : String} {after : Array Edge} {g off n j : Nat} {k : IntKind} {z : Int}
    (hu : P.underlying t = some (.array n e)) (hsz : (P.info? e).map (·.size) = some 1) (hx : a.eval x = .pointer (some ⟨g, off, none⟩)) (hhi : a.eval hi = .int k z) (hz : z = j) (hj : j ≤ n)
    (h : wpList P ops Q rest (a.put d' (.slice (some ⟨g, off, none⟩) j n)) w) :
    wpList P ops Q (⟨d', .slice t x none (some hi) none, tt, pos, after, none⟩ :: rest) a w :=
  wpList_plain rfl fun K hK => by
    subst hz
    have hrun : (Instr.sliceAt t (.pointer (some ⟨g, off, none⟩)) none (some (.int k j)) none).run P w = .ok (.slice (some ⟨g, off, none⟩) j n) w := by
      cases hq : P.info? e with
      | none => simp [hq] at hsz
      | some info =>
        have hadd : (⟨g, off, none⟩ : Addr).add 0 = ⟨g, off, none⟩ := by unfold Addr.add; split <;> simp_all
        simp [Instr.sliceAt, run_underlying hu, Instr.sureAddr, Instr.sliceBounds, Instr.sliceBound, asIntOf, sizeOf, typeInfo, hq, hadd, hj]
    unfold Oper.wp execOp
    simp only [Sem.run_bind, hx, Option.map_some, Option.map_none, hhi, hrun]
    exact hK _ _ h
/-- string(x) of bytes in a row. -/
theorem st_str {d' : Option Tmp} {tt src dst e : TypeId} {x : Operand} {pos : String} {after : Array Edge} {g off n c : Nat} {cs : List Int} {T : TypeId} {s : ByteArray}
    (hs : P.underlying src = some (.slice e)) (he : P.underlying e = some (.int .u8)) (hd : P.underlying dst = some .string) (hx : a.eval x = .slice (some ⟨g, off, none⟩) n c) (hb : Blk w g (nums .u8 cs) T) (hle : off + n ≤ cs.length) (hr : strOfNums ((cs.drop off).take n) = s)
    (h : wpList P ops Q rest (a.put d' (.string s)) w) :
    wpList P ops Q (⟨d', .convert src dst x, tt, pos, after, none⟩ :: rest) a w :=
  wpList_plain rfl fun K hK => by
    have hrun := run_convert_bytes_arg (P := P) w src e hs he g off n c ((cs.drop off).take n) (by simp; omega) (fun i hi => by
      rw [hb.cell, nums_at _ _ _ (by omega), ← ga_eq, ← ga_eq, ga_take _ _ _ hi, ga_drop]) dst hd
    rw [hr] at hrun
    unfold Oper.wp execOp
    simp only [Sem.run_bind, hx, hrun]
    exact hK _ _ h
/-- A slice of bytes that is read. -/
structure Byt (w : World) (A : Option Addr) (c : Nat) (bs : List Int) : Prop where
  rd : Rd w A (nums .u8 bs)
  le : bs.length ≤ c
  nn : A = none → c = 0
  u : U8 bs
theorem Byt.up {w w' : World} {A : Option Addr} {c : Nat} {bs : List Int} (h : Byt w A c bs) (hb : Below w.heap.size w w') : Byt w' A c bs := ⟨h.rd.up hb, h.le, h.nn, h.u⟩
theorem Byt.ne {w : World} {A : Option Addr} {c : Nat} {bs : List Int} (h : Byt w A c bs) {g : Nat} (hg : w.heap.size ≤ g) : 0 < bs.length → ∀ a, A = some a → a.block ≠ g := fun hp a ha => by
  have := h.rd.lt (by rw [nums_length]; exact hp) a ha; omega
theorem Own.byt {w : World} {base : Nat} {v : Value} {bs : List Int} (h : Own w base v bs) (hu : U8 bs) : ∃ A c, v = .slice A bs.length c ∧ Byt w A c bs ∧ ∀ a, A = some a → base ≤ a.block := by
  obtain ⟨A, c, h1, h2, h3, h4, h5⟩ := h.from
  exact ⟨A, c, h1, ⟨h4, h2, h3, hu⟩, h5⟩
/-- The reference's Cut: the first so many. -/
theorem Byt.cut {w : World} {A : Option Addr} {c : Nat} {bs0 : List Int} (h : Byt w A c bs0) (n : Nat) (z : Int) (hz : z = n) : ∃ bs, bs.length ≤ n ∧ Hid (bs = bs0.take n) ∧ Byt w A c bs ∧
    Hid (∀ w', Calls Try.prog 7 #[.slice A bs0.length c, .int .i64 z] w' fun e w'' => e = .returned (.slice A bs.length c) ∧ w' = w'') := by
  subst hz
  refine ⟨bs0.take n, by rw [List.length_take]; omega, rfl, ⟨by rw [nums_take]; exact h.rd.take _, by rw [List.length_take]; have := h.le; omega, h.nn, h.u.take _⟩, ?_⟩
  intro w'
  have := refcut_any w' A bs0.length c n h.le
  rwa [show min bs0.length n = (bs0.take n).length by rw [List.length_take]; omega] at this
end
end ByN
section Guard
open Go.RowKit

section
variable {P : Program} {ops : Array Oper} {C : World → Prop} {Q : Exit → Act → World → Prop} {E F : List Nat} {k : Nat} {rest : List Oper} {a : Act} {w : World} {o : Oper} {v : Value}
/-- A guarded operation that may turn the world; its guard is met. -/
theorem wd_lg (hE : E.contains k = true) (hg : Region.wanted o (yielded ops a.tmps) = true) (hQo : ∀ a w, ¬ Q .outgrown a w)
    (h : wpList P #[] (Exit.then (fun a' w' => After C F (List.range' (k + 1) rest.length) (sinks ops k) w' ∧ WD P ops C Q E F (k + 1) rest a' w') Q) [{ o with guard := none }] a w) : WD P ops C Q E F k (o :: rest) a w := by
  refine wd_loud hE hg ?_
  unfold wpList at h
  rw [if_pos (by simp [Region.wanted])] at h
  rcases h with h | ⟨_, a', w', hl⟩
  · obtain ⟨dst, op, type, pos, after, guard⟩ := o
    unfold Oper.wp at h ⊢
    dsimp only at h
    have he : execOp a.eval ⟨dst, op, type, pos, after, guard⟩ = execOp a.eval ⟨dst, op, type, pos, after, none⟩ := rfl
    rw [he]
    generalize (execOp a.eval ⟨dst, op, type, pos, after, none⟩).run P w = r at h ⊢
    cases r with
    | ok n w' =>
      cases n <;> simp only [Oper.upon] at h ⊢
      case value u => exact h
      case skip => exact h
      case defer d => exact h
      case enter f args => exact Calls.mono h fun e w'' he => by cases e <;> exact he
      case row row args => exact Rows.mono h fun _ _ he => he
    | halt z w' => cases z <;> simp only [Oper.upon] at h ⊢ <;> exact h
  · exact absurd hl (hQo a' w')
/-- A pick, in every world. -/
theorem wd_pick {c x y : Operand} {b : Bool} (ho : o.op = .pick c x y) (hE : E.contains k = false) (hg : o.guard = none) (hc : a.eval c = .bool b) (hv : (if b then a.eval x else a.eval y) = v)
    (h : WD P ops C Q E F (k + 1) rest (a.put o.dst v) w) : WD P ops C Q E F k (o :: rest) a w := by
  subst hv
  simp only [WD]
  rw [if_neg (by rw [hE]; exact Bool.false_ne_true)]
  refine ⟨_, .inl ⟨by simp [Region.wanted, hg], fun w _ => ?_⟩, h⟩
  unfold execOp
  rw [ho]
  simp [hc, asBool]
end
end Guard
section GuardW
open Go.RowKit

section
variable {P : Program} {ops : Array Oper} {C : World → Prop} {Q : Exit → Act → World → Prop} {E F : List Nat} {k : Nat} {rest : List Oper} {a : Act} {w : World} {o : Oper} {v : Value}
theorem wd_wg {d : Nat} (hE : E.contains k = false) (hF : F.contains k = false) (hg : Region.wanted o (yielded ops a.tmps) = true) (hq : valueOp o.op = true) (hd : o.dst = some d) (hl0 : Nat.blt d a.tmps.size = true)
    (hv : ∀ w', C w' → ∀ K : Act → World → Prop, (∀ a', a' = a.put (some d) v → K a' w') → wpList P #[] (Exit.then K (fun _ _ _ => False)) [{ o with guard := none }] a w')
    (h : WD P ops C Q E F (k + 1) rest (a.put (some d) v) w) : WD P ops C Q E F k (o :: rest) a w := by
  refine wd_q hE hF hg hq hd hl0 (fun w' hC K hK => ?_) h
  have h1 := hv w' hC K hK
  unfold wpList at h1
  rw [if_pos (by simp [Region.wanted])] at h1
  rcases h1 with h1 | ⟨_, a', w'', hl⟩
  · obtain ⟨dst, op, type, pos, after, guard⟩ := o
    unfold Oper.wp at h1 ⊢
    dsimp only at h1
    have he : execOp a.eval ⟨dst, op, type, pos, after, guard⟩ = execOp a.eval ⟨dst, op, type, pos, after, none⟩ := rfl
    rw [he]
    generalize (execOp a.eval ⟨dst, op, type, pos, after, none⟩).run P w' = r at h1 ⊢
    cases r with
    | ok n w2 =>
      cases n <;> simp only [Oper.upon] at h1 ⊢
      case value u => exact h1
      case skip => exact h1
      case defer d => exact h1
      case enter f args => exact Calls.mono h1 fun e w'' he => by
                            cases e with
                            | returned u => exact he
                            | panicked c => exact he
                            | outgrown => obtain ⟨_, _, hl⟩ := he; exact hl.elim
      case row row args => exact Rows.mono h1 fun _ _ he => he
    | halt z w2 => cases z <;> simp only [Oper.upon] at h1 ⊢; exact h1
  · exact hl.elim
end
end GuardW
section Cell2
open Go.RowKit

section
variable {P : Program}
theorem ret_row_tmp {fn : Func} {p u : Tmp} {ty : TypeId} (hf : fn.results = #[.cell p ty, .tmp u]) (tmps : Array Value) (w : World) (g : Nat) (cs : List Value) (T : TypeId) (d : TypeDesc)
    (hp : tmps.getD p undef = .pointer (some ⟨g, 0, none⟩)) (hg : Blk w g cs T) (hu : P.underlying ty = some d) (hd : isRow d = true) (hi : (P.info? ty).map (·.size) = some cs.length) :
    (results fn tmps).run P w = .ok (.tuple #[.agg cs.toArray, tmps.getD u undef]) w := by
  rw [results_cell_tmp hf, hp]
  have := run_loadVar_row (P := P) w g T ty cs.toArray (0, 0) d hg hu (by cases d <;> simp_all [isRow]) (by simpa using hi)
  simp [asAddr, this]
theorem ret_row2_tmp {fn : Func} {p q u : Tmp} {ty : TypeId} (hf : fn.results = #[.cell p ty, .cell q ty, .tmp u]) (tmps : Array Value) (w : World) (g g2 : Nat) (cs cs2 : List Value) (T T2 : TypeId) (d : TypeDesc)
    (hp : tmps.getD p undef = .pointer (some ⟨g, 0, none⟩)) (hg : Blk w g cs T) (hp2 : tmps.getD q undef = .pointer (some ⟨g2, 0, none⟩)) (hg2 : Blk w g2 cs2 T2) (hu : P.underlying ty = some d) (hd : isRow d = true) (hi : (P.info? ty).map (·.size) = some cs.length) (hi2 : (P.info? ty).map (·.size) = some cs2.length) :
    (results fn tmps).run P w = .ok (.tuple #[.agg cs.toArray, .agg cs2.toArray, tmps.getD u undef]) w := by
  have h1 := run_loadVar_row (P := P) w g T ty cs.toArray (0, 0) d hg hu (by cases d <;> simp_all [isRow]) (by simpa using hi)
  have h2 := run_loadVar_row (P := P) w g2 T2 ty cs2.toArray (0, 0) d hg2 hu (by cases d <;> simp_all [isRow]) (by simpa using hi2)
  simp only [results, hf]
  have hp' : tmps[p]?.getD undef = .pointer (some ⟨g, 0, none⟩) := by simpa using hp
  have hp2' : tmps[q]?.getD undef = .pointer (some ⟨g2, 0, none⟩) := by simpa using hp2
  simp [Sem.run_bind, Result.andThen, hp', hp2', asAddr, h1, h2]
/-- A guarded operation whose guard is met. -/
theorem st_un {ops : Array Oper} {rest : List Oper} {a : Act} {w : World} {Q : Exit → Act → World → Prop} {d' : Option Tmp} {op : Op} {tt : TypeId} {pos : String} {after : Array Edge} {g : Nat × Bool}
    (hg : Region.wanted ⟨d', op, tt, pos, after, some g⟩ (yielded ops a.tmps) = true) (h : wpList P ops Q (⟨d', op, tt, pos, after, none⟩ :: rest) a w) : wpList P ops Q (⟨d', op, tt, pos, after, some g⟩ :: rest) a w := by
  unfold wpList at h ⊢
  rw [if_pos (by simp [Region.wanted])] at h
  rw [if_pos hg]
  exact h
end
end Cell2
section OwnC
open Go.RowKit

def OwnC (w : World) (base : Nat) (e : TypeId) (v : Value) (cs : List Value) : Prop := w.ownsRow base e 1 v cs.length cs
theorem OwnC.nil (w : World) (base : Nat) (e : TypeId) : OwnC w base e (.slice none 0 0) [] := World.ownsRow_nil w base _ _
theorem OwnC.kept {w w' : World} {base : Nat} {e : TypeId} {v : Value} {cs : List Value} (h : OwnC w base e v cs) (hb : Below w.heap.size w w') : OwnC w' base e v cs :=
  World.ownsRow.kept (row := none) h ⟨hb.os, hb.tape, hb.output, hb.size, fun k hk _ => hb.block k hk⟩ (by cases hv : v.ownBlock <;> simp)
theorem OwnC.from {w : World} {base : Nat} {e : TypeId} {v : Value} {cs : List Value} (h : OwnC w base e v cs) : ∃ A c, v = .slice A cs.length c ∧ cs.length ≤ c ∧ (A = none → c = 0) ∧ Rd w A cs ∧ ∀ a, A = some a → base ≤ a.block := by
  obtain ⟨hl, h | ⟨g, cap, cur, hv, hg, hh, hn, hm, hsz, ht⟩⟩ := h
  · have : cs = [] := List.eq_nil_of_length_eq_zero h.2
    subst this
    exact ⟨none, 0, h.1, Nat.le_refl _, fun _ => rfl, Rd.nil _ _, fun a ha => by cases ha⟩
  · refine ⟨some ⟨g, 0, none⟩, cap, hv, hn, fun h => (by cases h), .inr ⟨g, 0, rfl, fun j v hv => ?_⟩, fun a ha => by injection ha with ha; rw [← ha]; exact hg⟩
    rw [Nat.zero_add]
    simp only [World.cell?, hh]
    rw [← ht, List.getElem?_take] at hv
    split at hv
    · simpa using hv
    · cases hv
/-- Grown by the call. -/
def GrowC (w : World) (e : TypeId) (cs : List Value) (v : Value) (w' : World) : Prop := Below w.heap.size w w' ∧ OwnC w' w.heap.size e v cs
theorem GrowC.nil (w : World) (e : TypeId) : GrowC w e [] (.slice none 0 0) w := ⟨Below.refl _ _, OwnC.nil _ _ _⟩
theorem GrowC.up {w w' w'' : World} {e : TypeId} {cs : List Value} {v : Value} (h : GrowC w e cs v w') (hb : Below w'.heap.size w' w'') : GrowC w e cs v w'' := ⟨h.1.trans (hb.mono h.1.size), h.2.kept hb⟩
theorem GrowC.alloc {w w' : World} {e : TypeId} {cs : List Value} {v : Value} (h : GrowC w e cs v w') (o : Obj) : GrowC w e cs v (w'.alloc o) := h.up ((Below.refl _ _).alloc (Nat.le_refl _) _)

/-- append(x, y..) of elements of one cell that lie in a row, x the call's own. -/
theorem st_growC {P : Program} {ops : Array Oper} {rest : List Oper} {a : Act} {w w0 : World} {Q : Exit → Act → World → Prop} {d' : Option Tmp} {tt t e : TypeId} {s x : Operand} {pos : String} {after : Array Edge} {v z : Value} {ad : Addr} {b m c : Nat} {xs ys : List Value}
    (ht : P.underlying t = some (.slice e)) (hi : (P.info? e).map (fun i => (i.zero, i.size, i.bytes)) = some (some z, 1, b)) (hz : z.cells.size = 1) (hb : b ≤ 16)
    (hs : a.eval s = v) (hx : a.eval x = .slice (some ad) m c) (hg : GrowC w0 e xs v w) (hm : ys.length = m) (hr : ∀ j u, ys[j]? = some u → w.cell? (ad.add j) = some u) (h1 : ∀ u ∈ ys, u.oneCell' = true) (hl : xs.length + m ≤ 1099511627776)
    (h : ∀ v' w', GrowC w0 e (xs ++ ys) v' w' → wpList P ops Q rest (a.put d' v') w') :
    wpList P ops Q (⟨d', .call ⟨.builtin .append, #[s, x], #[t, t]⟩, tt, pos, after, none⟩ :: rest) a w := by
  obtain ⟨i0, hi, hz0, hz1, hz2⟩ := info_parts hi
  refine wpList_append_own_at (w := w) rfl s x t rfl w0.heap.size e i0 z 1 b ht hi hz0 hz1 hz2 hz (by decide) v xs.length xs hs hg.2 ad m c ys hx (by omega) hr h1 (by unfold maxLen; omega) ?_ hg.1.size ?_
  · have := Nat.mul_le_mul hl hb; omega
  · intro v' w' ho hgr _ hat
    refine h v' w' ⟨hg.1.grown hgr hg.1.size (fun k hk => by have := World.ownsRow.lt hg.2 k hk; omega), ?_⟩
    unfold OwnC
    rw [List.length_append, hm]
    exact ho
end OwnC
section EntP

def varT : Nat → Nat → List Int
  | 0, _ => []
  | f + 1, x => if x < 128 then [(x : Int)] else ((128 + x % 128 : Nat) : Int) :: varT f (x / 128)
def varL (x : Nat) : List Int := varT 10 x
theorem varT_len (f x : Nat) : (varT f x).length ≤ f := by
  induction f generalizing x with
  | zero => simp [varT]
  | succ f ih =>
    unfold varT; split
    · simp
    · have := ih (x / 128); simp; omega
theorem varT_pos (f x : Nat) (h : 0 < f) : 0 < (varT f x).length := by
  cases f with
  | zero => omega
  | succ f => unfold varT; split <;> simp
theorem varT_more (f x : Nat) (hf : 0 < f) (hx : x < 128 ^ f) (d : Nat) : varT (f + d) x = varT f x := by
  induction f generalizing x with
  | zero => omega
  | succ f ih =>
    rw [show f + 1 + d = (f + d) + 1 by omega]
    unfold varT
    by_cases h : x < 128
    · rw [if_pos h, if_pos h]
    · rw [if_neg h, if_neg h, ih (x / 128)]
      · cases f with
        | zero => simp at hx; omega
        | succ f => omega
      · rw [Nat.pow_succ] at hx; omega
theorem varT_at (f x : Nat) (hf : 0 < f) (h10 : f ≤ 10) (hx : x < 128 ^ f) : varL x = varT f x := by
  unfold varL
  have := varT_more f x hf hx (10 - f)
  rwa [show f + (10 - f) = 10 by omega] at this
theorem varL_small (x : Nat) (h : x < 128) : varL x = [(x : Int)] := by
  unfold varL varT; rw [if_pos h]
theorem varT_u8 (f x : Nat) : ∀ c ∈ varT f x, 0 ≤ c ∧ c < 256 := by
  induction f generalizing x with
  | zero => simp [varT]
  | succ f ih =>
    unfold varT; split
    · intro c hc; simp at hc; omega
    · intro c hc
      rcases List.mem_cons.1 hc with h | h
      · omega
      · exact ih _ c h

def rdV : Nat → List Int → Option (Nat × Nat)
  | _, [] => none
  | i, c :: r => if i = 9 ∧ 1 < c then none else if c < 128 then (if c = 0 ∧ 0 < i then none else some (c.toNat, 1)) else (rdV (i + 1) r).map fun p => (c.toNat % 128 + 128 * p.1, p.2 + 1)
theorem rdV_varT (f x i : Nat) (r : List Int) (hf : 0 < f) (hx : x < 128 ^ f) (hi : i + f ≤ 9) (h0 : i = 0 ∨ 0 < x) : rdV i (varT f x ++ r) = some (x, (varT f x).length) := by
  induction f generalizing x i with
  | zero => omega
  | succ f ih =>
    unfold varT
    by_cases h : x < 128
    · rw [if_pos h]
      show rdV i ((x : Int) :: r) = _
      unfold rdV
      rw [if_neg (by omega), if_pos (by omega), if_neg (by omega)]
      simp
    · rw [if_neg h]
      show rdV i (((128 + x % 128 : Nat) : Int) :: (varT f (x / 128) ++ r)) = _
      unfold rdV
      have hf0 : 0 < f := by
        cases f with
        | zero => simp at hx; omega
        | succ f => omega
      rw [if_neg (by omega), if_neg (by omega), ih (x / 128) (i + 1) hf0 (by rw [Nat.pow_succ] at hx; omega) (by omega) (by omega)]
      simp
      omega
theorem rdV_le (i : Nat) (l : List Int) (p : Nat × Nat) (h : rdV i l = some p) : 1 ≤ p.2 ∧ p.2 ≤ l.length := by
  induction l generalizing i p with
  | nil => simp [rdV] at h
  | cons c r ih =>
    unfold rdV at h
    split at h
    · cases h
    · split at h
      · split at h
        · cases h
        · injection h with h; subst h; simp
      · cases hr : rdV (i + 1) r with
        | none => rw [hr] at h; cases h
        | some q =>
          rw [hr] at h
          simp only [Option.map_some, Option.some.injEq] at h
          have := ih (i + 1) q hr
          subst h
          simp; omega

def valV : List Int → Nat
  | [] => 0
  | c :: r => c.toNat % 128 + 128 * valV r
theorem valV_snoc (l : List Int) (c : Int) : valV (l ++ [c]) = valV l + 128 ^ l.length * (c.toNat % 128) := by
  induction l with
  | nil => simp [valV]
  | cons x l ih =>
    simp only [List.cons_append, valV, ih, List.length_cons, Nat.pow_succ]
    rw [Nat.mul_add, Nat.mul_comm (128 ^ l.length) 128, Nat.mul_assoc]; omega
theorem valV_lt (l : List Int) : valV l < 128 ^ l.length := by
  induction l with
  | nil => simp [valV]
  | cons x l ih => simp only [valV, List.length_cons, Nat.pow_succ]; omega

/-- What is left to read behind k bytes that go on. -/
def RdAt (bs : List Int) (k : Nat) : Prop := rdV 0 bs = (rdV k (bs.drop k)).map fun p => (valV (bs.take k) + 128 ^ k * p.1, k + p.2)
theorem RdAt.zero (bs : List Int) : RdAt bs 0 := by
  unfold RdAt
  rw [List.drop_zero]
  cases rdV 0 bs <;> simp [valV]
theorem drop_at (bs : List Int) (k : Nat) (h : k < bs.length) : bs.drop k = bs.getD k 0 :: bs.drop (k + 1) := by
  rw [List.drop_eq_getElem_cons h]; simp [h]
theorem take_at (bs : List Int) (k : Nat) (h : k < bs.length) : bs.take (k + 1) = bs.take k ++ [bs.getD k 0] := by
  rw [List.take_add_one, List.getElem?_eq_getElem h]; simp [h]
theorem RdAt.done {bs : List Int} {k : Nat} (h : RdAt bs k) (hk : bs.length ≤ k) : rdV 0 bs = none := by
  rw [h, List.drop_eq_nil_of_le hk]; rfl
theorem RdAt.bad {bs : List Int} {k : Nat} (h : RdAt bs k) (hk : k < bs.length) (hb : (k = 9 ∧ 1 < bs.getD k 0) ∨ (bs.getD k 0 < 128 ∧ bs.getD k 0 = 0 ∧ 0 < k)) : rdV 0 bs = none := by
  rw [h, drop_at bs k hk]
  unfold rdV
  by_cases h9 : k = 9 ∧ 1 < bs.getD k 0
  · rw [if_pos h9]; rfl
  · rw [if_neg h9]
    rcases hb with hb | ⟨h1, h2, h3⟩
    · exact absurd hb h9
    · rw [if_pos h1, if_pos ⟨h2, h3⟩]; rfl
theorem RdAt.hit {bs : List Int} {k : Nat} (h : RdAt bs k) (hk : k < bs.length) (h9 : ¬ (k = 9 ∧ 1 < bs.getD k 0)) (h1 : bs.getD k 0 < 128) (h0 : ¬ (bs.getD k 0 = 0 ∧ 0 < k)) : rdV 0 bs = some (valV (bs.take (k + 1)), k + 1) := by
  rw [h, drop_at bs k hk, take_at bs k hk]
  unfold rdV
  rw [if_neg h9, if_pos h1, if_neg h0, valV_snoc]
  simp only [Option.map_some]
  rw [List.length_take, Nat.min_eq_left (by omega), Nat.mod_eq_of_lt (by omega)]
theorem RdAt.step {bs : List Int} {k : Nat} (h : RdAt bs k) (hk : k < bs.length) (h9 : ¬ (k = 9 ∧ 1 < bs.getD k 0)) (h1 : ¬ bs.getD k 0 < 128) : RdAt bs (k + 1) := by
  unfold RdAt at h ⊢
  rw [h, drop_at bs k hk, take_at bs k hk, valV_snoc]
  conv => lhs; unfold rdV
  rw [if_neg h9, if_neg h1]
  cases rdV (k + 1) (bs.drop (k + 1)) with
  | none => rfl
  | some p =>
    simp only [Option.map_some, Option.some.injEq, Prod.mk.injEq]
    rw [List.length_take, Nat.min_eq_left (by omega), Nat.pow_succ, Nat.mul_add, Nat.mul_assoc]
    omega

structure Ent where
  job : Int
  time : Int
  h : List Int
  s : List Int
  kind : Int
  ord : List Int
  tries : Int
deriving DecidableEq

def OrdE (l : List Int) : Prop := (∀ x ∈ l, 0 ≤ x ∧ x ≤ 63) ∧ l.Nodup
instance (l : List Int) : Decidable (OrdE l) := by unfold OrdE; infer_instance
def OkE (e : Ent) : Prop := (0 ≤ e.job ∧ e.job ≤ 63) ∧ (0 ≤ e.time ∧ e.time ≤ 1099511627776) ∧ (1 ≤ e.kind ∧ e.kind ≤ 4) ∧ (0 ≤ e.tries ∧ e.tries ≤ 1073741824) ∧ (e.kind = 1 ∨ e.ord = []) ∧ OrdE e.ord
instance (e : Ent) : Decidable (OkE e) := by unfold OkE; infer_instance
def checkR (e : Ent) : Int := if OkE e then 0 else 2
theorem nodup_len (n : Nat) : ∀ l : List Int, (∀ x ∈ l, 0 ≤ x ∧ x < n) → l.Nodup → l.length ≤ n := by
  induction n with
  | zero =>
    intro l h _
    cases l with
    | nil => simp
    | cons x l => have := h x (by simp); omega
  | succ n ih =>
    intro l h hn
    have h1 := ih (l.erase (n : Int)) (fun x hx => by
      have h2 := (List.Nodup.mem_erase_iff hn).1 hx
      have := h x h2.2
      have : x ≠ n := h2.1
      omega) (hn.erase _)
    rw [List.length_erase] at h1
    split at h1 <;> omega
theorem OrdE.len {l : List Int} (h : OrdE l) : l.length ≤ 64 := nodup_len 64 l (fun x hx => by have := h.1 x hx; omega) h.2

def encL (e : Ent) : List Int := varL e.job.toNat ++ varL e.time.toNat ++ e.h ++ e.s ++ [e.kind] ++ varL e.tries.toNat ++ [(e.ord.length : Int)] ++ e.ord
def encR (e : Ent) : List Int × Int := if OkE e then (encL e, 0) else ([], 2)

def numR (b : List Int) (most : Nat) : Option (Nat × List Int) :=
  match rdV 0 b with
  | some p => if p.1 ≤ most then some (p.1, b.drop p.2) else none
  | none => none
def readR (b : List Int) : Option Ent :=
  match numR b 64 with
  | none => none
  | some (j, b1) => match numR b1 1099511627776 with
    | none => none
    | some (t, b2) => if b2.length < 65 then none else match numR (b2.drop 65) 1073741824 with
      | none => none
      | some (r, b3) => match numR b3 64 with
        | none => none
        | some (n, b4) => if b4.length = n then some ⟨j, t, b2.take 32, (b2.drop 32).take 32, b2.getD 64 0, b4, r⟩ else none
def zeroE : Ent := ⟨0, 0, List.replicate 32 0, List.replicate 32 0, 0, [], 0⟩
def decR (b : List Int) : Ent × Int :=
  match readR b with
  | some e => if OkE e ∧ encL e = b then (e, 0) else (zeroE, 4)
  | none => (zeroE, 4)
theorem numR_var (x most : Nat) (r : List Int) (hx : x ≤ most) (hm : most < 9223372036854775808) : numR (varL x ++ r) most = some (x, r) := by
  unfold numR
  have hb : x < 128 ^ 9 := by omega
  rw [varT_at 9 x (by omega) (by omega) hb, rdV_varT 9 x 0 r (by omega) hb (by omega) (Or.inl rfl)]
  simp [hx]
theorem read_enc (e : Ent) (h : OkE e) (hh : e.h.length = 32) (hs : e.s.length = 32) : readR (encL e) = some e := by
  obtain ⟨h1, h2, h3, h4, h5, h6⟩ := h
  have hl := h6.len
  unfold readR encL
  rw [show varL e.job.toNat ++ varL e.time.toNat ++ e.h ++ e.s ++ [e.kind] ++ varL e.tries.toNat ++ [(e.ord.length : Int)] ++ e.ord = varL e.job.toNat ++ (varL e.time.toNat ++ (e.h ++ (e.s ++ (e.kind :: (varL e.tries.toNat ++ (varL e.ord.length ++ e.ord)))))) by
    rw [varL_small e.ord.length (by omega)]; simp]
  rw [numR_var _ _ _ (by omega) (by omega)]
  dsimp only
  rw [numR_var _ _ _ (by omega) (by omega)]
  dsimp only
  have hd : (e.h ++ (e.s ++ (e.kind :: (varL e.tries.toNat ++ (varL e.ord.length ++ e.ord))))).drop 65 = varL e.tries.toNat ++ (varL e.ord.length ++ e.ord) := by
    rw [List.drop_append, List.drop_eq_nil_of_le (by omega), List.nil_append, List.drop_append, List.drop_eq_nil_of_le (by omega), List.nil_append, hh, hs]; rfl
  rw [if_neg (by simp; omega), hd, numR_var _ _ _ (by omega) (by omega)]
  dsimp only
  rw [numR_var _ _ _ (by omega) (by omega)]
  dsimp only
  rw [if_pos rfl]
  have e1 : (e.h ++ (e.s ++ (e.kind :: (varL e.tries.toNat ++ (varL e.ord.length ++ e.ord))))).take 32 = e.h := by
    rw [← hh, List.take_left']; rfl
  have e2 : ((e.h ++ (e.s ++ (e.kind :: (varL e.tries.toNat ++ (varL e.ord.length ++ e.ord))))).drop 32).take 32 = e.s := by
    rw [← hh, List.drop_left, hh, ← hs, List.take_left']; rfl
  have e3 : (e.h ++ (e.s ++ (e.kind :: (varL e.tries.toNat ++ (varL e.ord.length ++ e.ord))))).getD 64 0 = e.kind := by
    rw [List.getD_eq_getElem?_getD, List.getElem?_append_right (by omega), List.getElem?_append_right (by omega), hh, hs]; rfl
  rw [e1, e2, e3]
  congr 1
  cases e
  simp only [Ent.mk.injEq, true_and] at *
  omega
theorem dec_enc (e : Ent) (h : OkE e) (hh : e.h.length = 32) (hs : e.s.length = 32) : decR (encL e) = (e, 0) := by
  unfold decR
  rw [read_enc e h hh hs]
  simp [h]
theorem read_lens (b : List Int) (e : Ent) (h : readR b = some e) : e.h.length = 32 ∧ e.s.length = 32 := by
  unfold readR at h
  split at h
  · cases h
  · split at h
    · cases h
    · split at h
      · cases h
      · split at h
        · cases h
        · split at h
          · cases h
          · split at h
            · injection h with h; subst h; simp; omega
            · cases h
theorem dec_not (b : List Int) (h : ∀ e : Ent, OkE e → e.h.length = 32 → e.s.length = 32 → encL e ≠ b) : decR b = (zeroE, 4) := by
  unfold decR
  cases hr : readR b with
  | none => rfl
  | some e =>
    dsimp only
    rw [if_neg]
    intro ⟨h1, h2⟩
    exact h e h1 (read_lens b e hr).1 (read_lens b e hr).2 h2
/-- The reference's way of reading. -/
def refRead (b : List Int) : Option Ent :=
  match rdV 0 b with
  | none => none
  | some (j, n) => match rdV 0 (b.drop n) with
    | none => none
    | some (t, m) => if 63 < j ∨ 1099511627776 < t ∨ b.length < n + m + 65 then none else match rdV 0 (b.drop (n + m + 65)) with
      | none => none
      | some (r, k) => if 1073741824 < r ∨ b.length ≤ n + m + 65 + k then none else
        some ⟨j, t, (b.drop (n + m)).take 32, (b.drop (n + m + 32)).take 32, b.getD (n + m + 64) 0, b.drop (n + m + 65 + k + 1), r⟩
theorem ref_enc (e : Ent) (h : OkE e) (hh : e.h.length = 32) (hs : e.s.length = 32) : refRead (encL e) = some e := by
  obtain ⟨h1, h2, h3, h4, h5, h6⟩ := h
  have hl := h6.len
  have hv : ∀ (x : Nat) (r : List Int), x ≤ 1099511627776 → rdV 0 (varL x ++ r) = some (x, (varL x).length) := fun x r hx => by
    have hb : x < 128 ^ 9 := by omega
    rw [varT_at 9 x (by omega) (by omega) hb, rdV_varT 9 x 0 r (by omega) hb (by omega) (Or.inl rfl)]
  unfold refRead encL
  rw [show varL e.job.toNat ++ varL e.time.toNat ++ e.h ++ e.s ++ [e.kind] ++ varL e.tries.toNat ++ [(e.ord.length : Int)] ++ e.ord = varL e.job.toNat ++ (varL e.time.toNat ++ (e.h ++ (e.s ++ (e.kind :: (varL e.tries.toNat ++ ((e.ord.length : Int) :: e.ord)))))) by simp]
  obtain ⟨V1, hV1⟩ : ∃ V, V = varL e.job.toNat := ⟨_, rfl⟩
  obtain ⟨V2, hV2⟩ : ∃ V, V = varL e.time.toNat := ⟨_, rfl⟩
  obtain ⟨V3, hV3⟩ : ∃ V, V = varL e.tries.toNat := ⟨_, rfl⟩
  have v1 := fun r => hv e.job.toNat r (by omega)
  have v2 := fun r => hv e.time.toNat r (by omega)
  have v3 := fun r => hv e.tries.toNat r (by omega)
  rw [← hV1] at v1 ⊢
  rw [← hV2] at v2 ⊢
  rw [← hV3] at v3 ⊢
  rw [v1]
  dsimp only
  rw [List.drop_left, v2]
  dsimp only
  have d1 : ∀ k, (V1 ++ (V2 ++ (e.h ++ (e.s ++ (e.kind :: (V3 ++ ((e.ord.length : Int) :: e.ord))))))).drop (V1.length + V2.length + k) = (e.h ++ (e.s ++ (e.kind :: (V3 ++ ((e.ord.length : Int) :: e.ord))))).drop k := fun k => by
    rw [Nat.add_assoc, ← List.drop_drop, List.drop_left, ← List.drop_drop, List.drop_left]
  have d2 : ∀ k, (e.h ++ (e.s ++ (e.kind :: (V3 ++ ((e.ord.length : Int) :: e.ord))))).drop (65 + k) = (V3 ++ ((e.ord.length : Int) :: e.ord)).drop k := fun k => by
    rw [show 65 + k = e.h.length + (e.s.length + (1 + k)) by omega, ← List.drop_drop, List.drop_left, ← List.drop_drop, List.drop_left, ← List.drop_drop]; rfl
  rw [if_neg (by simp; omega)]
  have := d2 0
  rw [d1, this, List.drop_zero, v3]
  dsimp only
  rw [if_neg (by simp; omega)]
  congr 1
  have e0 := d1 0
  rw [Nat.add_zero] at e0
  have e1 : (e.h ++ (e.s ++ (e.kind :: (V3 ++ ((e.ord.length : Int) :: e.ord))))).take 32 = e.h := by
    rw [← hh, List.take_left']; rfl
  have e2 : ((e.h ++ (e.s ++ (e.kind :: (V3 ++ ((e.ord.length : Int) :: e.ord))))).drop 32).take 32 = e.s := by
    rw [← hh, List.drop_left, hh, ← hs, List.take_left']; rfl
  have e3 : (V1 ++ (V2 ++ (e.h ++ (e.s ++ (e.kind :: (V3 ++ ((e.ord.length : Int) :: e.ord))))))).getD (V1.length + V2.length + 64) 0 = e.kind := by
    rw [List.getD_eq_getElem?_getD, ← List.head?_drop, d1, show 64 = e.h.length + e.s.length by omega, ← List.drop_drop, List.drop_left, List.drop_left]; rfl
  have e4 : (V1 ++ (V2 ++ (e.h ++ (e.s ++ (e.kind :: (V3 ++ ((e.ord.length : Int) :: e.ord))))))).drop (V1.length + V2.length + 65 + V3.length + 1) = e.ord := by
    rw [show V1.length + V2.length + 65 + V3.length + 1 = V1.length + V2.length + (65 + (V3.length + 1)) by omega, d1, d2, ← List.drop_drop, List.drop_left]; rfl
  rw [e0, List.drop_zero, d1, e1, e2, e3, e4]
  cases e
  simp only [Ent.mk.injEq, true_and] at *
  omega
/-- Whichever way a text is read: what comes of it must be written so. -/
theorem ref_dec (b : List Int) : decR b = match refRead b with
    | some e => if OkE e ∧ encL e = b then (e, 0) else (zeroE, 4)
    | none => (zeroE, 4) := by
  cases hr : refRead b with
  | none =>
    dsimp only
    apply dec_not
    intro e h1 h2 h3 h4
    rw [← h4, ref_enc e h1 h2 h3] at hr
    cases hr
  | some e =>
    dsimp only
    have hlen : e.h.length = 32 ∧ e.s.length = 32 := by
      unfold refRead at hr
      split at hr
      · cases hr
      · split at hr
        · cases hr
        · split at hr
          · cases hr
          · split at hr
            · cases hr
            · split at hr
              · cases hr
              · injection hr with hr; subst hr; simp; omega
    by_cases hc : OkE e ∧ encL e = b
    · rw [if_pos hc, ← hc.2, dec_enc e hc.1 hlen.1 hlen.2]
    · rw [if_neg hc]
      apply dec_not
      intro e' h1 h2 h3 h4
      have : e' = e := by
        have := ref_enc e' h1 h2 h3
        rw [h4, hr] at this
        injection this with this
        exact this.symm
      subst this
      exact hc ⟨h1, h4⟩
theorem varL_len (x : Nat) : 1 ≤ (varL x).length ∧ (varL x).length ≤ 10 := ⟨varT_pos 10 x (by omega), varT_len 10 x⟩
theorem encL_len (e : Ent) (h : OkE e) (hh : e.h.length = 32) (hs : e.s.length = 32) : (encL e).length ≤ 200 := by
  have := h.2.2.2.2.2.len
  have := varL_len e.job.toNat
  have := varL_len e.time.toNat
  have := varL_len e.tries.toNat
  unfold encL; simp; omega
end EntP
end Go.Proofs.Ytepicdcmcagipaa
