/- Lists of digests in memory, and the root of a list. No condition. -/
import Derived.Test.YtipigpeccegjgaaDoorMerS
namespace Go.Proofs.YtipigpeccegjgaaDoor
open Go.RowKit

def Dgs (ds : List (List Int)) : Prop := ∀ d ∈ ds, d.length = 32 ∧ U8 d
theorem Dgs.take {ds : List (List Int)} (h : Dgs ds) (k : Nat) : Dgs (ds.take k) := fun d hd => h d (List.mem_of_mem_take hd)
theorem Dgs.drop {ds : List (List Int)} (h : Dgs ds) (k : Nat) : Dgs (ds.drop k) := fun d hd => h d (List.mem_of_mem_drop hd)
theorem Dgs.append {ds es : List (List Int)} (h : Dgs ds) (g : Dgs es) : Dgs (ds ++ es) := fun d hd => by
  rcases List.mem_append.1 hd with h1 | h1
  · exact h d h1
  · exact g d h1
theorem Dgs.one {d : List Int} (h : d.length = 32) (u : U8 d) : Dgs [d] := fun e he => by
  rw [List.mem_singleton] at he; subst he; exact ⟨h, u⟩
theorem Dgs.nil : Dgs [] := fun d hd => by cases hd
theorem Dgs.at {ds : List (List Int)} (h : Dgs ds) (i : Nat) (hi : i < ds.length) : (ds[i]).length = 32 ∧ U8 (ds[i]) := h _ (List.getElem_mem _)
theorem Dgs.flat {ds : List (List Int)} (h : Dgs ds) : ds.flatten.length = 32 * ds.length := by
  induction ds with
  | nil => rfl
  | cons d ds ih =>
    have h1 := (h d (by simp)).1
    have h2 := ih (fun e he => h e (by simp [he]))
    simp only [List.flatten_cons, List.length_append, List.length_cons, h1, h2]; omega
theorem Dgs.dropFlat {ds : List (List Int)} (h : Dgs ds) (k : Nat) (hk : k ≤ ds.length) : (ds.drop k).flatten = ds.flatten.drop (32 * k) := by
  induction k generalizing ds with
  | zero => simp
  | succ k ih =>
    cases ds with
    | nil => simp
    | cons d ds =>
      have h1 := (h d (by simp)).1
      rw [List.drop_succ_cons, ih (fun e he => h e (by simp [he])) (by simpa using hk), List.flatten_cons]
      rw [show 32 * (k + 1) = d.length + 32 * k by omega, List.drop_append]
      simp
theorem Dgs.takeFlat {ds : List (List Int)} (h : Dgs ds) (k : Nat) (hk : k ≤ ds.length) : (ds.take k).flatten = ds.flatten.take (32 * k) := by
  induction k generalizing ds with
  | zero => simp
  | succ k ih =>
    cases ds with
    | nil => simp
    | cons d ds =>
      have h1 := (h d (by simp)).1
      rw [List.take_succ_cons, List.flatten_cons, ih (fun e he => h e (by simp [he])) (by simpa using hk), List.flatten_cons]
      rw [show 32 * (k + 1) = d.length + 32 * k by omega, List.take_append, List.take_of_length_le (l := d) (by omega), Nat.add_sub_cancel_left]
theorem Dgs.atFlat {ds : List (List Int)} (h : Dgs ds) (i : Nat) (hi : i < ds.length) : (ds.flatten.drop (32 * i)).take 32 = ds[i] := by
  rw [← h.dropFlat i (by omega), List.drop_eq_getElem_cons hi, List.flatten_cons]
  have := (h.at i hi).1
  rw [← this, List.take_left']
  rfl

/-- A slice of digests. -/
structure Dg (w : World) (A : Option Addr) (c : Nat) (ds : List (List Int)) : Prop where
  rd : Rd w A (nums .u8 ds.flatten)
  le : ds.length ≤ c
  nn : A = none → c = 0
  u : Dgs ds
theorem Dg.nil (w : World) : Dg w none 0 [] := ⟨Rd.nil _ _, Nat.le_refl _, fun _ => rfl, Dgs.nil⟩
theorem Dg.up {w w' : World} {A : Option Addr} {c : Nat} {ds : List (List Int)} (h : Dg w A c ds) (hb : Below w.heap.size w w') : Dg w' A c ds := ⟨h.rd.up hb, h.le, h.nn, h.u⟩
theorem Dg.take {w : World} {A : Option Addr} {c : Nat} {ds : List (List Int)} (h : Dg w A c ds) (k : Nat) (hk : k ≤ ds.length) : Dg w A c (ds.take k) :=
  ⟨by rw [h.u.takeFlat k hk, nums_take]; exact h.rd.take _, by rw [List.length_take]; have := h.le; omega, h.nn, h.u.take k⟩
theorem Rd.from' {w : World} {A : Option Addr} {cs : List Value} (h : Rd w A cs) (i : Nat) : Rd w (A.map (·.add i)) (cs.drop i) := by
  rcases h with h | ⟨g, off, rfl, hr⟩
  · subst h; rw [List.drop_nil]; exact Rd.nil _ _
  · refine .inr ⟨g, off + i, ?_, fun j v hv => ?_⟩
    · simp only [Option.map_some, Option.some.injEq]; unfold Addr.add; split <;> simp_all
    · rw [List.getElem?_drop] at hv
      have := hr (i + j) v hv
      rwa [← Nat.add_assoc] at this
theorem Dg.drop {w : World} {A : Option Addr} {c : Nat} {ds : List (List Int)} (h : Dg w A c ds) (k : Nat) (hk : k ≤ ds.length) : Dg w (if c = k then A else A.map (·.add (k * 32))) (c - k) (ds.drop k) := by
  have hd : nums .u8 ((ds.drop k).flatten) = (nums .u8 ds.flatten).drop (k * 32) := by rw [h.u.dropFlat k hk, Nat.mul_comm, nums_drop]
  have hl := h.le
  refine ⟨?_, by rw [List.length_drop]; omega, ?_, h.u.drop k⟩
  · by_cases e : c = k
    · rw [if_pos e, List.drop_of_length_le (by omega)]; exact Rd.nil _ _
    · rw [if_neg e, hd]; exact h.rd.from' _
  · intro hA
    by_cases e : c = k
    · omega
    · rw [if_neg e] at hA
      have := h.nn (by cases A with | none => rfl | some a => cases hA)
      omega
theorem Dg.get {w : World} {A : Option Addr} {c : Nat} {ds : List (List Int)} (h : Dg w A c ds) (hl : 0 < ds.length) : ∃ g off, A = some ⟨g, off, none⟩ ∧ g < w.heap.size ∧ ∀ i (hi : i < ds.length) j v, (nums .u8 ds[i])[j]? = some v → w.cell? ⟨g, off + i * 32 + j, none⟩ = some v := by
  have hf := h.u.flat
  obtain ⟨g, off, rfl, hr⟩ := h.rd.get (by rw [nums_length, hf]; omega)
  refine ⟨g, off, rfl, h.rd.lt (by rw [nums_length, hf]; omega) _ rfl, fun i hi j v hv => ?_⟩
  rw [← h.u.atFlat i hi] at hv
  have h1 : (nums .u8 ds.flatten)[32 * i + j]? = some v := by
    have hj : j < 32 := by
      by_cases hj : j < 32
      · exact hj
      · rw [List.getElem?_eq_none (by rw [nums_length, List.length_take]; omega)] at hv; cases hv
    unfold nums at hv ⊢
    rw [List.map_take, List.map_drop, List.getElem?_take_of_lt hj, List.getElem?_drop] at hv
    exact hv
  have h2 := hr _ _ h1
  rw [show off + i * 32 + j = off + (32 * i + j) by omega]; exact h2

section
variable {P : Program} {ops : Array Oper} {Q : Exit → Act → World → Prop} {rest : List Oper} {a : Act} {w : World}
/-- x[i:] of a slice. -/
theorem st_fromD {d' : Option Tmp} {tt t e : TypeId} {x lo : Operand} {pos : String} {after : Array Edge} {A A2 : Option Addr} {n c i sz : Nat} {k : IntKind} {z : Int}
    (hu : P.underlying t = some (.slice e)) (hsz : (P.info? e).map (·.size) = some sz) (hx : a.eval x = .slice A n c) (hlo : a.eval lo = .int k z) (hz : z = i) (hi : i ≤ n) (hA2 : A2 = (if c = i then A else A.map (·.add (i * sz))))
    (h : wpList P ops Q rest (a.put d' (.slice A2 (n - i) (c - i))) w) :
    wpList P ops Q (⟨d', .slice t x (some lo) none none, tt, pos, after, none⟩ :: rest) a w :=
  wpList_plain rfl fun K hK => by
    subst hz hA2
    have hrun : (Instr.sliceAt t (.slice A n c) (some (.int k i)) none none).run P w = .ok (.slice (if c = i then A else A.map (·.add (i * sz))) (n - i) (c - i)) w := by
      cases hq : P.info? e with
      | none => simp [hq] at hsz
      | some info =>
        have hs : info.size = sz := by simpa [hq] using hsz
        simp [Instr.sliceAt, run_underlying hu, Instr.slice, Instr.sliceBounds, Instr.sliceBound, asIntOf, sizeOf, typeInfo, hq, hs, hi]
    unfold Oper.wp execOp
    simp only [Sem.run_bind, hx, Option.map_some, Option.map_none, hlo, hrun]
    exact hK _ _ h
/-- x[:i] of a slice. -/
theorem st_toD {d' : Option Tmp} {tt t e : TypeId} {x hi : Operand} {pos : String} {after : Array Edge} {A : Option Addr} {n c i sz : Nat} {k : IntKind} {z : Int}
    (hu : P.underlying t = some (.slice e)) (hsz : (P.info? e).map (·.size) = some sz) (hx : a.eval x = .slice A n c) (hlo : a.eval hi = .int k z) (hz : z = i) (hi' : i ≤ c) (hA : A = none → c = 0)
    (hA2 : ∀ ad, A = some ad → ad.spot = none)
    (h : wpList P ops Q rest (a.put d' (.slice A i c)) w) :
    wpList P ops Q (⟨d', .slice t x none (some hi) none, tt, pos, after, none⟩ :: rest) a w :=
  wpList_plain rfl fun K hK => by
    subst hz
    have hrun : (Instr.sliceAt t (.slice A n c) none (some (.int k i)) none).run P w = .ok (.slice A i c) w := by
      cases hq : P.info? e with
      | none => simp [hq] at hsz
      | some info =>
        simp [Instr.sliceAt, run_underlying hu, Instr.slice, Instr.sliceBounds, Instr.sliceBound, asIntOf, sizeOf, typeInfo, hq, hi']
        cases A with
        | none => simp
        | some ad => have := hA2 ad rfl; cases ad; simp_all [Addr.add]
    unfold Oper.wp execOp
    simp only [Sem.run_bind, hx, Option.map_some, Option.map_none, hlo, hrun]
    exact hK _ _ h
/-- A row of cells at an address, loaded as one value. -/
theorem st_loadCells {d' : Option Tmp} {ty tt : TypeId} {x : Operand} {pos : String} {after : Array Edge} {g off : Nat} {cs : List Value} {d : TypeDesc}
    (hx : a.eval x = .pointer (some ⟨g, off, none⟩)) (hcs : ∀ j v, cs[j]? = some v → w.cell? ⟨g, off + j, none⟩ = some v) (hu : P.underlying ty = some d) (hd : isRow d = true)
    (hi : (P.info? ty).map (·.size) = some cs.length) (h : wpList P ops Q rest (a.put d' (.agg cs.toArray)) w) :
    wpList P ops Q (⟨d', .load ty x, tt, pos, after, none⟩ :: rest) a w :=
  wpList_plain rfl fun K hK => by
    have hl : (loadCells ⟨g, off, none⟩ cs.length).run P w = .ok cs.toArray w :=
      run_loadCells_list (P := P) w ⟨g, off, none⟩ _ (fun j v hv => by
        have hadd : (⟨g, off, none⟩ : Addr).add j = ⟨g, off + j, none⟩ := by unfold Addr.add; split <;> simp_all
        rw [hadd]; exact hcs j v hv)
    have hrun : (loadVar ty ⟨g, off, none⟩).run P w = .ok (.agg cs.toArray) w := by
      cases hq : P.info? ty with
      | none => simp [hq] at hi
      | some i =>
        have hs : i.size = cs.length := by simpa [hq] using hi
        have hagg : (isAgg ty).run P w = .ok true w := by
          unfold isAgg
          rw [Sem.run_bind, run_underlying hu w]
          cases d <;> simp_all [isRow]
        simp [loadVar, Sem.run_bind, hagg, sizeOf, typeInfo, hq, hs, hl]
    unfold Oper.wp execOp
    simp only [hx, Instr.loadAt, Instr.sureAddr, Sem.run_bind, Sem.run_pure, Result.andThen_ok, hrun]
    exact hK _ _ h
end

def kF (n : Nat) : Nat := (splitF n).toNat
theorem kF_spec (n : Nat) (h : 2 ≤ n) : 1 ≤ kF n ∧ kF n < n ∧ n ≤ 2 * kF n ∧ splitF n = (kF n : Int) := by
  obtain ⟨a, h1, h2, h3⟩ := splitF_spec n (by omega)
  have hp : 0 < 2 ^ a := Nat.two_pow_pos a
  unfold kF
  rw [h1]
  omega
def rootF (ds : List (List Int)) (w : Int) : List Int :=
  if _h : ds.length < 2 then (match ds with | [] => cutF (sumF []) w | d :: _ => d)
  else nodeF (rootF (ds.take (kF ds.length)) w) (rootF (ds.drop (kF ds.length)) w) w
termination_by ds.length
decreasing_by
  all_goals
    have := kF_spec ds.length (by omega)
    simp only [List.length_take, List.length_drop]
    omega
theorem rootF_nil (w : Int) : rootF [] w = cutF (sumF []) w := by rw [rootF, dif_pos (by simp)]
theorem rootF_one (d : List Int) (w : Int) : rootF [d] w = d := by rw [rootF, dif_pos (by simp)]
theorem rootF_big (ds : List (List Int)) (w : Int) (h : 2 ≤ ds.length) : rootF ds w = nodeF (rootF (ds.take (kF ds.length)) w) (rootF (ds.drop (kF ds.length)) w) w := by
  rw [rootF, dif_neg (by omega)]
theorem rootF_ok (ds : List (List Int)) (w : Int) (hu : Dgs ds) : (rootF ds w).length = 32 ∧ U8 (rootF ds w) := by
  by_cases h : 2 ≤ ds.length
  · rw [rootF_big ds w h]; exact ⟨nodeF_len _ _ _, nodeF_range _ _ _⟩
  · match ds, h with
    | [], _ => rw [rootF_nil]; exact ⟨cutF_sum _ _, cutF_range _ _ (sumF_range _)⟩
    | [d], _ => rw [rootF_one]; exact hu d (by simp)
    | _ :: _ :: _, h => simp at h
end Go.Proofs.YtipigpeccegjgaaDoor
