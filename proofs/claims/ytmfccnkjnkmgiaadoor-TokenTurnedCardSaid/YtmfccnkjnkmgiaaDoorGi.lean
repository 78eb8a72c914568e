/- Slices in memory of the call's own whose elements are one cell each: grown by append, read. No condition. -/
import Derived.Test.YtmfccnkjnkmgiaaDoorGa
import Derived.Test.YtmfccnkjnkmgiaaDoorGb
import Derived.Maps.AppendAt
namespace Go.Proofs.YtmfccnkjnkmgiaaDoor
open Go.RowKit

def OwnC (w : World) (base : Nat) (e : TypeId) (v : Value) (cs : List Value) : Prop := w.ownsRow base e 1 v cs.length cs
theorem OwnC.nil (w : World) (base : Nat) (e : TypeId) : OwnC w base e (.slice none 0 0) [] := World.ownsRow_nil w base _ _
theorem OwnC.kept {w w' : World} {base : Nat} {e : TypeId} {v : Value} {cs : List Value} (h : OwnC w base e v cs) (hb : Below w.heap.size w w') : OwnC w' base e v cs :=
  World.ownsRow.kept (row := none) h ⟨hb.os, hb.tape, hb.output, hb.size, fun k hk _ => hb.block k hk⟩ (by cases hv : v.ownBlock <;> simp)
theorem OwnC.from {w : World} {base : Nat} {e : TypeId} {v : Value} {cs : List Value} (h : OwnC w base e v cs) : ∃ A c, v = .slice A cs.length c ∧ cs.length ≤ c ∧ (A = none → c = 0) ∧ Rd w A cs ∧ ∀ a, A = some a → base ≤ a.block := by
  obtain ⟨hl, h | ⟨g, cap, cur, hv, hg, hh, hn, hm, hsz, ht⟩⟩ := h
  · have : cs = [] := List.eq_nil_of_length_eq_zero h.2
    subst this
    exact ⟨none, 0, h.1, Nat.le_refl _, fun _ => rfl, Rd.nil _ _, fun a ha => by cases ha⟩
  · refine ⟨some ⟨g, 0, none⟩, cap, hv, hn, fun h => (by cases h), .inr ⟨g, 0, rfl, fun j v hv => ?_⟩, fun a ha => by injection ha with ha; rw [← ha]; exact hg⟩
    rw [Nat.zero_add]
    simp only [World.cell?, hh]
    rw [← ht, List.getElem?_take] at hv
    split at hv
    · simpa using hv
    · cases hv
/-- Grown by the call. -/
def GrowC (w : World) (e : TypeId) (cs : List Value) (v : Value) (w' : World) : Prop := Below w.heap.size w w' ∧ OwnC w' w.heap.size e v cs
theorem GrowC.nil (w : World) (e : TypeId) : GrowC w e [] (.slice none 0 0) w := ⟨Below.refl _ _, OwnC.nil _ _ _⟩
theorem GrowC.up {w w' w'' : World} {e : TypeId} {cs : List Value} {v : Value} (h : GrowC w e cs v w') (hb : Below w'.heap.size w' w'') : GrowC w e cs v w'' := ⟨h.1.trans (hb.mono h.1.size), h.2.kept hb⟩
theorem GrowC.alloc {w w' : World} {e : TypeId} {cs : List Value} {v : Value} (h : GrowC w e cs v w') (o : Obj) : GrowC w e cs v (w'.alloc o) := h.up ((Below.refl _ _).alloc (Nat.le_refl _) _)

/-- append(x, y..) of elements of one cell that lie in a row, x the call's own. -/
theorem st_growC {P : Program} {ops : Array Oper} {rest : List Oper} {a : Act} {w w0 : World} {Q : Exit → Act → World → Prop} {d' : Option Tmp} {tt t e : TypeId} {s x : Operand} {pos : String} {after : Array Edge} {v z : Value} {ad : Addr} {b m c : Nat} {xs ys : List Value}
    (ht : P.underlying t = some (.slice e)) (hi : (P.info? e).map (fun i => (i.zero, i.size, i.bytes)) = some (some z, 1, b)) (hz : z.cells.size = 1) (hb : b ≤ 16)
    (hs : a.eval s = v) (hx : a.eval x = .slice (some ad) m c) (hg : GrowC w0 e xs v w) (hm : ys.length = m) (hr : ∀ j u, ys[j]? = some u → w.cell? (ad.add j) = some u) (h1 : ∀ u ∈ ys, u.oneCell' = true) (hl : xs.length + m ≤ 1099511627776)
    (h : ∀ v' w', GrowC w0 e (xs ++ ys) v' w' → wpList P ops Q rest (a.put d' v') w') :
    wpList P ops Q (⟨d', .call ⟨.builtin .append, #[s, x], #[t, t]⟩, tt, pos, after, none⟩ :: rest) a w := by
  obtain ⟨i0, hi, hz0, hz1, hz2⟩ := info_parts hi
  refine wpList_append_own_at (w := w) rfl s x t rfl w0.heap.size e i0 z 1 b ht hi hz0 hz1 hz2 hz (by decide) v xs.length xs hs hg.2 ad m c ys hx (by omega) hr h1 (by unfold maxLen; omega) ?_ hg.1.size ?_
  · have := Nat.mul_le_mul hl hb; omega
  · intro v' w' ho hgr _ hat
    refine h v' w' ⟨hg.1.grown hgr hg.1.size (fun k hk => by have := World.ownsRow.lt hg.2 k hk; omega), ?_⟩
    unfold OwnC
    rw [List.length_append, hm]
    exact ho

end Go.Proofs.YtmfccnkjnkmgiaaDoor
