/- Words and small laws more: what stays behind a call, an append, a store. Rows of rows of bytes. No condition. -/
import Derived.Test.YtipigpeccegjgaaDoorRefS
import Derived.Test.YtipigpeccegjgaaDoorEql
namespace Go.Proofs.YtipigpeccegjgaaDoor
open Go.RowKit

theorem Rd.take {w : World} {A : Option Addr} {cs : List Value} (h : Rd w A cs) (n : Nat) : Rd w A (cs.take n) := by
  rcases h with h | ⟨g, off, rfl, hc⟩
  · subst h; rw [List.take_nil]; exact Rd.nil _ _
  · refine .inr ⟨g, off, rfl, fun j v hv => hc j v ?_⟩
    rw [List.getElem?_take] at hv
    split at hv
    · exact hv
    · cases hv
theorem nums_take (k : IntKind) (xs : List Int) (n : Nat) : nums k (xs.take n) = (nums k xs).take n := by simp [nums, List.map_take]
theorem U8.take {l : List Int} (h : U8 l) (n : Nat) : U8 (l.take n) := by
  have := h.part 0 n
  simpa using this

theorem Rd.but {g : Nat} {w w' : World} {A : Option Addr} {cs : List Value} (h : Rd w A cs) (hB : But g w.heap.size w w') (hA : ∀ a, A = some a → a.block ≠ g) : Rd w' A cs := by
  rcases h with h | ⟨k, off, rfl, hc⟩
  · exact .inl h
  · refine .inr ⟨k, off, rfl, fun j v hv => ?_⟩
    have := hc j v hv
    rw [hB.cell k _ (World.block_lt_of_cell? (h := this)) (hA ⟨k, off, none⟩ rfl)]; exact this
theorem Own.blk {w : World} {base : Nat} {v : Value} {bs : List Int} (h : Own w base v bs) (hl : 0 < bs.length) : ∃ g cap cur, v = .slice (some ⟨g, 0, none⟩) bs.length cap ∧ base ≤ g ∧ Blk w g cur 5 ∧ bs.length ≤ cur.length ∧ bs.length ≤ cap ∧ Rd w (some ⟨g, 0, none⟩) (nums .u8 bs) := by
  obtain ⟨A, c, h1, h2, h3, h4, _⟩ := h.from
  obtain ⟨hl2, h | ⟨g, cap, cur, hv, hg, hh, hn, hm, hsz, ht⟩⟩ := h
  · omega
  · have hA : A = some ⟨g, 0, none⟩ := by rw [h1] at hv; injection hv
    refine ⟨g, cap, cur.toList, hv, hg, by unfold Blk; simpa using hh, ?_, hn, by rw [← hA]; exact h4⟩
    have := congrArg List.length ht
    rw [List.length_take, nums_length] at this
    omega


theorem IsHash.below {w w' : World} {g B : Nat} {all : List Int} (h : IsHash w g all) (hb : Below B w w') (hg : g < B) : IsHash w' g all := by
  obtain ⟨s, part, h1, h2⟩ := h; exact ⟨s, part, h1.below hb hg, h2⟩
theorem IsHash.butFar {w w' : World} {g h B : Nat} {all : List Int} (hh : IsHash w h all) (hB : But g B w w') (h1 : h < B) (h2 : h ≠ g) : IsHash w' h all := by
  obtain ⟨s, part, h3, h4⟩ := hh; exact ⟨s, part, h3.butFar hB h1 h2, h4⟩
theorem Own.lt {w : World} {base : Nat} {v : Value} {bs : List Int} (h : Own w base v bs) (k : Nat) (hk : v.ownBlock = some k) : base ≤ k ∧ k < w.heap.size := World.ownsRow.lt h k hk
/-- The call's own row, where its block is as it was. -/
theorem Own.same {w w' : World} {base : Nat} {v : Value} {bs : List Int} (h : Own w base v bs) (hs : ∀ k, base ≤ k → k < w.heap.size → w'.heap[k]? = w.heap[k]?) : Own w' base v bs := by
  obtain ⟨hl, h | ⟨g, cap, cur, hv, hg, hh, r⟩⟩ := h
  · exact ⟨hl, .inl h⟩
  · exact ⟨hl, .inr ⟨g, cap, cur, hv, hg, (hs g hg (Array.getElem?_eq_some_iff.1 hh).1).trans hh, r⟩⟩
theorem Own.butFar {w w' : World} {base g : Nat} {v : Value} {bs : List Int} (h : Own w base v bs) (hB : But g w.heap.size w w') (hg : g < base) : Own w' base v bs :=
  h.same fun k h1 h2 => hB.block k h2 (by omega)
/-- The same, where the other's block is newer. -/
theorem Own.butNew {w w' : World} {base g B : Nat} {v : Value} {bs : List Int} (h : Own w base v bs) (hB : But g B w w') (hg : ∀ k, v.ownBlock = some k → k ≠ g) (hw : w.heap.size ≤ B) : Own w' base v bs := by
  obtain ⟨hl, h | ⟨k, cap, cur, hv, hk, hh, r⟩⟩ := h
  · exact ⟨hl, .inl h⟩
  · have hlt := (Array.getElem?_eq_some_iff.1 hh).1
    exact ⟨hl, .inr ⟨k, cap, cur, hv, hk, (hB.block k (by omega) (hg k (by rw [hv]; rfl))).trans hh, r⟩⟩

/-- The call's own bytes, opened: its block, where there is any. -/
theorem Own.mine {w : World} {base : Nat} {v : Value} {bs : List Int} (h : Own w base v bs) : ∃ g A c, v = .slice A bs.length c ∧ base ≤ g ∧ bs.length ≤ c ∧ (A = none → c = 0) ∧ Rd w A (nums .u8 bs) ∧ (∀ a, A = some a → a.block = g) ∧
    (0 < bs.length → A = some ⟨g, 0, none⟩ ∧ g < w.heap.size ∧ ∃ cur, Blk w g cur 5 ∧ bs.length ≤ cur.length) := by
  obtain ⟨A, c, h1, h2, h3, h4, h5⟩ := h.from
  by_cases hl : 0 < bs.length
  · obtain ⟨g, cap, cur, hv, hg, hb, hcl, hcap, hr⟩ := h.blk hl
    exact ⟨g, _, cap, hv, hg, hcap, (fun h => by cases h), hr, (fun a ha => by injection ha with ha; rw [← ha]), fun _ => ⟨rfl, hb.lt, cur, hb, hcl⟩⟩
  · cases A with
    | none => exact ⟨base, none, c, h1, Nat.le_refl _, h2, h3, h4, (fun a ha => by cases ha), fun h => absurd h hl⟩
    | some a => exact ⟨a.block, some a, c, h1, h5 a rfl, h2, h3, h4, (fun b hb => by injection hb with hb; rw [hb]), fun h => absurd h hl⟩

theorem But.wroteFar {g h B : Nat} {w w' w'' : World} (hb : But g B w w') (hw : Wrote w' w'' h) (hh : B ≤ h) : But g B w w'' :=
  ⟨hw.os.trans hb.os, hw.tape.trans hb.tape, hw.output.trans hb.output, by rw [hw.size]; exact hb.size, fun k hk hg => by rw [hw.far k (by omega)]; exact hb.block k hk hg⟩
/-- At this address rows of bytes are read. -/
def RdS (w : World) (A : Option Addr) (ls : List (List Int)) : Prop := ls = [] ∨ ∃ g off, A = some ⟨g, off, none⟩ ∧ ∀ j l, ls[j]? = some l → ∃ Aj cj, w.cell? ⟨g, off + j, none⟩ = some (.slice Aj l.length cj) ∧ l.length ≤ cj ∧ (Aj = none → cj = 0) ∧ Rd w Aj (nums .u8 l) ∧ U8 l
theorem RdS.take {w : World} {A : Option Addr} {ls : List (List Int)} (h : RdS w A ls) (n : Nat) : RdS w A (ls.take n) := by
  rcases h with h | ⟨g, off, rfl, hc⟩
  · subst h; rw [List.take_nil]; exact .inl rfl
  · refine .inr ⟨g, off, rfl, fun j l hl => hc j l ?_⟩
    rw [List.getElem?_take] at hl
    split at hl
    · exact hl
    · cases hl
theorem U8.nil : U8 [] := fun i => by rw [ga_out _ _ (by simp)]; omega
end Go.Proofs.YtipigpeccegjgaaDoor
