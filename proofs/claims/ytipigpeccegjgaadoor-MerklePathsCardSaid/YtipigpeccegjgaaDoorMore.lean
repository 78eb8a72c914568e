/- More words and small laws that the walks of this seat use. Nothing is claimed here of the program but what its tables say of a byte's type. -/
import Derived.Test.YtipigpeccegjgaaDoorBase
import Derived.Laws.AppendOwnNone
namespace Go.Proofs.YtipigpeccegjgaaDoor
open Go.RowKit

theorem u8info : (Tryd.prog.info? 5).map (fun i => (i.zero, i.size, i.bytes)) = some (some (.int .u8 0), 1, 1) := by kernel_rfl

section
variable {P : Program}
theorem run_make_num {t e : TypeId} {i : TypeInfo} {k : IntKind} (ht : P.underlying t = some (.slice e)) (hi : P.info? e = some i) (hz : i.zero = some (.int k 0)) (hs : i.size = 1) (hb : i.bytes ≤ 8)
    (kl : IntKind) (c : Int) (h0 : 0 ≤ c) (hc : c ≤ 1099511627776) (w : World) :
    (Instr.makeSlice t (.int kl c) (.int kl c)).run P w = .ok (.slice (some ⟨w.heap.size, 0, none⟩) c.toNat c.toNat) (w.alloc (.cells (nums k (List.replicate c.toNat 0)).toArray e)) := by
  have hbb : (i.bytes : Int) * c ≤ 281474976710656 := by
    have h8 : (i.bytes : Int) ≤ 8 := by omega
    have := Int.mul_le_mul h8 hc h0 (by omega : (0 : Int) ≤ 8)
    omega
  rw [run_make (P := P) w t e i (.int k 0) ht hi hz kl kl c c h0 (Int.le_refl _) hbb (by omega)]
  congr 3
  apply Array.ext'
  rw [hs, Nat.mul_one]
  show (madeCells #[.int k 0] c.toNat).toList = _
  rw [toList_madeCells_one]
  simp [nums]

end

/-- At this address, where there is something to read, these cells are read. -/
def Rd (w : World) (A : Option Addr) (cs : List Value) : Prop := cs = [] ∨ ∃ g off, A = some ⟨g, off, none⟩ ∧ ∀ j v, cs[j]? = some v → w.cell? ⟨g, off + j, none⟩ = some v
theorem Rd.nil (w : World) (A : Option Addr) : Rd w A [] := .inl rfl
theorem Rd.up {w w' : World} {A : Option Addr} {cs : List Value} (h : Rd w A cs) (hb : Below w.heap.size w w') : Rd w' A cs := by
  rcases h with h | ⟨g, off, hA, hc⟩
  · exact .inl h
  · refine .inr ⟨g, off, hA, fun j v hv => ?_⟩
    have h1 := hc j v hv
    have hlt : g < w.heap.size := World.block_lt_of_cell? (h := h1)
    rw [hb.cell (p := ⟨g, off + j, none⟩) hlt]; exact h1
theorem Rd.below {w w' : World} {B : Nat} {A : Option Addr} {cs : List Value} (h : Rd w A cs) (hb : Below B w w') (hA : ∀ a, A = some a → a.block < B) : Rd w' A cs := by
  rcases h with h | ⟨g, off, rfl, hc⟩
  · exact .inl h
  · exact .inr ⟨g, off, rfl, fun j v hv => by rw [hb.cell (p := ⟨g, off + j, none⟩) (show g < B from hA ⟨g, off, none⟩ rfl)]; exact hc j v hv⟩
theorem Rd.lt {w : World} {A : Option Addr} {cs : List Value} (h : Rd w A cs) (hl : 0 < cs.length) (a : Addr) (ha : A = some a) : a.block < w.heap.size := by
  rcases h with h | ⟨g, off, rfl, hc⟩
  · subst h; simp at hl
  · injection ha with ha; subst ha
    exact World.block_lt_of_cell? (h := hc 0 cs[0] (by simp [hl]))
theorem Rd.ofBlk {w : World} {g : Nat} {cs : List Value} {T : TypeId} (h : Blk w g cs T) : Rd w (some ⟨g, 0, none⟩) cs := .inr ⟨g, 0, rfl, fun j v hv => by rw [Nat.zero_add, h.cell]; exact hv⟩
theorem Rd.get {w : World} {A : Option Addr} {cs : List Value} (h : Rd w A cs) (hl : 0 < cs.length) : ∃ g off, A = some ⟨g, off, none⟩ ∧ ∀ j v, cs[j]? = some v → w.cell? ⟨g, off + j, none⟩ = some v := by
  rcases h with h | h
  · subst h; simp at hl
  · exact h

/-- How many elements a slice has. -/
def lenV : Value → Nat
  | .slice _ n _ => n
  | _ => 0
/-- A slice of bytes that a call reads. -/
def Bytes (w : World) (v : Value) (bs : List Int) : Prop := ∃ A c, v = .slice A bs.length c ∧ bs.length ≤ c ∧ (A = none → c = 0) ∧ Rd w A (nums .u8 bs)
theorem Bytes.up {w w' : World} {v : Value} {bs : List Int} (h : Bytes w v bs) (hb : Below w.heap.size w w') : Bytes w' v bs := by
  obtain ⟨A, c, h1, h2, h3, h4⟩ := h
  exact ⟨A, c, h1, h2, h3, h4.up hb⟩
/-- A slice of bytes in memory of the call's own, from block base on. -/
def Own (w : World) (base : Nat) (v : Value) (bs : List Int) : Prop := w.ownsRow base 5 1 v bs.length (nums .u8 bs)
theorem Own.bytes {w : World} {base : Nat} {v : Value} {bs : List Int} (h : Own w base v bs) : Bytes w v bs := by
  obtain ⟨hl, h | ⟨g, cap, cur, hv, hg, hh, hn, hm, hsz, ht⟩⟩ := h
  · have : bs = [] := List.eq_nil_of_length_eq_zero h.2
    subst this
    exact ⟨none, 0, h.1, Nat.le_refl _, fun _ => rfl, Rd.nil _ _⟩
  · refine ⟨some ⟨g, 0, none⟩, cap, hv, hn, fun h => (by cases h), .inr ⟨g, 0, rfl, fun j v hv => ?_⟩⟩
    rw [Nat.zero_add]
    simp only [World.cell?, hh]
    rw [← ht, List.getElem?_take] at hv
    split at hv
    · simpa using hv
    · cases hv
theorem Own.from {w : World} {base : Nat} {v : Value} {bs : List Int} (h : Own w base v bs) : ∃ A c, v = .slice A bs.length c ∧ bs.length ≤ c ∧ (A = none → c = 0) ∧ Rd w A (nums .u8 bs) ∧ ∀ a, A = some a → base ≤ a.block := by
  obtain ⟨A, c, h1, h2, h3, h4⟩ := h.bytes
  refine ⟨A, c, h1, h2, h3, h4, fun a ha => ?_⟩
  obtain ⟨hl, h | ⟨g, cap, cur, hv, hg, r⟩⟩ := h
  · rw [h.1] at h1; injection h1 with h1; subst h1; cases ha
  · rw [hv] at h1; injection h1 with h1; subst h1; injection ha with ha; rw [← ha]; exact hg
theorem Own.kept {w w' : World} {base : Nat} {v : Value} {bs : List Int} (h : Own w base v bs) (hb : Below w.heap.size w w') : Own w' base v bs :=
  World.ownsRow.kept (row := none) h ⟨hb.os, hb.tape, hb.output, hb.size, fun k hk _ => hb.block k hk⟩ (by cases hv : v.ownBlock <;> simp)
theorem Own.ofBlk {w : World} {base g : Nat} {bs : List Int} (h : Blk w g (nums .u8 bs) 5) (hb : base ≤ g) (hl : bs.length ≤ maxLen) : Own w base (.slice (some ⟨g, 0, none⟩) bs.length bs.length) bs :=
  ⟨by simp [nums_length], .inr ⟨g, bs.length, (nums .u8 bs).toArray, rfl, hb, h, Nat.le_refl _, hl, by simp [nums_length], by simp only [Nat.mul_one]; exact List.take_of_length_le (by simp [nums_length])⟩⟩
theorem Own.mono {w : World} {base base' : Nat} {v : Value} {bs : List Int} (h : Own w base v bs) (hb : base' ≤ base) : Own w base' v bs := by
  obtain ⟨hl, h | ⟨g, cap, cur, hv, hg, r⟩⟩ := h
  · exact ⟨hl, .inl h⟩
  · exact ⟨hl, .inr ⟨g, cap, cur, hv, by omega, r⟩⟩
theorem Own.nil (w : World) (base : Nat) : Own w base (.slice none 0 0) [] := World.ownsRow_nil w base _ _

/-- append(x, y...) of bytes, x the call's own. -/
theorem st_append {ops : Array Oper} {rest : List Oper} {a : Act} {w : World} {Q : Exit → Act → World → Prop} {d' : Option Tmp} {tt : TypeId} {s x : Operand} {pos : String} {after : Array Edge} {base : Nat} {v : Value} {A : Option Addr} {c : Nat} {xs ys : List Int}
    (hs : a.eval s = v) (hx : a.eval x = .slice A ys.length c) (hown : Own w base v xs) (hn : A = none → c = 0) (hr : Rd w A (nums .u8 ys)) (hl : xs.length + ys.length ≤ 1099511627776) (hbase : base ≤ w.heap.size)
    (h : ∀ v' w', Own w' base v' (xs ++ ys) → w.grownBy w' v.ownBlock → wpList Tryd.prog ops Q rest (a.put d' v') w') :
    wpList Tryd.prog ops Q (⟨d', .call ⟨.builtin .append, #[s, x], #[32, 32]⟩, tt, pos, after, none⟩ :: rest) a w := by
  obtain ⟨i0, hi, hz0, hz1, hz2⟩ := info_parts u8info
  by_cases hA : A = none
  · have h0 : ys = [] := by
      rcases hr with hr | ⟨g, off, hA2, _⟩
      · exact List.eq_nil_of_length_eq_zero (by rw [← nums_length .u8 ys, hr]; rfl)
      · rw [hA] at hA2; cases hA2
    have hc := hn hA
    subst hA; subst h0; subst hc
    refine wpList_append_own_none rfl s x 32 rfl base 5 i0 1 Tryd.underlying32 hi v _ _ hs hown hx ?_
    exact h v w (by rw [List.append_nil]; exact hown) ⟨rfl, rfl, rfl, Nat.le_refl _, fun _ _ _ => rfl⟩
  · obtain ⟨ad, hA⟩ := Option.ne_none_iff_exists'.1 hA
    subst hA
    refine wpList_append_own (w := w) rfl s x 32 rfl base 5 i0 (.int .u8 0) 1 1 Tryd.underlying32 hi hz0 hz1 hz2 rfl (by decide) v xs.length (nums .u8 xs) hs hown ad ys.length c (nums .u8 ys) hx (by rw [nums_length, Nat.mul_one]) ?_ (nums_one _ _) (by unfold maxLen; omega) (by omega) hbase ?_
    · intro j u hu
      rcases hr with hr | ⟨g, off, hA2, hc⟩
      · rw [hr] at hu; simp at hu
      · injection hA2 with hA2
        subst hA2
        have : (⟨g, off, none⟩ : Addr).add j = ⟨g, off + j, none⟩ := by unfold Addr.add; split <;> simp_all
        rw [this]; exact hc j u hu
    · intro v' w' ho hg _
      refine h v' w' ?_ hg
      unfold Own
      rw [List.length_append, show nums .u8 (xs ++ ys) = nums .u8 xs ++ nums .u8 ys by simp [nums]]
      exact ho

/-- What was there when the call began is as it was, behind an append to a row of the call's own. -/
theorem below_grown {B base : Nat} {w0 w w' : World} {v : Value} {bs : List Int} (hb : Below B w0 w) (ho : Own w base v bs) (hg : w.grownBy w' v.ownBlock) (hB : B ≤ base) (hbase : base ≤ w.heap.size) : Below B w0 w' :=
  hb.grown hg (by omega) (fun k hk => by have := World.ownsRow.lt ho k hk; omega)
end Go.Proofs.YtipigpeccegjgaaDoor
