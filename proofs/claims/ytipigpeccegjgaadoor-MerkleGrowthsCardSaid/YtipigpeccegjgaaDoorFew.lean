/- What the reference's Few and Same of layer 6 answer; what inquestlaw06.lives answers. -/
import Derived.Test.YtipigpeccegjgaaDoorRoot
import Derived.Test.YtipigpeccegjgaaDoorRefRoot
import Derived.Test.YtipigpeccegjgaaDoorEql
import Derived.Maps.AppendAt
namespace Go.Proofs.YtipigpeccegjgaaDoor
open Go.RowKit

theorem dinfo : (Tryd.prog.info? 25).map (fun i => (i.zero, i.size, i.bytes)) = some (some (.agg (nums .u8 (List.replicate 32 0)).toArray), 32, 32) := by kernel_rfl
/-- A slice of digests in memory of the call's own, from block base on. -/
def OwnD (w : World) (base : Nat) (v : Value) (ds : List (List Int)) : Prop := w.ownsRow base 25 32 v ds.length (nums .u8 ds.flatten) ∧ Dgs ds
theorem OwnD.nil (w : World) (base : Nat) : OwnD w base (.slice none 0 0) [] := ⟨World.ownsRow_nil w base _ _, Dgs.nil⟩
theorem OwnD.dg {w : World} {base : Nat} {v : Value} {ds : List (List Int)} (h : OwnD w base v ds) : ∃ A c, v = .slice A ds.length c ∧ Dg w A c ds ∧ ∀ a, A = some a → base ≤ a.block := by
  obtain ⟨⟨hl, h | ⟨g, cap, cur, hv, hg, hh, hn, hm, hsz, ht⟩⟩, hu⟩ := h
  · have : ds = [] := List.eq_nil_of_length_eq_zero h.2
    subst this
    exact ⟨none, 0, h.1, Dg.nil w, fun a ha => by cases ha⟩
  · refine ⟨some ⟨g, 0, none⟩, cap, hv, ⟨.inr ⟨g, 0, rfl, fun j v hv => ?_⟩, hn, fun h => (by cases h), hu⟩, fun a ha => by injection ha with ha; rw [← ha]; exact hg⟩
    rw [Nat.zero_add]
    simp only [World.cell?, hh]
    rw [← ht, List.getElem?_take] at hv
    split at hv
    · simpa using hv
    · cases hv
theorem OwnD.lt {w : World} {base : Nat} {v : Value} {ds : List (List Int)} (h : OwnD w base v ds) (k : Nat) (hk : v.ownBlock = some k) : base ≤ k ∧ k < w.heap.size := World.ownsRow.lt h.1 k hk
theorem OwnD.kept {w w' : World} {base : Nat} {v : Value} {ds : List (List Int)} (h : OwnD w base v ds) (hb : Below w.heap.size w w') : OwnD w' base v ds :=
  ⟨World.ownsRow.kept (row := none) h.1 ⟨hb.os, hb.tape, hb.output, hb.size, fun k hk _ => hb.block k hk⟩ (by cases hv : v.ownBlock <;> simp), h.2⟩
theorem OwnD.mono {w : World} {base base' : Nat} {v : Value} {ds : List (List Int)} (h : OwnD w base v ds) (hb : base' ≤ base) : OwnD w base' v ds := by
  obtain ⟨⟨hl, h | ⟨g, cap, cur, hv, hg, r⟩⟩, hu⟩ := h
  · exact ⟨⟨hl, .inl h⟩, hu⟩
  · exact ⟨⟨hl, .inr ⟨g, cap, cur, hv, by omega, r⟩⟩, hu⟩
theorem below_grownD {B base : Nat} {w0 w w' : World} {v : Value} {ds : List (List Int)} (hb : Below B w0 w) (ho : OwnD w base v ds) (hg : w.grownBy w' v.ownBlock) (hB : B ≤ base) (hbase : base ≤ w.heap.size) : Below B w0 w' :=
  hb.grown hg (by omega) (fun k hk => by have := World.ownsRow.lt ho.1 k hk; omega)

/-- append(x, y...) of digests, x the call's own. -/
theorem st_appendD {ops : Array Oper} {rest : List Oper} {a : Act} {w : World} {Q : Exit → Act → World → Prop} {d' : Option Tmp} {tt : TypeId} {s x : Operand} {pos : String} {after : Array Edge} {base : Nat} {v : Value} {A : Option Addr} {c : Nat} {xs ys : List (List Int)}
    (hs : a.eval s = v) (hx : a.eval x = .slice A ys.length c) (hown : OwnD w base v xs) (hy : Dg w A c ys) (hl : xs.length + ys.length ≤ 1000000) (hbase : base ≤ w.heap.size)
    (h : ∀ v' w', OwnD w' base v' (xs ++ ys) → w.grownBy w' v.ownBlock → (v'.ownBlock = v.ownBlock ∨ v'.ownBlock = some w.heap.size) → wpList Tryd.prog ops Q rest (a.put d' v') w') :
    wpList Tryd.prog ops Q (⟨d', .call ⟨.builtin .append, #[s, x], #[22, 22]⟩, tt, pos, after, none⟩ :: rest) a w := by
  obtain ⟨i0, hi, hz0, hz1, hz2⟩ := info_parts dinfo
  have hys := hy.u.flat
  by_cases hA : A = none
  · have hc := hy.nn hA
    have h0 : ys = [] := List.eq_nil_of_length_eq_zero (by have := hy.le; omega)
    subst hA; subst h0; subst hc
    refine wpList_append_own_none rfl s x 22 rfl base 25 i0 32 Tryd.underlying22 hi v _ _ hs hown.1 hx ?_
    exact h v w (by rw [List.append_nil]; exact hown) ⟨rfl, rfl, rfl, Nat.le_refl _, fun _ _ _ => rfl⟩ (.inl rfl)
  · obtain ⟨ad, hA⟩ := Option.ne_none_iff_exists'.1 hA
    subst hA
    refine wpList_append_own_at (w := w) rfl s x 22 rfl base 25 i0 (.agg (nums .u8 (List.replicate 32 0)).toArray) 32 32 Tryd.underlying22 hi hz0 hz1 hz2 rfl (by decide) v xs.length (nums .u8 xs.flatten) hs hown.1 ad ys.length c (nums .u8 ys.flatten) hx (by rw [nums_length, hys]; omega) ?_ (nums_one _ _) (by unfold maxLen; omega) (by omega) hbase ?_
    · intro j u hu
      rcases hy.rd with hr | ⟨g, off, hA2, hc⟩
      · rw [hr] at hu; simp at hu
      · injection hA2 with hA2
        subst hA2
        have : (⟨g, off, none⟩ : Addr).add j = ⟨g, off + j, none⟩ := by unfold Addr.add; split <;> simp_all
        rw [this]; exact hc j u hu
    · intro v' w' ho hg _ hat
      refine h v' w' ⟨?_, hown.2.append hy.u⟩ hg hat
      rw [List.length_append, show nums .u8 (xs ++ ys).flatten = nums .u8 xs.flatten ++ nums .u8 ys.flatten by simp [nums]]
      exact ho

def GivesD (ds : List (List Int)) (w : World) (e : Ending) (w' : World) : Prop := ∃ v, e = .returned v ∧ Below w.heap.size w w' ∧ OwnD w' w.heap.size v ds

set_option maxHeartbeats 2000000 in
theorem few_any (w : World) (ds : List (List Int)) (A : Option Addr) (c : Nat) (hd : Dg w A c ds) (n : Nat) (hn : n ≤ 1000) (z : Int) (hz : z = n) :
    Calls Tryd.prog 11 #[.slice A ds.length c, .int .i64 z] w (GivesD (ds.take n) w) := by
  subst hz
  have hle := hd.le
  have hspot : ∀ ad, A = some ad → ds.length = 0 ∨ ad.spot = none := fun ad he => by
    by_cases h : 0 < ds.length
    · obtain ⟨g, off, hA, _⟩ := hd.get h
      rw [hA] at he; injection he with he; right; rw [← he]
    · left; omega
  have HD := Lib.hid hd
  have HNN := Lib.hid hd.nn
  have HSPOT := Lib.hid hspot
  by_cases h : n < ds.length
  · have ht := hd.take n (by omega)
    have htl : (ds.take n).length = n := by rw [List.length_take]; omega
    have HT := Lib.hid ht
    have HTL := Lib.hid htl
    clear hd hspot ht htl
    go_enter Tryd.func11, Tryd.ntmps11
    go_wp2_with (first
      | (apply st_toD (sz := 32) (i := n); exact Tryd.underlying22; kernel_rfl; rfl; rfl; rfl; omega; exact HNN.out; exact fun ad he => (HSPOT.out ad he).resolve_left (by omega))
      | (apply st_appendD (xs := []) (ys := ds.take n) (base := w.heap.size); rfl; (rw [HTL.out]; rfl); exact OwnD.nil _ _; exact HT.out; (rw [HTL.out]; simp; omega); exact Nat.le_refl _; intro v2 w2 ho2 hg2 hat2))
    go_ret
    exact ⟨v2, rfl, (Below.refl _ _).grown hg2 (Nat.le_refl _) (fun k hk => by cases hk), ho2⟩
  · have ht : ds.take n = ds := List.take_of_length_le (by omega)
    rw [ht]
    clear hd hspot ht
    go_enter Tryd.func11, Tryd.ntmps11
    go_wp2_with (apply st_appendD (xs := []) (ys := ds) (base := w.heap.size); rfl; rfl; exact OwnD.nil _ _; exact HD.out; (simp; omega); exact Nat.le_refl _; intro v2 w2 ho2 hg2 hat2)
    go_ret
    exact ⟨v2, rfl, (Below.refl _ _).grown hg2 (Nat.le_refl _) (fun k hk => by cases hk), ho2⟩
end Go.Proofs.YtipigpeccegjgaaDoor
