/- Digests of the call's own, written over one by one. No condition. -/
import Derived.Test.YtipigpeccegjgaaDoorRefPath
import Derived.Test.YtipigpeccegjgaaDoorClimb
namespace Go.Proofs.YtipigpeccegjgaaDoor
open Go.RowKit

theorem Rd.wrote {w w' : World} {A : Option Addr} {cs : List Value} {g : Nat} (h : Rd w A cs) (hw : Wrote w w' g) (hne : 0 < cs.length → ∀ a, A = some a → a.block ≠ g) : Rd w' A cs := by
  rcases h with h | ⟨k, off, hA, hc⟩
  · exact .inl h
  · by_cases h0 : 0 < cs.length
    · have hk : k ≠ g := hne h0 ⟨k, off, none⟩ hA
      exact .inr ⟨k, off, hA, fun j v hv => by rw [hw.cell hk]; exact hc j v hv⟩
    · exact .inl (List.eq_nil_of_length_eq_zero (by omega))
theorem Dg.wrote {w w' : World} {A : Option Addr} {c : Nat} {ds : List (List Int)} {g : Nat} (h : Dg w A c ds) (hw : Wrote w w' g) (hne : 0 < ds.length → ∀ a, A = some a → a.block ≠ g) : Dg w' A c ds :=
  ⟨h.rd.wrote hw (fun hp => hne (by rw [nums_length, h.u.flat] at hp; omega)), h.le, h.nn, h.u⟩
theorem Dg.lt {w : World} {A : Option Addr} {c : Nat} {ds : List (List Int)} (h : Dg w A c ds) (hp : 0 < ds.length) (a : Addr) (ha : A = some a) : a.block < w.heap.size := by
  obtain ⟨g, off, hA, hg, _⟩ := h.get hp
  rw [hA] at ha; injection ha with ha; rw [← ha]; exact hg
/-- The row in which it lies. -/
theorem OwnD.slot {w : World} {base : Nat} {v : Value} {ds : List (List Int)} (h : OwnD w base v ds) : ∃ A c, v = .slice A ds.length c ∧ Dg w A c ds ∧ (∀ a, A = some a → base ≤ a.block) ∧
    (0 < ds.length → ∃ g cs, A = some ⟨g, 0, none⟩ ∧ base ≤ g ∧ g < w.heap.size ∧ Blk w g cs 25 ∧ ds.length * 32 ≤ cs.length) := by
  obtain ⟨A, c, hv, hd, hx⟩ := h.dg
  refine ⟨A, c, hv, hd, hx, fun hp => ?_⟩
  obtain ⟨⟨hl, h | ⟨g, cap, cur, hv2, hg, hh, hn, hm, hsz, ht⟩⟩, hu⟩ := h
  · omega
  · rw [hv] at hv2
    injection hv2 with e1 e2 e3
    refine ⟨g, cur.toList, e1, hg, (Array.getElem?_eq_some_iff.1 hh).1, by unfold Blk; simpa using hh, ?_⟩
    have := congrArg List.length ht
    simp [nums_length, hu.flat] at this
    simp; omega

/-- Digest{x}, x a constant. -/
theorem st_litD {ops : Array Oper} {rest : List Oper} {a : Act} {w : World} {Q : Exit → Act → World → Prop} {d' : Option Tmp} {tt : TypeId} {pos : String} {after : Array Edge} {x : Int} (L : List Int) (hL : L.length = 32)
    (hb : Tryd.prog.built 25 [(0, .int .u8 x)] = some (nums .u8 L).toArray)
    (h : ∀ Z : List Int, Hid (Z = L) → Z.length = 32 → wpList Tryd.prog ops Q rest (a.put d' (.agg (nums .u8 Z).toArray)) w) :
    wpList Tryd.prog ops Q (⟨d', .build 25 #[(0, .const (.int .u8 x))], tt, pos, after, none⟩ :: rest) a w :=
  wpList_plain rfl fun K hK => by
    unfold Oper.wp execOp
    simp only [Sem.run_bind, List.map_toArray, List.map_nil, List.map_cons]
    rw [run_build w _ _ (nums .u8 L).toArray (by simpa [Act.eval] using hb)]
    exact hK _ _ (h _ rfl hL)
theorem laid_len (cs vs : List Value) (off : Nat) (h : off + vs.length ≤ cs.length) : (laid cs off vs).length = cs.length := by
  simp [laid]; omega
end Go.Proofs.YtipigpeccegjgaaDoor
