/- Bytes that came in, as one fact; cut at most so long. No condition. -/
import Derived.Test.YtipigpeccegjgaaDoorKeep
namespace Go.Proofs.YtipigpeccegjgaaDoor
open Go.RowKit

/-- A slice of bytes that is read. -/
structure Byt (w : World) (A : Option Addr) (c : Nat) (bs : List Int) : Prop where
  rd : Rd w A (nums .u8 bs)
  le : bs.length ≤ c
  nn : A = none → c = 0
  u : U8 bs
theorem Byt.up {w w' : World} {A : Option Addr} {c : Nat} {bs : List Int} (h : Byt w A c bs) (hb : Below w.heap.size w w') : Byt w' A c bs := ⟨h.rd.up hb, h.le, h.nn, h.u⟩
theorem Byt.ne {w : World} {A : Option Addr} {c : Nat} {bs : List Int} (h : Byt w A c bs) {g : Nat} (hg : w.heap.size ≤ g) : 0 < bs.length → ∀ a, A = some a → a.block ≠ g := fun hp a ha => by
  have := h.rd.lt (by rw [nums_length]; exact hp) a ha; omega
theorem Own.byt {w : World} {base : Nat} {v : Value} {bs : List Int} (h : Own w base v bs) (hu : U8 bs) : ∃ A c, v = .slice A bs.length c ∧ Byt w A c bs ∧ ∀ a, A = some a → base ≤ a.block := by
  obtain ⟨A, c, h1, h2, h3, h4, h5⟩ := h.from
  exact ⟨A, c, h1, ⟨h4, h2, h3, hu⟩, h5⟩
/-- The reference's Cut: the first so many. -/
theorem Byt.cut {w : World} {A : Option Addr} {c : Nat} {bs0 : List Int} (h : Byt w A c bs0) (n : Nat) (z : Int) (hz : z = n) : ∃ bs, bs.length ≤ n ∧ Hid (bs = bs0.take n) ∧ Byt w A c bs ∧
    Hid (∀ w', Calls Tryd.prog 18 #[.slice A bs0.length c, .int .i64 z] w' fun e w'' => e = .returned (.slice A bs.length c) ∧ w' = w'') := by
  subst hz
  refine ⟨bs0.take n, by rw [List.length_take]; omega, rfl, ⟨by rw [nums_take]; exact h.rd.take _, by rw [List.length_take]; have := h.le; omega, h.nn, h.u.take _⟩, ?_⟩
  intro w'
  have := refcut_any w' A bs0.length c n h.le
  rwa [show min bs0.length n = (bs0.take n).length by rw [List.length_take]; omega] at this
end Go.Proofs.YtipigpeccegjgaaDoor
