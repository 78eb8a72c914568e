/- Lists of texts in memory. No condition. -/
import Derived.Test.YtancldhincaphaaDoorLedP
import Derived.Test.YtancldhincaphaaDoorGe
namespace Go.Proofs.YtancldhincaphaaDoor
open Go.RowKit
set_option maxRecDepth 100000

/-- A list of texts in memory. -/
structure Txts (w : World) (A : Option Addr) (c : Nat) (l : List (List Int)) : Prop where
  le : l.length ≤ c
  nn : A = none → c = 0
  at' : l = [] ∨ ∃ g o, A = some ⟨g, o, none⟩ ∧ g < w.heap.size ∧ ∀ j (hj : j < l.length), ∃ B d, w.cell? ⟨g, o + j, none⟩ = some (.slice B (l[j]).length d) ∧ Byt w B d l[j]
theorem Txts.up {w w' : World} {A : Option Addr} {c : Nat} {l : List (List Int)} (h : Txts w A c l) (hb : Below w.heap.size w w') : Txts w' A c l := by
  refine ⟨h.le, h.nn, ?_⟩
  rcases h.at' with h | ⟨g, o, h1, h2, h3⟩
  · exact .inl h
  · refine .inr ⟨g, o, h1, Nat.lt_of_lt_of_le h2 hb.size, fun j hj => ?_⟩
    obtain ⟨B, d, h4, h5⟩ := h3 j hj
    exact ⟨B, d, (hb.cell (p := ⟨g, o + j, none⟩) h2).trans h4, h5.up hb⟩
theorem Txts.get {w : World} {A : Option Addr} {c : Nat} {l : List (List Int)} (h : Txts w A c l) (hl : 0 < l.length) : ∃ g o, A = some ⟨g, o, none⟩ ∧ g < w.heap.size ∧ ∀ j (hj : j < l.length), ∃ B d, w.cell? ⟨g, o + j, none⟩ = some (.slice B (l[j]).length d) ∧ Byt w B d l[j] := by
  rcases h.at' with rfl | h
  · simp at hl
  · exact h

def TxtAt (w : World) (A : Option Addr) (l : List (List Int)) : Prop := l = [] ∨ ∃ g o, A = some ⟨g, o, none⟩ ∧ g < w.heap.size ∧ ∀ j (hj : j < l.length), ∃ B d, w.cell? ⟨g, o + j, none⟩ = some (.slice B (l[j]).length d) ∧ Byt w B d l[j]
theorem TxtAt.txts {w : World} {A : Option Addr} {l : List (List Int)} (h : TxtAt w A l) : Txts w A (if A.isNone then 0 else l.length) l := by
  refine ⟨?_, fun h => by simp [h], h⟩
  rcases h with rfl | ⟨g, o, rfl, _⟩
  · simp
  · simp

/-- A list of texts in memory of the call's own, from block base on. -/
def TL (w : World) (base : Nat) (L : List (List Int)) (v : Value) : Prop := ∃ cs, OwnC w base 22 v cs ∧ TxtsIn w cs L (fun k => base ≤ k ∧ k < w.heap.size ∧ v.ownBlock ≠ some k)
theorem TL.nil (w : World) (base : Nat) : TL w base [] (.slice none 0 0) := ⟨[], OwnC.nil _ _ _, TxtsIn.nil _ _⟩
theorem TL.ch {X : Nat → Prop} {w w' : World} {base : Nat} {L : List (List Int)} {v : Value} (h : TL w base L v) (hc : Ch X w w') (hx : ∀ k, base ≤ k → k < w.heap.size → ¬ X k) : TL w' base L v := by
  obtain ⟨cs, h1, h2⟩ := h
  refine ⟨cs, h1.ch hc (fun k hk => by have := World.ownsRow.lt h1 k hk; exact hx k this.1 this.2), (h2.ch hc (fun k hk => hx k hk.1 hk.2.1)).mono (fun k hk => ⟨hk.1, Nat.lt_of_lt_of_le hk.2.1 hc.size, hk.2.2⟩)⟩
theorem TL.up {w w' : World} {base : Nat} {L : List (List Int)} {v : Value} (h : TL w base L v) (hb : Below w.heap.size w w') : TL w' base L v := h.ch (Ch.of (X := fun _ => False) hb) (fun _ _ _ h => h)
theorem TL.txts {w : World} {base : Nat} {L : List (List Int)} {v : Value} (h : TL w base L v) : ∃ A c, v = .slice A L.length c ∧ Txts w A c L := by
  obtain ⟨cs, h1, h2⟩ := h
  obtain ⟨A, c, rfl, h4, h5, h6, _⟩ := h1.from
  have hl := h2.1
  refine ⟨A, c, by rw [hl], ⟨by omega, h5, ?_⟩⟩
  by_cases hL : L = []
  · exact .inl hL
  · have hp : 0 < cs.length := by rw [hl]; exact List.length_pos_iff.2 hL
    obtain ⟨g, off, rfl, h7⟩ := h6.get hp
    refine .inr ⟨g, off, rfl, h6.lt hp _ rfl, fun j hj => ?_⟩
    obtain ⟨B, d, h8, h9, _⟩ := h2.2 j hj
    exact ⟨B, d, h7 j _ h8, h9⟩
theorem TL.own {w : World} {base : Nat} {L : List (List Int)} {v : Value} (h : TL w base L v) : ∀ k, v.ownBlock = some k → base ≤ k ∧ k < w.heap.size := fun k hk => by obtain ⟨cs, h1, _⟩ := h; exact World.ownsRow.lt h1 k hk
/-- append(x, y) of one text, x the call's own. -/
theorem st_pushL {ops : Array Oper} {rest : List Oper} {a : Act} {w : World} {Q : Exit → Act → World → Prop} {d' : Option Tmp} {tt : TypeId} {s x : Operand} {pos : String} {after : Array Edge} {base g2 d : Nat} {v : Value} {L : List (List Int)} {b : List Int} {B : Option Addr}
    (hs : a.eval s = v) (hx : a.eval x = .slice (some ⟨g2, 0, none⟩) 1 1) (ht : TL w base L v) (hr : Blk w g2 [.slice B b.length d] 22) (hb : Byt w B d b) (hB : ∀ a, B = some a → base ≤ a.block ∧ a.block < w.heap.size ∧ v.ownBlock ≠ some a.block) (hl : L.length ≤ 1000000) (hbase : base ≤ w.heap.size)
    (h : ∀ v' w', TL w' base (L ++ [b]) v' → w.grownBy w' v.ownBlock → wpList Tryd.prog ops Q rest (a.put d' v') w') :
    wpList Tryd.prog ops Q (⟨d', .call ⟨.builtin .append, #[s, x], #[43, 43]⟩, tt, pos, after, none⟩ :: rest) a w := by
  obtain ⟨cs, h1, h2⟩ := ht
  refine st_appendT (base := base) (g2 := g2) (v := v) (y := .slice B b.length d) (cs := cs) hs hx h1 hr rfl (by rw [h2.1]; omega) hbase (fun v' w' ho hg hat => h v' w' ⟨cs ++ [.slice B b.length d], ho, ?_⟩ hg)
  have hch : Ch (fun k => v.ownBlock = some k) w w' := Ch.grown hg (fun k hk => hk)
  have own : ∀ k, v.ownBlock ≠ some k → k < w.heap.size → v'.ownBlock ≠ some k := fun k h1 h2 e => by
    rcases hat with hat | hat
    · exact h1 (hat.symm.trans e)
    · rw [hat] at e; injection e with e; omega
  refine ((h2.ch hch (fun k hk => hk.2.2)).mono (fun k hk => ⟨hk.1, Nat.lt_of_lt_of_le hk.2.1 hg.size, own k hk.2.2 hk.2.1⟩)).snoc (hb.ch hch (fun a ha => (hB a ha).2.2)) (fun a ha => ?_)
  have := hB a ha
  exact ⟨this.1, Nat.lt_of_lt_of_le this.2.1 hg.size, own _ this.2.2 this.2.1⟩

end Go.Proofs.YtancldhincaphaaDoor
