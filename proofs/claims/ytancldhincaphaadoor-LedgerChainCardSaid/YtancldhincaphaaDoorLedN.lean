/- What bytes.Clone, ledger.New, Ledger.ok and Ledger.Size answer. No condition. -/
import Derived.Test.YtancldhincaphaaDoorLedS
namespace Go.Proofs.YtancldhincaphaaDoor
open Go.RowKit
set_option maxRecDepth 100000

theorem run_equalIn_nilD (d : Nat) (A : Option Addr) (n c : Nat) (w : World) : (Op.equalIn (d + 1) 22 (.slice A n c) (.slice none 0 0)).run Tryd.prog w = .ok A.isNone w := by
  cases A <;> simp [Op.equalIn, run_underlying Tryd.underlying22]
theorem run_equal_nil (A : Option Addr) (n c : Nat) (w : World) : (Op.equal 22 (.slice A n c) (.slice none 0 0)).run Tryd.prog w = .ok A.isNone w := run_equalIn_nilD 9999 A n c w
theorem run_eql_nil0 (w : World) : (binOp .eql 22 (.slice none 0 0) (.slice none 0 0)).run Tryd.prog w = .ok (.bool true) w := by
  simp [binOp, run_equal_nil]
theorem run_eql_nil1 (a : Addr) (n c : Nat) (w : World) : (binOp .eql 22 (.slice (some a) n c) (.slice none 0 0)).run Tryd.prog w = .ok (.bool false) w := by
  simp [binOp, run_equal_nil]
set_option maxRecDepth 100000 in
set_option maxHeartbeats 1000000 in
theorem clone_any (w : World) (A : Option Addr) (c : Nat) (bs : List Int) (h : Byt w A c bs) (hl : bs.length ≤ 1000000) :
    Calls Tryd.prog 45 #[.slice A bs.length c] w (Gives bs w) := by
  cases A with
  | none =>
    have hc := h.nn rfl
    have hb : bs = [] := List.eq_nil_of_length_eq_zero (by have := h.le; omega)
    subst hb
    subst hc
    clear h
    have heq := run_eql_nil0
    go_enter Tryd.func45, Tryd.ntmps45
    go_wp2_with fail
    go_ret
    exact ⟨_, rfl, Below.refl _ _, Own.nil _ _⟩
  | some ad =>
    have hx0 : Below w.heap.size w (w.alloc (.cells #[] 5)) := (Below.refl _ _).alloc (Nat.le_refl _) _
    have hG : Grows w [] (.slice (some ⟨w.heap.size, 0, none⟩) 0 0) (w.alloc (.cells #[] 5)) := ⟨hx0, World.ownsRow_made w #[] 0 (Nat.le_refl _) (by decide) rfl⟩
    have HX := Lib.hid (h.up hx0)
    clear h
    have heq := run_eql_nil1
    go_enter Tryd.func45, Tryd.ntmps45
    go_wp2_with ((with_reducible apply st_grow (w0 := w) (xs := []) (ys := bs)); rfl; rfl; exact hG; exact HX.out.nn; exact HX.out.rd; (simp; omega); intro v2 w2 hG2)
    --MARK1
    go_ret
    exact ⟨v2, rfl, hG2.1, hG2.2⟩

/-- A ledger in memory. -/
def ledC (made : Bool) (K T L C : Value) : List Value := [.bool made, K, T, L, C]
set_option maxRecDepth 100000 in
set_option maxHeartbeats 1000000 in
theorem ok_any (w : World) (g : Nat) (made : Bool) (K T L C : Value) (h : Blk w g (ledC made K T L C) 68) :
    Calls Tryd.prog 48 #[.pointer (some ⟨g, 0, none⟩)] w fun e w' => e = .returned (.bool made) ∧ w = w' := by
  have c0 := h.cell 0
  simp only [ledC, List.getElem?_cons_zero] at c0
  have hl := h.lt
  clear h
  go_enter Tryd.func48, Tryd.ntmps48
  go_wp2_with ((with_reducible apply st_un); rfl)
  --MARK2
  go_ret
  exact ⟨rfl, rfl⟩

end Go.Proofs.YtancldhincaphaaDoor
