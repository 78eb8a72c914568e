/- What ledger.New answers; Ledger.Size. No condition. -/
import Derived.Test.YtancldhincaphaaDoorLedN
import Derived.Test.YtancldhincaphaaDoorGj
namespace Go.Proofs.YtancldhincaphaaDoor
open Go.RowKit
set_option maxRecDepth 100000

set_option maxRecDepth 100000 in
set_option maxHeartbeats 1000000 in
theorem size_any (w : World) (g : Nat) (K L C : Value) (A : Option Addr) (n c : Nat) (h : Blk w g (ledC true K (.slice A n c) L C) 68) :
    Calls Tryd.prog 23 #[.pointer (some ⟨g, 0, none⟩)] w fun e w' => e = .returned (.int .i64 n) ∧ w = w' := by
  have c2 := h.cell 2
  simp only [ledC, List.getElem?_cons_zero, List.getElem?_cons_succ] at c2
  have hl := h.lt
  have HB := Lib.hid h
  clear h
  go_enter Tryd.func23, Tryd.ntmps23
  go_wp2_with fail
  go_at_call 48
  refine (ok_any w g true K _ L C HB.out).mono ?_
  rintro e wz ⟨rfl, rfl⟩
  go_wp2_with fail
  go_ret
  exact ⟨rfl, rfl⟩

theorem ledC_one (made : Bool) (A B C D : Option Addr) (a b c d a' b' c' d' : Nat) : ∀ v ∈ ledC made (.slice A a a') (.slice B b b') (.slice C c c') (.slice D d d'), v.oneCell' = true := by
  intro v hv; simp [ledC] at hv; rcases hv with rfl | rfl | rfl | rfl | rfl <;> rfl

set_option maxRecDepth 100000 in
set_option maxHeartbeats 4000000 in
theorem lednew_any (w : World) (A : Option Addr) (c : Nat) (key : List Int) (h : Byt w A c key) (hl : key.length ≤ 1000000) :
    Calls Tryd.prog 29 #[.slice A key.length c] w fun e w' => ∃ (g gc : Nat) (Z : List Int) (K : Option Addr) (ck : Nat), e = .returned (.pointer (some ⟨g, 0, none⟩)) ∧ Below w.heap.size w w' ∧
      Blk w' g (ledC true (.slice K key.length ck) (.slice none 0 0) (.slice none 0 0) (.slice (some ⟨gc, 0, none⟩) 1 1)) 68 ∧ Blk w' gc (nums .u8 Z) 24 ∧ Hid (Z = List.replicate 32 0) ∧ Byt w' K ck key ∧ w.heap.size ≤ gc ∧ gc < g ∧ ∀ a, K = some a → w.heap.size ≤ a.block ∧ a.block < gc := by
  have HB := Lib.hid h
  clear h
  go_enter Tryd.func29, Tryd.ntmps29
  go_wp2_with fail
  go_at_call 45
  refine (clone_any w A c key HB.out hl).mono ?_
  rintro e w1 ⟨v, rfl, hb, ho⟩
  obtain ⟨K, ck, rfl, hy, hn⟩ := ho.byt HB.out.u
  have hlt : ∀ a, K = some a → a.block < w1.heap.size := fun a ha => (World.ownsRow.lt ho a.block (by rw [ha]; rfl)).2
  --MARK1
  go_wp2_with (first | ((with_reducible apply st_zeroD); intro Z HZ hzl; have HZL := Lib.hid hzl; clear hzl) | ((with_reducible apply st_buildD (d := Z)); rfl; exact HZL.out))
  --MARK2
  go_ret
  have ha1 : Below w1.heap.size w1 (w1.alloc (.cells (nums .u8 Z).toArray 24)) := (Below.refl _ _).alloc (Nat.le_refl _) _
  have ha2 : Below w1.heap.size w1 ((w1.alloc (.cells (nums .u8 Z).toArray 24)).alloc (.cells (ledC true (.slice K key.length ck) (.slice none 0 0) (.slice none 0 0) (.slice (some ⟨w1.heap.size, 0, none⟩) 1 1)).toArray 68)) := ha1.alloc ha1.size _
  exact ⟨w1.heap.size + 1, w1.heap.size, Z, K, ck, rfl, hb.trans (ha2.mono hb.size), Blk.new' _ _ _ _ _ rfl (by simp), (Blk.new' _ _ _ _ _ rfl rfl).alloc _, HZ, hy.up ha2, hb.size, by omega, fun a ha => ⟨hn a ha, hlt a ha⟩⟩

end Go.Proofs.YtancldhincaphaaDoor
