/- What inquestlaw06.lives answers; that inquestlaw06.MerkleRoots returns true. Condition: the table of layer 2 reads as its text lays it. -/
import Derived.Test.YtipigpeccegjgaaDoorGg
namespace Go.Proofs.YtipigpeccegjgaaDoor
open Go.RowKit

theorem root_nil8 : ga (cutF (sumF []) 8) 0 = 227 := by decide +kernel
theorem split_9 : splitF 9 = 8 := by decide +kernel
set_option maxHeartbeats 1000000 in
theorem lives_any (w : World) (hk : KV w) : Calls Tryd.prog 15 #[] w fun e w' => e = .returned (.bool true) ∧ Below w.heap.size w w' := by
  obtain ⟨m, hm⟩ : ∃ m, m = rootF [] 8 := ⟨_, rfl⟩
  have hml : m.length = 32 := by rw [hm, rootF_nil, cutF_sum]
  have hm0 : ga m 0 = 227 := by rw [hm, rootF_nil, root_nil8]
  have hidx0 := run_index_num (P := Tryd.prog) (kk := .i64) (t := 25) (nums .u8 m) 0 _ Tryd.underlying25 Tryd.underlying5 rfl (by kernel_rfl) (by decide) (nums_at .u8 m 0 (by rw [hml]; decide))
  rw [← ga_eq, hm0] at hidx0
  have hidx : ∀ w : World, (Instr.index 25 (.agg (nums .u8 m).toArray) (.int .i64 0)).run Tryd.prog w = .ok (.int .u8 227) w := hidx0
  have hcall := root_any 0 w [] none 0 rfl (Dg.nil w) (by decide) 8 hk
  rw [← hm] at hcall
  have HC := Lib.hid hcall
  clear hidx0 hcall hml hm0 hm
  go_enter Tryd.func15, Tryd.ntmps15
  go_wp2_with fail
  go_at_call 12
  refine HC.out.mono ?_
  rintro e w1 ⟨rfl, hb1⟩
  go_wp2_with fail
  go_at_call 16
  refine (split_any w1 9 (by decide) (by decide)).mono ?_
  rw [split_9]
  rintro e w2 ⟨rfl, rfl⟩
  go_wp2_with fail
  go_ret
  exact ⟨rfl, hb1⟩

set_option maxHeartbeats 4000000 in
theorem lawroots_any (w : World) (ds0 : List (List Int)) (A : Option Addr) (c : Nat) (hd : Dg w A c ds0) (z : Int) (hk : KV w) :
    Calls Tryd.prog 3 #[.slice A ds0.length c, .int .i64 z] w fun e w' => e = .returned (.bool true) ∧ Below w.heap.size w w' := by
  obtain ⟨ds, hds⟩ : ∃ ds, ds = ds0.take 40 := ⟨_, rfl⟩
  have hl : ds.length ≤ 40 := by rw [hds, List.length_take]; omega
  have htt : ds.take 40 = ds := List.take_of_length_le hl
  have hf1 := few_any w ds0 A c hd 40 (by decide) 40 rfl
  rw [← hds] at hf1
  have hf2 := fun (w : World) (A : Option Addr) (c : Nat) (h : Dg w A c ds) => few_any w ds A c h 40 (by decide) 40 rfl
  rw [htt] at hf2
  have hu : Dgs ds := by rw [hds]; exact hd.u.take 40
  obtain ⟨m, hm⟩ : ∃ m, m = rootF ds z := ⟨_, rfl⟩
  have hml : m.length = 32 := by rw [hm]; exact (rootF_ok ds z hu).1
  have heq := run_eql_nums (P := Tryd.prog) (t := 25) Tryd.underlying25 Tryd.underlying5 (by kernel_rfl) (by kernel_rfl) m m hml hml
  rw [decide_eq_true rfl] at heq
  have hr1 := fun (w : World) (A : Option Addr) (c : Nat) (h : Dg w A c ds) => root_any ds.length w ds A c rfl h (by omega) z
  have hr2 := fun (w : World) (A : Option Addr) (c : Nat) (h : Dg w A c ds) => refroot_any ds.length w ds A c rfl h (by omega) z
  rw [← hm] at hr1 hr2
  have HF1 := Lib.hid hf1
  have HF2 := Lib.hid hf2
  have HR1 := Lib.hid hr1
  have HR2 := Lib.hid hr2
  have HEQ := Lib.hid heq
  have HK := Lib.hid hk
  clear hf1 hf2 hr1 hr2 heq hk hm hml hds htt hd
  go_enter Tryd.func3, Tryd.ntmps3
  go_wp2_with fail
  go_at_call 11
  refine HF1.out.mono ?_
  rintro e w1 ⟨v1, rfl, hb1, ho1⟩
  obtain ⟨A1, c1, rfl, h1, hx1⟩ := ho1.dg
  go_wp2_with fail
  go_at_call 11
  refine (HF2.out w1 A1 c1 h1).mono ?_
  rintro e w2 ⟨v2, rfl, hb2, ho2⟩
  obtain ⟨A2, c2, rfl, h2, hx2⟩ := ho2.dg
  have hB2 := hb1.trans (hb2.mono hb1.size)
  have h12 := h1.up hb2
  go_wp2_with fail
  go_at_call 12
  refine (HR1.out w2 A2 c2 h2 (HK.out.below hB2 HK.out.lt)).mono ?_
  rintro e w3 ⟨rfl, hb3⟩
  have hB3 := hB2.trans (hb3.mono hB2.size)
  have h13 := h12.up hb3
  have h23 := h2.up hb3
  go_wp2_with fail
  go_at_call 13
  refine (HR2.out w3 A1 c1 h13).mono ?_
  rintro e w4 ⟨rfl, hb4⟩
  have hB4 := hB3.trans (hb4.mono hB3.size)
  have h14 := h13.up hb4
  have h24 := h23.up hb4
  have heq := HEQ.out
  go_wp2_with fail
  go_at_call 14
  have hcall := samed_any w4 ds ds A2 A1 c2 c1 h24 h14 (by omega) (by omega)
  rw [decide_eq_true rfl] at hcall
  refine hcall.mono ?_; clear hcall
  rintro e w5 ⟨rfl, hb5⟩
  have hB5 := hB4.trans (hb5.mono hB4.size)
  go_wp2_with fail
  go_at_call 15
  refine (lives_any w5 (HK.out.below hB5 HK.out.lt)).mono ?_
  rintro e w6 ⟨rfl, hb6⟩
  have hB6 := hB5.trans (hb6.mono hB5.size)
  go_wp2_with fail
  go_ret
  exact ⟨rfl, hB6⟩

end Go.Proofs.YtipigpeccegjgaaDoor
