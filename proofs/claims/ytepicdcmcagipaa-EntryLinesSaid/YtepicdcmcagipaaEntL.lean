/- What inquestlaw20.lives answers. No condition. -/
import Derived.Test.YtepicdcmcagipaaEntE
import Derived.Test.YtepicdcmcagipaaEntX
namespace Go.Proofs.Ytepicdcmcagipaa
open Go.RowKit

def lifeE : Ent := ⟨0, 0, Z32, Z32, 2, [], 0⟩
theorem lifeE_ok : OkE lifeE := by decide +kernel
theorem lifeE_len : (encL lifeE).length = 69 := by decide +kernel
theorem lifeE_B : EntB lifeE := ⟨Z32_len, Z32_len, U8.of fun x hx => by rw [(List.mem_replicate.1 hx).2]; omega, U8.of fun x hx => by rw [(List.mem_replicate.1 hx).2]; omega, b64_nat 0 (by omega), b64_nat 0 (by omega), b64_nat 2 (by omega), b64_nat 0 (by omega), fun x hx => by cases hx⟩
theorem life_build1 (w : World) : (Instr.build 26 #[(0, .int .i64 2)]).run Try.prog w = .ok (.agg #[.int .i64 2, .slice none 0 0, .int .i64 0]) w := run_build w _ _ _ (by kernel_rfl)
theorem life_build2 (w : World) : (Instr.build 28 #[(4, .agg #[.int .i64 2, .slice none 0 0, .int .i64 0])]).run Try.prog w = .ok (.agg (entC lifeE none 0).toArray) w := run_build w _ _ _ (by kernel_rfl)
/-- A struct built of one part. -/
theorem st_build1 {P : Program} {ops : Array Oper} {rest : List Oper} {a : Act} {w : World} {Q : Exit → Act → World → Prop} {d' : Option Tmp} {tt t : TypeId} {i : Nat} {x : Operand} {v : Value} {pos : String} {after : Array Edge} {r : Array Value}
    (hx : a.eval x = v) (hr : (Instr.build t #[(i, v)]).run P w = .ok (.agg r) w)
    (h : wpList P ops Q rest (a.put d' (.agg r)) w) : wpList P ops Q (⟨d', .build t #[(i, x)], tt, pos, after, none⟩ :: rest) a w :=
  wpList_plain rfl fun K hK => by
    unfold Oper.wp execOp
    simp only [Sem.run_bind]
    rw [show ((#[(i, x)] : Array (Nat × Operand)).map fun y => match y with | (i, x) => (i, a.eval x)) = #[(i, v)] by simp [hx], hr]
    exact hK _ _ h
set_option maxRecDepth 100000 in
set_option maxHeartbeats 1000000 in
theorem lives20_any (w : World) : Calls Try.prog 17 #[] w fun e w' => e = .returned (.bool true) ∧ Below w.heap.size w w' := by
  have henc := fun w => encode_any w lifeE lifeE_B none 0 ⟨Rd.nil _ _, Nat.le_refl _, fun _ => rfl⟩ (by decide)
  rw [encR_yes _ lifeE_ok] at henc
  obtain ⟨E, hE⟩ : ∃ E, E = encL lifeE := ⟨_, rfl⟩
  have hl := lifeE_len
  rw [← hE] at henc hl
  have HENC := Lib.hid henc
  have HL := Lib.hid hl
  clear henc hE hl
  go_enter Try.func17, Try.ntmps17
  go_wp2_with (first | ((with_reducible apply st_build1 (v := .int .i64 2)); rfl; exact life_build1 _) | ((with_reducible apply st_build1 (v := .agg #[.int .i64 2, .slice none 0 0, .int .i64 0])); rfl; exact life_build2 _))
  go_at_call 9
  refine (HENC.out _).mono ?_
  rintro r w1 ⟨v1, rfl, hb1, ho1⟩
  obtain ⟨A1, c1, rfl, _, _, _, _⟩ := ho1.from
  rw [HL.out]
  clear ho1
  go_wp2
  go_ret
  exact ⟨rfl, hb1⟩

end Go.Proofs.Ytepicdcmcagipaa
