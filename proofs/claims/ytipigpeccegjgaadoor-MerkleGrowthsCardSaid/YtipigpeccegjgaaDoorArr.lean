/- Laws more: arrays cut whole or up to a place, strings of bytes in a row, the bytes of eight numbers by fours. No condition. -/
import Derived.Test.YtipigpeccegjgaaDoorKeep
import Derived.Laws.BytesArg
namespace Go.Proofs.YtipigpeccegjgaaDoor
open Go.RowKit

theorem bytesF_part (s : List Int) : ∀ i, i < s.length → ((bytesF s).drop (4 * i)).take 4 = putF (ga s i) 4 := by
  induction s with
  | nil => intro i h; simp at h
  | cons x s ih =>
    intro i h
    have h4 : (putF x 4).length = 4 := putTo_len _ _ _
    match i with
    | 0 =>
      show ((putF x 4 ++ bytesF s).drop 0).take 4 = putF x 4
      rw [List.drop_zero, List.take_append_of_le_length (by omega), List.take_of_length_le (by omega)]
    | i + 1 =>
      show ((putF x 4 ++ bytesF s).drop (4 * (i + 1))).take 4 = putF (ga s i) 4
      rw [List.drop_append, List.drop_of_length_le (by omega), List.nil_append, h4, show 4 * (i + 1) - 4 = 4 * i by omega]
      exact ih i (by simpa using h)
theorem get_put (x : Int) (h0 : 0 ≤ x) (h1 : x < 4294967296) : getTo (putF x 4) 4 = x := by
  have h4 : (putF x 4).length = 4 := putTo_len _ _ _
  have a0 : ga (putF x 4) 0 = x / 16777216 % 256 := rfl
  have a1 : ga (putF x 4) 1 = x / 65536 % 256 := rfl
  have a2 : ga (putF x 4) 2 = x / 256 % 256 := rfl
  have a3 : ga (putF x 4) 3 = x / 1 % 256 := rfl
  have hU : U8 (putF x 4) := by
    intro i
    match i with
    | 0 => rw [a0]; omega
    | 1 => rw [a1]; omega
    | 2 => rw [a2]; omega
    | 3 => rw [a3]; omega
    | i + 4 => rw [ga_out _ _ (by omega)]; omega
  have := getTo4 (putF x 4) hU h4
  rw [h4] at this
  rw [this, a0, a1, a2, a3, be4_sum _ _ _ _ (by omega) (by omega) (by omega) (by omega)]
  omega

/-- x[i:] of a slice of elements of one cell, somewhere ahead of its end. -/
theorem st_fromLt {P : Program} {ops : Array Oper} {Q : Exit → Act → World → Prop} {rest : List Oper} {a : Act} {w : World} {d' : Option Tmp} {tt t e : TypeId} {x lo : Operand} {pos : String} {after : Array Edge} {g off n c i : Nat} {k : IntKind} {z : Int}
    (hu : P.underlying t = some (.slice e)) (hsz : (P.info? e).map (·.size) = some 1) (hx : a.eval x = .slice (some ⟨g, off, none⟩) n c) (hlo : a.eval lo = .int k z) (hz : z = i) (hi : i ≤ n) (hc : i < c)
    (h : wpList P ops Q rest (a.put d' (.slice (some ⟨g, off + i, none⟩) (n - i) (c - i))) w) :
    wpList P ops Q (⟨d', .slice t x (some lo) none none, tt, pos, after, none⟩ :: rest) a w := by
  subst hz
  refine st_from hu hsz hx hlo hi fun A2 hA2 => ?_
  have e : A2 = some ⟨g, off + i, none⟩ := by
    rw [hA2, if_neg (by omega)]
    simp only [Option.map_some, Option.some.injEq]; unfold Addr.add; split <;> simp_all
  rw [e]; exact h

/-- x[:] of an array in memory. -/
theorem st_allArr {P : Program} {ops : Array Oper} {Q : Exit → Act → World → Prop} {rest : List Oper} {a : Act} {w : World} {d' : Option Tmp} {tt t e : TypeId} {x : Operand} {pos : String} {after : Array Edge} {g off n : Nat}
    (hu : P.underlying t = some (.array n e)) (hsz : (P.info? e).map (·.size) = some 1) (hx : a.eval x = .pointer (some ⟨g, off, none⟩))
    (h : wpList P ops Q rest (a.put d' (.slice (some ⟨g, off, none⟩) n n)) w) :
    wpList P ops Q (⟨d', .slice t x none none none, tt, pos, after, none⟩ :: rest) a w :=
  wpList_plain rfl fun K hK => by
    have hrun : (Instr.sliceAt t (.pointer (some ⟨g, off, none⟩)) none none none).run P w = .ok (.slice (some ⟨g, off, none⟩) n n) w := by
      cases hq : P.info? e with
      | none => simp [hq] at hsz
      | some info =>
        have hadd : (⟨g, off, none⟩ : Addr).add 0 = ⟨g, off, none⟩ := by unfold Addr.add; split <;> simp_all
        simp [Instr.sliceAt, run_underlying hu, Instr.sureAddr, Instr.sliceBounds, sizeOf, typeInfo, hq, hadd]
    unfold Oper.wp execOp
    simp only [Sem.run_bind, hx, Option.map_none, hrun]
    exact hK _ _ h

section
variable {P : Program} {ops : Array Oper} {Q : Exit → Act → World → Prop} {rest : List Oper} {a : Act} {w : World}
/-- x[:j] of an array in memory. -/
theorem st_hiArr {d' : Option Tmp} {tt t e : TypeId} {x hi : Operand} {pos : String} {after : Array Edge} {g off n j : Nat} {k : IntKind} {z : Int}
    (hu : P.underlying t = some (.array n e)) (hsz : (P.info? e).map (·.size) = some 1) (hx : a.eval x = .pointer (some ⟨g, off, none⟩)) (hhi : a.eval hi = .int k z) (hz : z = j) (hj : j ≤ n)
    (h : wpList P ops Q rest (a.put d' (.slice (some ⟨g, off, none⟩) j n)) w) :
    wpList P ops Q (⟨d', .slice t x none (some hi) none, tt, pos, after, none⟩ :: rest) a w :=
  wpList_plain rfl fun K hK => by
    subst hz
    have hrun : (Instr.sliceAt t (.pointer (some ⟨g, off, none⟩)) none (some (.int k j)) none).run P w = .ok (.slice (some ⟨g, off, none⟩) j n) w := by
      cases hq : P.info? e with
      | none => simp [hq] at hsz
      | some info =>
        have hadd : (⟨g, off, none⟩ : Addr).add 0 = ⟨g, off, none⟩ := by unfold Addr.add; split <;> simp_all
        simp [Instr.sliceAt, run_underlying hu, Instr.sureAddr, Instr.sliceBounds, Instr.sliceBound, asIntOf, sizeOf, typeInfo, hq, hadd, hj]
    unfold Oper.wp execOp
    simp only [Sem.run_bind, hx, Option.map_some, Option.map_none, hhi, hrun]
    exact hK _ _ h
/-- string(x) of bytes in a row. -/
theorem st_str {d' : Option Tmp} {tt src dst e : TypeId} {x : Operand} {pos : String} {after : Array Edge} {g off n c : Nat} {cs : List Int} {T : TypeId} {s : ByteArray}
    (hs : P.underlying src = some (.slice e)) (he : P.underlying e = some (.int .u8)) (hd : P.underlying dst = some .string) (hx : a.eval x = .slice (some ⟨g, off, none⟩) n c) (hb : Blk w g (nums .u8 cs) T) (hle : off + n ≤ cs.length) (hr : strOfNums ((cs.drop off).take n) = s)
    (h : wpList P ops Q rest (a.put d' (.string s)) w) :
    wpList P ops Q (⟨d', .convert src dst x, tt, pos, after, none⟩ :: rest) a w :=
  wpList_plain rfl fun K hK => by
    have hrun := run_convert_bytes_arg (P := P) w src e hs he g off n c ((cs.drop off).take n) (by simp; omega) (fun i hi => by
      rw [hb.cell, nums_at _ _ _ (by omega), ← ga_eq, ← ga_eq, ga_take _ _ _ hi, ga_drop]) dst hd
    rw [hr] at hrun
    unfold Oper.wp execOp
    simp only [Sem.run_bind, hx, hrun]
    exact hK _ _ h
end

end Go.Proofs.YtipigpeccegjgaaDoor
