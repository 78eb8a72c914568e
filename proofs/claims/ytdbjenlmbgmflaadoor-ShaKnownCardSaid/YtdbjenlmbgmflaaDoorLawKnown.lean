/- What the standard's own examples come to: closed sums by the kernel; and that inquestlaw02.ShaKnown returns true. Condition: the package's table k reads as its text lays it. -/
import Derived.Test.YtdbjenlmbgmflaaDoorLives
import Derived.Test.YtdbjenlmbgmflaaDoorEql
import Derived.Laws.IdiomStrings
import Derived.Laws.BytesArg
import Derived.Lib.SlBytesConst
namespace Go.Proofs.YtdbjenlmbgmflaaDoor
open Go.RowKit

def ABC : List Int := [97, 98, 99]
def LONG : List Int := [97, 98, 99, 100, 98, 99, 100, 101, 99, 100, 101, 102, 100, 101, 102, 103, 101, 102, 103, 104, 102, 103, 104, 105, 103, 104, 105, 106, 104, 105, 106, 107, 105, 106, 107, 108, 106, 107, 108, 109, 107, 108, 109, 110, 108, 109, 110, 111, 109, 110, 111, 112, 110, 111, 112, 113]
def SUM0 : List Int := [227, 176, 196, 66, 152, 252, 28, 20, 154, 251, 244, 200, 153, 111, 185, 36, 39, 174, 65, 228, 100, 155, 147, 76, 164, 149, 153, 27, 120, 82, 184, 85]
def SUM1 : List Int := [186, 120, 22, 191, 143, 1, 207, 234, 65, 65, 64, 222, 93, 174, 34, 35, 176, 3, 97, 163, 150, 23, 122, 156, 180, 16, 255, 97, 242, 0, 21, 173]
def SUM2 : List Int := [36, 141, 106, 97, 210, 6, 56, 184, 229, 192, 38, 147, 12, 62, 96, 57, 163, 60, 228, 89, 100, 255, 33, 103, 246, 236, 237, 212, 25, 219, 6, 193]
theorem sum0 : sumF [] = SUM0 := by decide +kernel
theorem sum1 : sumF ABC = SUM1 := by decide +kernel
theorem sum2 : sumF LONG = SUM2 := by decide +kernel

section
variable {P : Program} {ops : Array Oper} {Q : Exit → Act → World → Prop} {rest : List Oper} {a : Act} {w : World}
/-- x[:j] of an array in memory. -/
theorem st_hiArr {d' : Option Tmp} {tt t e : TypeId} {x hi : Operand} {pos : String} {after : Array Edge} {g off n j : Nat} {k : IntKind} {z : Int}
    (hu : P.underlying t = some (.array n e)) (hsz : (P.info? e).map (·.size) = some 1) (hx : a.eval x = .pointer (some ⟨g, off, none⟩)) (hhi : a.eval hi = .int k z) (hz : z = j) (hj : j ≤ n)
    (h : wpList P ops Q rest (a.put d' (.slice (some ⟨g, off, none⟩) j n)) w) :
    wpList P ops Q (⟨d', .slice t x none (some hi) none, tt, pos, after, none⟩ :: rest) a w :=
  wpList_plain rfl fun K hK => by
    subst hz
    have hrun : (Instr.sliceAt t (.pointer (some ⟨g, off, none⟩)) none (some (.int k j)) none).run P w = .ok (.slice (some ⟨g, off, none⟩) j n) w := by
      cases hq : P.info? e with
      | none => simp [hq] at hsz
      | some info =>
        have hadd : (⟨g, off, none⟩ : Addr).add 0 = ⟨g, off, none⟩ := by unfold Addr.add; split <;> simp_all
        simp [Instr.sliceAt, run_underlying hu, Instr.sureAddr, Instr.sliceBounds, Instr.sliceBound, asIntOf, sizeOf, typeInfo, hq, hadd, hj]
    unfold Oper.wp execOp
    simp only [Sem.run_bind, hx, Option.map_some, Option.map_none, hhi, hrun]
    exact hK _ _ h
/-- string(x) of bytes in a row. -/
theorem st_str {d' : Option Tmp} {tt src dst e : TypeId} {x : Operand} {pos : String} {after : Array Edge} {g off n c : Nat} {cs : List Int} {T : TypeId} {s : ByteArray}
    (hs : P.underlying src = some (.slice e)) (he : P.underlying e = some (.int .u8)) (hd : P.underlying dst = some .string) (hx : a.eval x = .slice (some ⟨g, off, none⟩) n c) (hb : Blk w g (nums .u8 cs) T) (hle : off + n ≤ cs.length) (hr : strOfNums ((cs.drop off).take n) = s)
    (h : wpList P ops Q rest (a.put d' (.string s)) w) :
    wpList P ops Q (⟨d', .convert src dst x, tt, pos, after, none⟩ :: rest) a w :=
  wpList_plain rfl fun K hK => by
    have hrun := run_convert_bytes_arg (P := P) w src e hs he g off n c ((cs.drop off).take n) (by simp; omega) (fun i hi => by
      rw [hb.cell, nums_at _ _ _ (by omega), ← ga_eq, ← ga_eq, ga_take _ _ _ hi, ga_drop]) dst hd
    rw [hr] at hrun
    unfold Oper.wp execOp
    simp only [Sem.run_bind, hx, hrun]
    exact hK _ _ h
end

set_option maxHeartbeats 2000000 in
set_option maxRecDepth 100000 in
theorem lawknown_any (w : World) (hk : KV w) : Calls Tryd.prog 6 #[] w fun e w' => e = .returned (.bool true) ∧ Below w.heap.size w w' := by
  have HK := Lib.hid hk
  clear hk
  have kc := fun (w : World) (C : Array Value) (n c : Nat) => Lib.run_convert_bytes_const (P := Tryd.prog) w 22 5 C n c Tryd.underlying22 Tryd.underlying5
  go_enter Tryd.func6, Tryd.ntmps6
  go_wp2_with fail
  refine (sum_any _ [] none 0 (Rd.nil _ _) (Nat.le_refl _) (fun _ => rfl) (by decide) (HK.out.below ((Below.refl _ _).alloc (Nat.le_refl _) _) HK.out.lt)).mono ?_
  rintro e w1 ⟨rfl, hb1⟩
  have hR1 : Rd w1 (some ⟨w.heap.size, 0, none⟩) (nums .u8 LONG) := by
    refine Rd.up (w := w.alloc (.cells (nums .u8 LONG).toArray 5 (56, 57))) (.inr ⟨_, _, rfl, fun j v hv => ?_⟩) hb1
    rw [World.cell?_alloc_mark, Nat.zero_add]; simpa using hv
  have hB1 : Below w.heap.size w w1 := ((Below.refl _ _).alloc (Nat.le_refl _) _).trans (hb1.mono (by simp))
  rw [sum0]
  clear hb1
  go_wp2_with fail
  have hRA : Rd (w1.alloc (.cells (nums .u8 ABC).toArray 5 (3, 4))) (some ⟨w1.heap.size, 0, none⟩) (nums .u8 ABC) := .inr ⟨_, _, rfl, fun j v hv => by rw [World.cell?_alloc_mark, Nat.zero_add]; simpa using hv⟩
  refine (sum_any _ ABC _ 3 hRA (Nat.le_refl _) (fun h => by cases h) (by decide) (HK.out.below (hB1.alloc hB1.size _) HK.out.lt)).mono ?_
  rintro e w2 ⟨rfl, hb2⟩
  have hb12 : Below w1.heap.size w1 w2 := ((Below.refl _ _).alloc (Nat.le_refl _) _).trans (hb2.mono (by simp))
  have hB2 : Below w.heap.size w w2 := hB1.trans (hb12.mono hB1.size)
  have hR2 := hR1.up hb12
  rw [sum1]
  clear hb2 hRA hb12 hR1 hB1
  go_wp2_with fail
  refine (sum_any _ LONG _ 56 hR2 (Nat.le_refl _) (fun h => by cases h) (by decide) (HK.out.below hB2 HK.out.lt)).mono ?_
  rintro e w3 ⟨rfl, hb3⟩
  have hB3 : Below w.heap.size w w3 := hB2.trans (hb3.mono hB2.size)
  rw [sum2]
  clear hb3 hR2 hB2 kc
  go_wp2_with (first
    | (apply st_storeW (off := 0) (vs := nums .u8 SUM0) (cs := nums .u8 (List.replicate 32 0)) (T := 26); rfl; rfl; exact ((Blk.new' w3 _ _ _ _ rfl rfl).alloc _).alloc _; kernel_rfl; decide; exact nums_one _ _;
       intro w4 hb4 hw4; rw [laid_all _ _ (by rfl)] at hb4)
    | (apply st_storeW (off := 0) (vs := nums .u8 SUM1) (cs := nums .u8 (List.replicate 32 0)) (T := 26); rfl; rfl; exact hw4.blk ((Blk.new' _ _ _ _ _ rfl (by simp)).alloc _) (by omega); kernel_rfl; decide; exact nums_one _ _;
       intro w5 hb5 hw5; rw [laid_all _ _ (by rfl)] at hb5)
    | (apply st_storeW (off := 0) (vs := nums .u8 SUM2) (cs := nums .u8 (List.replicate 32 0)) (T := 26); rfl; rfl; exact hw5.blk (hw4.blk (Blk.new' _ _ _ _ _ rfl (by simp)) (by omega)) (by omega); kernel_rfl; decide; exact nums_one _ _;
       intro w6 hb6 hw6; rw [laid_all _ _ (by rfl)] at hb6))
  have hB6 : Below w.heap.size w w6 := Wrote.below (Wrote.below (Wrote.below (((hB3.alloc hB3.size _).alloc (by have := hB3.size; simp; omega) _).alloc (by have := hB3.size; simp; omega) _) hw4 hB3.size) hw5 (by have := hB3.size; omega)) hw6 (by have := hB3.size; omega)
  have a1 := hw6.blk (hw5.blk hb4 (by omega)) (by omega)
  have a2 := hw6.blk hb5 (by omega)
  have a3 := hb6
  clear hb4 hb5 hb6 hw4 hw5 hw6 hB3
  refine wp_region_C (Same [w3.heap.size, w3.heap.size + 1, w3.heap.size + 1 + 1] w6) [] (by kernel_rfl) (by kernel_rfl) (by rintro c a w ⟨_, h, _⟩; cases h) (by rintro a w ⟨h, _⟩; cases h) (Same.refl _ _) ?_
  repeat (refine wd_w (v := ?_) rfl rfl rfl rfl rfl rfl (fun w' hw' K hK => ?_) ?_; rotate_left; (have e1 := hw'.blk a1 (by simp); have e2 := hw'.blk a2 (by simp); have e3 := hw'.blk a3 (by simp); go_wp2_with ((first | (apply st_hiArr (j := 4); exact Tryd.underlying26; kernel_rfl; rfl; rfl; rfl; decide) | (apply st_str (cs := SUM0) (T := 26) (s := ⟨#[227, 176, 196, 66]⟩); exact Tryd.underlying22; exact Tryd.underlying5; exact Tryd.underlying9; rfl; exact e1; decide; rfl) | (apply st_str (cs := SUM1) (T := 26) (s := ⟨#[186, 120, 22, 191]⟩); exact Tryd.underlying22; exact Tryd.underlying5; exact Tryd.underlying9; rfl; exact e2; decide; rfl) | (apply st_str (cs := SUM2) (T := 26) (s := ⟨#[36, 141, 106, 97]⟩); exact Tryd.underlying22; exact Tryd.underlying5; exact Tryd.underlying9; rfl; exact e3; decide; rfl))); exact rfl); simp only [Act.put, List.setIfInBounds_toArray, List.set_cons_zero, List.set_cons_succ])
  refine wd_nil ?_
  go_wp2
  refine wp_region_C (Same [w3.heap.size, w3.heap.size + 1, w3.heap.size + 1 + 1] w6) [] (by kernel_rfl) (by kernel_rfl) (by rintro c a w ⟨_, h, _⟩; cases h) (by rintro a w ⟨h, _⟩; cases h) (Same.refl _ _) ?_
  repeat (refine wd_w (v := ?_) rfl rfl rfl rfl rfl rfl (fun w' hw' K hK => ?_) ?_; rotate_left; (have e1 := hw'.blk a1 (by simp); have e2 := hw'.blk a2 (by simp); have e3 := hw'.blk a3 (by simp); go_wp2_with ((first | (apply st_fromArr (i := 28); exact Tryd.underlying26; kernel_rfl; rfl; rfl; rfl; decide) | (apply st_str (cs := SUM0) (T := 26) (s := ⟨#[120, 82, 184, 85]⟩); exact Tryd.underlying22; exact Tryd.underlying5; exact Tryd.underlying9; rfl; exact e1; decide; rfl) | (apply st_str (cs := SUM1) (T := 26) (s := ⟨#[242, 0, 21, 173]⟩); exact Tryd.underlying22; exact Tryd.underlying5; exact Tryd.underlying9; rfl; exact e2; decide; rfl) | (apply st_str (cs := SUM2) (T := 26) (s := ⟨#[25, 219, 6, 193]⟩); exact Tryd.underlying22; exact Tryd.underlying5; exact Tryd.underlying9; rfl; exact e3; decide; rfl))); exact rfl); simp only [Act.put, List.setIfInBounds_toArray, List.set_cons_zero, List.set_cons_succ])
  refine wd_nil ?_
  have x1 : (((⟨#[227, 176, 196, 66]⟩ : ByteArray) ++ ⟨#[186, 120, 22, 191]⟩ ++ ⟨#[36, 141, 106, 97]⟩).toList == [227, 176, 196, 66, 186, 120, 22, 191, 36, 141, 106, 97]) = true := by decide +kernel
  have x2 : (((⟨#[120, 82, 184, 85]⟩ : ByteArray) ++ ⟨#[242, 0, 21, 173]⟩ ++ ⟨#[25, 219, 6, 193]⟩).toList == [120, 82, 184, 85, 242, 0, 21, 173, 25, 219, 6, 193]) = true := by decide +kernel
  go_wp2_with (go_at_call 16; refine (lives_any _ (HK.out.below (hB6.drew.drew) HK.out.lt)).mono ?_; rintro e w7 ⟨rfl, hb7⟩)
  go_ret
  exact ⟨rfl, hB6.trans ((show Below w6.heap.size w6 w7 from ⟨hb7.os, hb7.tape, hb7.output, hb7.size, hb7.block⟩).mono hB6.size)⟩
end Go.Proofs.YtdbjenlmbgmflaaDoor
