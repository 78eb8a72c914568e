/- That inquestlaw21.LedgerNobody returns true. Condition: the table of layer 2 reads as its text lays it. -/
import Derived.Test.YtancldhincaphaaDoorLedL
import Derived.Test.YtancldhincaphaaDoorLedO
import Derived.Test.YtancldhincaphaaDoorEntQ
import Derived.Test.YtancldhincaphaaDoorHeadEq
namespace Go.Proofs.YtancldhincaphaaDoor
open Go.RowKit
set_option maxRecDepth 100000

theorem run_neq_zero (w : World) : (binOp .neq 26 (.agg (headC 0 zd zd zd).toArray) (.agg (headC 0 zd zd zd).toArray)).run Tryd.prog w = .ok (.bool false) w := by
  have h := run_equal_head 0 0 zd zd zd zd zd zd rfl rfl rfl rfl rfl rfl w
  simp [binOp, h]
theorem GivesE.nts {e : Ent} {w w' : World} {A : Option Addr} {c : Nat} (h : GrowI w e.ord (.slice A e.ord.length c) w') : Nts w' A c e.ord := by
  obtain ⟨A', c', h1, h2⟩ := h.slot
  injection h1 with e1 e2 e3
  subst e1; subst e3; exact h2

set_option maxRecDepth 100000 in
set_option maxHeartbeats 8000000 in
theorem lawnobody_any (w : World) (e : Ent) (A : Option Addr) (c : Nat) (he : EntB e) (ho : Nts w A c e.ord) (hl : e.ord.length ≤ 9223372036854775807) (i n : Int) (hk : KV w) :
    Calls Tryd.prog 7 #[.agg (entC e A c).toArray, .int .i64 i, .int .i64 n] w fun r w' => r = .returned (.bool true) ∧ Below w.heap.size w w' := by
  obtain ⟨w0, hw0⟩ : ∃ W, W = w.alloc (.cells (entC e A c).toArray 39) := ⟨_, rfl⟩
  have hx0 : Blk w0 w.heap.size (entC e A c) 39 := by rw [hw0]; exact Blk.new' _ _ _ _ _ rfl rfl
  have hB0 : Below w.heap.size w w0 := by rw [hw0]; exact (Below.refl _ _).alloc (Nat.le_refl _) _
  have hcut := fun w (h : Nts w A c e.ord) => cut20_any w e he A c h hl
  have hhead := fun (w : World) (v : Value) (h : NoLed w v) => headwhy_any w v n 1 (by decide) (fun w' hb => firstno_any w' v (h.up hb) n)
  have HW0 := Lib.hid hw0
  have HCUT := Lib.hid hcut
  have HHEAD := Lib.hid hhead
  have HLEN := Lib.hid (entC_len he A c)
  have HO := Lib.hid ho
  have HK := Lib.hid hk
  have hxl := hx0.lt
  clear hw0 hcut hhead he ho hk
  go_enter Tryd.func7, Tryd.ntmps7
  go_upto_region 1 with (fail)
  rw [← HW0.out]
  go_wp2_with fail
  go_loopw [7] (fun k wr => ∃ j : Nat, k = .int .i64 j ∧ j ≤ 2 ∧ Below w0.heap.size w0 wr) (fun k _ => 2 - (intOf k).toNat)
  case atStart => exact ⟨0, rfl, by omega, Below.refl _ _⟩
  case round =>
    obtain ⟨j, rfl, hj, hB⟩ := hrel
    have hj3 : j = 0 ∨ j = 1 ∨ j = 2 := by omega
    rcases hj3 with rfl | rfl | rfl
    · --ROUND0
      go_upto_region 7 with (fail)
      have hno : NoLed wr (.pointer none) := .inl rfl
      obtain ⟨w1, hw1⟩ : ∃ W, W = wr := ⟨_, rfl⟩
      rw [← hw1] at hB hno ⊢
      clear hw1
      have hx := hx0.up hB
      have HNO := Lib.hid hno
      clear hno
      --MARKA0
      go_wp2_with fail
      go_at_call 32
      refine (textno_any w1 (.pointer none) HNO.out i).mono ?_
      rintro r wz ⟨rfl, rfl⟩
      go_wp2_with fail
      go_at_call 20
      refine (HHEAD.out w1 (.pointer none) HNO.out).mono ?_
      rintro r w2 ⟨rfl, hb2⟩
      have hq : Blk (w2.alloc (.cells (headC 0 zd zd zd).toArray 26)) w2.heap.size (headC 0 zd zd zd) 26 := Blk.new' _ _ _ _ _ rfl rfl
      --MARKB0
      go_upto_region 9 with ((with_reducible apply st_storeW (off := 0) (vs := headC 0 zd zd zd) (cs := headC 0 zd zd zd) (T := 26)); rfl; rfl; exact hq; exact headSize; (rw [zd_len]; decide); exact headC_one _ _ _ _; intro w3 hd3 hw3; rw [laid_all _ _ (by rfl)] at hd3)
      have hb3 : Below w2.heap.size w2 w3 := Wrote.below ((Below.refl _ _).alloc (Nat.le_refl _) _) hw3 (Nat.le_refl _)
      have hb13 : Below w1.heap.size w1 w3 := hb2.trans (hb3.mono hb2.size)
      have HNO3 := Lib.hid (HNO.out.up hb13)
      have hB := hB.trans (hb13.mono hB.size)
      have hx := hx.up hb13
      have hgl := hd3.lt
      clear hq hw3 hb3 hb13 hb2
      --MARKC0
      go_wp2_with fail
      go_at_call 33
      refine (pathno_any w3 (.pointer none) HNO3.out i n).mono ?_
      rintro r wz ⟨rfl, rfl⟩
      go_wp2_with fail
      go_at_call 34
      refine (growthno_any w3 (.pointer none) HNO3.out i n).mono ?_
      rintro r wz ⟨rfl, rfl⟩
      go_wp2_with fail
      --MARKD0
      go_at_call 23
      refine (sizeno_any w3 (.pointer none) HNO3.out).mono ?_
      rintro r wz ⟨rfl, rfl⟩
      go_wp2_with fail
      go_at_call 19
      refine (textsno_any w3 (.pointer none) HNO3.out).mono ?_
      rintro r wz ⟨rfl, rfl⟩
      have hne := run_neq_zero
      --MARKE0
      go_wp2_with (first | ((with_reducible apply st_un); rfl) | ((with_reducible apply st_load (n := 97) (cs := headC 0 zd zd zd) (T := 26)); rfl; exact hd3; exact Tryd.underlying26; rfl; exact headSize; (rw [zd_len]; exact Nat.le_refl _); (exact row_all _ _ zd_len)) | (with_reducible apply st_zeroH) | ((with_reducible apply st_load (n := 69) (cs := entC e A c) (T := 39)); rfl; exact hx; exact Tryd.underlying39; rfl; exact entSize; (rw [HLEN.out]; decide); exact row_all _ _ HLEN.out))
      --MARKF0
      clear hne
      go_at_call 22
      refine (HCUT.out w3 (HO.out.up (hB0.trans (hB.mono hB0.size)))).mono ?_
      rintro r w4 ⟨A4, c4, rfl, hg4⟩
      have hB := hB.trans (hg4.1.mono hB.size)
      have HNO4 := Lib.hid (HNO3.out.up hg4.1)
      go_wp2_with ((with_reducible apply st_un); rfl)
      --MARKG0
      go_at_call 21
      refine (addno_any w4 (.pointer none) HNO4.out (cutE e) A4 c4).mono ?_
      rintro r w5 ⟨rfl, hb5⟩
      have hB := hB.trans (hb5.mono hB.size)
      go_wp2_with ((with_reducible apply st_un); rfl)
      --MARKH0
      go_roundw
      case rel => exact ⟨1, by go_num, by omega, hB⟩
      case measure => simp [intOf]
    · --ROUND1
      go_upto_region 7 with (fail)
      refine named_world ?_
      intro w1 hw1
      have hz : Blk w1 wr.heap.size (ledC false (.slice none 0 0) (.slice none 0 0) (.slice none 0 0) (.slice none 0 0)) 68 := by rw [hw1]; exact Blk.new' _ _ _ _ _ rfl rfl
      have hno : NoLed w1 (.pointer (some ⟨wr.heap.size, 0, none⟩)) := .inr ⟨_, rfl, hz⟩
      have hB : Below w0.heap.size w0 w1 := by rw [hw1]; exact hB.alloc hB.size _
      clear hw1
      have hx := hx0.up hB
      have HNO := Lib.hid hno
      clear hno
      --MARKA1
      go_wp2_with fail
      go_at_call 32
      refine (textno_any w1 (.pointer (some ⟨wr.heap.size, 0, none⟩)) HNO.out i).mono ?_
      rintro r wz ⟨rfl, rfl⟩
      go_wp2_with fail
      go_at_call 20
      refine (HHEAD.out w1 (.pointer (some ⟨wr.heap.size, 0, none⟩)) HNO.out).mono ?_
      rintro r w2 ⟨rfl, hb2⟩
      have hq : Blk (w2.alloc (.cells (headC 0 zd zd zd).toArray 26)) w2.heap.size (headC 0 zd zd zd) 26 := Blk.new' _ _ _ _ _ rfl rfl
      --MARKB1
      go_upto_region 9 with ((with_reducible apply st_storeW (off := 0) (vs := headC 0 zd zd zd) (cs := headC 0 zd zd zd) (T := 26)); rfl; rfl; exact hq; exact headSize; (rw [zd_len]; decide); exact headC_one _ _ _ _; intro w3 hd3 hw3; rw [laid_all _ _ (by rfl)] at hd3)
      have hb3 : Below w2.heap.size w2 w3 := Wrote.below ((Below.refl _ _).alloc (Nat.le_refl _) _) hw3 (Nat.le_refl _)
      have hb13 : Below w1.heap.size w1 w3 := hb2.trans (hb3.mono hb2.size)
      have HNO3 := Lib.hid (HNO.out.up hb13)
      have hB := hB.trans (hb13.mono hB.size)
      have hx := hx.up hb13
      have hgl := hd3.lt
      clear hq hw3 hb3 hb13 hb2
      --MARKC1
      go_wp2_with fail
      go_at_call 33
      refine (pathno_any w3 (.pointer (some ⟨wr.heap.size, 0, none⟩)) HNO3.out i n).mono ?_
      rintro r wz ⟨rfl, rfl⟩
      go_wp2_with fail
      go_at_call 34
      refine (growthno_any w3 (.pointer (some ⟨wr.heap.size, 0, none⟩)) HNO3.out i n).mono ?_
      rintro r wz ⟨rfl, rfl⟩
      go_wp2_with fail
      --MARKD1
      go_at_call 23
      refine (sizeno_any w3 (.pointer (some ⟨wr.heap.size, 0, none⟩)) HNO3.out).mono ?_
      rintro r wz ⟨rfl, rfl⟩
      go_wp2_with fail
      go_at_call 19
      refine (textsno_any w3 (.pointer (some ⟨wr.heap.size, 0, none⟩)) HNO3.out).mono ?_
      rintro r wz ⟨rfl, rfl⟩
      have hne := run_neq_zero
      --MARKE1
      go_wp2_with (first | ((with_reducible apply st_un); rfl) | ((with_reducible apply st_load (n := 97) (cs := headC 0 zd zd zd) (T := 26)); rfl; exact hd3; exact Tryd.underlying26; rfl; exact headSize; (rw [zd_len]; exact Nat.le_refl _); (exact row_all _ _ zd_len)) | (with_reducible apply st_zeroH) | ((with_reducible apply st_load (n := 69) (cs := entC e A c) (T := 39)); rfl; exact hx; exact Tryd.underlying39; rfl; exact entSize; (rw [HLEN.out]; decide); exact row_all _ _ HLEN.out))
      --MARKF1
      clear hne
      go_at_call 22
      refine (HCUT.out w3 (HO.out.up (hB0.trans (hB.mono hB0.size)))).mono ?_
      rintro r w4 ⟨A4, c4, rfl, hg4⟩
      have hB := hB.trans (hg4.1.mono hB.size)
      have HNO4 := Lib.hid (HNO3.out.up hg4.1)
      go_wp2_with ((with_reducible apply st_un); rfl)
      --MARKG1
      go_at_call 21
      refine (addno_any w4 (.pointer (some ⟨wr.heap.size, 0, none⟩)) HNO4.out (cutE e) A4 c4).mono ?_
      rintro r w5 ⟨rfl, hb5⟩
      have hB := hB.trans (hb5.mono hB.size)
      go_wp2_with ((with_reducible apply st_un); rfl)
      --MARKH1
      go_roundw
      case rel => exact ⟨2, by go_num, by omega, hB⟩
      case measure => simp [intOf]
    · --END
      have hBe := hB0.trans (hB.mono hB0.size)
      go_wp2_with fail
      --MARKZ
      go_at_call 16
      refine (lives21_any _ (HK.out.up hBe)).mono ?_
      rintro r w9 ⟨rfl, hb9⟩
      go_wp2_with fail
      go_ret
      exact ⟨rfl, hBe.trans (hb9.mono hBe.size)⟩

end Go.Proofs.YtancldhincaphaaDoor
