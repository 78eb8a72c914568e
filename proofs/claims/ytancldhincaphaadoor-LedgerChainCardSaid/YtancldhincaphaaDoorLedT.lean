/- What ledger.HeadText and the reference's HeadText answer: the words of a head. No condition. -/
import Derived.Test.YtancldhincaphaaDoorGf
import Derived.Test.YtancldhincaphaaDoorGe
namespace Go.Proofs.YtancldhincaphaaDoor
open Go.RowKit
set_option maxRecDepth 100000

/-- A head in memory. -/
def headC (n : Int) (r c s : List Int) : List Value := .int .i64 n :: (nums .u8 r ++ (nums .u8 c ++ nums .u8 s))
def headX (n : Int) : Int := n % 18446744073709551616
def headT (n : Int) (r c : List Int) : List Int := putF (headX n) 8 ++ r ++ c
theorem headT_len (n : Int) (r c : List Int) (hr : r.length = 32) (hc : c.length = 32) : (headT n r c).length = 72 := by simp [headT, putF_len, hr, hc]
theorem headT_u8 (n : Int) (r c : List Int) (hr : U8 r) (hc : U8 c) : U8 (headT n r c) := U8.append (U8.append (putF_range _ _) hr) hc
theorem rd_root {w : World} {g : Nat} {n : Int} {r c s : List Int} {T : TypeId} (h : Blk w g (headC n r c s) T) : Rd w (some ⟨g, 1, none⟩) (nums .u8 r) := by
  refine .inr ⟨g, 1, rfl, fun j v hv => ?_⟩
  rw [h.cell]
  unfold headC
  rw [show 1 + j = j + 1 by omega, List.getElem?_cons_succ, List.getElem?_append_left (List.getElem?_eq_some_iff.1 hv).1]
  exact hv
theorem rd_chain {w : World} {g : Nat} {n : Int} {r c s : List Int} {T : TypeId} (h : Blk w g (headC n r c s) T) (hr : r.length = 32) : Rd w (some ⟨g, 33, none⟩) (nums .u8 c) := by
  refine .inr ⟨g, 33, rfl, fun j v hv => ?_⟩
  rw [h.cell]
  unfold headC
  rw [show 33 + j = (32 + j) + 1 by omega, List.getElem?_cons_succ, List.getElem?_append_right (by rw [nums_length, hr]; omega), nums_length, hr, show 32 + j - 32 = j by omega, List.getElem?_append_left (List.getElem?_eq_some_iff.1 hv).1]
  exact hv
theorem rd_sign {w : World} {g : Nat} {n : Int} {r c s : List Int} {T : TypeId} (h : Blk w g (headC n r c s) T) (hr : r.length = 32) (hc : c.length = 32) : Rd w (some ⟨g, 65, none⟩) (nums .u8 s) := by
  refine .inr ⟨g, 65, rfl, fun j v hv => ?_⟩
  rw [h.cell]
  unfold headC
  rw [show 65 + j = (64 + j) + 1 by omega, List.getElem?_cons_succ, List.getElem?_append_right (by rw [nums_length, hr]; omega), nums_length, hr, List.getElem?_append_right (by rw [nums_length, hc]; omega), nums_length, hc, show 64 + j - 32 - 32 = j by omega]
  exact hv

set_option maxRecDepth 100000 in
set_option maxHeartbeats 4000000 in
theorem headtext_any (w : World) (n : Int) (r c s : List Int) (hr : r.length = 32) (hc : c.length = 32) :
    Calls Tryd.prog 13 #[.agg (headC n r c s).toArray] w (Gives (headT n r c) w) := by
  obtain ⟨w0, hw0⟩ : ∃ W, W = w.alloc (.cells (headC n r c s).toArray 26) := ⟨_, rfl⟩
  have hx0 : Blk w0 w.heap.size (headC n r c s) 26 := by rw [hw0]; exact Blk.new' _ _ _ _ _ rfl rfl
  have hB0 : Below w.heap.size w w0 := by rw [hw0]; exact (Below.refl _ _).alloc (Nat.le_refl _) _
  have hp := fun (w : World) => put8_any w (headX n) (by unfold headX; omega) (by unfold headX; omega)
  obtain ⟨P, hP⟩ : ∃ P, P = putF (headX n) 8 := ⟨_, rfl⟩
  have hpl : P.length = 8 := by rw [hP]; exact putF_len _ _
  have hT : headT n r c = P ++ r ++ c := by rw [hP]; rfl
  rw [← hP] at hp
  rw [hT]
  have HW0 := Lib.hid hw0
  have HP := Lib.hid hp
  have HPL := Lib.hid hpl
  have HR := Lib.hid hr
  have HC := Lib.hid hc
  have c0 := hx0.cell 0
  simp only [headC, List.getElem?_cons_zero] at c0
  clear hw0 hp hP hpl hT hr hc
  go_enter Tryd.func13, Tryd.ntmps13
  go_upto_region 1 with (fail)
  rw [← HW0.out]
  go_wp2_with fail
  --MARK1
  go_at_call 41
  refine (HP.out w0).mono ?_
  rintro e w1 ⟨rfl, hb, hblk⟩
  have hG : Grows w0 P (.slice (some ⟨w0.heap.size, 0, none⟩) 8 8) w1 := ⟨hb, by have h := Own.ofBlk (bs := P) (base := w0.heap.size) hblk (Nat.le_refl _) (by rw [HPL.out]; decide); rw [HPL.out] at h; exact h⟩
  have hx1 := hx0.up hb
  have hl1 := hx0.lt
  clear hblk
  --MARK2
  go_wp2_with (first | ((with_reducible apply st_allArr); exact Tryd.underlying24; kernel_rfl; rfl) | ((with_reducible apply st_grow (w0 := w0) (xs := P) (ys := r)); rfl; (rw [HR.out]; rfl); (first | exact hG | exact (show Grows w0 P _ w1.drew from ⟨hG.1.drew, hG.2⟩)); (intro h; cases h); (first | exact rd_root hx1 | exact rd_root hx1.drew); (rw [HPL.out, HR.out]; decide); intro v2 w2 hG2; have hx2 := hx0.up hG2.1) | ((with_reducible apply st_grow (w0 := w0) (xs := P ++ r) (ys := c)); rfl; (rw [HC.out]; rfl); (first | exact hG2 | exact (show Grows w0 (P ++ r) _ w2.drew from ⟨hG2.1.drew, hG2.2⟩)); (intro h; cases h); (first | exact rd_chain hx2 HR.out | exact rd_chain hx2.drew HR.out); (rw [List.length_append, HPL.out, HR.out, HC.out]; decide); intro v3 w3 hG3))
  --MARK3
  go_ret
  exact ⟨_, rfl, hB0.trans (hG3.1.mono hB0.size), hG3.2.mono hB0.size⟩

set_option maxRecDepth 100000 in
set_option maxHeartbeats 4000000 in
theorem refheadtext_any (w : World) (n : Int) (r c s : List Int) (hr : r.length = 32) (hc : c.length = 32) :
    Calls Tryd.prog 10 #[.agg (headC n r c s).toArray] w (Gives (headT n r c) w) := by
  obtain ⟨w0, hw0⟩ : ∃ W, W = w.alloc (.cells (headC n r c s).toArray 26) := ⟨_, rfl⟩
  have hx0 : Blk w0 w.heap.size (headC n r c s) 26 := by rw [hw0]; exact Blk.new' _ _ _ _ _ rfl rfl
  have hB0 : Below w.heap.size w w0 := by rw [hw0]; exact (Below.refl _ _).alloc (Nat.le_refl _) _
  have hp := fun (w : World) => refput_any w (headX n) 8 (by unfold headX; omega) (by unfold headX; omega) (by omega) (by omega)
  obtain ⟨P, hP⟩ : ∃ P, P = putF (headX n) 8 := ⟨_, rfl⟩
  have hpl : P.length = 8 := by rw [hP]; exact putF_len _ _
  have hT : headT n r c = P ++ r ++ c := by rw [hP]; rfl
  rw [← hP] at hp
  rw [hT]
  have HW0 := Lib.hid hw0
  have HP := Lib.hid hp
  have HPL := Lib.hid hpl
  have HR := Lib.hid hr
  have HC := Lib.hid hc
  have c0 := hx0.cell 0
  simp only [headC, List.getElem?_cons_zero] at c0
  clear hw0 hp hP hpl hT hr hc
  go_enter Tryd.func10, Tryd.ntmps10
  go_upto_region 1 with (fail)
  rw [← HW0.out]
  go_wp2_with fail
  go_at_call 38
  refine (HP.out w0).mono ?_
  rintro e w1 ⟨v1, rfl, hb, ho⟩
  have hG : Grows w0 P v1 w1 := ⟨hb, ho⟩
  have hx1 := hx0.up hb
  go_wp2_with (first | ((with_reducible apply st_allArr); exact Tryd.underlying24; kernel_rfl; rfl) | ((with_reducible apply st_grow (w0 := w0) (xs := P) (ys := r)); rfl; (rw [HR.out]; rfl); (first | exact hG | exact (show Grows w0 P _ w1.drew from ⟨hG.1.drew, hG.2⟩)); (intro h; cases h); (first | exact rd_root hx1 | exact rd_root hx1.drew); (rw [HPL.out, HR.out]; decide); intro v2 w2 hG2; have hx2 := hx0.up hG2.1) | ((with_reducible apply st_grow (w0 := w0) (xs := P ++ r) (ys := c)); rfl; (rw [HC.out]; rfl); (first | exact hG2 | exact (show Grows w0 (P ++ r) _ w2.drew from ⟨hG2.1.drew, hG2.2⟩)); (intro h; cases h); (first | exact rd_chain hx2 HR.out | exact rd_chain hx2.drew HR.out); (rw [List.length_append, HPL.out, HR.out, HC.out]; decide); intro v3 w3 hG3))
  go_ret
  exact ⟨_, rfl, hB0.trans (hG3.1.mono hB0.size), hG3.2.mono hB0.size⟩

end Go.Proofs.YtancldhincaphaaDoor
