/- What the reference's CheckPath answers. No condition. -/
import Derived.Test.YtipigpeccegjgaaDoorCheckP
namespace Go.Proofs.YtipigpeccegjgaaDoor
open Go.RowKit

/-- So many steps up. -/
def upK (leaf : List Int) (S : List Bool) (ps : List (List Int)) (z : Int) (k : Nat) : List Int := upF leaf (S.reverse.take k) (ps.take k) z
theorem upK_zero (leaf : List Int) (S : List Bool) (ps : List (List Int)) (z : Int) : upK leaf S ps z 0 = leaf := rfl
theorem upK_all (leaf : List Int) (S : List Bool) (ps : List (List Int)) (z : Int) (h : S.length = ps.length) : upK leaf S ps z ps.length = upF leaf S.reverse ps z := by
  unfold upK
  rw [List.take_of_length_le (by simp; omega), List.take_of_length_le (Nat.le_refl _)]
theorem upK_succ (leaf : List Int) (S : List Bool) (ps : List (List Int)) (z : Int) (k : Nat) (h : S.length = ps.length) (hk : k < ps.length) (b : Bool) (hb : S[S.length - 1 - k]'(by omega) = b) :
    upK leaf S ps z (k + 1) = if b then nodeF ps[k] (upK leaf S ps z k) z else nodeF (upK leaf S ps z k) ps[k] z := by
  subst hb
  unfold upK
  rw [List.take_add_one, List.take_add_one, List.getElem?_eq_getElem (by simp; omega), List.getElem?_eq_getElem hk]
  simp only [Option.toList_some]
  rw [upF_one _ _ _ _ _ _ (by simp; omega)]
  simp [nodeS]

set_option maxHeartbeats 4000000 in
theorem refcheckpath_any (w : World) (root : List Int) (hroot : root.length = 32) (n i : Int) (hmax : n ≤ 9223372036854775807) (leaf : List Int) (hlf : leaf.length = 32) (ulf : U8 leaf) (ps : List (List Int)) (A : Option Addr) (c : Nat) (hd : Dg w A c ps) (z : Int) :
    Calls Tryd.prog 32 #[.agg (nums .u8 root).toArray, .int .i64 n, .int .i64 i, .agg (nums .u8 leaf).toArray, .slice A ps.length c, .int .i64 z] w fun e w' => e = .returned (.bool (checkPF root n i leaf ps z)) ∧ Below w.heap.size w w' := by
  have hB0 : Below w.heap.size w ((w.alloc (.cells (nums .u8 root).toArray 25)).alloc (.cells (nums .u8 leaf).toArray 25)) := ((Below.refl _ _).alloc (Nat.le_refl _) _).alloc (by simp) _
  have hroot0 : Blk ((w.alloc (.cells (nums .u8 root).toArray 25)).alloc (.cells (nums .u8 leaf).toArray 25)) w.heap.size (nums .u8 root) 25 := (Blk.new' _ _ _ _ _ rfl rfl).alloc _
  have hleaf0 : Blk ((w.alloc (.cells (nums .u8 root).toArray 25)).alloc (.cells (nums .u8 leaf).toArray 25)) (w.heap.size + 1) (nums .u8 leaf) 25 := Blk.new' _ _ _ _ _ rfl (by simp)
  by_cases h0 : i < 0
  · rw [checkPF_out root n i leaf ps z (by omega)]
    clear hroot0 hleaf0
    go_enter Tryd.func32, Tryd.ntmps32
    go_wp2_with fail
    go_ret
    exact ⟨rfl, hB0⟩
  · by_cases h1 : n ≤ i
    · rw [checkPF_out root n i leaf ps z (by omega)]
      clear hroot0 hleaf0
      go_enter Tryd.func32, Tryd.ntmps32
      go_wp2_with fail
      go_ret
      exact ⟨rfl, hB0⟩
    · obtain ⟨N, rfl⟩ := Int.eq_ofNat_of_zero_le (show 0 ≤ n by omega)
      have hst := fun (w : World) => steps_any w N i (by omega) (by omega) (by omega) (by omega)
      have hci := fun d => checkPF_in root d N i leaf ps z (by omega) (by omega)
      have hcl := checkPF_len root N i leaf ps z
      rw [Int.toNat_natCast] at hci hcl
      obtain ⟨r, hr⟩ : ∃ r, r = checkPF root N i leaf ps z := ⟨_, rfl⟩
      rw [← hr] at hci hcl ⊢
      have hsl := stepsF_len 63 N i (by omega)
      obtain ⟨S, hS⟩ : ∃ S, S = stepsF N i := ⟨_, rfl⟩
      rw [← hS] at hst hci hcl hsl
      have HST := Lib.hid hst
      have HLF := Lib.hid hlf
      have HRL := Lib.hid hroot
      have HD := Lib.hid hd
      clear hr hst hlf hroot hd hS
      by_cases hlen : ps.length = S.length
      · have hci2 := fun d => hci d hlen
        have hua := upK_all leaf S ps z hlen.symm
        have HUA := Lib.hid hua
        have HCI := Lib.hid hci2
        have HLEN := Lib.hid hlen
        have hp63 : ps.length ≤ 63 := by omega
        have hsne : ((S.length : Int) != (ps.length : Int)) = false := by simp; omega
        clear hci hci2 hcl hlen hua hsl
        go_enter Tryd.func32, Tryd.ntmps32
        go_wp2_with fail
        go_at_call 44
        refine (HST.out _).mono ?_
        rintro e w1 ⟨v1, rfl, hG1⟩
        obtain ⟨A1, c1, rfl, hc1, hn1, hr1, hx1⟩ := hG1.2.from
        rw [bools_len] at hc1 ⊢
        have hB1 := hB0.trans (hG1.1.mono hB0.size)
        have hroot1 := hroot0.up hG1.1
        have hleaf1 := hleaf0.up hG1.1
        have hdd := HD.out.up hB1
        have hz1 := hleaf1.lt
        clear hG1 hB0 hroot0 hleaf0
        have hd0 : Blk (w1.alloc (.cells (nums .u8 (List.replicate 32 0)).toArray 25)) w1.heap.size (nums .u8 (List.replicate 32 0)) 25 := Blk.new' _ _ _ _ _ rfl rfl
        go_wp2_with (first | ((with_reducible apply st_load (n := 32) (cs := nums .u8 (leaf)) (T := 25)); rfl; exact hleaf1; exact Tryd.underlying25; rfl; kernel_rfl; (rw [nums_length, HLF.out]; exact Nat.le_refl _); (exact row_all _ _ (by rw [nums_length, HLF.out]))) | (apply st_storeW (off := 0) (vs := nums .u8 (leaf)) (cs := nums .u8 (List.replicate 32 0)) (T := 25); rfl; rfl; exact hd0; (rw [nums_length, HLF.out]; kernel_rfl); (rw [nums_length, HLF.out]; decide); exact nums_one _ _; intro w2 hd2 hw2; rw [laid_all _ _ (by rw [nums_length, HLF.out]; rfl)] at hd2))
        have hB12 : Below w1.heap.size w1 w2 := Wrote.below ((Below.refl _ _).alloc (Nat.le_refl _) _) hw2 (Nat.le_refl _)
        clear hd0 hw2
        go_loopw [15] (fun at_ wr => ∃ (k : Nat) (D : List Int), at_ = .int .i64 k ∧ k ≤ ps.length ∧ Hid (D = upK leaf S ps z k) ∧ Hid (D.length = 32 ∧ U8 D) ∧ Below w1.heap.size w1 wr ∧ Blk wr w1.heap.size (nums .u8 D) 25) (fun at_ _ => ps.length - (intOf at_).toNat)
        case atStart => exact ⟨0, leaf, rfl, by omega, rfl, ⟨HLF.out, ulf⟩, hB12, hd2⟩
        case round =>
          clear hB12 hd2
          obtain ⟨k, D, rfl, hk, HDE, HDL, hBr, hDr⟩ := hrel
          by_cases hlt : k < ps.length
          · obtain ⟨g, off, rfl, hg, hcells⟩ := hdd.get (by omega)
            obtain ⟨g1, o1, rfl, hcb⟩ := hr1.get (by rw [bools_len, ← HLEN.out]; omega)
            obtain ⟨t, ht0⟩ : ∃ t, t = S.length - 1 - k := ⟨_, rfl⟩
            have hks : k < S.length := by rw [← HLEN.out]; exact hlt
            have hs63 : S.length ≤ 63 := by rw [← HLEN.out]; exact hp63
            have hts : t < S.length := by rw [ht0, ← HLEN.out]; omega
            have ht : (S.length : Int) - 1 - (k : Int) = (t : Int) := by rw [ht0, ← HLEN.out]; omega
            obtain ⟨b, hb⟩ : ∃ b, b = S[t] := ⟨_, rfl⟩
            have hbk : S[S.length - 1 - k]'(by omega) = b := by rw [hb]; simp only [ht0]
            have hup := upK_succ leaf S ps z k HLEN.out.symm hlt b hbk
            rw [← HDE.out] at hup
            have hb1 := hcb t (.bool b) (by simp [bools, hb, hts])
            have hg1 : g1 < w1.heap.size := World.block_lt_of_cell? (h := hb1)
            have hb2 : wr.cell? ⟨g1, o1 + t, none⟩ = some (.bool b) := (hBr.cell (p := ⟨g1, o1 + t, none⟩) hg1).trans hb1
            have c1 := hcells k hlt
            have l1 := hdd.u.at k hlt
            obtain ⟨x, hx⟩ : ∃ x, x = ps[k] := ⟨_, rfl⟩
            rw [← hx] at c1 l1 hup
            have C1 := Lib.hid c1
            have XL := Lib.hid l1
            have HUP := Lib.hid hup
            have HB2 := Lib.hid hb2
            have HT0 := Lib.hid ht0
            have hgw := Nat.lt_of_lt_of_le hg hBr.size
            have hdl := hDr.lt
            clear hx c1 l1 hup hb1 hb2 hb hbk hcells hcb ht0 hdd hr1 hx1 hn1
            have hb2 := HB2.out
            cases b
            · have hup := HUP.out
              rw [if_neg (by decide)] at hup
              obtain ⟨m, hm⟩ : ∃ m, m = nodeF D x z := ⟨_, rfl⟩
              have hml : m.length = 32 ∧ U8 m := by rw [hm]; exact ⟨nodeF_len _ _ _, nodeF_range _ _ _⟩
              have hcall := fun (w : World) => refnode_any w D x HDL.out.1 XL.out.1 HDL.out.2 XL.out.2 z
              rw [← hm] at hcall hup
              have HCALL := Lib.hid hcall
              have HML := Lib.hid hml
              have HM := Lib.hid hup
              clear hcall hml hup hm
              go_wp2_with fail
              refine wp_region_C (Same [g, w1.heap.size] wr) [6, 7] (by kernel_rfl) (by kernel_rfl) (by intro c a w h; first | (obtain ⟨_, h, _⟩ := h; cases h; done) | (obtain ⟨_, _, h, _⟩ := h; cases h; done) | (obtain ⟨_, _, _, h, _⟩ := h; cases h; done) | (obtain ⟨_, _, _, _, h, _⟩ := h; cases h; done)) (by intro a w h; first | (obtain ⟨h, _⟩ := h; cases h; done) | (obtain ⟨_, h, _⟩ := h; cases h; done) | (obtain ⟨_, _, h, _⟩ := h; cases h; done) | (obtain ⟨_, _, _, h, _⟩ := h; cases h; done)) (Same.refl _ _) ?_
              repeat (refine wd_w (v := ?_) rfl rfl rfl rfl rfl rfl (fun w' hw' K hK => ?_) ?_; rotate_left; (have e1 : ∀ j v, (nums .u8 x)[j]? = some v → w'.cell? ⟨g, off + k * 32 + j, none⟩ = some v := fun j v hv => (hw'.cell g (by simp) _).trans ((hBr.cell (p := ⟨g, off + k * 32 + j, none⟩) hg).trans (C1.out j v hv)); have e2 := hw'.blk hDr (by simp); go_wp2_with ((first | ((with_reducible apply st_loadCells (cs := nums .u8 (x))); rfl; exact e1; exact Tryd.underlying25; rfl; (rw [nums_length, XL.out.1]; kernel_rfl)) | ((with_reducible apply st_load (n := 32) (cs := nums .u8 (D)) (T := 25)); rfl; exact e2; exact Tryd.underlying25; rfl; kernel_rfl; (rw [nums_length, HDL.out.1]; exact Nat.le_refl _); (exact row_all _ _ (by rw [nums_length, HDL.out.1]))))); exact rfl); simp only [Act.put, List.setIfInBounds_toArray, List.set_cons_zero, List.set_cons_succ])
              refine wd_l rfl rfl (by intro a w h; first | (obtain ⟨h, _⟩ := h; cases h; done) | (obtain ⟨_, h, _⟩ := h; cases h; done) | (obtain ⟨_, _, h, _⟩ := h; cases h; done) | (obtain ⟨_, _, _, h, _⟩ := h; cases h; done)) ?_
              go_wp2_with fail
              go_at_call 23
              refine (HCALL.out _).mono ?_
              rintro e w3 ⟨rfl, hb3⟩
              have hBr := hBr.drew.trans (hb3.mono hBr.size)
              have hDr := hDr.drew.up hb3
              have hS : Same [g, w1.heap.size] wr w3 := (Same.refl _ _).below (show Below wr.heap.size wr w3 from (Below.refl _ _).drew.trans (hb3.mono (Nat.le_refl _))) (by intro q hq; simp at hq; rcases hq with rfl | rfl <;> omega)
              go_wp2_with fail
              refine ⟨.inr hS, ?_⟩
              refine wd_last rfl (by kernel_rfl) rfl (by intro a w h; first | (obtain ⟨h, _⟩ := h; cases h; done) | (obtain ⟨_, h, _⟩ := h; cases h; done) | (obtain ⟨_, _, h, _⟩ := h; cases h; done) | (obtain ⟨_, _, _, h, _⟩ := h; cases h; done)) ?_
              go_wp2_with (apply st_storeW (off := 0) (vs := nums .u8 m) (cs := nums .u8 D) (T := 25); rfl; rfl; exact hDr; (rw [nums_length, HML.out.1]; kernel_rfl); (rw [nums_length, nums_length, HML.out.1, HDL.out.1]; decide); exact nums_one _ _; intro w4 hd4 hw4; rw [laid_all _ _ (by rw [nums_length, nums_length, HML.out.1, HDL.out.1])] at hd4)
              go_roundw
              case rel => exact ⟨k + 1, m, by go_num, by omega, HM.out.symm, HML.out, Wrote.below hBr hw4 (Nat.le_refl _), hd4⟩
              case measure => simp [intOf]; omega
            · have hup := HUP.out
              rw [if_pos rfl] at hup
              obtain ⟨m, hm⟩ : ∃ m, m = nodeF x D z := ⟨_, rfl⟩
              have hml : m.length = 32 ∧ U8 m := by rw [hm]; exact ⟨nodeF_len _ _ _, nodeF_range _ _ _⟩
              have hcall := fun (w : World) => refnode_any w x D XL.out.1 HDL.out.1 XL.out.2 HDL.out.2 z
              rw [← hm] at hcall hup
              have HCALL := Lib.hid hcall
              have HML := Lib.hid hml
              have HM := Lib.hid hup
              clear hcall hml hup hm
              go_wp2_with fail
              refine wp_region_C (Same [g, w1.heap.size] wr) [6, 7] (by kernel_rfl) (by kernel_rfl) (by intro c a w h; first | (obtain ⟨_, h, _⟩ := h; cases h; done) | (obtain ⟨_, _, h, _⟩ := h; cases h; done) | (obtain ⟨_, _, _, h, _⟩ := h; cases h; done) | (obtain ⟨_, _, _, _, h, _⟩ := h; cases h; done)) (by intro a w h; first | (obtain ⟨h, _⟩ := h; cases h; done) | (obtain ⟨_, h, _⟩ := h; cases h; done) | (obtain ⟨_, _, h, _⟩ := h; cases h; done) | (obtain ⟨_, _, _, h, _⟩ := h; cases h; done)) (Same.refl _ _) ?_
              repeat (refine wd_w (v := ?_) rfl rfl rfl rfl rfl rfl (fun w' hw' K hK => ?_) ?_; rotate_left; (have e1 : ∀ j v, (nums .u8 x)[j]? = some v → w'.cell? ⟨g, off + k * 32 + j, none⟩ = some v := fun j v hv => (hw'.cell g (by simp) _).trans ((hBr.cell (p := ⟨g, off + k * 32 + j, none⟩) hg).trans (C1.out j v hv)); have e2 := hw'.blk hDr (by simp); go_wp2_with ((first | ((with_reducible apply st_loadCells (cs := nums .u8 (x))); rfl; exact e1; exact Tryd.underlying25; rfl; (rw [nums_length, XL.out.1]; kernel_rfl)) | ((with_reducible apply st_load (n := 32) (cs := nums .u8 (D)) (T := 25)); rfl; exact e2; exact Tryd.underlying25; rfl; kernel_rfl; (rw [nums_length, HDL.out.1]; exact Nat.le_refl _); (exact row_all _ _ (by rw [nums_length, HDL.out.1]))))); exact rfl); simp only [Act.put, List.setIfInBounds_toArray, List.set_cons_zero, List.set_cons_succ])
              refine wd_l rfl rfl (by intro a w h; first | (obtain ⟨h, _⟩ := h; cases h; done) | (obtain ⟨_, h, _⟩ := h; cases h; done) | (obtain ⟨_, _, h, _⟩ := h; cases h; done) | (obtain ⟨_, _, _, h, _⟩ := h; cases h; done)) ?_
              go_wp2_with fail
              go_at_call 23
              refine (HCALL.out _).mono ?_
              rintro e w3 ⟨rfl, hb3⟩
              have hBr := hBr.drew.trans (hb3.mono hBr.size)
              have hDr := hDr.drew.up hb3
              have hS : Same [g, w1.heap.size] wr w3 := (Same.refl _ _).below (show Below wr.heap.size wr w3 from (Below.refl _ _).drew.trans (hb3.mono (Nat.le_refl _))) (by intro q hq; simp at hq; rcases hq with rfl | rfl <;> omega)
              go_wp2_with fail
              refine ⟨.inr hS, ?_⟩
              refine wd_last rfl (by kernel_rfl) rfl (by intro a w h; first | (obtain ⟨h, _⟩ := h; cases h; done) | (obtain ⟨_, h, _⟩ := h; cases h; done) | (obtain ⟨_, _, h, _⟩ := h; cases h; done) | (obtain ⟨_, _, _, h, _⟩ := h; cases h; done)) ?_
              go_wp2_with (apply st_storeW (off := 0) (vs := nums .u8 m) (cs := nums .u8 D) (T := 25); rfl; rfl; exact hDr; (rw [nums_length, HML.out.1]; kernel_rfl); (rw [nums_length, nums_length, HML.out.1, HDL.out.1]; decide); exact nums_one _ _; intro w4 hd4 hw4; rw [laid_all _ _ (by rw [nums_length, nums_length, HML.out.1, HDL.out.1])] at hd4)
              go_roundw
              case rel => exact ⟨k + 1, m, by go_num, by omega, HM.out.symm, HML.out, Wrote.below hBr hw4 (Nat.le_refl _), hd4⟩
              case measure => simp [intOf]; omega
          · have e : k = ps.length := by omega
            have hd2 := HDE.out
            rw [e, HUA.out] at hd2
            have heq := run_eql_nums (P := Tryd.prog) (t := 25) Tryd.underlying25 Tryd.underlying5 (by kernel_rfl) (by kernel_rfl) D root HDL.out.1 HRL.out
            have hf := HCI.out D hd2
            have HF := Lib.hid hf
            have hrr := hroot1.below hBr hroot1.lt
            clear e hd2 hf
            go_wp2_with (first | ((with_reducible apply st_load (n := 32) (cs := nums .u8 (D)) (T := 25)); rfl; exact hDr; exact Tryd.underlying25; rfl; kernel_rfl; (rw [nums_length, HDL.out.1]; exact Nat.le_refl _); (exact row_all _ _ (by rw [nums_length, HDL.out.1]))) | ((with_reducible apply st_load (n := 32) (cs := nums .u8 (root)) (T := 25)); rfl; exact hrr; exact Tryd.underlying25; rfl; kernel_rfl; (rw [nums_length, HRL.out]; exact Nat.le_refl _); (exact row_all _ _ (by rw [nums_length, HRL.out]))))
            go_ret
            exact ⟨by rw [HF.out]; rfl, hB1.trans (hBr.mono hB1.size)⟩
      · have hf := hcl hlen
        have hsne : ((S.length : Int) != (ps.length : Int)) = true := by simp; omega
        have HF := Lib.hid hf
        clear hci hcl hlen hf hsl
        go_enter Tryd.func32, Tryd.ntmps32
        go_wp2_with fail
        go_at_call 44
        refine (HST.out _).mono ?_
        rintro e w1 ⟨v1, rfl, hG1⟩
        obtain ⟨A1, c1, rfl, hc1, hn1, hr1, hx1⟩ := hG1.2.from
        rw [bools_len] at hc1 ⊢
        have hB1 := hB0.trans (hG1.1.mono hB0.size)
        go_wp2_with fail
        go_ret
        exact ⟨by rw [HF.out]; rfl, hB1⟩

end Go.Proofs.YtipigpeccegjgaaDoor
