/- What the reference's Same of layer 6 answers; what inquestlaw06.lives answers. -/
import Derived.Test.YtipigpeccegjgaaDoorFew
namespace Go.Proofs.YtipigpeccegjgaaDoor
open Go.RowKit

theorem take_same {xs ys : List (List Int)} {k : Nat} (h1 : k < xs.length) (h2 : k < ys.length) (h : xs.take k = ys.take k) (he : xs[k] = ys[k]) : xs.take (k + 1) = ys.take (k + 1) := by
  rw [List.take_add_one, List.take_add_one, List.getElem?_eq_getElem h1, List.getElem?_eq_getElem h2, h, he]

set_option maxHeartbeats 4000000 in
theorem samed_any (w : World) (xs ys : List (List Int)) (A B : Option Addr) (c d : Nat) (ha : Dg w A c xs) (hb : Dg w B d ys) (hl : xs.length ≤ 1000000) (hl2 : ys.length ≤ 1000000) :
    Calls Tryd.prog 14 #[.slice A xs.length c, .slice B ys.length d] w fun e w' => e = .returned (.bool (decide (xs = ys))) ∧ Below w.heap.size w w' := by
  by_cases hlen : xs.length = ys.length
  · have HD := Lib.hid ha
    have HE := Lib.hid hb
    have HLEN := Lib.hid hlen
    have hres : xs.take ys.length = ys.take ys.length → decide (xs = ys) = true := fun h => by
      rw [List.take_of_length_le (by omega), List.take_of_length_le (Nat.le_refl _)] at h
      exact decide_eq_true h
    have hno : ∀ k (h1 : k < xs.length) (h2 : k < ys.length), xs[k] ≠ ys[k] → decide (xs = ys) = false := fun k h1 h2 h => decide_eq_false fun e => h (by subst e; rfl)
    have HRES := Lib.hid hres
    have HNO := Lib.hid hno
    obtain ⟨r, hr⟩ : ∃ r, r = decide (xs = ys) := ⟨_, rfl⟩
    rw [← hr] at HRES HNO ⊢
    rw [hlen]
    clear ha hb hres hno hr hlen
    go_enter Tryd.func14, Tryd.ntmps14
    go_wp2_with fail
    go_loopw [5] (fun i wr => ∃ k : Nat, i = .int .i64 k ∧ k ≤ ys.length ∧ Hid (xs.take k = ys.take k) ∧ Below w.heap.size w wr) (fun i _ => ys.length - (intOf i).toNat)
    case atStart => exact ⟨0, rfl, by omega, Lib.hid rfl, Below.refl _ _⟩
    case round =>
      obtain ⟨k, rfl, hk, HT, hB⟩ := hrel
      by_cases hlt : k < ys.length
      · have hka : k < xs.length := by rw [HLEN.out]; exact hlt
        obtain ⟨g, o, rfl, hg, hc1⟩ := HD.out.get (by omega)
        obtain ⟨g2, o2, rfl, hg2, hc2⟩ := HE.out.get (by omega)
        have c1 := hc1 k hka
        have c2 := hc2 k hlt
        have l1 := (HD.out.u.at k hka).1
        have l2 := (HE.out.u.at k hlt).1
        have hneq := run_neq_nums (P := Tryd.prog) (t := 25) Tryd.underlying25 Tryd.underlying5 (by kernel_rfl) (by kernel_rfl) xs[k] ys[k] l1 l2
        have hstep := fun he => take_same hka hlt HT.out he
        have hend := HNO.out k hka hlt
        obtain ⟨x, hx⟩ : ∃ x, x = xs[k] := ⟨_, rfl⟩
        obtain ⟨y, hy⟩ : ∃ y, y = ys[k] := ⟨_, rfl⟩
        rw [← hx] at c1 l1 hneq hstep hend
        rw [← hy] at c2 l2 hneq hstep hend
        have C1 := Lib.hid c1
        have C2 := Lib.hid c2
        have L1 := Lib.hid l1
        have L2 := Lib.hid l2
        have HSTEP := Lib.hid hstep
        have HEND := Lib.hid hend
        have hzg : g < w.heap.size := hg
        clear hx hy c1 c2 l1 l2 hc1 hc2 hstep hend
        by_cases hxy : x = y
        · rw [decide_eq_true hxy, Bool.not_true] at hneq
          have hnext := HSTEP.out hxy
          have HNEXT := Lib.hid hnext
          clear hxy hnext
          go_wp2_with fail
          refine wp_region_C (Same [g, g2] wr) [] (by kernel_rfl) (by kernel_rfl) (by intro c a w h; first | (obtain ⟨_, h, _⟩ := h; cases h; done) | (obtain ⟨_, _, h, _⟩ := h; cases h; done)) (by intro a w h; first | (obtain ⟨h, _⟩ := h; cases h; done) | (obtain ⟨_, h, _⟩ := h; cases h; done)) (Same.refl _ _) ?_
          repeat (refine wd_w (v := ?_) rfl rfl rfl rfl rfl rfl (fun w' hw' K hK => ?_) ?_; rotate_left; (have e3 := hneq; have e1 : ∀ j v, (nums .u8 x)[j]? = some v → w'.cell? ⟨g, o + k * 32 + j, none⟩ = some v := fun j v hv => (hw'.cell g (by simp) _).trans ((hB.cell (p := ⟨g, o + k * 32 + j, none⟩) hg).trans (C1.out j v hv)); have e2 : ∀ j v, (nums .u8 y)[j]? = some v → w'.cell? ⟨g2, o2 + k * 32 + j, none⟩ = some v := fun j v hv => (hw'.cell g2 (by simp) _).trans ((hB.cell (p := ⟨g2, o2 + k * 32 + j, none⟩) hg2).trans (C2.out j v hv)); go_wp2_with ((first | (apply st_loadCells (cs := nums .u8 x); rfl; exact e1; exact Tryd.underlying25; rfl; (rw [nums_length, L1.out]; kernel_rfl)) | (apply st_loadCells (cs := nums .u8 y); rfl; exact e2; exact Tryd.underlying25; rfl; (rw [nums_length, L2.out]; kernel_rfl)))); exact rfl); simp only [Act.put, List.setIfInBounds_toArray, List.set_cons_zero, List.set_cons_succ])
          refine wd_nil ?_
          go_wp2_with fail
          go_roundw
          case rel => exact ⟨k + 1, by go_num, by omega, HNEXT, hB.drew⟩
          case measure => simp [intOf]; omega
        · have hq : decide (x = y) = false := decide_eq_false hxy
          rw [hq, Bool.not_false] at hneq
          have hf := HEND.out hxy
          have HF := Lib.hid hf
          clear hxy hq hf
          go_wp2_with fail
          refine wp_region_C (Same [g, g2] wr) [] (by kernel_rfl) (by kernel_rfl) (by intro c a w h; first | (obtain ⟨_, h, _⟩ := h; cases h; done) | (obtain ⟨_, _, h, _⟩ := h; cases h; done)) (by intro a w h; first | (obtain ⟨h, _⟩ := h; cases h; done) | (obtain ⟨_, h, _⟩ := h; cases h; done)) (Same.refl _ _) ?_
          repeat (refine wd_w (v := ?_) rfl rfl rfl rfl rfl rfl (fun w' hw' K hK => ?_) ?_; rotate_left; (have e3 := hneq; have e1 : ∀ j v, (nums .u8 x)[j]? = some v → w'.cell? ⟨g, o + k * 32 + j, none⟩ = some v := fun j v hv => (hw'.cell g (by simp) _).trans ((hB.cell (p := ⟨g, o + k * 32 + j, none⟩) hg).trans (C1.out j v hv)); have e2 : ∀ j v, (nums .u8 y)[j]? = some v → w'.cell? ⟨g2, o2 + k * 32 + j, none⟩ = some v := fun j v hv => (hw'.cell g2 (by simp) _).trans ((hB.cell (p := ⟨g2, o2 + k * 32 + j, none⟩) hg2).trans (C2.out j v hv)); go_wp2_with ((first | (apply st_loadCells (cs := nums .u8 x); rfl; exact e1; exact Tryd.underlying25; rfl; (rw [nums_length, L1.out]; kernel_rfl)) | (apply st_loadCells (cs := nums .u8 y); rfl; exact e2; exact Tryd.underlying25; rfl; (rw [nums_length, L2.out]; kernel_rfl)))); exact rfl); simp only [Act.put, List.setIfInBounds_toArray, List.set_cons_zero, List.set_cons_succ])
          refine wd_nil ?_
          go_wp2_with fail
          go_ret
          exact ⟨by rw [HF.out]; rfl, hB.drew⟩
      · have e : k = ys.length := by omega
        have ht := HT.out
        rw [e] at ht
        have hf := HRES.out ht
        have HF := Lib.hid hf
        clear ht hf e
        go_wp2_with fail
        go_ret
        exact ⟨by rw [HF.out]; rfl, hB⟩
  · have hd : decide (xs = ys) = false := decide_eq_false fun e => hlen (by rw [e])
    rw [hd]
    clear ha hb hd
    have hne : ((xs.length : Int) != (ys.length : Int)) = true := by simp; omega
    go_enter Tryd.func14, Tryd.ntmps14
    go_wp2_with fail
    go_ret
    exact ⟨rfl, Below.refl _ _⟩
end Go.Proofs.YtipigpeccegjgaaDoor
