/- What inquestref07.Same answers of two lists of texts. No condition. -/
import Derived.Test.YtancldhincaphaaDoorTl
import Derived.Test.YtancldhincaphaaDoorGd
namespace Go.Proofs.YtancldhincaphaaDoor
open Go.RowKit
set_option maxRecDepth 100000

set_option maxRecDepth 100000 in
set_option maxHeartbeats 4000000 in
theorem same21_any (w : World) (xs ys : List (List Int)) (A B : Option Addr) (c d : Nat) (h1 : Txts w A c xs) (h2 : Txts w B d ys) (hl : xs.length ≤ 1000) (hb : ∀ y ∈ ys, y.length ≤ 1000) :
    Calls Tryd.prog 24 #[.slice A xs.length c, .slice B ys.length d] w fun e w' => e = .returned (.bool (decide (xs = ys))) ∧ Below w.heap.size w w' := by
  have H1 := Lib.hid h1
  have H2 := Lib.hid h2
  have HLB := Lib.hid hb
  clear h1 h2 hb
  by_cases hlen : xs.length = ys.length
  · have hb1 : ((xs.length : Int) != (ys.length : Int)) = false := by simp [hlen]
    have hyl : ys.length ≤ 1000 := by omega
    have H1' := Lib.hid (show Txts w A c xs from H1.out)
    rw [hlen] at hb1 ⊢
    have HEQ := Lib.hid hlen
    clear hlen H1
    go_enter Tryd.func24, Tryd.ntmps24
    go_wp2
    --MARK1
    go_loopw [5] (fun i wr => ∃ k : Nat, i = .int .i64 k ∧ k ≤ ys.length ∧ Below w.heap.size w wr ∧ Hid (xs.take k = ys.take k)) (fun i _ => ys.length - (intOf i).toNat)
    case atStart => exact ⟨0, rfl, by omega, Below.refl _ _, (by simp : xs.take 0 = ys.take 0)⟩
    case round =>
      obtain ⟨k, rfl, hk, hB, HTK⟩ := hrel
      by_cases hlt : k < ys.length
      · have hltx : k < xs.length := by rw [HEQ.out]; exact hlt
        obtain ⟨g, o, rfl, hg, hc⟩ := H1'.out.get (by omega)
        obtain ⟨g', o', rfl, hg', hc'⟩ := H2.out.get (by omega)
        obtain ⟨E, e1, hcell, hbyt⟩ := hc k hltx
        obtain ⟨E', e1', hcell', hbyt'⟩ := hc' k hlt
        have hbl : (ys[k]).length ≤ 1000 := HLB.out _ (List.getElem_mem hlt)
        have c1 := (hB.cell (p := ⟨g, o + k, none⟩) hg).trans hcell
        have c2 := (hB.cell (p := ⟨g', o' + k, none⟩) hg').trans hcell'
        have hst1 : xs.take (k + 1) = xs.take k ++ [xs[k]] := by rw [List.take_add_one, List.getElem?_eq_getElem hltx]; rfl
        have hst2 : ys.take (k + 1) = ys.take k ++ [ys[k]] := by rw [List.take_add_one, List.getElem?_eq_getElem hlt]; rfl
        have hno : xs[k] ≠ ys[k] → xs ≠ ys := fun h e => h (by subst e; rfl)
        obtain ⟨x, hx⟩ : ∃ x, x = xs[k] := ⟨_, rfl⟩
        obtain ⟨y, hy⟩ : ∃ y, y = ys[k] := ⟨_, rfl⟩
        rw [← hx] at c1 hbyt hst1 hno
        rw [← hy] at c2 hbyt' hbl hst2 hno
        have HBY := Lib.hid hbyt
        have HBY' := Lib.hid hbyt'
        have HST := Lib.hid (And.intro hst1 hst2)
        have HNO := Lib.hid hno
        clear hc hc' hcell hcell' hbyt hbyt' hx hy hst1 hst2 hno hltx
        have hgw := Nat.lt_of_lt_of_le hg hB.size
        have hgw' := Nat.lt_of_lt_of_le hg' hB.size
        go_wp2_with fail
        --MARK4
        refine wp_region_C (Same [g, g'] wr) [8] (by kernel_rfl) (by kernel_rfl) (by intro c a w h; first | (obtain ⟨_, h, _⟩ := h; cases h; done) | (obtain ⟨_, _, h, _⟩ := h; cases h; done) | (obtain ⟨_, _, _, h, _⟩ := h; cases h; done) | (obtain ⟨_, _, _, _, h, _⟩ := h; cases h; done) | (rcases h with ⟨_, ⟨_, _, _, _, h, _⟩ | ⟨_, _, _, _, h, _⟩⟩ <;> cases h; done)) (by intro a w h; first | (obtain ⟨h, _⟩ := h; cases h; done) | (obtain ⟨_, h, _⟩ := h; cases h; done) | (obtain ⟨_, _, h, _⟩ := h; cases h; done) | (obtain ⟨_, _, _, h, _⟩ := h; cases h; done) | (rcases h with ⟨_, _, _, _, h, _⟩ | ⟨_, _, _, _, h, _⟩ <;> cases h; done)) (Same.refl _ _) ?_
        repeat (refine wd_q (v := ?_) rfl rfl rfl rfl rfl rfl (fun w' hw' K hK => ?_) ?_; rotate_left; (have q1 := (hw'.cell g (by simp) _).trans c1; have q2 := (hw'.cell g' (by simp) _).trans c2; go_wp2; exact rfl); simp only [Act.put, List.setIfInBounds_toArray, List.set_cons_zero, List.set_cons_succ])
        have hB := hB.drew
        refine wd_l rfl rfl (by intro a w h; first | (obtain ⟨h, _⟩ := h; cases h; done) | (obtain ⟨_, h, _⟩ := h; cases h; done) | (obtain ⟨_, _, h, _⟩ := h; cases h; done) | (obtain ⟨_, _, _, h, _⟩ := h; cases h; done) | (rcases h with ⟨_, _, _, _, h, _⟩ | ⟨_, _, _, _, h, _⟩ <;> cases h; done)) ?_
        go_wp2_with fail
        go_at_call 12
        have hcall := refsame_any wr.drew E E' e1 e1' x y (HBY.out.up hB).rd (HBY'.out.up hB).rd (by omega)
        by_cases hxy : x = y
        · rw [decide_eq_true hxy] at hcall
          refine hcall.mono ?_
          clear hcall
          rintro e w2 ⟨rfl, hb⟩
          have hB := hB.trans (hb.mono hB.size)
          have HTK2 : Hid (xs.take (k + 1) = ys.take (k + 1)) := by
            show xs.take (k + 1) = ys.take (k + 1)
            rw [HST.out.1, HST.out.2, HTK.out, hxy]
          clear hxy HTK
          go_wp2_with fail
          refine ⟨.inr (fun gg hg => (hb.block gg (by simp at hg; have : wr.drew.heap.size = wr.heap.size := rfl; omega))), ?_⟩
          repeat (refine wd_q (v := ?_) rfl rfl rfl rfl rfl rfl (fun w' hw' K hK => ?_) ?_; rotate_left; (skip; go_wp2; exact rfl); simp only [Act.put, List.setIfInBounds_toArray, List.set_cons_zero, List.set_cons_succ])
          refine wd_nil ?_
          go_wp2_with fail
          --MARK5
          go_roundw
          case rel => exact ⟨k + 1, by go_num, by omega, hB, HTK2⟩
          case measure => simp [intOf]; omega
        · rw [decide_eq_false hxy] at hcall
          refine hcall.mono ?_
          clear hcall
          rintro e w2 ⟨rfl, hb⟩
          have hB := hB.trans (hb.mono hB.size)
          have hne : decide (xs = ys) = false := decide_eq_false (HNO.out hxy)
          have HNE := Lib.hid hne
          clear hxy hne HTK
          go_wp2_with fail
          refine ⟨.inr (fun gg hg => (hb.block gg (by simp at hg; have : wr.drew.heap.size = wr.heap.size := rfl; omega))), ?_⟩
          repeat (refine wd_q (v := ?_) rfl rfl rfl rfl rfl rfl (fun w' hw' K hK => ?_) ?_; rotate_left; (skip; go_wp2; exact rfl); simp only [Act.put, List.setIfInBounds_toArray, List.set_cons_zero, List.set_cons_succ])
          refine wd_nil ?_
          go_wp2_with fail
          --MARK6
          go_ret
          exact ⟨by rw [HNE.out]; rfl, hB⟩
      · have he : decide (xs = ys) = true := decide_eq_true (by
          have h := HTK.out
          rwa [List.take_of_length_le (by have := HEQ.out; omega), List.take_of_length_le (by omega)] at h)
        have HE := Lib.hid he
        clear he HTK
        go_wp2
        go_ret
        exact ⟨by rw [HE.out]; rfl, hB⟩
  · have hb1 : ((xs.length : Int) != (ys.length : Int)) = true := by simp; omega
    have hne : decide (xs = ys) = false := decide_eq_false (fun e => hlen (by rw [e]))
    have HNE := Lib.hid hne
    clear hne hlen
    go_enter Tryd.func24, Tryd.ntmps24
    go_wp2
    go_ret
    exact ⟨by rw [HNE.out]; rfl, Below.refl _ _⟩

end Go.Proofs.YtancldhincaphaaDoor
