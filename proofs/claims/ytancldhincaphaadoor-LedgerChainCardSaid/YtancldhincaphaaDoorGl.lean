/- What the reference's growth answers. No condition. What the reference's Path and Growth answer. No condition. -/
import Derived.Test.YtancldhincaphaaDoorGk
namespace Go.Proofs.YtancldhincaphaaDoor
set_option maxRecDepth 100000
section RefGrow
open Go.RowKit

set_option maxRecDepth 100000 in
set_option maxHeartbeats 4000000 in
theorem refgrowth_any (n : Nat) : ∀ (w : World) (ds : List (List Int)) (A : Option Addr) (c : Nat), ds.length = n → Dg w A c ds → ds.length ≤ 1000 → ∀ (m : Nat) (z : Int) (b : Bool), 1 ≤ m → m ≤ ds.length →
    Calls Tryd.prog 93 #[.slice A ds.length c, .int .i64 m, .int .i64 z, .bool b] w (GivesD (growthF ds m z b) w) := by
  induction n using Nat.strongRecOn with
  | ind n ih =>
    intro w ds A c hn hd hl m z b hm0 hm1
    subst hn
    skip
    by_cases h1 : m = ds.length
    · have hg := growthF_small ds m z b (by omega)
      cases b
      · rw [if_neg (by decide)] at hg
        have hok := rootF_ok ds z hd.u
        have hcr := fun (w : World) (h : Dg w A c ds) => refroot_any ds.length w ds A c rfl h (by omega) z
        obtain ⟨y, hy⟩ : ∃ y, y = rootF ds z := ⟨_, rfl⟩
        rw [← hy] at hg hok hcr
        rw [hg]
        have HYO := Lib.hid hok
        have HCR := Lib.hid hcr
        have HD := Lib.hid hd
        clear ih hg hok hcr hy hd
        subst h1
        have hB := Below.refl w.heap.size w
        go_enter Tryd.func93, Tryd.ntmps93
        go_wp2_with fail
        go_at_call 85
        refine (HCR.out _ HD.out).mono ?_
        rintro e w1 ⟨rfl, hb⟩
        have hB := hB.trans (hb.mono hB.size)
        have hba : Below w1.heap.size w1 (w1.alloc (.cells (nums .u8 y).toArray 24)) := (Below.refl _ _).alloc (Nat.le_refl _) _
        have hB := hB.trans (hba.mono hB.size)
        have ho : OwnD (w1.alloc (.cells (nums .u8 y).toArray 24)) w.heap.size (.slice (some ⟨w1.heap.size, 0, none⟩) 1 1) [y] := OwnD.ofOne (Blk.new' _ _ _ _ _ rfl rfl) hb.size HYO.out.1 HYO.out.2
        go_wp2_with (apply st_buildD (d := y); rfl; exact HYO.out.1)
        go_ret
        exact ⟨_, rfl, hB, ho⟩
      · rw [if_pos rfl] at hg
        rw [hg]
        clear ih hg
        subst h1
        go_enter Tryd.func93, Tryd.ntmps93
        go_wp2_with fail
        go_ret
        exact ⟨_, rfl, Below.refl _ _, OwnD.nil _ _⟩
    · have hks := kF_spec ds.length (by omega)
      have hpl := growthF_left ds m z b (by omega)
      have hpr := growthF_right ds m z b (by omega)
      obtain ⟨k, hkk⟩ : ∃ k, k = kF ds.length := ⟨_, rfl⟩
      rw [← hkk] at hks hpl hpr
      obtain ⟨k1, k2, k3, k4⟩ := hks
      have ht := hd.take k (by omega)
      have hdr := hd.drop k (by omega)
      have htl : (ds.take k).length = k := by rw [List.length_take]; omega
      have hdl : (ds.drop k).length = ds.length - k := by rw [List.length_drop]
      obtain ⟨A2, hA2⟩ : ∃ A2 : Option Addr, A2 = (if c = k then A else A.map (·.add (k * 32))) := ⟨_, rfl⟩
      rw [← hA2] at hdr
      have HA2 := Lib.hid hA2
      clear hA2
      have hspot : ∀ ad, A = some ad → ad.spot = none := fun ad he => by
        obtain ⟨g, off, hA, _⟩ := hd.get (by omega)
        rw [hA] at he; injection he with he; rw [← he]
      have HSPOT := Lib.hid hspot
      have HNN := Lib.hid hd.nn
      have hdle := hd.le
      have HT := Lib.hid ht
      have HDR := Lib.hid hdr
      have HSP := Lib.hid k4
      by_cases hik : m ≤ k
      · skip
        have hp := hpl hik
        have hc1 := fun (w : World) (h : Dg w A c (ds.take k)) => ih k (by omega) w (ds.take k) A c htl h (by omega) m z b (by omega) (by rw [htl]; omega)
        have hc2 := fun (w : World) (h : Dg w A2 (c - k) (ds.drop k)) => refroot_any (ds.length - k) w (ds.drop k) A2 (c - k) hdl h (by omega) z
        rw [htl] at hc1
        rw [hdl] at hc2
        obtain ⟨y, hy⟩ : ∃ y, y = rootF (ds.drop k) z := ⟨_, rfl⟩
        have hyo := rootF_ok (ds.drop k) z (hd.u.drop k)
        have hpo := (growthF_ok k (ds.take k) m z b htl (hd.u.take k)).2
        obtain ⟨p, hpp⟩ : ∃ p, p = growthF (ds.take k) m z b := ⟨_, rfl⟩
        rw [← hy] at hc2 hp hyo
        rw [← hpp] at hc1 hp hpo
        have hpo : p.length ≤ 1001 := by rw [htl] at hpo; omega
        rw [hp]
        have HC1 := Lib.hid hc1
        have HC2 := Lib.hid hc2
        have HYO := Lib.hid hyo
        clear ih hkk hc1 hc2 hy hyo hp hpp ht hdr htl hdl hd k4 hspot hpl hpr
        go_enter Tryd.func93, Tryd.ntmps93
        go_wp2_with fail
        go_at_call 92
        refine (refsplit_any _ ds.length (by omega) (by omega)).mono ?_
        rw [HSP.out]
        rintro e wz ⟨rfl, rfl⟩
        go_wp2_with fail
        have hB : Below w.heap.size w w.drew := (Below.refl _ _).drew
        refine wp_region_C (Same [] w) [6, 11, 12, 13] (by kernel_rfl) (by kernel_rfl) (by intro c a w h; first | (obtain ⟨_, h, _⟩ := h; cases h; done) | (obtain ⟨_, _, h, _⟩ := h; cases h; done) | (obtain ⟨_, _, _, h, _⟩ := h; cases h; done) | (obtain ⟨_, _, _, _, h, _⟩ := h; cases h; done) | (rcases h with ⟨_, ⟨_, _, _, _, h, _⟩ | ⟨_, _, _, _, h, _⟩⟩ <;> cases h; done)) (by intro a w h; first | (obtain ⟨h, _⟩ := h; cases h; done) | (obtain ⟨_, h, _⟩ := h; cases h; done) | (obtain ⟨_, _, h, _⟩ := h; cases h; done) | (obtain ⟨_, _, _, h, _⟩ := h; cases h; done) | (rcases h with ⟨_, _, _, _, h, _⟩ | ⟨_, _, _, _, h, _⟩ <;> cases h; done)) (Same.refl _ _) ?_
        repeat (refine wd_w (v := ?_) rfl rfl rfl rfl rfl rfl (fun w' hw' K hK => ?_) ?_; rotate_left; (skip; go_wp2_with ((apply st_toD (sz := 32) (i := k); exact Tryd.underlying66; kernel_rfl; rfl; rfl; rfl; omega; exact HNN.out; exact HSPOT.out)); exact rfl); simp only [Act.put, List.setIfInBounds_toArray, List.set_cons_zero, List.set_cons_succ])
        refine wd_l rfl rfl (by intro a w h; first | (obtain ⟨h, _⟩ := h; cases h; done) | (obtain ⟨_, h, _⟩ := h; cases h; done) | (obtain ⟨_, _, h, _⟩ := h; cases h; done) | (obtain ⟨_, _, _, h, _⟩ := h; cases h; done) | (rcases h with ⟨_, _, _, _, h, _⟩ | ⟨_, _, _, _, h, _⟩ <;> cases h; done)) ?_
        go_wp2_with fail
        go_at_call 93
        refine (HC1.out _ (HT.out.up hB)).mono ?_
        rintro e w2 ⟨v2, rfl, hb, ho⟩
        have hB := hB.trans (hb.mono hB.size)
        go_wp2_with fail
        refine ⟨.inr (fun g hg => by simp at hg), ?_⟩
        repeat (refine wd_w (v := ?_) rfl rfl rfl rfl rfl rfl (fun w' hw' K hK => ?_) ?_; rotate_left; (skip; go_wp2_with ((apply st_fromD (sz := 32) (A2 := A2) (i := k); exact Tryd.underlying66; kernel_rfl; rfl; rfl; rfl; omega; exact HA2.out)); exact rfl); simp only [Act.put, List.setIfInBounds_toArray, List.set_cons_zero, List.set_cons_succ])
        refine wd_l rfl rfl (by intro a w h; first | (obtain ⟨h, _⟩ := h; cases h; done) | (obtain ⟨_, h, _⟩ := h; cases h; done) | (obtain ⟨_, _, h, _⟩ := h; cases h; done) | (obtain ⟨_, _, _, h, _⟩ := h; cases h; done) | (rcases h with ⟨_, _, _, _, h, _⟩ | ⟨_, _, _, _, h, _⟩ <;> cases h; done)) ?_
        go_wp2_with fail
        go_at_call 85
        refine (HC2.out _ (HDR.out.up hB)).mono ?_
        rintro e w3 ⟨rfl, hb⟩
        have hB := hB.trans (hb.mono hB.size)
        have ho := ho.kept hb
        go_wp2_with fail
        refine ⟨.inr (fun g hg => by simp at hg), ?_⟩
        refine wd_l rfl rfl (by intro a w h; first | (obtain ⟨h, _⟩ := h; cases h; done) | (obtain ⟨_, h, _⟩ := h; cases h; done) | (obtain ⟨_, _, h, _⟩ := h; cases h; done) | (obtain ⟨_, _, _, h, _⟩ := h; cases h; done) | (rcases h with ⟨_, _, _, _, h, _⟩ | ⟨_, _, _, _, h, _⟩ <;> cases h; done)) ?_
        have hba : Below w3.heap.size w3 (w3.alloc (.cells (nums .u8 y).toArray 24)) := (Below.refl _ _).alloc (Nat.le_refl _) _
        have hB4 := hB.trans (hba.mono hB.size)
        have ho4 := ho.kept hba
        have hby : Blk (w3.alloc (.cells (nums .u8 y).toArray 24)) w3.heap.size (nums .u8 y) 24 := Blk.new' _ _ _ _ _ rfl rfl
        have hdy : Dg (w3.alloc (.cells (nums .u8 y).toArray 24)) (some ⟨w3.heap.size, 0, none⟩) 1 [y] := ⟨by simpa using Rd.ofBlk hby, by simp, fun h => (by cases h), Dgs.one HYO.out.1 HYO.out.2⟩
        go_wp2_with (apply st_buildD (d := y); rfl; exact HYO.out.1)
        refine ⟨.inr (fun g hg => by simp at hg), ?_⟩
        simp only [Act.put, List.setIfInBounds_toArray, List.set_cons_zero, List.set_cons_succ]
        refine wd_l rfl rfl (by intro a w h; first | (obtain ⟨h, _⟩ := h; cases h; done) | (obtain ⟨_, h, _⟩ := h; cases h; done) | (obtain ⟨_, _, h, _⟩ := h; cases h; done) | (obtain ⟨_, _, _, h, _⟩ := h; cases h; done) | (rcases h with ⟨_, _, _, _, h, _⟩ | ⟨_, _, _, _, h, _⟩ <;> cases h; done)) ?_
        go_wp2_with (apply st_appendD (v := v2) (base := w.heap.size) (xs := p) (ys := [y]); rfl; rfl; exact ho4; exact hdy; (simp; omega); exact hB4.size; intro v5 w5 ho5 hg5 hat5)
        refine ⟨.inr (fun g hg => by simp at hg), ?_⟩
        simp only [Act.put, List.setIfInBounds_toArray, List.set_cons_zero, List.set_cons_succ]
        have hB5 := below_grownD hB4 ho4 hg5 (Nat.le_refl _) hB4.size
        repeat (refine wd_q (v := ?_) rfl rfl rfl rfl rfl rfl (fun w' hw' K hK => ?_) ?_; rotate_left; (skip; go_wp2; exact rfl); simp only [Act.put, List.setIfInBounds_toArray, List.set_cons_zero, List.set_cons_succ])
        refine wd_nil ?_
        go_wp2_with fail
        go_ret
        exact ⟨v5, rfl, hB5, ho5⟩
      · skip
        have hp := hpr hik
        have hc1 := fun (w : World) (h : Dg w A2 (c - k) (ds.drop k)) => ih (ds.length - k) (by omega) w (ds.drop k) A2 (c - k) hdl h (by omega) (m - k) z false (by omega) (by rw [hdl]; omega)
        have hc2 := fun (w : World) (h : Dg w A c (ds.take k)) => refroot_any k w (ds.take k) A c htl h (by omega) z
        rw [hdl] at hc1
        rw [htl] at hc2
        rw [show ((m - k : Nat) : Int) = (m : Int) - (k : Int) by omega] at hc1
        obtain ⟨y, hy⟩ : ∃ y, y = rootF (ds.take k) z := ⟨_, rfl⟩
        have hyo := rootF_ok (ds.take k) z (hd.u.take k)
        have hpo := (growthF_ok (ds.length - k) (ds.drop k) (m - k) z false hdl (hd.u.drop k)).2
        obtain ⟨p, hpp⟩ : ∃ p, p = growthF (ds.drop k) (m - k) z false := ⟨_, rfl⟩
        rw [← hy] at hc2 hp hyo
        rw [← hpp] at hc1 hp hpo
        have hpo : p.length ≤ 1001 := by rw [hdl] at hpo; omega
        rw [hp]
        have HC1 := Lib.hid hc1
        have HC2 := Lib.hid hc2
        have HYO := Lib.hid hyo
        clear ih hkk hc1 hc2 hy hyo hp hpp ht hdr htl hdl hd k4 hspot hpl hpr
        go_enter Tryd.func93, Tryd.ntmps93
        go_wp2_with fail
        go_at_call 92
        refine (refsplit_any _ ds.length (by omega) (by omega)).mono ?_
        rw [HSP.out]
        rintro e wz ⟨rfl, rfl⟩
        go_wp2_with fail
        have hB : Below w.heap.size w w.drew := (Below.refl _ _).drew
        refine wp_region_C (Same [] w) [7, 12, 13, 14] (by kernel_rfl) (by kernel_rfl) (by intro c a w h; first | (obtain ⟨_, h, _⟩ := h; cases h; done) | (obtain ⟨_, _, h, _⟩ := h; cases h; done) | (obtain ⟨_, _, _, h, _⟩ := h; cases h; done) | (obtain ⟨_, _, _, _, h, _⟩ := h; cases h; done) | (rcases h with ⟨_, ⟨_, _, _, _, h, _⟩ | ⟨_, _, _, _, h, _⟩⟩ <;> cases h; done)) (by intro a w h; first | (obtain ⟨h, _⟩ := h; cases h; done) | (obtain ⟨_, h, _⟩ := h; cases h; done) | (obtain ⟨_, _, h, _⟩ := h; cases h; done) | (obtain ⟨_, _, _, h, _⟩ := h; cases h; done) | (rcases h with ⟨_, _, _, _, h, _⟩ | ⟨_, _, _, _, h, _⟩ <;> cases h; done)) (Same.refl _ _) ?_
        repeat (refine wd_w (v := ?_) rfl rfl rfl rfl rfl rfl (fun w' hw' K hK => ?_) ?_; rotate_left; (skip; go_wp2_with ((apply st_fromD (sz := 32) (A2 := A2) (i := k); exact Tryd.underlying66; kernel_rfl; rfl; rfl; rfl; omega; exact HA2.out)); exact rfl); simp only [Act.put, List.setIfInBounds_toArray, List.set_cons_zero, List.set_cons_succ])
        refine wd_l rfl rfl (by intro a w h; first | (obtain ⟨h, _⟩ := h; cases h; done) | (obtain ⟨_, h, _⟩ := h; cases h; done) | (obtain ⟨_, _, h, _⟩ := h; cases h; done) | (obtain ⟨_, _, _, h, _⟩ := h; cases h; done) | (rcases h with ⟨_, _, _, _, h, _⟩ | ⟨_, _, _, _, h, _⟩ <;> cases h; done)) ?_
        go_wp2_with fail
        go_at_call 93
        refine (HC1.out _ (HDR.out.up hB)).mono ?_
        rintro e w2 ⟨v2, rfl, hb, ho⟩
        have hB := hB.trans (hb.mono hB.size)
        go_wp2_with fail
        refine ⟨.inr (fun g hg => by simp at hg), ?_⟩
        repeat (refine wd_w (v := ?_) rfl rfl rfl rfl rfl rfl (fun w' hw' K hK => ?_) ?_; rotate_left; (skip; go_wp2_with ((apply st_toD (sz := 32) (i := k); exact Tryd.underlying66; kernel_rfl; rfl; rfl; rfl; omega; exact HNN.out; exact HSPOT.out)); exact rfl); simp only [Act.put, List.setIfInBounds_toArray, List.set_cons_zero, List.set_cons_succ])
        refine wd_l rfl rfl (by intro a w h; first | (obtain ⟨h, _⟩ := h; cases h; done) | (obtain ⟨_, h, _⟩ := h; cases h; done) | (obtain ⟨_, _, h, _⟩ := h; cases h; done) | (obtain ⟨_, _, _, h, _⟩ := h; cases h; done) | (rcases h with ⟨_, _, _, _, h, _⟩ | ⟨_, _, _, _, h, _⟩ <;> cases h; done)) ?_
        go_wp2_with fail
        go_at_call 85
        refine (HC2.out _ (HT.out.up hB)).mono ?_
        rintro e w3 ⟨rfl, hb⟩
        have hB := hB.trans (hb.mono hB.size)
        have ho := ho.kept hb
        go_wp2_with fail
        refine ⟨.inr (fun g hg => by simp at hg), ?_⟩
        refine wd_l rfl rfl (by intro a w h; first | (obtain ⟨h, _⟩ := h; cases h; done) | (obtain ⟨_, h, _⟩ := h; cases h; done) | (obtain ⟨_, _, h, _⟩ := h; cases h; done) | (obtain ⟨_, _, _, h, _⟩ := h; cases h; done) | (rcases h with ⟨_, _, _, _, h, _⟩ | ⟨_, _, _, _, h, _⟩ <;> cases h; done)) ?_
        have hba : Below w3.heap.size w3 (w3.alloc (.cells (nums .u8 y).toArray 24)) := (Below.refl _ _).alloc (Nat.le_refl _) _
        have hB4 := hB.trans (hba.mono hB.size)
        have ho4 := ho.kept hba
        have hby : Blk (w3.alloc (.cells (nums .u8 y).toArray 24)) w3.heap.size (nums .u8 y) 24 := Blk.new' _ _ _ _ _ rfl rfl
        have hdy : Dg (w3.alloc (.cells (nums .u8 y).toArray 24)) (some ⟨w3.heap.size, 0, none⟩) 1 [y] := ⟨by simpa using Rd.ofBlk hby, by simp, fun h => (by cases h), Dgs.one HYO.out.1 HYO.out.2⟩
        go_wp2_with (apply st_buildD (d := y); rfl; exact HYO.out.1)
        refine ⟨.inr (fun g hg => by simp at hg), ?_⟩
        simp only [Act.put, List.setIfInBounds_toArray, List.set_cons_zero, List.set_cons_succ]
        refine wd_l rfl rfl (by intro a w h; first | (obtain ⟨h, _⟩ := h; cases h; done) | (obtain ⟨_, h, _⟩ := h; cases h; done) | (obtain ⟨_, _, h, _⟩ := h; cases h; done) | (obtain ⟨_, _, _, h, _⟩ := h; cases h; done) | (rcases h with ⟨_, _, _, _, h, _⟩ | ⟨_, _, _, _, h, _⟩ <;> cases h; done)) ?_
        go_wp2_with (apply st_appendD (v := v2) (base := w.heap.size) (xs := p) (ys := [y]); rfl; rfl; exact ho4; exact hdy; (simp; omega); exact hB4.size; intro v5 w5 ho5 hg5 hat5)
        refine ⟨.inr (fun g hg => by simp at hg), ?_⟩
        simp only [Act.put, List.setIfInBounds_toArray, List.set_cons_zero, List.set_cons_succ]
        have hB5 := below_grownD hB4 ho4 hg5 (Nat.le_refl _) hB4.size
        repeat (refine wd_q (v := ?_) rfl rfl rfl rfl rfl rfl (fun w' hw' K hK => ?_) ?_; rotate_left; (skip; go_wp2; exact rfl); simp only [Act.put, List.setIfInBounds_toArray, List.set_cons_zero, List.set_cons_succ])
        refine wd_nil ?_
        go_wp2_with fail
        go_ret
        exact ⟨v5, rfl, hB5, ho5⟩
end RefGrow
section RefPath
open Go.RowKit

set_option maxRecDepth 100000 in
set_option maxHeartbeats 4000000 in
theorem refpath_any (n : Nat) : ∀ (w : World) (ds : List (List Int)) (A : Option Addr) (c : Nat), ds.length = n → Dg w A c ds → ds.length ≤ 1000 → ∀ (i z : Int), 0 ≤ i → i < ds.length →
    Calls Tryd.prog 82 #[.slice A ds.length c, .int .i64 i, .int .i64 z] w (GivesDE (pathF ds i z, 0) w) := by
  induction n using Nat.strongRecOn with
  | ind n ih =>
    intro w ds A c hn hd hl i z hi0 hi1
    subst hn
    by_cases h1 : ds.length = 1
    · rw [pathF_small ds i z (by omega)]
      clear ih
      go_enter Tryd.func82, Tryd.ntmps82
      go_wp2_with fail
      go_ret2
      exact ⟨_, rfl, Below.refl _ _, OwnD.nil _ _⟩
    · have hks := kF_spec ds.length (by omega)
      have hpl := pathF_left ds i z (by omega)
      have hpr := pathF_right ds i z (by omega)
      obtain ⟨k, hkk⟩ : ∃ k, k = kF ds.length := ⟨_, rfl⟩
      rw [← hkk] at hks hpl hpr
      obtain ⟨k1, k2, k3, k4⟩ := hks
      have ht := hd.take k (by omega)
      have hdr := hd.drop k (by omega)
      have htl : (ds.take k).length = k := by rw [List.length_take]; omega
      have hdl : (ds.drop k).length = ds.length - k := by rw [List.length_drop]
      obtain ⟨A2, hA2⟩ : ∃ A2 : Option Addr, A2 = (if c = k then A else A.map (·.add (k * 32))) := ⟨_, rfl⟩
      rw [← hA2] at hdr
      have HA2 := Lib.hid hA2
      clear hA2
      have hspot : ∀ ad, A = some ad → ad.spot = none := fun ad he => by
        obtain ⟨g, off, hA, _⟩ := hd.get (by omega)
        rw [hA] at he; injection he with he; rw [← he]
      have HSPOT := Lib.hid hspot
      have HNN := Lib.hid hd.nn
      have hdle := hd.le
      have HT := Lib.hid ht
      have HDR := Lib.hid hdr
      have HSP := Lib.hid k4
      by_cases hik : i < k
      · skip
        have hp := hpl hik
        have hc1 := fun (w : World) (h : Dg w A c (ds.take k)) => ih k (by omega) w (ds.take k) A c htl h (by omega) i z (by omega) (by rw [htl]; omega)
        have hc2 := fun (w : World) (h : Dg w A2 (c - k) (ds.drop k)) => refroot_any (ds.length - k) w (ds.drop k) A2 (c - k) hdl h (by omega) z
        rw [htl] at hc1
        rw [hdl] at hc2
        obtain ⟨y, hy⟩ : ∃ y, y = rootF (ds.drop k) z := ⟨_, rfl⟩
        have hyo := rootF_ok (ds.drop k) z (hd.u.drop k)
        have hpo := (pathF_ok k (ds.take k) i z htl (hd.u.take k)).2
        obtain ⟨p, hpp⟩ : ∃ p, p = pathF (ds.take k) i z := ⟨_, rfl⟩
        rw [← hy] at hc2 hp hyo
        rw [← hpp] at hc1 hp hpo
        have hpo : p.length ≤ 1000 := by rw [htl] at hpo; omega
        rw [hp]
        have HC1 := Lib.hid hc1
        have HC2 := Lib.hid hc2
        have HYO := Lib.hid hyo
        clear ih hkk hc1 hc2 hy hyo hp hpp ht hdr htl hdl hd k4 hspot hpl hpr
        have hB : Below w.heap.size w w := Below.refl _ _
        go_enter Tryd.func82, Tryd.ntmps82
        go_wp2_with fail
        go_at_call 92
        refine (refsplit_any _ ds.length (by omega) (by omega)).mono ?_
        rw [HSP.out]
        rintro e wz ⟨rfl, rfl⟩
        go_wp2_with (apply st_toD (sz := 32) (i := k); exact Tryd.underlying66; kernel_rfl; rfl; rfl; rfl; omega; exact HNN.out; exact HSPOT.out)
        go_at_call 82
        refine (HC1.out _ (HT.out.up hB)).mono ?_
        rintro e w2 ⟨v2, rfl, hb, ho⟩
        have hB := hB.trans hb
        go_wp2_with (apply st_fromD (sz := 32) (A2 := A2) (i := k); exact Tryd.underlying66; kernel_rfl; rfl; rfl; rfl; omega; exact HA2.out)
        go_at_call 85
        refine (HC2.out _ (HDR.out.up hB)).mono ?_
        rintro e w3 ⟨rfl, hb⟩
        have hB := hB.trans (hb.mono hB.size)
        have ho := ho.kept hb
        have hba : Below w3.heap.size w3 (w3.alloc (.cells (nums .u8 y).toArray 24)) := (Below.refl _ _).alloc (Nat.le_refl _) _
        have hB4 := hB.trans (hba.mono hB.size)
        have ho4 := ho.kept hba
        have hby : Blk (w3.alloc (.cells (nums .u8 y).toArray 24)) w3.heap.size (nums .u8 y) 24 := Blk.new' _ _ _ _ _ rfl rfl
        have hdy : Dg (w3.alloc (.cells (nums .u8 y).toArray 24)) (some ⟨w3.heap.size, 0, none⟩) 1 [y] := ⟨by simpa using Rd.ofBlk hby, by simp, fun h => (by cases h), Dgs.one HYO.out.1 HYO.out.2⟩
        go_wp2_with (first | (apply st_buildD (d := y); rfl; exact HYO.out.1) | (apply st_appendD (v := v2) (base := w.heap.size) (xs := p) (ys := [y]); rfl; rfl; exact ho4; exact hdy; (simp; omega); exact hB4.size; intro v5 w5 ho5 hg5 hat5))
        have hB5 := below_grownD hB4 ho4 hg5 (Nat.le_refl _) hB4.size
        go_ret2
        exact ⟨v5, rfl, hB5, ho5⟩
      · skip
        have hp := hpr hik
        have hc1 := fun (w : World) (h : Dg w A2 (c - k) (ds.drop k)) => ih (ds.length - k) (by omega) w (ds.drop k) A2 (c - k) hdl h (by omega) (i - k) z (by omega) (by rw [hdl]; omega)
        have hc2 := fun (w : World) (h : Dg w A c (ds.take k)) => refroot_any k w (ds.take k) A c htl h (by omega) z
        rw [hdl] at hc1
        rw [htl] at hc2
        obtain ⟨y, hy⟩ : ∃ y, y = rootF (ds.take k) z := ⟨_, rfl⟩
        have hyo := rootF_ok (ds.take k) z (hd.u.take k)
        have hpo := (pathF_ok (ds.length - k) (ds.drop k) (i - k) z hdl (hd.u.drop k)).2
        obtain ⟨p, hpp⟩ : ∃ p, p = pathF (ds.drop k) (i - k) z := ⟨_, rfl⟩
        rw [← hy] at hc2 hp hyo
        rw [← hpp] at hc1 hp hpo
        have hpo : p.length ≤ 1000 := by rw [hdl] at hpo; omega
        rw [hp]
        have HC1 := Lib.hid hc1
        have HC2 := Lib.hid hc2
        have HYO := Lib.hid hyo
        clear ih hkk hc1 hc2 hy hyo hp hpp ht hdr htl hdl hd k4 hspot hpl hpr
        have hB : Below w.heap.size w w := Below.refl _ _
        go_enter Tryd.func82, Tryd.ntmps82
        go_wp2_with fail
        go_at_call 92
        refine (refsplit_any _ ds.length (by omega) (by omega)).mono ?_
        rw [HSP.out]
        rintro e wz ⟨rfl, rfl⟩
        go_wp2_with (apply st_fromD (sz := 32) (A2 := A2) (i := k); exact Tryd.underlying66; kernel_rfl; rfl; rfl; rfl; omega; exact HA2.out)
        go_at_call 82
        refine (HC1.out _ (HDR.out.up hB)).mono ?_
        rintro e w2 ⟨v2, rfl, hb, ho⟩
        have hB := hB.trans hb
        go_wp2_with (apply st_toD (sz := 32) (i := k); exact Tryd.underlying66; kernel_rfl; rfl; rfl; rfl; omega; exact HNN.out; exact HSPOT.out)
        go_at_call 85
        refine (HC2.out _ (HT.out.up hB)).mono ?_
        rintro e w3 ⟨rfl, hb⟩
        have hB := hB.trans (hb.mono hB.size)
        have ho := ho.kept hb
        have hba : Below w3.heap.size w3 (w3.alloc (.cells (nums .u8 y).toArray 24)) := (Below.refl _ _).alloc (Nat.le_refl _) _
        have hB4 := hB.trans (hba.mono hB.size)
        have ho4 := ho.kept hba
        have hby : Blk (w3.alloc (.cells (nums .u8 y).toArray 24)) w3.heap.size (nums .u8 y) 24 := Blk.new' _ _ _ _ _ rfl rfl
        have hdy : Dg (w3.alloc (.cells (nums .u8 y).toArray 24)) (some ⟨w3.heap.size, 0, none⟩) 1 [y] := ⟨by simpa using Rd.ofBlk hby, by simp, fun h => (by cases h), Dgs.one HYO.out.1 HYO.out.2⟩
        go_wp2_with (first | (apply st_buildD (d := y); rfl; exact HYO.out.1) | (apply st_appendD (v := v2) (base := w.heap.size) (xs := p) (ys := [y]); rfl; rfl; exact ho4; exact hdy; (simp; omega); exact hB4.size; intro v5 w5 ho5 hg5 hat5))
        have hB5 := below_grownD hB4 ho4 hg5 (Nat.le_refl _) hB4.size
        go_ret2
        exact ⟨v5, rfl, hB5, ho5⟩

set_option maxRecDepth 100000 in
set_option maxHeartbeats 1000000 in
theorem refPath_any (w : World) (ds : List (List Int)) (A : Option Addr) (c : Nat) (hd : Dg w A c ds) (hl : ds.length ≤ 1000) (i z : Int) :
    Calls Tryd.prog 82 #[.slice A ds.length c, .int .i64 i, .int .i64 z] w (GivesDE (pathR ds i z) w) := by
  by_cases h : 0 ≤ i ∧ i < ds.length
  · have hr : pathR ds i z = (pathF ds i z, 0) := by unfold pathR; rw [if_pos h]
    rw [hr]
    exact refpath_any ds.length w ds A c rfl hd hl i z h.1 h.2
  · have hr : pathR ds i z = ([], 2) := by unfold pathR; rw [if_neg h]
    rw [hr]
    clear hr
    by_cases h0 : i < 0
    · go_enter Tryd.func82, Tryd.ntmps82
      go_wp2_with fail
      go_ret2
      exact ⟨_, rfl, Below.refl _ _, OwnD.nil _ _⟩
    · go_enter Tryd.func82, Tryd.ntmps82
      go_wp2_with fail
      go_ret2
      exact ⟨_, rfl, Below.refl _ _, OwnD.nil _ _⟩

set_option maxRecDepth 100000 in
set_option maxHeartbeats 4000000 in
theorem refGrowth_any (w : World) (ds : List (List Int)) (A : Option Addr) (c : Nat) (hd : Dg w A c ds) (hl : ds.length ≤ 1000) (i z : Int) :
    Calls Tryd.prog 84 #[.slice A ds.length c, .int .i64 i, .int .i64 z] w (GivesDE (growthR ds i z) w) := by
  by_cases h : 1 ≤ i ∧ i ≤ ds.length
  · have hr : growthR ds i z = (growthF ds i.toNat z true, 0) := by unfold growthR; rw [if_pos h]
    have hp := (by have := refgrowth_any ds.length w ds A c rfl hd hl i.toNat z true (by omega) (by omega); rwa [show ((i.toNat : Nat) : Int) = i by omega] at this)
    rw [hr]
    obtain ⟨p, hpp⟩ : ∃ p, p = growthF ds i.toNat z true := ⟨_, rfl⟩
    rw [← hpp] at hp ⊢
    have HP := Lib.hid hp
    obtain ⟨h1, h2⟩ := h
    clear hp hpp hr
    go_enter Tryd.func84, Tryd.ntmps84
    go_wp2_with fail
    go_at_call 93
    refine HP.out.mono ?_
    rintro e w1 ⟨v1, rfl, hb1, ho1⟩
    go_wp2_with fail
    go_ret2
    exact ⟨v1, rfl, hb1, ho1⟩
  · have hr : growthR ds i z = ([], 2) := by unfold growthR; rw [if_neg h]
    rw [hr]
    clear hr
    by_cases h0 : i < 1
    · go_enter Tryd.func84, Tryd.ntmps84
      go_wp2_with fail
      go_ret2
      exact ⟨_, rfl, Below.refl _ _, OwnD.nil _ _⟩
    · go_enter Tryd.func84, Tryd.ntmps84
      go_wp2_with fail
      go_ret2
      exact ⟨_, rfl, Below.refl _ _, OwnD.nil _ _⟩
end RefPath
end Go.Proofs.YtancldhincaphaaDoor
