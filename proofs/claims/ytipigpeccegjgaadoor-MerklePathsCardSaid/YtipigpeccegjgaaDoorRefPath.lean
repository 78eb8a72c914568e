/- What the reference's Path and Growth answer. No condition. -/
import Derived.Test.YtipigpeccegjgaaDoorPathX
import Derived.Test.YtipigpeccegjgaaDoorRefGrow
namespace Go.Proofs.YtipigpeccegjgaaDoor
open Go.RowKit

set_option maxHeartbeats 4000000 in
theorem refpath_any (n : Nat) : ∀ (w : World) (ds : List (List Int)) (A : Option Addr) (c : Nat), ds.length = n → Dg w A c ds → ds.length ≤ 1000 → ∀ (i z : Int), 0 ≤ i → i < ds.length →
    Calls Tryd.prog 28 #[.slice A ds.length c, .int .i64 i, .int .i64 z] w (GivesDE (pathF ds i z, 0) w) := by
  induction n using Nat.strongRecOn with
  | ind n ih =>
    intro w ds A c hn hd hl i z hi0 hi1
    subst hn
    by_cases h1 : ds.length = 1
    · rw [pathF_small ds i z (by omega)]
      clear ih
      go_enter Tryd.func28, Tryd.ntmps28
      go_wp2_with fail
      go_ret2
      exact ⟨_, rfl, Below.refl _ _, OwnD.nil _ _⟩
    · have hks := kF_spec ds.length (by omega)
      have hpl := pathF_left ds i z (by omega)
      have hpr := pathF_right ds i z (by omega)
      obtain ⟨k, hkk⟩ : ∃ k, k = kF ds.length := ⟨_, rfl⟩
      rw [← hkk] at hks hpl hpr
      obtain ⟨k1, k2, k3, k4⟩ := hks
      have ht := hd.take k (by omega)
      have hdr := hd.drop k (by omega)
      have htl : (ds.take k).length = k := by rw [List.length_take]; omega
      have hdl : (ds.drop k).length = ds.length - k := by rw [List.length_drop]
      obtain ⟨A2, hA2⟩ : ∃ A2 : Option Addr, A2 = (if c = k then A else A.map (·.add (k * 32))) := ⟨_, rfl⟩
      rw [← hA2] at hdr
      have HA2 := Lib.hid hA2
      clear hA2
      have hspot : ∀ ad, A = some ad → ad.spot = none := fun ad he => by
        obtain ⟨g, off, hA, _⟩ := hd.get (by omega)
        rw [hA] at he; injection he with he; rw [← he]
      have HSPOT := Lib.hid hspot
      have HNN := Lib.hid hd.nn
      have hdle := hd.le
      have HT := Lib.hid ht
      have HDR := Lib.hid hdr
      have HSP := Lib.hid k4
      by_cases hik : i < k
      · skip
        have hp := hpl hik
        have hc1 := fun (w : World) (h : Dg w A c (ds.take k)) => ih k (by omega) w (ds.take k) A c htl h (by omega) i z (by omega) (by rw [htl]; omega)
        have hc2 := fun (w : World) (h : Dg w A2 (c - k) (ds.drop k)) => refroot_any (ds.length - k) w (ds.drop k) A2 (c - k) hdl h (by omega) z
        rw [htl] at hc1
        rw [hdl] at hc2
        obtain ⟨y, hy⟩ : ∃ y, y = rootF (ds.drop k) z := ⟨_, rfl⟩
        have hyo := rootF_ok (ds.drop k) z (hd.u.drop k)
        have hpo := (pathF_ok k (ds.take k) i z htl (hd.u.take k)).2
        obtain ⟨p, hpp⟩ : ∃ p, p = pathF (ds.take k) i z := ⟨_, rfl⟩
        rw [← hy] at hc2 hp hyo
        rw [← hpp] at hc1 hp hpo
        have hpo : p.length ≤ 1000 := by rw [htl] at hpo; omega
        rw [hp]
        have HC1 := Lib.hid hc1
        have HC2 := Lib.hid hc2
        have HYO := Lib.hid hyo
        clear ih hkk hc1 hc2 hy hyo hp hpp ht hdr htl hdl hd k4 hspot hpl hpr
        have hB : Below w.heap.size w w := Below.refl _ _
        go_enter Tryd.func28, Tryd.ntmps28
        go_wp2_with fail
        go_at_call 26
        refine (refsplit_any _ ds.length (by omega) (by omega)).mono ?_
        rw [HSP.out]
        rintro e wz ⟨rfl, rfl⟩
        go_wp2_with (apply st_toD (sz := 32) (i := k); exact Tryd.underlying22; kernel_rfl; rfl; rfl; rfl; omega; exact HNN.out; exact HSPOT.out)
        go_at_call 28
        refine (HC1.out _ (HT.out.up hB)).mono ?_
        rintro e w2 ⟨v2, rfl, hb, ho⟩
        have hB := hB.trans hb
        go_wp2_with (apply st_fromD (sz := 32) (A2 := A2) (i := k); exact Tryd.underlying22; kernel_rfl; rfl; rfl; rfl; omega; exact HA2.out)
        go_at_call 13
        refine (HC2.out _ (HDR.out.up hB)).mono ?_
        rintro e w3 ⟨rfl, hb⟩
        have hB := hB.trans (hb.mono hB.size)
        have ho := ho.kept hb
        have hba : Below w3.heap.size w3 (w3.alloc (.cells (nums .u8 y).toArray 25)) := (Below.refl _ _).alloc (Nat.le_refl _) _
        have hB4 := hB.trans (hba.mono hB.size)
        have ho4 := ho.kept hba
        have hby : Blk (w3.alloc (.cells (nums .u8 y).toArray 25)) w3.heap.size (nums .u8 y) 25 := Blk.new' _ _ _ _ _ rfl rfl
        have hdy : Dg (w3.alloc (.cells (nums .u8 y).toArray 25)) (some ⟨w3.heap.size, 0, none⟩) 1 [y] := ⟨by simpa using Rd.ofBlk hby, by simp, fun h => (by cases h), Dgs.one HYO.out.1 HYO.out.2⟩
        go_wp2_with (first | (apply st_buildD (d := y); rfl; exact HYO.out.1) | (apply st_appendD (v := v2) (base := w.heap.size) (xs := p) (ys := [y]); rfl; rfl; exact ho4; exact hdy; (simp; omega); exact hB4.size; intro v5 w5 ho5 hg5 hat5))
        have hB5 := below_grownD hB4 ho4 hg5 (Nat.le_refl _) hB4.size
        go_ret2
        exact ⟨v5, rfl, hB5, ho5⟩
      · skip
        have hp := hpr hik
        have hc1 := fun (w : World) (h : Dg w A2 (c - k) (ds.drop k)) => ih (ds.length - k) (by omega) w (ds.drop k) A2 (c - k) hdl h (by omega) (i - k) z (by omega) (by rw [hdl]; omega)
        have hc2 := fun (w : World) (h : Dg w A c (ds.take k)) => refroot_any k w (ds.take k) A c htl h (by omega) z
        rw [hdl] at hc1
        rw [htl] at hc2
        obtain ⟨y, hy⟩ : ∃ y, y = rootF (ds.take k) z := ⟨_, rfl⟩
        have hyo := rootF_ok (ds.take k) z (hd.u.take k)
        have hpo := (pathF_ok (ds.length - k) (ds.drop k) (i - k) z hdl (hd.u.drop k)).2
        obtain ⟨p, hpp⟩ : ∃ p, p = pathF (ds.drop k) (i - k) z := ⟨_, rfl⟩
        rw [← hy] at hc2 hp hyo
        rw [← hpp] at hc1 hp hpo
        have hpo : p.length ≤ 1000 := by rw [hdl] at hpo; omega
        rw [hp]
        have HC1 := Lib.hid hc1
        have HC2 := Lib.hid hc2
        have HYO := Lib.hid hyo
        clear ih hkk hc1 hc2 hy hyo hp hpp ht hdr htl hdl hd k4 hspot hpl hpr
        have hB : Below w.heap.size w w := Below.refl _ _
        go_enter Tryd.func28, Tryd.ntmps28
        go_wp2_with fail
        go_at_call 26
        refine (refsplit_any _ ds.length (by omega) (by omega)).mono ?_
        rw [HSP.out]
        rintro e wz ⟨rfl, rfl⟩
        go_wp2_with (apply st_fromD (sz := 32) (A2 := A2) (i := k); exact Tryd.underlying22; kernel_rfl; rfl; rfl; rfl; omega; exact HA2.out)
        go_at_call 28
        refine (HC1.out _ (HDR.out.up hB)).mono ?_
        rintro e w2 ⟨v2, rfl, hb, ho⟩
        have hB := hB.trans hb
        go_wp2_with (apply st_toD (sz := 32) (i := k); exact Tryd.underlying22; kernel_rfl; rfl; rfl; rfl; omega; exact HNN.out; exact HSPOT.out)
        go_at_call 13
        refine (HC2.out _ (HT.out.up hB)).mono ?_
        rintro e w3 ⟨rfl, hb⟩
        have hB := hB.trans (hb.mono hB.size)
        have ho := ho.kept hb
        have hba : Below w3.heap.size w3 (w3.alloc (.cells (nums .u8 y).toArray 25)) := (Below.refl _ _).alloc (Nat.le_refl _) _
        have hB4 := hB.trans (hba.mono hB.size)
        have ho4 := ho.kept hba
        have hby : Blk (w3.alloc (.cells (nums .u8 y).toArray 25)) w3.heap.size (nums .u8 y) 25 := Blk.new' _ _ _ _ _ rfl rfl
        have hdy : Dg (w3.alloc (.cells (nums .u8 y).toArray 25)) (some ⟨w3.heap.size, 0, none⟩) 1 [y] := ⟨by simpa using Rd.ofBlk hby, by simp, fun h => (by cases h), Dgs.one HYO.out.1 HYO.out.2⟩
        go_wp2_with (first | (apply st_buildD (d := y); rfl; exact HYO.out.1) | (apply st_appendD (v := v2) (base := w.heap.size) (xs := p) (ys := [y]); rfl; rfl; exact ho4; exact hdy; (simp; omega); exact hB4.size; intro v5 w5 ho5 hg5 hat5))
        have hB5 := below_grownD hB4 ho4 hg5 (Nat.le_refl _) hB4.size
        go_ret2
        exact ⟨v5, rfl, hB5, ho5⟩

set_option maxHeartbeats 1000000 in
theorem refPath_any (w : World) (ds : List (List Int)) (A : Option Addr) (c : Nat) (hd : Dg w A c ds) (hl : ds.length ≤ 1000) (i z : Int) :
    Calls Tryd.prog 28 #[.slice A ds.length c, .int .i64 i, .int .i64 z] w (GivesDE (pathR ds i z) w) := by
  by_cases h : 0 ≤ i ∧ i < ds.length
  · have hr : pathR ds i z = (pathF ds i z, 0) := by unfold pathR; rw [if_pos h]
    rw [hr]
    exact refpath_any ds.length w ds A c rfl hd hl i z h.1 h.2
  · have hr : pathR ds i z = ([], 2) := by unfold pathR; rw [if_neg h]
    rw [hr]
    clear hr
    by_cases h0 : i < 0
    · go_enter Tryd.func28, Tryd.ntmps28
      go_wp2_with fail
      go_ret2
      exact ⟨_, rfl, Below.refl _ _, OwnD.nil _ _⟩
    · go_enter Tryd.func28, Tryd.ntmps28
      go_wp2_with fail
      go_ret2
      exact ⟨_, rfl, Below.refl _ _, OwnD.nil _ _⟩

set_option maxHeartbeats 4000000 in
theorem refGrowth_any (w : World) (ds : List (List Int)) (A : Option Addr) (c : Nat) (hd : Dg w A c ds) (hl : ds.length ≤ 1000) (i z : Int) :
    Calls Tryd.prog 30 #[.slice A ds.length c, .int .i64 i, .int .i64 z] w (GivesDE (growthR ds i z) w) := by
  by_cases h : 1 ≤ i ∧ i ≤ ds.length
  · have hr : growthR ds i z = (growthF ds i.toNat z true, 0) := by unfold growthR; rw [if_pos h]
    have hp := (by have := refgrowth_any ds.length w ds A c rfl hd hl i.toNat z true (by omega) (by omega); rwa [show ((i.toNat : Nat) : Int) = i by omega] at this)
    rw [hr]
    obtain ⟨p, hpp⟩ : ∃ p, p = growthF ds i.toNat z true := ⟨_, rfl⟩
    rw [← hpp] at hp ⊢
    have HP := Lib.hid hp
    obtain ⟨h1, h2⟩ := h
    clear hp hpp hr
    go_enter Tryd.func30, Tryd.ntmps30
    go_wp2_with fail
    go_at_call 42
    refine HP.out.mono ?_
    rintro e w1 ⟨v1, rfl, hb1, ho1⟩
    go_wp2_with fail
    go_ret2
    exact ⟨v1, rfl, hb1, ho1⟩
  · have hr : growthR ds i z = ([], 2) := by unfold growthR; rw [if_neg h]
    rw [hr]
    clear hr
    by_cases h0 : i < 1
    · go_enter Tryd.func30, Tryd.ntmps30
      go_wp2_with fail
      go_ret2
      exact ⟨_, rfl, Below.refl _ _, OwnD.nil _ _⟩
    · go_enter Tryd.func30, Tryd.ntmps30
      go_wp2_with fail
      go_ret2
      exact ⟨_, rfl, Below.refl _ _, OwnD.nil _ _⟩
end Go.Proofs.YtipigpeccegjgaaDoor
