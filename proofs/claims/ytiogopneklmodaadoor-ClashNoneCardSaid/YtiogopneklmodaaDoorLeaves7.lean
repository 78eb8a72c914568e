/- What the reference's Leaves of layer 6 and Path of layer 7 answer. No condition. -/
import Derived.Test.YtiogopneklmodaaDoorFew7
import Derived.Test.YtiogopneklmodaaDoorClQ
import Derived.Test.YtiogopneklmodaaDoorGk
import Derived.Test.YtiogopneklmodaaDoorGg
namespace Go.Proofs.YtiogopneklmodaaDoor
open Go.RowKit

theorem leavesF_step (l : List (List Int)) (z : Int) (k : Nat) (h : k < l.length) : leavesF (l.take (k + 1)) z = leavesF (l.take k) z ++ [leafF l[k] z] := by
  have e3 : l.take (k + 1) = l.take k ++ [l[k]] := by rw [List.take_add_one, List.getElem?_eq_getElem h]; rfl
  unfold leavesF; rw [e3, List.map_append]; rfl

set_option maxRecDepth 100000 in
set_option maxHeartbeats 4000000 in
theorem refleaves_any (w : World) (l : List (List Int)) (A : Option Addr) (c : Nat) (hT : Txts w A c l) (hl : l.length ≤ 1000) (hb : ∀ b ∈ l, b.length ≤ 1000) (z : Int) :
    Calls Tryd.prog 25 #[.slice A l.length c, .int .i64 z] w (GivesD (leavesF l z) w) := by
  have HT := Lib.hid hT
  have HLB := Lib.hid hb
  clear hT hb
  go_enter Tryd.func25, Tryd.ntmps25
  go_wp2
  go_loopw [5, 6] (fun v i wr => ∃ k : Nat, i = .int .i64 k ∧ k ≤ l.length ∧ Below w.heap.size w wr ∧ OwnD wr w.heap.size v (leavesF (l.take k) z)) (fun _ i _ => l.length - (intOf i).toNat)
  case atStart => exact ⟨0, rfl, by omega, Below.refl _ _, OwnD.nil _ _⟩
  case round =>
    obtain ⟨k, rfl, hk, hB, ho⟩ := hrel
    by_cases hlt : k < l.length
    · obtain ⟨g, o, rfl, hg, hc⟩ := HT.out.get (by omega)
      obtain ⟨B, d, hcell, hbyt⟩ := hc k hlt
      have c1 := (hB.cell (p := ⟨g, o + k, none⟩) hg).trans hcell
      have hbl : (l[k]).length ≤ 1000 := HLB.out _ (List.getElem_mem hlt)
      have hstep := leavesF_step l z k hlt
      have hlen : (leavesF (l.take k) z).length ≤ 1000 := by rw [leavesF_len, List.length_take]; omega
      obtain ⟨b, hb⟩ : ∃ b, b = l[k] := ⟨_, rfl⟩
      rw [← hb] at c1 hbyt hbl hstep
      have hcall := fun (W : World) (h : Byt W B d b) => refleaf_any W b B d h (by omega) z
      have hyo : (leafF b z).length = 32 ∧ U8 (leafF b z) := ⟨leafF_len b z, leafF_range b z⟩
      obtain ⟨y, hy⟩ : ∃ y, y = leafF b z := ⟨_, rfl⟩
      rw [← hy] at hcall hyo hstep
      have HCALL := Lib.hid hcall
      have HYO := Lib.hid hyo
      have HST := Lib.hid hstep
      have HBY := Lib.hid hbyt
      obtain ⟨P, hP⟩ : ∃ P, P = leavesF (l.take k) z := ⟨_, rfl⟩
      rw [← hP] at ho hlen hstep
      have HPP := Lib.hid hstep
      clear hc hcell hbyt hb hcall hyo hy hstep hP HST
      go_wp2_with fail
      go_at_call 43
      refine (HCALL.out _ (HBY.out.up hB)).mono ?_
      rintro e w3 ⟨rfl, hb⟩
      have ho := ho.kept hb
      have hB := hB.trans (hb.mono hB.size)
      have hba : Below w3.heap.size w3 (w3.alloc (.cells (nums .u8 y).toArray 45)) := (Below.refl _ _).alloc (Nat.le_refl _) _
      have hB4 := hB.trans (hba.mono hB.size)
      have ho4 := ho.kept hba
      have hby : Blk (w3.alloc (.cells (nums .u8 y).toArray 45)) w3.heap.size (nums .u8 y) 45 := Blk.new' _ _ _ _ _ rfl rfl
      have hdy : Dg (w3.alloc (.cells (nums .u8 y).toArray 45)) (some ⟨w3.heap.size, 0, none⟩) 1 [y] := ⟨by simpa using Rd.ofBlk hby, by simp, fun h => (by cases h), Dgs.one HYO.out.1 HYO.out.2⟩
      --MARK1
      go_wp2_with (first | ((with_reducible apply st_buildD (d := y)); rfl; exact HYO.out.1) | ((with_reducible apply st_appendD (base := w.heap.size) (xs := P) (ys := [y])); rfl; rfl; exact ho4; exact hdy; (simp; omega); exact hB4.size; intro v5 w5 ho5 hg5 hat5; rw [← HPP.out] at ho5; have hB5 := below_grownD hB4 ho4 hg5 (Nat.le_refl _) hB4.size))
      --MARK2
      go_roundw
      case rel => exact ⟨k + 1, by go_num, by omega, hB5, ho5⟩
      case measure => simp [intOf]; omega
    · have hkl : l.take k = l := List.take_of_length_le (by omega)
      rw [hkl] at ho
      go_wp2
      go_ret
      exact ⟨_, rfl, hB, ho⟩

set_option maxRecDepth 100000 in
set_option maxHeartbeats 4000000 in
theorem refpath_any7 (w : World) (l : List (List Int)) (A : Option Addr) (c : Nat) (hT : Txts w A c l) (hl : l.length ≤ 1000) (hb : ∀ x ∈ l, x.length ≤ 1000) (i : Int) (b : List Int) (B : Option Addr) (cb : Nat) (hby : Byt w B cb b) (hbl : b.length ≤ 1000) (ps : List (List Int)) (Ap : Option Addr) (cp : Nat) (hP : Dg w Ap cp ps) (z : Int) :
    Calls Tryd.prog 20 #[.slice A l.length c, .int .i64 i, .slice B b.length cb, .slice Ap ps.length cp, .int .i64 z] w fun e w' => e = .returned (.bool (pathMust l i b ps z)) ∧ Below w.heap.size w w' := by
  by_cases h0 : i < 0
  · rw [pathMust_out l i b ps z (by omega)]
    clear hT hby hP hb
    go_enter Tryd.func20, Tryd.ntmps20
    go_wp2_with fail
    go_ret
    exact ⟨rfl, Below.refl _ _⟩
  · by_cases h1 : (l.length : Int) ≤ i
    · rw [pathMust_out l i b ps z (by omega)]
      clear hT hby hP hb
      go_enter Tryd.func20, Tryd.ntmps20
      go_wp2_with fail
      go_ret
      exact ⟨rfl, Below.refl _ _⟩
    · obtain ⟨k, rfl⟩ := Int.eq_ofNat_of_zero_le (show 0 ≤ i by omega)
      have hkl : k < l.length := by omega
      obtain ⟨g, o, rfl, hg, hc⟩ := hT.get (by omega)
      obtain ⟨Bk, dk, hcell, hbyt⟩ := hc k hkl
      have hlk : (l[k]).length ≤ 1000 := hb _ (List.getElem_mem hkl)
      have hgd : l.getD ((k : Int)).toNat [] = l[k] := by simp [hkl]
      obtain ⟨x, hx⟩ : ∃ x, x = l[k] := ⟨_, rfl⟩
      rw [← hx] at hcell hbyt hlk hgd
      have HBX := Lib.hid hbyt
      have HBY := Lib.hid hby
      have HT := Lib.hid hT
      have HP := Lib.hid hP
      have HLB := Lib.hid hb
      have hsm := pathMust_same l k b ps z
      have hin := pathMust_in l k b ps z (by omega) (by omega)
      rw [hgd] at hsm hin
      clear hT hby hP hb hc hbyt hgd hx
      by_cases hsame : x = b
      · rw [hsm hsame]
        have hd : decide (x = b) = true := decide_eq_true hsame
        have HD := Lib.hid hd
        clear hd hsame hsm hin
        go_enter Tryd.func20, Tryd.ntmps20
        go_wp2_with fail
        go_at_call 17
        have hcall := refsame_any w Bk B dk cb x b HBX.out.rd HBY.out.rd (by omega)
        rw [HD.out] at hcall
        refine hcall.mono ?_
        clear hcall
        rintro e w1 ⟨rfl, hb1⟩
        go_wp2_with fail
        go_ret
        exact ⟨rfl, hb1⟩
      · rw [hin hsame]
        have hd : decide (x = b) = false := decide_eq_false hsame
        have HD := Lib.hid hd
        clear hd hsame hsm hin
        have hLu := leavesF_ok l z
        have hLl := leavesF_len l z
        have hlv := fun (W : World) (h : Txts W (some ⟨g, o, none⟩) c l) => refleaves_any W l (some ⟨g, o, none⟩) c h hl HLB.out z
        obtain ⟨L, hL⟩ : ∃ L, L = leavesF l z := ⟨_, rfl⟩
        rw [← hL] at hLu hLl hlv ⊢
        have hlf := fun (W : World) (h : Byt W B cb b) => refleaf_any W b B cb h (by omega) z
        have hdo : (leafF b z).length = 32 ∧ U8 (leafF b z) := ⟨leafF_len b z, leafF_range b z⟩
        obtain ⟨d, hd⟩ : ∃ d, d = leafF b z := ⟨_, rfl⟩
        rw [← hd] at hlf hdo ⊢
        have hro := rootF_ok L z hLu
        have hrt := fun (W : World) (A : Option Addr) (c : Nat) (h : Dg W A c L) => refroot_any L.length W L A c rfl h (by omega) z
        rw [hLl] at hrt
        have hcp := fun (W : World) (h : Dg W Ap cp ps) => refcheckpath_any W (rootF L z) hro.1 l.length k (by omega) d hdo.1 hdo.2 ps Ap cp h z
        obtain ⟨R, hR⟩ : ∃ R, R = rootF L z := ⟨_, rfl⟩
        rw [← hR] at hrt hcp ⊢
        have HLL := Lib.hid hLl
        have HLV := Lib.hid hlv
        have HLF := Lib.hid hlf
        have HRT := Lib.hid hrt
        have HCP := Lib.hid hcp
        clear hL hd hR hro hrt hlf hdo hlv hLu hLl hcp
        go_enter Tryd.func20, Tryd.ntmps20
        go_wp2_with fail
        go_at_call 17
        have hcall := refsame_any w Bk B dk cb x b HBX.out.rd HBY.out.rd (by omega)
        rw [HD.out] at hcall
        refine hcall.mono ?_
        clear hcall
        rintro e w1 ⟨rfl, hB⟩
        go_wp2_with fail
        go_at_call 25
        refine (HLV.out _ (HT.out.up hB)).mono ?_
        rintro e w2 ⟨v, rfl, hb, ho⟩
        have hB := hB.trans (hb.mono hB.size)
        obtain ⟨AL, cL, rfl, hDL, _⟩ := ho.dg
        rw [HLL.out]
        go_wp2_with fail
        go_at_call 28
        refine (HRT.out _ _ _ hDL).mono ?_
        rintro e w3 ⟨rfl, hb⟩
        have hB := hB.trans (hb.mono hB.size)
        go_wp2_with fail
        go_at_call 43
        refine (HLF.out _ (HBY.out.up hB)).mono ?_
        rintro e w4 ⟨rfl, hb⟩
        have hB := hB.trans (hb.mono hB.size)
        go_wp2_with fail
        go_at_call 42
        refine (HCP.out _ (HP.out.up hB)).mono ?_
        rintro e w5 ⟨rfl, hb⟩
        have hB := hB.trans (hb.mono hB.size)
        go_wp2_with fail
        go_ret
        exact ⟨rfl, hB⟩

end Go.Proofs.YtiogopneklmodaaDoor
