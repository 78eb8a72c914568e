/- What the reference's Leaves of layer 6, and Chain, Head, Path, Growth, Add of layer 21 answer. No condition. -/
import Derived.Test.YtancldhincaphaaDoorLedX
import Derived.Test.YtancldhincaphaaDoorGl
import Derived.Test.YtancldhincaphaaDoorGh
namespace Go.Proofs.YtancldhincaphaaDoor
open Go.RowKit
set_option maxRecDepth 100000

def leavesF (l : List (List Int)) (z : Int) : List (List Int) := l.map fun b => leafF b z
theorem leavesF_len (l : List (List Int)) (z : Int) : (leavesF l z).length = l.length := List.length_map _
theorem leavesF_256 (l : List (List Int)) : leavesF l 256 = lleavesF l := rfl
theorem leavesF_step (l : List (List Int)) (z : Int) (k : Nat) (h : k < l.length) : leavesF (l.take (k + 1)) z = leavesF (l.take k) z ++ [leafF l[k] z] := by
  have e3 : l.take (k + 1) = l.take k ++ [l[k]] := by rw [List.take_add_one, List.getElem?_eq_getElem h]; rfl
  unfold leavesF; rw [e3, List.map_append]; rfl

set_option maxRecDepth 100000 in
set_option maxHeartbeats 4000000 in
theorem refleaves_any (w : World) (l : List (List Int)) (A : Option Addr) (c : Nat) (hT : Txts w A c l) (hl : l.length ≤ 1000) (hb : ∀ b ∈ l, b.length ≤ 1000) (z : Int) :
    Calls Tryd.prog 83 #[.slice A l.length c, .int .i64 z] w (GivesD (leavesF l z) w) := by
  have HT := Lib.hid hT
  have HLB := Lib.hid hb
  clear hT hb
  go_enter Tryd.func83, Tryd.ntmps83
  go_wp2
  go_loopw [5, 6] (fun v i wr => ∃ k : Nat, i = .int .i64 k ∧ k ≤ l.length ∧ Below w.heap.size w wr ∧ OwnD wr w.heap.size v (leavesF (l.take k) z)) (fun _ i _ => l.length - (intOf i).toNat)
  case atStart => exact ⟨0, rfl, by omega, Below.refl _ _, OwnD.nil _ _⟩
  case round =>
    obtain ⟨k, rfl, hk, hB, ho⟩ := hrel
    by_cases hlt : k < l.length
    · obtain ⟨g, o, rfl, hg, hc⟩ := HT.out.get (by omega)
      obtain ⟨B, d, hcell, hbyt⟩ := hc k hlt
      have c1 := (hB.cell (p := ⟨g, o + k, none⟩) hg).trans hcell
      have hbl : (l[k]).length ≤ 1000 := HLB.out _ (List.getElem_mem hlt)
      have hstep := leavesF_step l z k hlt
      have hlen : (leavesF (l.take k) z).length ≤ 1000 := by rw [leavesF_len, List.length_take]; omega
      obtain ⟨b, hb⟩ : ∃ b, b = l[k] := ⟨_, rfl⟩
      rw [← hb] at c1 hbyt hbl hstep
      have hcall := fun (W : World) (h : Byt W B d b) => refleaf_any W b B d h (by omega) z
      have hyo : (leafF b z).length = 32 ∧ U8 (leafF b z) := ⟨leafF_len b z, leafF_range b z⟩
      obtain ⟨y, hy⟩ : ∃ y, y = leafF b z := ⟨_, rfl⟩
      rw [← hy] at hcall hyo hstep
      have HCALL := Lib.hid hcall
      have HYO := Lib.hid hyo
      have HST := Lib.hid hstep
      have HBY := Lib.hid hbyt
      obtain ⟨P, hP⟩ : ∃ P, P = leavesF (l.take k) z := ⟨_, rfl⟩
      rw [← hP] at ho hlen hstep
      have HPP := Lib.hid hstep
      clear hc hcell hbyt hb hcall hyo hy hstep hP HST
      go_wp2_with fail
      go_at_call 52
      refine (HCALL.out _ (HBY.out.up hB)).mono ?_
      rintro e w3 ⟨rfl, hb⟩
      have ho := ho.kept hb
      have hB := hB.trans (hb.mono hB.size)
      have hba : Below w3.heap.size w3 (w3.alloc (.cells (nums .u8 y).toArray 24)) := (Below.refl _ _).alloc (Nat.le_refl _) _
      have hB4 := hB.trans (hba.mono hB.size)
      have ho4 := ho.kept hba
      have hby : Blk (w3.alloc (.cells (nums .u8 y).toArray 24)) w3.heap.size (nums .u8 y) 24 := Blk.new' _ _ _ _ _ rfl rfl
      have hdy : Dg (w3.alloc (.cells (nums .u8 y).toArray 24)) (some ⟨w3.heap.size, 0, none⟩) 1 [y] := ⟨by simpa using Rd.ofBlk hby, by simp, fun h => (by cases h), Dgs.one HYO.out.1 HYO.out.2⟩
      --MARK1
      go_wp2_with (first | ((with_reducible apply st_buildD (d := y)); rfl; exact HYO.out.1) | ((with_reducible apply st_appendD (base := w.heap.size) (xs := P) (ys := [y])); rfl; rfl; exact ho4; exact hdy; (simp; omega); exact hB4.size; intro v5 w5 ho5 hg5 hat5; rw [← HPP.out] at ho5; have hB5 := below_grownD hB4 ho4 hg5 (Nat.le_refl _) hB4.size))
      --MARK2
      go_roundw
      case rel => exact ⟨k + 1, by go_num, by omega, hB5, ho5⟩
      case measure => simp [intOf]; omega
    · have hkl : l.take k = l := List.take_of_length_le (by omega)
      rw [hkl] at ho
      go_wp2
      go_ret
      exact ⟨_, rfl, hB, ho⟩

theorem lchainF_step (T : List (List Int)) (k : Nat) (h : k < T.length) : lchainF (T.take (k + 1)) = nodeF (lchainF (T.take k)) (leafF T[k] 256) 256 := by
  rw [show T.take (k + 1) = T.take k ++ [T[k]] by rw [List.take_add_one, List.getElem?_eq_getElem h]; rfl, lchainF_snoc]
set_option maxRecDepth 100000 in
set_option maxHeartbeats 4000000 in
theorem refchain_any (w : World) (T : List (List Int)) (A : Option Addr) (c : Nat) (hT : Txts w A c T) (hl : T.length ≤ 1000) (hb : ∀ b ∈ T, b.length ≤ 1000) :
    Calls Tryd.prog 51 #[.slice A T.length c] w fun e w' => e = .returned (.agg (nums .u8 (lchainF T)).toArray) ∧ Below w.heap.size w w' := by
  obtain ⟨w0, hw0⟩ : ∃ W, W = (w.alloc (.cells (nums .u8 (List.replicate 32 0)).toArray 24)).alloc (.cells (nums .u8 (List.replicate 32 0)).toArray 24) := ⟨_, rfl⟩
  have hr0 : Blk w0 w.heap.size (nums .u8 (List.replicate 32 0)) 24 := by rw [hw0]; exact (Blk.new' _ _ _ _ _ rfl rfl).alloc _
  have hd0 : Blk w0 (w.heap.size + 1) (nums .u8 (List.replicate 32 0)) 24 := by rw [hw0]; exact Blk.new' _ _ _ _ _ rfl (by simp)
  have hB0 : Below w.heap.size w w0 := by rw [hw0]; exact ((Below.refl _ _).alloc (Nat.le_refl _) _).alloc (by simp) _
  have hxto := (lchainF_ok T).1
  obtain ⟨XT, hXT⟩ : ∃ XT, XT = lchainF T := ⟨_, rfl⟩
  rw [← hXT] at hxto ⊢
  have HXT := Lib.hid hXT
  have HXTL := Lib.hid hxto
  have HT := Lib.hid hT
  have HLB := Lib.hid hb
  have HW0 := Lib.hid hw0
  clear hT hb hw0 hXT hxto
  go_enter Tryd.func51, Tryd.ntmps51
  go_upto_region 2 with (fail)
  refine named_world ?_
  intro wq hwq
  have e : w0 = wq := by rw [hwq, HW0.out]; rfl
  clear hwq
  subst e
  go_wp2_with fail
  --MARK1
  go_loopw [4] (fun i wr => ∃ k : Nat, i = .int .i64 k ∧ k ≤ T.length ∧ Below w.heap.size w wr ∧ Blk wr w.heap.size (nums .u8 (List.replicate 32 0)) 24 ∧ Blk wr (w.heap.size + 1) (nums .u8 (lchainF (T.take k))) 24) (fun i _ => T.length - (intOf i).toNat)
  case atStart => exact ⟨0, rfl, by omega, hB0, hr0, hd0⟩
  case round =>
    clear hr0 hd0 hB0
    obtain ⟨k, rfl, hk, hB, hr, hd⟩ := hrel
    have hdl := hd.lt
    by_cases hlt : k < T.length
    · obtain ⟨g, o, rfl, hg, hc⟩ := HT.out.get (by omega)
      obtain ⟨B, d, hcell, hbyt⟩ := hc k hlt
      have c1 := (hB.cell (p := ⟨g, o + k, none⟩) hg).trans hcell
      have hbl : (T[k]).length ≤ 1000 := HLB.out _ (List.getElem_mem hlt)
      have hstep := lchainF_step T k hlt
      obtain ⟨b, hb⟩ : ∃ b, b = T[k] := ⟨_, rfl⟩
      rw [← hb] at c1 hbyt hbl hstep
      have hleaf := fun (W : World) (h : Byt W B d b) => refleaf_any W b B d h (by omega) 256
      have hyo : (leafF b 256).length = 32 ∧ U8 (leafF b 256) := ⟨leafF_len b 256, leafF_range b 256⟩
      obtain ⟨y, hy⟩ : ∃ y, y = leafF b 256 := ⟨_, rfl⟩
      rw [← hy] at hleaf hyo hstep
      have hxo := lchainF_ok (T.take k)
      obtain ⟨x, hx⟩ : ∃ x, x = lchainF (T.take k) := ⟨_, rfl⟩
      rw [← hx] at hd hstep hxo
      have hnode := fun W => refnode_any W x y hxo.1 hyo.1 hxo.2 hyo.2 256
      have hno : (nodeF x y 256).length = 32 := nodeF_len _ _ _
      rw [← hstep] at hnode hno
      obtain ⟨N, hN⟩ : ∃ N, N = lchainF (T.take (k + 1)) := ⟨_, rfl⟩
      rw [← hN] at hnode hno
      have HLEAF := Lib.hid hleaf
      have HNODE := Lib.hid hnode
      have HBY := Lib.hid (hbyt.up hB)
      have HXL := Lib.hid hxo.1
      have HNL := Lib.hid hno
      have HN := Lib.hid hN
      have hgr := Nat.lt_of_lt_of_le hg hB.size
      have hgw := hg
      clear hc hcell hbyt hb hy hx hstep hleaf hnode hno hyo hxo hN
      go_wp2_with fail
      --MARK2
      refine wp_region_C (Same [g, w.heap.size + 1] wr) [5, 6, 7] (by kernel_rfl) (by kernel_rfl) (by intro c a w h; first | (obtain ⟨_, h, _⟩ := h; cases h; done) | (obtain ⟨_, _, h, _⟩ := h; cases h; done) | (obtain ⟨_, _, _, h, _⟩ := h; cases h; done) | (obtain ⟨_, _, _, _, h, _⟩ := h; cases h; done) | (rcases h with ⟨_, ⟨_, _, _, _, h, _⟩ | ⟨_, _, _, _, h, _⟩⟩ <;> cases h; done)) (by intro a w h; first | (obtain ⟨h, _⟩ := h; cases h; done) | (obtain ⟨_, h, _⟩ := h; cases h; done) | (obtain ⟨_, _, h, _⟩ := h; cases h; done) | (obtain ⟨_, _, _, h, _⟩ := h; cases h; done) | (rcases h with ⟨_, _, _, _, h, _⟩ | ⟨_, _, _, _, h, _⟩ <;> cases h; done)) (Same.refl _ _) ?_
      repeat (refine wd_w (v := ?_) rfl rfl rfl rfl rfl rfl (fun w' hw' K hK => ?_) ?_; rotate_left; (have e1 := hw'.blk hd (by simp); have e2 := (hw'.cell g (by simp) _).trans c1; go_wp2_with ((first | ((with_reducible apply st_load (n := 32) (cs := nums .u8 (x)) (T := 24)); rfl; exact e1; exact Tryd.underlying24; rfl; kernel_rfl; (rw [nums_length, HXL.out]; exact Nat.le_refl _); (exact row_all _ _ (by rw [nums_length, HXL.out]))))); exact rfl); simp only [Act.put, List.setIfInBounds_toArray, List.set_cons_zero, List.set_cons_succ])
      refine wd_l rfl rfl (by intro a w h; first | (obtain ⟨h, _⟩ := h; cases h; done) | (obtain ⟨_, h, _⟩ := h; cases h; done) | (obtain ⟨_, _, h, _⟩ := h; cases h; done) | (obtain ⟨_, _, _, h, _⟩ := h; cases h; done) | (rcases h with ⟨_, _, _, _, h, _⟩ | ⟨_, _, _, _, h, _⟩ <;> cases h; done)) ?_
      go_wp2_with fail
      go_at_call 52
      refine (HLEAF.out _ (HBY.out.up ((Below.refl _ _).drew))).mono ?_
      rintro e w2 ⟨rfl, hb2⟩
      have hb2 : Below wr.heap.size wr w2 := (Below.refl wr.heap.size wr).drew.trans hb2
      go_wp2_with fail
      refine ⟨.inr (fun gg hg2 => hb2.block gg (by simp at hg2; omega)), ?_⟩
      --MARK3
      refine wd_l rfl rfl (by intro a w h; first | (obtain ⟨h, _⟩ := h; cases h; done) | (obtain ⟨_, h, _⟩ := h; cases h; done) | (obtain ⟨_, _, h, _⟩ := h; cases h; done) | (obtain ⟨_, _, _, h, _⟩ := h; cases h; done) | (rcases h with ⟨_, _, _, _, h, _⟩ | ⟨_, _, _, _, h, _⟩ <;> cases h; done)) ?_
      go_wp2_with fail
      go_at_call 76
      refine (HNODE.out w2).mono ?_
      rintro e w3 ⟨rfl, hb3⟩
      have hb3 : Below wr.heap.size wr w3 := hb2.trans (hb3.mono hb2.size)
      have hd3 := hd.up hb3
      have hr3 := hr.up hb3
      have hB3 := hB.trans (hb3.mono hB.size)
      go_wp2_with fail
      refine ⟨.inr (fun gg hg2 => hb3.block gg (by simp at hg2; omega)), ?_⟩
      --MARK4
      refine wd_last rfl (by kernel_rfl) rfl (by intro a w h; first | (obtain ⟨h, _⟩ := h; cases h; done) | (obtain ⟨_, h, _⟩ := h; cases h; done) | (obtain ⟨_, _, h, _⟩ := h; cases h; done) | (obtain ⟨_, _, _, h, _⟩ := h; cases h; done) | (rcases h with ⟨_, _, _, _, h, _⟩ | ⟨_, _, _, _, h, _⟩ <;> cases h; done)) ?_
      go_wp2_with ((with_reducible apply st_storeW (off := 0) (vs := nums .u8 (N)) (cs := nums .u8 (x)) (T := 24)); rfl; rfl; exact hd3; (rw [nums_length, HNL.out]; kernel_rfl); (rw [nums_length, HNL.out, nums_length, HXL.out]; decide); exact nums_one _ _; intro w4 hd4 hw4; rw [laid_all _ _ (by rw [nums_length, nums_length, HNL.out, HXL.out])] at hd4)
      --MARK5
      have hr4 := hw4.blk hr3 (by omega)
      have hB4 := Wrote.below hB3 hw4 (by omega)
      rw [HN.out] at hd4
      go_roundw
      case rel => exact ⟨k + 1, by go_num, by omega, hB4, hr4, hd4⟩
      case measure => simp [intOf]; omega
    · have e9 : T.take k = T := List.take_of_length_le (by omega)
      rw [e9, ← HXT.out] at hd
      clear e9
      go_wp2_with (first | ((with_reducible apply st_load (n := 32) (cs := nums .u8 (XT)) (T := 24)); rfl; exact hd; exact Tryd.underlying24; rfl; kernel_rfl; (rw [nums_length, HXTL.out]; exact Nat.le_refl _); (exact row_all _ _ (by rw [nums_length, HXTL.out]))) | ((with_reducible apply st_storeW (off := 0) (vs := nums .u8 (XT)) (cs := nums .u8 (List.replicate 32 0)) (T := 24)); rfl; rfl; exact hr; (rw [nums_length, HXTL.out]; kernel_rfl); (rw [nums_length, HXTL.out]; decide); exact nums_one _ _; intro w5 hd5 hw5; rw [laid_all _ _ (by rw [nums_length, HXTL.out]; rfl)] at hd5))
      --MARK6
      refine bodyPost_ret (ret_row rfl _ _ _ (nums .u8 (XT)) 24 _ rfl hd5 Tryd.underlying24 rfl (by rw [nums_length, HXTL.out]; kernel_rfl)) rfl ⟨rfl, Wrote.below hB hw5 (Nat.le_refl _)⟩

set_option maxRecDepth 100000 in
set_option maxHeartbeats 8000000 in
theorem refhead_any (w : World) (key : List Int) (K : Option Addr) (ck : Nat) (hy : Byt w K ck key) (hkl : key.length ≤ 1000) (T : List (List Int)) (A : Option Addr) (c : Nat) (hT : Txts w A c T) (hl : T.length ≤ 64) (hb : ∀ b ∈ T, b.length ≤ 1000) :
    Calls Tryd.prog 61 #[.slice K key.length ck, .slice A T.length c] w fun e w' => e = .returned (.agg (headF key T).toArray) ∧ Below w.heap.size w w' := by
  obtain ⟨w0, hw0⟩ : ∃ W, W = w.alloc (.cells (headC 0 zd zd zd).toArray 26) := ⟨_, rfl⟩
  have hr0 : Blk w0 w.heap.size (headC 0 zd zd zd) 26 := by rw [hw0]; exact Blk.new' _ _ _ _ _ rfl rfl
  have hB0 : Below w.heap.size w w0 := by rw [hw0]; exact (Below.refl _ _).alloc (Nat.le_refl _) _
  have hleaves := fun (W : World) (h : Txts W A c T) => refleaves_any W T A c h (by omega) hb 256
  have hlu : Dgs (leavesF T 256) := lleavesF_ok T
  have hll := leavesF_len T 256
  have hroot := fun (W : World) (A' : Option Addr) (c' : Nat) (h : Dg W A' c' (leavesF T 256)) => refroot_any (leavesF T 256).length W (leavesF T 256) A' c' rfl h (by omega) 256
  have hchain := fun (W : World) (h : Txts W A c T) => refchain_any W T A c h (by omega) hb
  have hro := rootF_ok (leavesF T 256) 256 hlu
  have hxo := lchainF_ok T
  have hparts : headF key T = headC T.length (rootF (leavesF T 256) 256) (lchainF T) (macF key (headT T.length (rootF (leavesF T 256) 256) (lchainF T))) := rfl
  have hht := fun (W : World) => refheadtext_any W (T.length : Int) (rootF (leavesF T 256) 256) (lchainF T) zd hro.1 hxo.1
  have htl := headT_len (T.length : Int) (rootF (leavesF T 256) 256) (lchainF T) hro.1 hxo.1
  have htu := headT_u8 (T.length : Int) (rootF (leavesF T 256) 256) (lchainF T) hro.2 hxo.2
  obtain ⟨D, hD⟩ : ∃ D, D = leavesF T 256 := ⟨_, rfl⟩
  rw [← hD] at hleaves hll hroot hro hparts hht htl htu hlu
  rw [hll] at hroot
  obtain ⟨R, hR⟩ : ∃ R, R = rootF D 256 := ⟨_, rfl⟩
  obtain ⟨X, hX⟩ : ∃ X, X = lchainF T := ⟨_, rfl⟩
  rw [← hR, ← hX] at hht htl htu hparts
  rw [← hR] at hroot hro
  rw [← hX] at hchain hxo
  obtain ⟨H, hH⟩ : ∃ H, H = headT (T.length : Int) R X := ⟨_, rfl⟩
  rw [← hH] at hht htl htu hparts
  have hmac := fun (W : World) (h1 : Byt W K ck key) (B : Option Addr) (d : Nat) (h2 : Byt W B d H) => refmac_any W key K ck h1.rd h1.nn (by omega) h1.u H B d h2.rd h2.nn (by omega) h2.u
  have hzl := macF_len key H
  obtain ⟨Z, hZ⟩ : ∃ Z, Z = macF key H := ⟨_, rfl⟩
  rw [← hZ] at hmac hzl hparts
  rw [hparts]
  have hlz := headC_len (n := (T.length : Int)) hro.1 hxo.1 (show zd.length = 32 from rfl)
  have hlz2 := headC_len (n := (T.length : Int)) hro.1 hxo.1 hzl
  have hsg := headC_sign (n := (T.length : Int)) hro.1 hxo.1 (show zd.length = 32 from rfl) hzl
  have HT := Lib.hid hT
  have HW0 := Lib.hid hw0
  have HLV := Lib.hid hleaves
  have HLL := Lib.hid hll
  have HRT := Lib.hid hroot
  have HCH := Lib.hid hchain
  have HRO := Lib.hid hro
  have HXO := Lib.hid hxo
  have HHT := Lib.hid hht
  have HTU := Lib.hid htu
  have HMAC := Lib.hid hmac
  have HZL := Lib.hid hzl
  have HLZ := Lib.hid hlz
  have HLZ2 := Lib.hid hlz2
  have HSG := Lib.hid hsg
  have HKEY := Lib.hid hy
  have hrl := hr0.lt
  clear hT hw0 hleaves hll hroot hchain hro hxo hht htl htu hmac hzl hlz hlz2 hsg hparts hD hR hX hH hZ hlu hb hy
  go_enter Tryd.func61, Tryd.ntmps61
  go_upto_region 1 with (fail)
  refine named_world ?_
  intro wq hwq
  have e : w0 = wq := by rw [hwq, HW0.out]; rfl
  clear hwq
  subst e
  go_wp2_with fail
  --MARK7
  go_at_call 83
  refine (HLV.out w0 (HT.out.up hB0)).mono ?_
  rintro e w1 ⟨v1, rfl, hb1, ho1⟩
  obtain ⟨A1, c1, rfl, hdg1, _⟩ := ho1.dg
  rw [HLL.out]
  have hB1 := hB0.trans (hb1.mono hB0.size)
  have hr1 := hr0.up hb1
  have HDG := Lib.hid hdg1
  clear ho1 hdg1
  go_wp2_with fail
  go_at_call 85
  refine (HRT.out w1 A1 c1 HDG.out).mono ?_
  rintro e w2 ⟨rfl, hb2⟩
  have hB2 := hB1.trans (hb2.mono hB1.size)
  have hr2 := hr1.up hb2
  go_wp2_with fail
  --MARK8
  go_at_call 51
  refine (HCH.out w2 (HT.out.up hB2)).mono ?_
  rintro e w3 ⟨rfl, hb3⟩
  have hB3 := hB2.trans (hb3.mono hB2.size)
  have hr3 := hr2.up hb3
  have hq : Blk (w3.alloc (.cells (headC 0 zd zd zd).toArray 26)) w3.heap.size (headC 0 zd zd zd) 26 := Blk.new' _ _ _ _ _ rfl rfl
  --MARK9
  go_upto_region 2 with (first | ((with_reducible apply st_buildHd (n := (T.length : Int)) (r := R) (c := X)); rfl; rfl; rfl; exact HRO.out.1; exact HXO.out.1) | ((with_reducible apply st_storeW (off := 0) (vs := headC (T.length : Int) R X zd) (cs := headC 0 zd zd zd) (T := 26)); rfl; rfl; exact hq; (rw [HLZ.out]; exact headSize); (rw [HLZ.out, zd_len]; decide); exact headC_one _ _ _ _; intro w4 hd4 hw4; rw [laid_all _ _ (by rw [HLZ.out, zd_len])] at hd4))
  have hb4 : Below w3.heap.size w3 w4 := Wrote.below ((Below.refl _ _).alloc (Nat.le_refl _) _) hw4 (Nat.le_refl _)
  have hB4 := hB3.trans (hb4.mono hB3.size)
  have hr4 := hr3.up hb4
  have hl4 := hd4.lt
  have hrl3 := hr3.lt
  clear hq hw4
  --MARK10
  go_wp2_with ((with_reducible apply st_load (n := 97) (cs := headC (T.length : Int) R X zd) (T := 26)); rfl; exact hd4; exact Tryd.underlying26; rfl; exact headSize; (rw [HLZ.out]; exact Nat.le_refl _); (exact row_all _ _ HLZ.out))
  go_at_call 10
  refine (HHT.out w4).mono ?_
  rintro e w5 ⟨v5, rfl, hb5, ho5⟩
  obtain ⟨B5, d5, rfl, hy5, _⟩ := ho5.byt HTU.out
  have hB5 := hB4.trans (hb5.mono hB4.size)
  have hr5 := hr4.up hb5
  have hd5 := hd4.up hb5
  clear ho5
  go_wp2_with fail
  go_at_call 11
  refine (HMAC.out w5 (HKEY.out.up hB5) B5 d5 hy5).mono ?_
  rintro e w6 ⟨rfl, hb6⟩
  have hB6 := hB5.trans (hb6.mono hB5.size)
  have hr6 := hr5.up hb6
  have hd6 := hd5.up hb6
  --MARK11
  go_wp2_with (first | ((with_reducible apply st_storeW (off := 65) (vs := nums .u8 Z) (cs := headC (T.length : Int) R X zd) (T := 26)); rfl; rfl; exact hd6; (rw [nums_length, HZL.out]; kernel_rfl); (rw [nums_length, HZL.out, HLZ.out]; decide); exact nums_one _ _; intro w7 hd7 hw7; rw [HSG.out] at hd7; have hr7 := hw7.blk hr6 (by omega)) | ((with_reducible apply st_load (n := 97) (cs := headC (T.length : Int) R X Z) (T := 26)); rfl; exact hd7; exact Tryd.underlying26; rfl; exact headSize; (rw [HLZ2.out]; exact Nat.le_refl _); (exact row_all _ _ HLZ2.out)) | ((with_reducible apply st_storeW (off := 0) (vs := headC (T.length : Int) R X Z) (cs := headC 0 zd zd zd) (T := 26)); rfl; rfl; exact hr7; (rw [HLZ2.out]; exact headSize); (rw [HLZ2.out, zd_len]; decide); exact headC_one _ _ _ _; intro w8 hd8 hw8; rw [laid_all _ _ (by rw [HLZ2.out, zd_len])] at hd8))
  --MARK12
  refine bodyPost_ret (ret_row rfl _ _ _ (headC (T.length : Int) R X Z) 26 _ rfl hd8 Tryd.underlying26 rfl (by rw [HLZ2.out]; exact headSize)) rfl ⟨rfl, Wrote.below (Wrote.below hB6 hw7 (by omega)) hw8 (Nat.le_refl _)⟩

end Go.Proofs.YtancldhincaphaaDoor
