/- That inquestlaw07.ClashNone returns true. Condition: the table of layer 2 reads as its text lays it. -/
import Derived.Test.YtiogopneklmodaaDoorFound7
import Derived.Test.YtiogopneklmodaaDoorClGr
import Derived.Test.YtiogopneklmodaaDoorGi
namespace Go.Proofs.YtiogopneklmodaaDoor
open Go.RowKit

theorem growMust_own (l : List (List Int)) (m : Nat) (ps : List (List Int)) (z : Int) (h1 : 1 ≤ m) (h : m ≤ l.length) : growMust l m (rootF ((leavesF l z).take m) z) ps z = false := by
  rw [growMust_in l m _ ps z h1 h, decide_eq_true rfl]; rfl

set_option maxRecDepth 100000 in
set_option maxHeartbeats 16000000 in
theorem lawnone7_any (w : World) (ls : List (List Int)) (A : Option Addr) (c : Nat) (hs : RdS w A ls) (_hc : ls.length ≤ c) (i : Int) (z : Int) (hk : KV w) :
    Calls Tryd.prog 7 #[.slice A ls.length c, .int .i64 i, .int .i64 z] w fun e w' => e = .returned (.bool true) ∧ Below w.heap.size w w' := by
  have HK := Lib.hid hk
  have HF1 := Lib.hid (few7_any w ls A c hs.txtAt 20 60 (by omega) (by omega) 20 60 rfl rfl)
  have hLl := fewF_len ls 20 60
  have hLb := fewF_le ls 20 60
  obtain ⟨L, hL⟩ : ∃ L, L = fewF ls 20 60 := ⟨_, rfl⟩
  rw [← hL] at HF1 hLl hLb
  have hl20 : L.length ≤ 20 := by omega
  have hb60 : ∀ x ∈ L, x.length ≤ 1000 := fun x hx => by have := hLb x hx; omega
  have HLB := Lib.hid hb60
  clear hk hs hLl hLb hL hb60
  by_cases h0 : L.length = 0
  · go_enter Tryd.func7, Tryd.ntmps7
    go_wp2_with fail
    go_at_call 12
    refine HF1.out.mono ?_
    rintro e w1 ⟨v1, rfl, ht⟩
    have hB := ht.below
    obtain ⟨A1, c1, rfl, hT1⟩ := ht.txts
    clear ht
    go_wp2_with fail
    go_at_call 11
    refine (lives_any _ (HK.out.below hB HK.out.lt)).mono ?_
    rintro e w2 ⟨rfl, hb⟩
    have hB := hB.trans (hb.mono hB.size)
    go_wp2_with fail
    go_ret
    exact ⟨rfl, hB⟩
  · obtain ⟨j, hj0, hj⟩ : ∃ j : Nat, ((j : Int) = if i < 0 then 0 else if (L.length : Int) - 1 < i then (L.length : Int) - 1 else i) ∧ j < L.length := by
      by_cases h1 : i < 0
      · exact ⟨0, by rw [if_pos h1]; rfl, by omega⟩
      · by_cases h2 : (L.length : Int) - 1 < i
        · exact ⟨L.length - 1, by rw [if_neg h1, if_pos h2]; omega, by omega⟩
        · exact ⟨i.toNat, by rw [if_neg h1, if_neg h2]; omega, by omega⟩
    have hleast := fun (W : World) => refleast_any W i 0 ((L.length : Int) - 1)
    rw [← hj0] at hleast
    have HLEAST := Lib.hid hleast
    have hxl : (L[j]).length ≤ 1000 := HLB.out _ (List.getElem_mem hj)
    have hms := fun (ps : List (List Int)) (x : List Int) (h : x = L[j]) => pathMust_same L j x ps z (by rw [h]; simp [hj])
    have hmg := fun (ps : List (List Int)) => growMust_own L (j + 1) ps z (by omega) (by omega)
    have hLu := leavesF_ok L z
    have hLn := leavesF_len L z
    have hlv := fun (W : World) (A : Option Addr) (c : Nat) (h : Txts W A c L) => refleaves_any W L A c h (by omega) HLB.out z
    obtain ⟨D, hD⟩ : ∃ D, D = leavesF L z := ⟨_, rfl⟩
    rw [← hD] at hmg hLu hLn hlv
    have hgp := fun (W : World) (A : Option Addr) (c : Nat) (h : Dg W A c D) => refpath_any D.length W D A c rfl h (by omega) j z (by omega) (by omega)
    have hgg := fun (W : World) (A : Option Addr) (c : Nat) (h : Dg W A c D) => refGrowth_any W D A c h (by omega) ((j : Int) + 1) z
    have htl : (D.take (j + 1)).length = j + 1 := by rw [List.length_take]; omega
    have hgr := fun (W : World) (A : Option Addr) (c : Nat) (h : Dg W A c (D.take (j + 1))) => refroot_any _ W (D.take (j + 1)) A c rfl h (by omega) z
    have hpo := (pathF_ok D.length D j z rfl hLu).2
    have hgo := (growthR_ok D ((j : Int) + 1) z hLu).2
    have hro := rootF_ok (D.take (j + 1)) z (hLu.take _)
    rw [hLn] at hgp hgg hpo hgo
    rw [htl] at hgr
    obtain ⟨p, hp⟩ : ∃ p, p = pathF D j z := ⟨_, rfl⟩
    rw [← hp] at hgp hpo
    obtain ⟨q, hq⟩ : ∃ q, q = growthR D ((j : Int) + 1) z := ⟨_, rfl⟩
    rw [← hq] at hgg hgo
    obtain ⟨R, hR⟩ : ∃ R, R = rootF (D.take (j + 1)) z := ⟨_, rfl⟩
    rw [← hR] at hgr hmg hro
    obtain ⟨x, hx⟩ : ∃ x, x = L[j] := ⟨_, rfl⟩
    rw [← hx] at hxl
    have hm1 := hms p x hx
    have hm2 := hmg q.1
    have hc1 := fun (W : World) (A B Ap : Option Addr) (c cb cp : Nat) (h1 : Txts W A c L) (h2 : Byt W B cb x) (h3 : Dg W Ap cp p) => clpath_any W L A c h1 (by omega) HLB.out j x B cb h2 (by omega) p Ap cp h3 (by omega) z
    rw [hm1] at hc1
    have hc2 := fun (W : World) (A Ap : Option Addr) (c cp : Nat) (h1 : Txts W A c L) (h3 : Dg W Ap cp q.1) => clgrowth_any W L A c h1 (by omega) HLB.out ((j + 1 : Nat) : Int) R hro.1 hro.2 q.1 Ap cp h3 (by omega) z
    rw [hm2, show ((j + 1 : Nat) : Int) = (j : Int) + 1 by omega] at hc2
    have HX := Lib.hid hx
    have HC1 := Lib.hid hc1
    have HC2 := Lib.hid hc2
    have HLV := Lib.hid hlv
    have HGP := Lib.hid hgp
    have HGG := Lib.hid hgg
    have HGR := Lib.hid hgr
    have HLN := Lib.hid hLn
    clear hleast hms hmg hLu hLn hlv hD hgp hgg htl hgr hpo hgo hro hp hq hR hx hm1 hm2 hc1 hc2 hj0
    go_enter Tryd.func7, Tryd.ntmps7
    go_wp2_with fail
    go_at_call 12
    refine HF1.out.mono ?_
    rintro e w1 ⟨v1, rfl, ht⟩
    have hB := ht.below
    obtain ⟨A1, c1, rfl, hT1⟩ := ht.txts
    clear ht
    go_wp2_with fail
    go_at_call 21
    refine (HLEAST.out w1).mono ?_
    rintro e wz ⟨rfl, rfl⟩
    obtain ⟨g, o, rfl, hg, hcc⟩ := hT1.get (by omega)
    obtain ⟨Bk, dk, hcell, hbyt⟩ := hcc j hj
    rw [← HX.out] at hcell hbyt
    have HBX := Lib.hid hbyt
    clear hbyt hcc
    go_wp2_with fail
    --MARK1
    go_at_call 25
    refine (HLV.out w1 _ _ hT1).mono ?_
    rintro e w2 ⟨v2, rfl, hb2, ho2⟩
    have hB := hB.trans (hb2.mono hB.size)
    obtain ⟨AL, cL, rfl, hDL, _⟩ := ho2.dg
    have hDle := hDL.le
    have hDM := hDL.take (j + 1) (by rw [HLN.out]; omega)
    rw [HLN.out] at hDle ⊢
    obtain ⟨gL, oL, rfl, _⟩ := hDL.get (by rw [HLN.out]; omega)
    clear ho2
    go_wp2_with fail
    go_at_call 26
    refine (HGP.out w2 _ _ hDL).mono ?_
    rintro e w3 ⟨v3, rfl, hb3, ho3⟩
    have hB := hB.trans (hb3.mono hB.size)
    obtain ⟨A3, c3, rfl, hP3, _⟩ := ho3.dg
    have hDL := hDL.up hb3
    have hDM := hDM.up hb3
    clear ho3
    go_wp2_with fail
    --MARK2
    go_at_call 27
    refine (HGG.out w3 _ _ hDL).mono ?_
    rintro e w4 ⟨v4, rfl, hb4, ho4⟩
    have hB := hB.trans (hb4.mono hB.size)
    obtain ⟨A4, c4, rfl, hP4, _⟩ := ho4.dg
    have hP3 := hP3.up hb4
    have hDM := hDM.up hb4
    have hb14 : Below w1.heap.size w1 w4 := (hb2.trans (hb3.mono hb2.size)).trans (hb4.mono (Nat.le_trans hb2.size hb3.size))
    have hT4 := hT1.up hb14
    have cc4 := (hb14.cell (p := ⟨g, o + j, none⟩) hg).trans hcell
    have hx4 := HBX.out.up hb14
    have hg4 := Nat.lt_of_lt_of_le hg hb14.size
    clear ho4 hDL hT1 hcell hb14
    go_wp2_with fail
    --MARK3
    go_at_call 15
    refine (HC1.out w4 _ _ _ _ _ _ hT4 hx4 hP3 (HK.out.below hB HK.out.lt)).mono ?_
    rintro e w5 ⟨v, rfl, hb5, a, b, Aa, Ab, ca, cb, rfl, _, _, hn, _, _, _⟩
    obtain ⟨rfl, rfl⟩ := hn rfl
    have hB := hB.trans (hb5.mono hB.size)
    have hT5 := hT4.up hb5
    have hP5 := hP4.up hb5
    have hDM := hDM.up hb5
    clear hn hx4 cc4 hT4 hP4 hP3
    have hz : Blk (w5.alloc (.cells (clC [] [] none none 0 0).toArray 25)) w5.heap.size (clC [] [] none none 0 0) 25 := Blk.new' _ _ _ _ _ rfl rfl
    go_wp2_with (first | (((with_reducible apply st_storeW (off := 0) (vs := clC [] [] Aa Ab ca cb) (cs := clC [] [] none none 0 0) (T := 25)); rfl; rfl; exact hz; exact clSize; (simp [clC]); exact clC_one _ _ _ _ _ _; intro w6 hd6 hw6; rw [laid_all _ _ (by rfl)] at hd6); have hb6 := Wrote.below ((Below.refl w5.heap.size w5).alloc (Nat.le_refl _) (.cells (clC [] [] none none 0 0).toArray 25)) hw6 (Nat.le_refl _)) | ((with_reducible apply st_toD (sz := 32) (i := (j + 1))); exact Tryd.underlying30; kernel_rfl; rfl; rfl; rfl; omega; exact nn_some; exact spot_none))
    --MARK4
    have hB := hB.trans (hb6.mono hB.size)
    have hT6 := hT5.up hb6
    have hP6 := hP5.up hb6
    have hDM := hDM.up hb6
    have hq6 := hd6
    go_at_call 28
    refine (HGR.out w6 _ _ hDM).mono ?_
    rintro e w7 ⟨rfl, hb7⟩
    have hB := hB.trans (hb7.mono hB.size)
    have hT7 := hT6.up hb7
    have hP7 := hP6.up hb7
    have hq7 := hq6.up hb7
    clear hT5 hT6 hP5 hP6 hDM hd6 hq6
    go_wp2_with fail
    --MARK5
    go_at_call 23
    refine (HC2.out w7 _ _ _ _ hT7 hP7 (HK.out.below hB HK.out.lt)).mono ?_
    rintro e w8 ⟨v, rfl, hb8, a, b, Ba, Bb, da, db, rfl, _, _, hn, _, _, _⟩
    obtain ⟨rfl, rfl⟩ := hn rfl
    have hB := hB.trans (hb8.mono hB.size)
    have hq8 := hq7.up hb8
    clear hn hT7 hP7
    have hz8 : Blk (w8.alloc (.cells (clC [] [] none none 0 0).toArray 25)) w8.heap.size (clC [] [] none none 0 0) 25 := Blk.new' _ _ _ _ _ rfl rfl
    go_wp2_with (first | (((with_reducible apply st_storeW (off := 0) (vs := clC [] [] Ba Bb da db) (cs := clC [] [] none none 0 0) (T := 25)); rfl; rfl; exact hz8; exact clSize; (simp [clC]); exact clC_one _ _ _ _ _ _; intro w9 hd9 hw9; rw [laid_all _ _ (by rfl)] at hd9); have hb9 := Wrote.below ((Below.refl w8.heap.size w8).alloc (Nat.le_refl _) (.cells (clC [] [] none none 0 0).toArray 25)) hw9 (Nat.le_refl _); have hq9 := hq8.up hb9; have e0 := hq9.cell 0; have e1 := hq9.cell 1; have f0 := hd9.cell 0; have f1 := hd9.cell 1; simp only [clC, List.getElem?_cons_zero, List.getElem?_cons_succ, List.length_nil] at e0 e1 f0 f1) | ((with_reducible apply st_met); rfl))
    --MARK6
    have hB := hB.trans (hb9.mono hB.size)
    go_at_call 11
    refine (lives_any _ (HK.out.below hB HK.out.lt)).mono ?_
    rintro e w10 ⟨rfl, hb10⟩
    have hB := hB.trans (hb10.mono hB.size)
    go_wp2_with fail
    go_ret
    exact ⟨rfl, hB⟩

end Go.Proofs.YtiogopneklmodaaDoor
