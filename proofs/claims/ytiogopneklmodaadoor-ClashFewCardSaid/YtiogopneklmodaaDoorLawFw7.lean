/- That inquestlaw07.ClashFew returns true. Condition: the table of layer 2 reads as its text lays it. -/
import Derived.Test.YtiogopneklmodaaDoorFound7
import Derived.Test.YtiogopneklmodaaDoorGk
namespace Go.Proofs.YtiogopneklmodaaDoor
open Go.RowKit

theorem node0 (a b : List Int) : nodeF a b 0 = List.replicate 32 0 := by rw [node_def, cut0 _ _ (Int.le_refl _), sumF_len]
theorem fold0 : ∀ l : List (Bool × List Int), l.foldl (nodeS 0) (List.replicate 32 0) = List.replicate 32 0
  | [] => rfl
  | x :: l => by
    rw [List.foldl_cons]
    have : nodeS 0 (List.replicate 32 0) x = List.replicate 32 0 := by unfold nodeS; split <;> exact node0 _ _
    rw [this]; exact fold0 l
theorem root0 (l : List (List Int)) (h : 0 < l.length) : rootF (leavesF l 0) 0 = List.replicate 32 0 := by
  by_cases h2 : 2 ≤ l.length
  · rw [rootF_big _ _ (by rw [leavesF_len]; exact h2), node0]
  · obtain ⟨c, rfl⟩ := List.length_eq_one_iff.1 (show l.length = 1 by omega)
    rw [show leavesF [c] 0 = [leafF c 0] from rfl, rootF_one, leaf0]
theorem must0 (l : List (List Int)) (k : Nat) (b : List Int) (ps : List (List Int)) (hk : k < l.length) (hp : ps.length = (stepsF l.length k).length) : pathMust l k b ps 0 = !decide (b = l[k]) := by
  have hgd : l.getD ((k : Int)).toNat [] = l[k] := by simp [hk]
  by_cases hs : l[k] = b
  · rw [pathMust_same _ _ _ _ _ (by rw [hgd]; exact hs), decide_eq_true hs.symm]; rfl
  · rw [pathMust_in _ _ _ _ _ (by omega) (by omega) (by rw [hgd]; exact hs), decide_eq_false (fun e => hs e.symm)]
    have h := checkPF_in (rootF (leavesF l 0) 0) (upF (leafF b 0) (stepsF l.length k).reverse ps 0) (l.length : Int) k (leafF b 0) ps 0 (by omega) (by omega) (by rw [Int.toNat_natCast]; exact hp) (by rw [Int.toNat_natCast])
    rw [h, root0 l (by omega), leaf0]
    unfold upF
    rw [fold0]
    exact decide_eq_true rfl

set_option maxRecDepth 100000 in
set_option maxHeartbeats 16000000 in
theorem lawfew7_any (w : World) (ls : List (List Int)) (A : Option Addr) (c : Nat) (hs : RdS w A ls) (_hc : ls.length ≤ c) (i : Int)
    (bs0 : List Int) (B0 : Option Addr) (cb : Nat) (hr : Rd w B0 (nums .u8 bs0)) (hcb : bs0.length ≤ cb) (hnb : B0 = none → cb = 0) (hu : U8 bs0) (ds : List (List Int)) (Ap0 : Option Addr) (cp0 : Nat) (hd : Dg w Ap0 cp0 ds) (hk : KV w) :
    Calls Tryd.prog 5 #[.slice A ls.length c, .int .i64 i, .slice B0 bs0.length cb, .slice Ap0 ds.length cp0] w fun e w' => e = .returned (.bool true) ∧ Below w.heap.size w w' := by
  obtain ⟨b, hbl, _, hyb, HCUT⟩ := (Byt.mk hr hcb hnb hu).cut 60 60 rfl
  have HK := Lib.hid hk
  have HYB := Lib.hid hyb
  have HF1 := Lib.hid (few7_any w ls A c hs.txtAt 20 60 (by omega) (by omega) 20 60 rfl rfl)
  have HD := Lib.hid hd
  have hLl := fewF_len ls 20 60
  have hLb := fewF_le ls 20 60
  obtain ⟨L, hL⟩ : ∃ L, L = fewF ls 20 60 := ⟨_, rfl⟩
  rw [← hL] at HF1 hLl hLb
  have hl20 : L.length ≤ 20 := by omega
  have hb60 : ∀ x ∈ L, x.length ≤ 1000 := fun x hx => by have := hLb x hx; omega
  have HLB := Lib.hid hb60
  clear hk hr hcb hnb hu hd hs hyb hLl hLb hL hb60
  by_cases h0 : L.length = 0
  · go_enter Tryd.func5, Tryd.ntmps5
    go_wp2_with fail
    go_at_call 12
    refine HF1.out.mono ?_
    rintro e w1 ⟨v1, rfl, ht⟩
    have hB := ht.below
    obtain ⟨A1, c1, rfl, hT1⟩ := ht.txts
    clear ht
    go_wp2_with fail
    go_at_call 8
    refine (HCUT.out _).mono ?_
    rintro e wz ⟨rfl, rfl⟩
    go_wp2_with fail
    go_at_call 11
    refine (lives_any _ (HK.out.below hB HK.out.lt)).mono ?_
    rintro e w2 ⟨rfl, hb⟩
    have hB := hB.trans (hb.mono hB.size)
    go_wp2_with fail
    go_ret
    exact ⟨rfl, hB⟩
  · obtain ⟨j, hj0, hj⟩ : ∃ j : Nat, ((j : Int) = if i < 0 then 0 else if (L.length : Int) - 1 < i then (L.length : Int) - 1 else i) ∧ j < L.length := by
      by_cases h1 : i < 0
      · exact ⟨0, by rw [if_pos h1]; rfl, by omega⟩
      · by_cases h2 : (L.length : Int) - 1 < i
        · exact ⟨L.length - 1, by rw [if_neg h1, if_pos h2]; omega, by omega⟩
        · exact ⟨i.toNat, by rw [if_neg h1, if_neg h2]; omega, by omega⟩
    have hleast := fun (W : World) => refleast_any W i 0 ((L.length : Int) - 1)
    rw [← hj0] at hleast
    have hsteps := fun (W : World) => steps_any W L.length j (by omega) (by omega) (by omega) (by omega)
    have hsl := stepsF_len 63 L.length j (by omega)
    have hmt := fun (ps : List (List Int)) (h : ps.length = (stepsF L.length j).length) => must0 L j b ps hj h
    obtain ⟨S, hS⟩ : ∃ S, S = stepsF L.length j := ⟨_, rfl⟩
    rw [← hS] at hsteps hsl hmt
    have HLEAST := Lib.hid hleast
    have HSTEPS := Lib.hid hsteps
    have hxl : (L[j]).length ≤ 1000 := HLB.out _ (List.getElem_mem hj)
    obtain ⟨x, hx⟩ : ∃ x, x = L[j] := ⟨_, rfl⟩
    rw [← hx] at hmt hxl
    have HX := Lib.hid hx
    have HMT := Lib.hid hmt
    have hg1 := fun (W : World) (z : Int) (hz : z = (S.length : Nat)) (h : Dg W Ap0 cp0 ds) => few_any W ds Ap0 cp0 h S.length (by omega) z hz
    have HG1 := Lib.hid hg1
    have hblen : (bools S).length = S.length := by simp [bools]
    have HBL := Lib.hid hblen
    clear hleast hsteps hmt hx hS hg1 hblen hj0
    go_enter Tryd.func5, Tryd.ntmps5
    go_wp2_with fail
    go_at_call 12
    refine HF1.out.mono ?_
    rintro e w1 ⟨v1, rfl, ht⟩
    have hB := ht.below
    obtain ⟨A1, c1, rfl, hT1⟩ := ht.txts
    clear ht
    go_wp2_with fail
    go_at_call 8
    refine (HCUT.out _).mono ?_
    rintro e wz ⟨rfl, rfl⟩
    go_wp2_with fail
    go_at_call 21
    refine (HLEAST.out w1).mono ?_
    rintro e wz ⟨rfl, rfl⟩
    --MARK1
    go_wp2_with fail
    go_at_call 22
    refine (HSTEPS.out w1).mono ?_
    rintro e w2 ⟨v2, rfl, hg2⟩
    obtain ⟨A2, c2, rfl, _⟩ := hg2.2.from
    rw [HBL.out]
    have hB := hB.trans (hg2.1.mono hB.size)
    have hT1 := hT1.up hg2.1
    obtain ⟨g, o, rfl, hg, hcc⟩ := hT1.get (by omega)
    obtain ⟨Bk, dk, hcell, hbyt⟩ := hcc j hj
    rw [← HX.out] at hcell hbyt
    have HB2 := Lib.hid hB
    have HT2 := Lib.hid hT1
    have HBX := Lib.hid hbyt
    clear hbyt hcc
    go_wp2_with fail
    go_at_call 13
    refine (HG1.out _ _ rfl (HD.out.up hB)).mono ?_
    rintro e w3 ⟨v3, rfl, hb3, ho3⟩
    have htl : (ds.take S.length).length ≤ S.length := by rw [List.length_take]; omega
    obtain ⟨P0, hP0⟩ : ∃ P0, P0 = ds.take S.length := ⟨_, rfl⟩
    rw [← hP0] at ho3 htl
    clear hP0 hg2 hB hT1
    go_wp2_with fail
    --MARK2
    go_loopw [3] (fun v wr => ∃ P : List (List Int), OwnD wr w2.heap.size v P ∧ P.length ≤ S.length ∧ Below w2.heap.size w2 wr) (fun v _ => S.length - lenV v)
    case atStart => exact ⟨P0, ho3, htl, hb3⟩
    case round =>
      obtain ⟨P, ho, hpl, hb⟩ := hrel
      obtain ⟨AP, cP, hv, hDP, _⟩ := ho.dg
      subst hv
      have hdl : (P.length : Int) < 256 := by omega
      go_wp2_with fail
      go_at_call 22
      refine (HSTEPS.out wr).mono ?_
      rintro e w4 ⟨v4, rfl, hg4⟩
      obtain ⟨A4, c4, rfl, _⟩ := hg4.2.from
      rw [HBL.out]
      have hb4 := hg4.1
      have ho := ho.kept hb4
      have hb := hb.trans (hb4.mono hb.size)
      have hDP := hDP.up hb4
      clear hg4
      by_cases hlt : P.length < S.length
      · have hba : Below w4.heap.size w4 (w4.alloc (.cells (nums .u8 ((P.length : Int) :: List.replicate 31 0)).toArray 45)) := (Below.refl _ _).alloc (Nat.le_refl _) _
        have hyl : (((P.length : Int) :: List.replicate 31 0) : List Int).length = 32 := by simp
        have hyu : U8 ((P.length : Int) :: List.replicate 31 0) := U8.cons (by omega) (U8.of fun x hx => by rw [List.mem_replicate] at hx; omega)
        obtain ⟨y, hy⟩ : ∃ y, y = (P.length : Int) :: List.replicate 31 0 := ⟨_, rfl⟩
        rw [← hy] at hba hyl hyu
        have HYL := Lib.hid (And.intro hyl hyu)
        have HY := Lib.hid hy
        have ho4 := ho.kept hba
        have hby : Blk (w4.alloc (.cells (nums .u8 y).toArray 45)) w4.heap.size (nums .u8 y) 45 := Blk.new' _ _ _ _ _ rfl rfl
        have hdy : Dg (w4.alloc (.cells (nums .u8 y).toArray 45)) (some ⟨w4.heap.size, 0, none⟩) 1 [y] := ⟨by simpa using Rd.ofBlk hby, by simp, fun h => (by cases h), Dgs.one HYL.out.1 HYL.out.2⟩
        have hb5' := hb.trans (hba.mono hb.size)
        clear hyl hyu hy
        --MARK3
        go_wp2_with (first | ((with_reducible apply st_buildD (d := y)); (rw [HY.out]; rfl); exact HYL.out.1) | ((with_reducible apply st_appendD (base := w2.heap.size) (xs := P) (ys := [y])); rfl; rfl; exact ho4; exact hdy; (simp; omega); exact hb5'.size; intro v5 w5 ho5 hg5 hat5))
        --MARK4
        have hbf := below_grownD hb5' ho4 hg5 (Nat.le_refl _) hb5'.size
        have hvl : lenV v5 = P.length + 1 := by obtain ⟨A5, c5, rfl, _⟩ := ho5.dg; simp [lenV]
        go_roundw
        case rel => exact ⟨P ++ [y], ho5, by simp; omega, hbf⟩
        case measure => rw [hvl]; simp [lenV]; omega
      · have hpe : P.length = S.length := by omega
        have hmt := HMT.out P hpe
        have hB := HB2.out.trans (hb.mono HB2.out.size)
        have hcall := clpath_any w4 L (some ⟨g, o, none⟩) c1 (HT2.out.up hb) (by omega) HLB.out j b B0 cb (HYB.out.up hB) (by omega) P AP cP hDP (by omega) 0 (HK.out.below hB HK.out.lt)
        rw [hmt] at hcall
        have c4 := (hb.cell (p := ⟨g, o + j, none⟩) hg).trans hcell
        have hxy := HBX.out.up hb
        by_cases hbx : b = x
        · rw [decide_eq_true hbx, Bool.not_true] at hcall
          have HCALL := Lib.hid hcall
          have hd : decide (b = x) = true := decide_eq_true hbx
          have HDD := Lib.hid hd
          clear hcall hmt hbx hd ho hDP hpe
          go_wp2_with fail
          go_at_call 15
          refine HCALL.out.mono ?_
          rintro e w5 ⟨v, rfl, hb5, a, b', Aa, Ab, ca, cbb, rfl, hya, hyb, hn, hy, la, lb⟩
          have hB := hB.trans (hb5.mono hB.size)
          have hz : Blk (w5.alloc (.cells (clC [] [] none none 0 0).toArray 25)) w5.heap.size (clC [] [] none none 0 0) 25 := Blk.new' _ _ _ _ _ rfl rfl
          have c5 := (hb5.cell (p := ⟨g, o + j, none⟩) (Nat.lt_of_lt_of_le hg hb.size)).trans c4
          have h25 := Nat.le_trans hb.size hb5.size
          clear hn hy
          go_wp2_with (((with_reducible apply st_storeW (off := 0) (vs := clC a b' Aa Ab ca cbb) (cs := clC [] [] none none 0 0) (T := 25)); rfl; rfl; exact hz; exact clSize; (simp [clC]); exact clC_one _ _ _ _ _ _; intro w6 hd6 hw6; rw [laid_all _ _ (by rfl)] at hd6); have hb6 := Wrote.below ((Below.refl w5.heap.size w5).alloc (Nat.le_refl _) (.cells (clC [] [] none none 0 0).toArray 25)) hw6 (Nat.le_refl _); have c6 := (hb6.cell (p := ⟨g, o + j, none⟩) (show g < _ by omega)).trans c5)
          --MARK5
          have hB := hB.trans (hb6.mono hB.size)
          go_at_call 17
          have hcall := refsame_any w6 B0 Bk cb dk b x (HYB.out.up hB).rd ((hxy.up hb5).up hb6).rd (by omega)
          rw [HDD.out] at hcall
          refine hcall.mono ?_
          clear hcall
          rintro e w7 ⟨rfl, hb7⟩
          have hB := hB.trans (hb7.mono hB.size)
          go_wp2_with ((with_reducible apply st_met); rfl)
          --MARK6
          go_at_call 11
          refine (lives_any _ (HK.out.below hB HK.out.lt)).mono ?_
          rintro e w8 ⟨rfl, hb8⟩
          have hB := hB.trans (hb8.mono hB.size)
          go_wp2_with fail
          go_ret
          exact ⟨rfl, hB⟩
        · rw [decide_eq_false hbx, Bool.not_false] at hcall
          have HCALL := Lib.hid hcall
          have hd : decide (b = x) = false := decide_eq_false hbx
          have HDD := Lib.hid hd
          clear hcall hmt hbx hd ho hDP hpe
          go_wp2_with fail
          go_at_call 15
          refine HCALL.out.mono ?_
          rintro e w5 ⟨v, rfl, hb5, a, b', Aa, Ab, ca, cbb, rfl, hya, hyb, hn, hy, la, lb⟩
          have hB := hB.trans (hb5.mono hB.size)
          have hz : Blk (w5.alloc (.cells (clC [] [] none none 0 0).toArray 25)) w5.heap.size (clC [] [] none none 0 0) 25 := Blk.new' _ _ _ _ _ rfl rfl
          have c5 := (hb5.cell (p := ⟨g, o + j, none⟩) (Nat.lt_of_lt_of_le hg hb.size)).trans c4
          have h25 := Nat.le_trans hb.size hb5.size
          have hi : decide (IsF a b' 0) = true := decide_eq_true (hy rfl)
          have HI := Lib.hid hi
          clear hn hy hi
          go_wp2_with (((with_reducible apply st_storeW (off := 0) (vs := clC a b' Aa Ab ca cbb) (cs := clC [] [] none none 0 0) (T := 25)); rfl; rfl; exact hz; exact clSize; (simp [clC]); exact clC_one _ _ _ _ _ _; intro w6 hd6 hw6; rw [laid_all _ _ (by rfl)] at hd6); have hb6 := Wrote.below ((Below.refl w5.heap.size w5).alloc (Nat.le_refl _) (.cells (clC [] [] none none 0 0).toArray 25)) hw6 (Nat.le_refl _); have c6 := (hb6.cell (p := ⟨g, o + j, none⟩) (show g < _ by omega)).trans c5)
          have hB := hB.trans (hb6.mono hB.size)
          go_at_call 17
          have hcall := refsame_any w6 B0 Bk cb dk b x (HYB.out.up hB).rd ((hxy.up hb5).up hb6).rd (by omega)
          rw [HDD.out] at hcall
          refine hcall.mono ?_
          clear hcall
          rintro e w7 ⟨rfl, hb7⟩
          have hB := hB.trans (hb7.mono hB.size)
          have hq := hd6.up hb7
          have hya := (hya.up hb6).up hb7
          have hyb := (hyb.up hb6).up hb7
          go_wp2_with (first | ((with_reducible apply st_met); rfl) | ((with_reducible apply st_load (n := 2) (cs := clC a b' Aa Ab ca cbb) (T := 25)); rfl; exact hq; exact Tryd.underlying25; rfl; exact clSize; (exact Nat.le_refl 2); (exact row_all _ _ rfl)))
          --MARK7
          go_at_call 9
          have k2 := clis_any w7 a b' Aa Ab ca cbb hya hyb (by omega) (by omega) 0 (HK.out.below hB HK.out.lt)
          rw [HI.out] at k2
          refine k2.mono ?_
          clear k2
          rintro e w8 ⟨rfl, hb8⟩
          have hB := hB.trans (hb8.mono hB.size)
          have hq := hq.up hb8
          go_wp2_with (first | ((with_reducible apply st_met); rfl) | ((with_reducible apply st_load (n := 2) (cs := clC a b' Aa Ab ca cbb) (T := 25)); rfl; exact hq; exact Tryd.underlying25; rfl; exact clSize; (exact Nat.le_refl 2); (exact row_all _ _ rfl)))
          go_at_call 10
          have k1 := refis_any w8 a b' Aa Ab ca cbb (hya.up hb8) (hyb.up hb8) (by omega) (by omega) 0
          rw [HI.out] at k1
          refine k1.mono ?_
          clear k1
          rintro e w9 ⟨rfl, hb9⟩
          have hB := hB.trans (hb9.mono hB.size)
          go_wp2_with ((with_reducible apply st_met); rfl)
          go_at_call 11
          refine (lives_any _ (HK.out.below hB HK.out.lt)).mono ?_
          rintro e w10 ⟨rfl, hb10⟩
          have hB := hB.trans (hb10.mono hB.size)
          go_wp2_with fail
          go_ret
          exact ⟨rfl, hB⟩

end Go.Proofs.YtiogopneklmodaaDoor
