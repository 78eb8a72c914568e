/- That inquestlaw21.LedgerShown returns true. Condition: the table of layer 2 reads as its text lays it. -/
import Derived.Test.YtancldhincaphaaDoorLedX
import Derived.Test.YtancldhincaphaaDoorGm
import Derived.Test.YtancldhincaphaaDoorHeadEq
namespace Go.Proofs.YtancldhincaphaaDoor
open Go.RowKit
set_option maxRecDepth 100000

theorem checkPF_shown21 (ds : List (List Int)) (z : Int) (k : Nat) (hk : k < ds.length) : checkPF (rootF ds z) ds.length k (ds.getD k []) (pathF ds k z) z = true := by
  obtain ⟨h1, h2⟩ := path_shown ds.length ds k z rfl hk
  unfold checkPF
  rw [Int.toNat_natCast]
  exact decide_eq_true ⟨by omega, by omega, h1, h2⟩
theorem checkGF_shown21 (ds : List (List Int)) (z : Int) (k : Nat) (hk : k < ds.length) : checkGF (rootF (ds.take (k + 1)) z) ((k + 1 : Nat) : Int) (rootF ds z) ds.length (growthF ds (k + 1) z true) z = true := by
  obtain ⟨h1, h2⟩ := growth_shown ds.length ds (k + 1) z true (rootF (ds.take (k + 1)) z) rfl (by omega) (by omega) (fun _ => rfl)
  unfold checkGF
  rw [Int.toNat_natCast, Int.toNat_natCast]
  exact decide_eq_true ⟨by omega, by omega, h1, h2⟩
theorem map_enc_lenS {M : List Ent} (h : NumOk M) : ∀ x ∈ M.map encL, x.length ≤ 1000 ∧ U8 x := fun x hx => by
  obtain ⟨e, he, rfl⟩ := List.mem_map.1 hx
  obtain ⟨j, hj, rfl⟩ := List.mem_iff_getElem.1 he
  have := h j hj
  have h2 := encL_len _ this.1 this.2.2.h this.2.2.s
  exact ⟨by omega, encL_u8L this.1 this.2.2⟩
theorem headF_one21 (key : List Int) (T : List (List Int)) : ∀ v ∈ headF key T, v.oneCell' = true := headC_one _ _ _ _
theorem signed_trueS {P : Program} {f : FuncId} {args : Array Value} {w : World} {p : Prop} [Decidable p] (h : Calls P f args w fun e w' => e = .returned (.bool (decide p)) ∧ Below w.heap.size w w') (hp : p) : Calls P f args w fun e w' => e = .returned (.bool true) ∧ Below w.heap.size w w' := by
  rw [decide_eq_true hp] at h; exact h
theorem root_cells {w : World} {g : Nat} {n : Int} {r c s : List Int} {T : TypeId} (h : Blk w g (headC n r c s) T) (_hr : r.length = 32) : ∀ j v, (nums .u8 r)[j]? = some v → w.cell? ⟨g, 1 + j, none⟩ = some v := by
  rcases rd_root h with h1 | ⟨g1, off, h1, h2⟩
  · intro j v hv; rw [h1] at hv; simp at hv
  · injection h1 with h1; injection h1 with e1 e2; subst e1; subst e2; exact h2
theorem headF_parts (key : List Int) (T : List (List Int)) : headF key T = headC T.length (rootF (lleavesF T) 256) (lchainF T) (macF key (headT T.length (rootF (lleavesF T) 256) (lchainF T))) := rfl

set_option maxRecDepth 100000 in
set_option maxHeartbeats 16000000 in
theorem lawshown21_any (w : World) (bs0 : List Int) (A : Option Addr) (ck : Nat) (hr0 : Rd w A (nums .u8 bs0)) (hc0 : bs0.length ≤ ck) (hA : A = none → ck = 0) (hu : U8 bs0) (L : List Ent) (B : Option Addr) (c : Nat) (hE : Ents w B c L) (hk : KV w) :
    Calls Tryd.prog 8 #[.slice A bs0.length ck, .slice B L.length c] w fun r w' => r = .returned (.bool true) ∧ Below w.heap.size w w' := by
  obtain ⟨key, hkl, _, hyk, HCUTK⟩ := (Byt.mk hr0 hc0 hA hu).cut 100 100 rfl
  have hnum := numbered_any w L B c hE 9 (by decide) 9 rfl
  have HNUM := Lib.hid hnum
  have HK := Lib.hid hk
  have HKEY := Lib.hid hyk
  clear hnum hk hE hyk hr0 hc0 hA hu
  go_enter Tryd.func8, Tryd.ntmps8
  go_wp2_with fail
  go_at_call 9
  refine (HCUTK.out _).mono ?_
  rintro r wz ⟨rfl, rfl⟩
  go_wp2_with fail
  go_at_call 17
  refine HNUM.out.mono ?_
  rintro r w1 ⟨M, v1, rfl, hev, hM9, hNum⟩
  obtain ⟨A1, c1, rfl, -, -⟩ := hev.slot
  have hB1 := hev.below
  have hfill := filled_any w1 key A ck (HKEY.out.up hB1) (by omega) M A1 c1 (hev.ents hNum.b) hNum (by omega) (HK.out.up hB1)
  have hTl : (M.map encL).length = M.length := List.length_map _
  have hTb := map_enc_lenS hNum
  obtain ⟨T, hT⟩ : ∃ T, T = M.map encL := ⟨_, rfl⟩
  rw [← hT] at hfill hTl hTb
  obtain ⟨m, hm⟩ : ∃ m, m = M.length := ⟨_, rfl⟩
  rw [← hm] at hfill hTl hM9 ⊢
  have HFILL := Lib.hid hfill
  have HTL := Lib.hid hTl
  have HTB := Lib.hid (fun x hx => (hTb x hx).1 : ∀ x ∈ T, x.length ≤ 1000)
  have HTU := Lib.hid (fun x hx => (hTb x hx).2 : ∀ x ∈ T, U8 x)
  have hTle : T.length ≤ 64 := by omega
  have HTLE := Lib.hid hTle
  clear hfill hTl hTb hT hm hev hNum hTle
  go_wp2_with fail
  --MARK1
  go_at_call 18
  refine HFILL.out.mono ?_
  rintro r w2 ⟨g, rfl, hb2, hL2⟩
  have hB2 := hB1.trans (hb2.mono hB1.size)
  have hsize := ledsize_any hL2
  rw [HTL.out] at hsize
  have HSZ := Lib.hid hsize
  have HL2 := Lib.hid hL2
  clear hL2 hsize
  go_wp2_with ((with_reducible apply st_un); rfl)
  go_at_call 23
  refine HSZ.out.mono ?_
  rintro r wz ⟨rfl, rfl⟩
  go_wp2_with ((with_reducible apply st_un); rfl)
  --MARK2
  go_loopw [6] (fun i wr => ∃ n : Nat, i = .int .i64 n ∧ 1 ≤ n ∧ n ≤ m + 1 ∧ Below w2.heap.size w2 wr) (fun i _ => m + 1 - (intOf i).toNat)
  case atStart => exact ⟨1, rfl, Nat.le_refl _, by omega, Below.refl _ _⟩
  case round =>
    obtain ⟨n, rfl, hn1, hnm, hbr⟩ := hrel
    have hBr := hB2.trans (hbr.mono hB2.size)
    by_cases hlt : n ≤ m
    · have hhead := ledhead_any (HL2.out.up hbr) HTLE.out (by omega) n (by rw [HTL.out]; exact hlt) n rfl (HK.out.up hBr)
      have hlen : (T.take n).length = n := by rw [List.length_take, HTL.out]; omega
      have hparts := headF_parts key (T.take n)
      rw [hlen] at hparts
      have hro := rootF_ok (lleavesF (T.take n)) 256 (lleavesF_ok _)
      have hxo := lchainF_ok (T.take n)
      have hsd := fun w (h1 : Byt w A ck key) h2 => signed_trueS (signed_any w key A ck h1 (by omega) (n : Int) (rootF (lleavesF (T.take n)) 256) (lchainF (T.take n)) (macF key (headT (n : Int) (rootF (lleavesF (T.take n)) 256) (lchainF (T.take n)))) hro.1 hxo.1 (macF_len _ _) hro.2 hxo.2 (sumF_range _) h2) rfl
      have hone := headF_one21 key (T.take n)
      have hcp := fun k (hk : k < n) => checkPF_shown21 (lleavesF (T.take n)) 256 k (by rw [lleavesF_len, hlen]; exact hk)
      have hcg := fun k (hk : k < n) => checkGF_shown21 (lleavesF (T.take n)) 256 k (by rw [lleavesF_len, hlen]; exact hk)
      rw [lleavesF_len, hlen] at hcp hcg
      obtain ⟨R, hR⟩ : ∃ R, R = rootF (lleavesF (T.take n)) 256 := ⟨_, rfl⟩
      obtain ⟨X, hX⟩ : ∃ X, X = lchainF (T.take n) := ⟨_, rfl⟩
      obtain ⟨Z, hZ⟩ : ∃ Z, Z = macF key (headT (n : Int) R X) := ⟨_, rfl⟩
      have hzl : Z.length = 32 := by rw [hZ]; exact macF_len _ _
      rw [← hR] at hparts hro hsd hcp hcg
      rw [← hX] at hparts hxo hsd
      rw [← hZ] at hparts hsd
      rw [hparts] at hhead hone
      have HHL := Lib.hid (headC_len (n := (n : Int)) hro.1 hxo.1 hzl)
      have HONE := Lib.hid hone
      have HHEAD := Lib.hid hhead
      have HSD := Lib.hid hsd
      have HRO := Lib.hid hro
      have HXO := Lib.hid hxo
      have HCP := Lib.hid hcp
      have HCG := Lib.hid hcg
      have HR := Lib.hid hR
      clear hhead hlen hparts hro hxo hsd hone hcp hcg hR hX hZ hzl
      go_wp2_with fail
      --MARK3
      go_at_call 20
      refine HHEAD.out.mono ?_
      rintro r w3 ⟨rfl, hb3⟩
      have hq : Blk (w3.alloc (.cells (headC 0 zd zd zd).toArray 26)) w3.heap.size (headC 0 zd zd zd) 26 := Blk.new' _ _ _ _ _ rfl rfl
      go_upto_region 10 with ((with_reducible apply st_storeW (off := 0) (vs := headC (n : Int) R X Z) (cs := headC 0 zd zd zd) (T := 26)); rfl; rfl; exact hq; (rw [HHL.out]; exact headSize); (rw [HHL.out, zd_len]; decide); exact HONE.out; intro w4 hd4 hw4; rw [laid_all _ _ (by rw [HHL.out, zd_len])] at hd4)
      have hb4 : Below w3.heap.size w3 w4 := Wrote.below ((Below.refl _ _).alloc (Nat.le_refl _) _) hw4 (Nat.le_refl _)
      have hbr4 := (hbr.trans (hb3.mono hbr.size)).trans (hb4.mono (by have := hbr.size; have := hb3.size; omega))
      have hB4 := hB2.trans (hbr4.mono hB2.size)
      have c40 : w4.cell? ⟨w3.heap.size, 0, none⟩ = some (.int .i64 n) := hd4.cell 0
      have hl4 := hd4.lt
      have hnn : ((n : Int) != (n : Int)) = false := by simp
      clear hq hw4 hb3 hb4
      --MARK4
      go_wp2_with (first | ((with_reducible apply st_un); rfl) | ((with_reducible apply st_load (n := 97) (cs := headC n R X Z) (T := 26)); rfl; exact hd4; exact Tryd.underlying26; rfl; exact headSize; (rw [HHL.out]; exact Nat.le_refl _); (exact row_all _ _ HHL.out)))
      go_at_call 15
      refine (HSD.out w4 (HKEY.out.up hB4) (HK.out.up hB4)).mono ?_
      rintro r w5 ⟨rfl, hb5⟩
      have hd5 := hd4.up hb5
      have hbr5 := hbr4.trans (hb5.mono hbr4.size)
      clear c40 hl4 hnn hd4
      go_wp2_with ((with_reducible apply st_un); rfl)
      --MARK5
      have hl5 := hd5.lt
      go_loopw [9] (fun i wq => ∃ k : Nat, i = .int .i64 k ∧ k ≤ n ∧ Below w5.heap.size w5 wq) (fun i _ => n - (intOf i).toNat)
      case atStart => exact ⟨0, rfl, by omega, Below.refl _ _⟩
      case round =>
        obtain ⟨k, rfl, hk, hbq⟩ := hrel
        rename World => wq
        have hbrq := hbr5.trans (hbq.mono hbr5.size)
        have hBq := hB2.trans (hbrq.mono hB2.size)
        by_cases hkn : k < n
        · have hkT : k < T.length := by rw [HTL.out]; omega
          have hLq := HL2.out.up hbrq
          have htext := ledtext_any hLq HTB.out (k : Int)
          have htr : ltextR T (k : Int) = (T[k], 0) := by unfold ltextR; rw [dif_pos ⟨by omega, by omega⟩]; rfl
          rw [htr] at htext
          have hpath := fun w (h1 : Led w w1.heap.size g key T (All w1.heap.size w2)) h2 => ledpath_any h1 HTLE.out (k : Int) (n : Int) h2
          have hpr : lpathR T (k : Int) (n : Int) = (pathF (lleavesF (T.take n)) (k : Int) 256, 0) := by unfold lpathR; rw [if_pos (by rw [HTL.out]; omega), Int.toNat_natCast]
          rw [hpr] at hpath
          have hgrow := fun w (h1 : Led w w1.heap.size g key T (All w1.heap.size w2)) h2 => ledgrowth_any h1 HTLE.out ((k : Int) + 1) (n : Int) h2
          have hgr : lgrowthR T ((k : Int) + 1) (n : Int) = (growthF (lleavesF (T.take n)) (k + 1) 256 true, 0) := by unfold lgrowthR; rw [if_pos (by rw [HTL.out]; omega), Int.toNat_natCast]; rfl
          rw [hgr] at hgrow
          have hhead := fun w (h1 : Led w w1.heap.size g key T (All w1.heap.size w2)) h2 => ledhead_any h1 HTLE.out (by omega) (k + 1) (by omega) ((k : Int) + 1) (by omega) h2
          have hlen : (T.take (k + 1)).length = k + 1 := by rw [List.length_take]; omega
          have hparts := headF_parts key (T.take (k + 1))
          rw [hlen] at hparts
          have hro2 := rootF_ok (lleavesF (T.take (k + 1))) 256 (lleavesF_ok _)
          have hxo2 := lchainF_ok (T.take (k + 1))
          have hone2 := headF_one21 key (T.take (k + 1))
          have hcp := HCP.out k hkn
          have hcg := HCG.out k hkn
          have hleaf : (lleavesF (T.take n)).getD k [] = leafF T[k] 256 := by
            unfold lleavesF
            rw [List.getD_eq_getElem?_getD, List.getElem?_map, List.getElem?_take_of_lt hkn, List.getElem?_eq_getElem hkT]; rfl
          rw [hleaf] at hcp
          have hrt : rootF ((lleavesF (T.take n)).take (k + 1)) 256 = rootF (lleavesF (T.take (k + 1))) 256 := by
            rw [← lleavesF_take, List.take_take, Nat.min_eq_left (by omega)]
          rw [hrt] at hcg
          have htb := HTB.out _ (List.getElem_mem hkT)
          have htu := HTU.out _ (List.getElem_mem hkT)
          have hDP : Dgs (pathF (lleavesF (T.take n)) (k : Int) 256) := (pathF_ok (lleavesF (T.take n)).length _ _ _ rfl (lleavesF_ok _)).1
          obtain ⟨b, hb⟩ : ∃ b, b = T[k] := ⟨_, rfl⟩
          obtain ⟨P, hP⟩ : ∃ P, P = pathF (lleavesF (T.take n)) (k : Int) 256 := ⟨_, rfl⟩
          obtain ⟨G, hG⟩ : ∃ G, G = growthF (lleavesF (T.take n)) (k + 1) 256 true := ⟨_, rfl⟩
          obtain ⟨R2, hR2⟩ : ∃ R2, R2 = rootF (lleavesF (T.take (k + 1))) 256 := ⟨_, rfl⟩
          obtain ⟨X2, hX2⟩ : ∃ X2, X2 = lchainF (T.take (k + 1)) := ⟨_, rfl⟩
          rw [← hR2, ← hX2] at hparts
          rw [← hR2] at hro2 hcg
          rw [← hX2] at hxo2
          obtain ⟨Z2, hZ2⟩ : ∃ Z2, Z2 = macF key (headT ((k + 1 : Nat) : Int) R2 X2) := ⟨_, rfl⟩
          have hzl2 : Z2.length = 32 := by rw [hZ2]; exact macF_len _ _
          rw [← hZ2] at hparts
          rw [hparts] at hhead hone2
          rw [← hb] at htext hcp htb htu
          rw [← hP] at hpath hcp
          rw [← hG] at hgrow hcg
          have hlf : (leafF b 256).length = 32 ∧ U8 (leafF b 256) := ⟨leafF_len _ _, leafF_range _ _⟩
          have hleafc := fun w (Bb : Option Addr) (db : Nat) (h1 : Byt w Bb db b) h2 => leaf_any w b Bb db h1 (by omega) 256 h2
          obtain ⟨F, hF⟩ : ∃ F, F = leafF b 256 := ⟨_, rfl⟩
          rw [← hF] at hcp hlf hleafc
          have HTEXT := Lib.hid htext
          have HPATH := Lib.hid hpath
          have HGROW := Lib.hid hgrow
          have HHEAD2 := Lib.hid hhead
          have HHL2 := Lib.hid (headC_len (n := ((k + 1 : Nat) : Int)) hro2.1 hxo2.1 hzl2)
          have HONE2 := Lib.hid hone2
          have HRO2 := Lib.hid hro2
          have HXO2 := Lib.hid hxo2
          have HCPK := Lib.hid hcp
          have HCGK := Lib.hid hcg
          have HLF := Lib.hid hlf
          have HLEAF := Lib.hid hleafc
          have HBU := Lib.hid htu
          have HLQ := Lib.hid hLq
          have hd6 := hd5.up hbq
          clear hkT htext htr hpath hpr hgrow hgr hhead hlen hparts hro2 hxo2 hone2 hcp hcg hleaf hrt htu hDP hb hP hG hR2 hX2 hZ2 hzl2 hlf hleafc hF hLq
          go_wp2_with fail
          --MARK6
          go_at_call 32
          refine HTEXT.out.mono ?_
          rintro r w6 ⟨v6, rfl, hb6, ho6⟩
          obtain ⟨B6, e6, rfl, hy6, _⟩ := ho6.byt HBU.out
          have hd6 := hd6.up hb6
          have hB6 := hBq.trans (hb6.mono hBq.size)
          have HL6 := Lib.hid (HLQ.out.up hb6)
          clear ho6
          go_wp2_with fail
          go_at_call 33
          refine (HPATH.out w6 HL6.out (HK.out.up hB6)).mono ?_
          rintro r w7 ⟨v7, rfl, hb7, ho7⟩
          obtain ⟨A7, c7, rfl, hdg7, _⟩ := ho7.dg
          have hd7 := hd6.up hb7
          have hB7 := hB6.trans (hb7.mono hB6.size)
          have HL7 := Lib.hid (HL6.out.up hb7)
          have hy7 := hy6.up hb7
          clear ho7
          go_wp2_with fail
          --MARK7
          go_at_call 34
          refine (HGROW.out w7 HL7.out (HK.out.up hB7)).mono ?_
          rintro r w8 ⟨v8, rfl, hb8, ho8⟩
          obtain ⟨A8, c8, rfl, hdg8, _⟩ := ho8.dg
          have hd8 := hd7.up hb8
          have hB8 := hB7.trans (hb8.mono hB7.size)
          have HL8 := Lib.hid (HL7.out.up hb8)
          have hy8 := hy7.up hb8
          have hp8 := hdg7.up hb8
          clear ho8
          go_wp2_with fail
          --MARK8
          go_at_call 20
          refine (HHEAD2.out w8 HL8.out (HK.out.up hB8)).mono ?_
          rintro r w9 ⟨rfl, hb9⟩
          have hq : Blk (w9.alloc (.cells (headC 0 zd zd zd).toArray 26)) w9.heap.size (headC 0 zd zd zd) 26 := Blk.new' _ _ _ _ _ rfl rfl
          go_upto_region 19 with ((with_reducible apply st_storeW (off := 0) (vs := headC ((k + 1 : Nat) : Int) R2 X2 Z2) (cs := headC 0 zd zd zd) (T := 26)); rfl; rfl; exact hq; (rw [HHL2.out]; exact headSize); (rw [HHL2.out, zd_len]; decide); exact HONE2.out; intro w10 hd10 hw10; rw [laid_all _ _ (by rw [HHL2.out, zd_len])] at hd10)
          have hb10 : Below w9.heap.size w9 w10 := Wrote.below ((Below.refl _ _).alloc (Nat.le_refl _) _) hw10 (Nat.le_refl _)
          have hb810 := hb9.trans (hb10.mono hb9.size)
          have hB10 := hB8.trans (hb810.mono hB8.size)
          have hdA := hd8.up hb810
          have hyA := hy8.up hb810
          have hpA := hp8.up hb810
          have hgA := hdg8.up hb810
          have HHN := Lib.hid (And.intro HRO.out.1 HRO2.out.1)
          have hlA := hdA.lt
          have hlB := hd10.lt
          have c1A := root_cells hdA HRO.out.1
          have c1B := root_cells hd10 HRO2.out.1
          have HC1A := Lib.hid c1A
          have HC1B := Lib.hid c1B
          have hbw2 : Below w5.heap.size w5 w10 := ((((hbq.trans (hb6.mono hbq.size)).trans (hb7.mono (by have := hbq.size; have := hb6.size; omega))).trans (hb8.mono (by have := hbq.size; have := hb6.size; have := hb7.size; omega)))).trans (hb810.mono (by have := hbq.size; have := hb6.size; have := hb7.size; have := hb8.size; omega))
          have HYA := Lib.hid hyA
          have HPA := Lib.hid hpA
          have HGA := Lib.hid hgA
          clear hq hw10 hb10 hb9 hd6 hd7 hd8 hy6 hy7 hy8 hp8 hdg7 hdg8 hb6 hb7 hb8 hdA hyA hpA hgA c1A c1B
          --MARK9
          refine wp_region_C (Same [w3.heap.size, w9.heap.size] w10) [20, 22, 34] (by kernel_rfl) (by kernel_rfl) (by intro c a w h; first | (obtain ⟨_, h, _⟩ := h; cases h; done) | (obtain ⟨_, _, h, _⟩ := h; cases h; done) | (obtain ⟨_, _, _, h, _⟩ := h; cases h; done) | (obtain ⟨_, _, _, _, h, _⟩ := h; cases h; done) | (rcases h with ⟨_, ⟨_, _, _, _, h, _⟩ | ⟨_, _, _, _, h, _⟩⟩ <;> cases h; done)) (by intro a w h; first | (obtain ⟨h, _⟩ := h; cases h; done) | (obtain ⟨_, h, _⟩ := h; cases h; done) | (obtain ⟨_, _, h, _⟩ := h; cases h; done) | (obtain ⟨_, _, _, h, _⟩ := h; cases h; done) | (rcases h with ⟨_, _, _, _, h, _⟩ | ⟨_, _, _, _, h, _⟩ <;> cases h; done)) (Same.refl _ _) ?_
          --MARK10
          repeat (refine wd_wg (v := ?_) rfl rfl rfl rfl rfl rfl (fun w' hw' K hK => ?_) ?_; rotate_left; (skip; go_wp2_with (fail); exact rfl); simp only [Act.put, List.setIfInBounds_toArray, List.set_cons_zero, List.set_cons_succ])
          refine wd_pick (b := false) (v := .bool false) rfl rfl rfl rfl rfl ?_
          simp only [Act.put, List.setIfInBounds_toArray, List.set_cons_zero, List.set_cons_succ]
          repeat (refine wd_wg (v := ?_) rfl rfl rfl rfl rfl rfl (fun w' hw' K hK => ?_) ?_; rotate_left; (skip; go_wp2_with (fail); exact rfl); simp only [Act.put, List.setIfInBounds_toArray, List.set_cons_zero, List.set_cons_succ])
          refine wd_pick (b := false) (v := .bool false) rfl rfl rfl rfl rfl ?_
          simp only [Act.put, List.setIfInBounds_toArray, List.set_cons_zero, List.set_cons_succ]
          repeat (refine wd_wg (v := ?_) rfl rfl rfl rfl rfl rfl (fun w' hw' K hK => ?_) ?_; rotate_left; (skip; go_wp2_with (fail); exact rfl); simp only [Act.put, List.setIfInBounds_toArray, List.set_cons_zero, List.set_cons_succ])
          refine wd_pick (b := false) (v := .bool false) rfl rfl rfl rfl rfl ?_
          simp only [Act.put, List.setIfInBounds_toArray, List.set_cons_zero, List.set_cons_succ]
          --MARK11
          repeat (refine wd_wg (v := ?_) rfl rfl rfl rfl rfl rfl (fun w' hw' K hK => ?_) ?_; rotate_left; (have e1 : ∀ j v, (nums .u8 R)[j]? = some v → w'.cell? ⟨w3.heap.size, 1 + j, none⟩ = some v := fun j v hv => (hw'.cell w3.heap.size (by simp) _).trans (HC1A.out j v hv); go_wp2_with ((first | ((with_reducible apply st_loadCells (cs := nums .u8 (R))); rfl; exact e1; exact Tryd.underlying24; rfl; (rw [nums_length, HRO.out.1]; kernel_rfl)))); exact rfl); simp only [Act.put, List.setIfInBounds_toArray, List.set_cons_zero, List.set_cons_succ])
          --MARK12
          refine wd_lg rfl rfl (by intro a w h; first | (obtain ⟨h, _⟩ := h; cases h; done) | (obtain ⟨_, h, _⟩ := h; cases h; done) | (obtain ⟨_, _, h, _⟩ := h; cases h; done) | (obtain ⟨_, _, _, h, _⟩ := h; cases h; done) | (rcases h with ⟨_, _, _, _, h, _⟩ | ⟨_, _, _, _, h, _⟩ <;> cases h; done)) ?_
          go_wp2_with fail
          go_at_call 36
          refine (HLEAF.out _ _ _ (HYA.out.up ((Below.refl _ _).drew)) (HK.out.up hB10.drew)).mono ?_
          rintro r w11 ⟨rfl, hb11⟩
          have hb11 : Below w10.heap.size w10 w11 := (Below.refl w10.heap.size w10).drew.trans hb11
          have hS : Same [w3.heap.size, w9.heap.size] w10 w11 := fun gg hg => hb11.block gg (by simp at hg; omega)
          have hB11 := hB10.trans (hb11.mono hB10.size)
          go_wp2_with fail
          refine ⟨.inr hS, ?_⟩
          repeat (refine wd_wg (v := ?_) rfl rfl rfl rfl rfl rfl (fun w' hw' K hK => ?_) ?_; rotate_left; (skip; go_wp2_with (fail); exact rfl); simp only [Act.put, List.setIfInBounds_toArray, List.set_cons_zero, List.set_cons_succ])
          --MARK13
          refine wd_lg rfl rfl (by intro a w h; first | (obtain ⟨h, _⟩ := h; cases h; done) | (obtain ⟨_, h, _⟩ := h; cases h; done) | (obtain ⟨_, _, h, _⟩ := h; cases h; done) | (obtain ⟨_, _, _, h, _⟩ := h; cases h; done) | (rcases h with ⟨_, _, _, _, h, _⟩ | ⟨_, _, _, _, h, _⟩ <;> cases h; done)) ?_
          go_wp2_with fail
          go_at_call 35
          have hcc := checkpath_any w11 R HRO.out.1 (n : Int) (k : Int) (by omega) F HLF.out.1 HLF.out.2 P A7 c7 (HPA.out.up hb11) 256 (HK.out.up hB11)
          rw [HCPK.out] at hcc
          refine hcc.mono ?_
          clear hcc
          rintro r w12 ⟨rfl, hb12⟩
          have hb12 : Below w10.heap.size w10 w12 := hb11.trans (hb12.mono hb11.size)
          have hS : Same [w3.heap.size, w9.heap.size] w10 w12 := fun gg hg => hb12.block gg (by simp at hg; omega)
          have hB12 := hB10.trans (hb12.mono hB10.size)
          go_wp2_with fail
          refine ⟨.inr hS, ?_⟩
          repeat (refine wd_wg (v := ?_) rfl rfl rfl rfl rfl rfl (fun w' hw' K hK => ?_) ?_; rotate_left; (skip; go_wp2_with (fail); exact rfl); simp only [Act.put, List.setIfInBounds_toArray, List.set_cons_zero, List.set_cons_succ])
          refine wd_pick (b := false) (v := .bool false) rfl rfl rfl rfl rfl ?_
          simp only [Act.put, List.setIfInBounds_toArray, List.set_cons_zero, List.set_cons_succ]
          --MARK14
          repeat (refine wd_wg (v := ?_) rfl rfl rfl rfl rfl rfl (fun w' hw' K hK => ?_) ?_; rotate_left; (have e1 : ∀ j v, (nums .u8 R)[j]? = some v → w'.cell? ⟨w3.heap.size, 1 + j, none⟩ = some v := fun j v hv => (hw'.cell w3.heap.size (by simp) _).trans (HC1A.out j v hv); have e2 : ∀ j v, (nums .u8 R2)[j]? = some v → w'.cell? ⟨w9.heap.size, 1 + j, none⟩ = some v := fun j v hv => (hw'.cell w9.heap.size (by simp) _).trans (HC1B.out j v hv); go_wp2_with ((first | ((with_reducible apply st_loadCells (cs := nums .u8 (R))); rfl; exact e1; exact Tryd.underlying24; rfl; (rw [nums_length, HRO.out.1]; kernel_rfl)) | ((with_reducible apply st_loadCells (cs := nums .u8 (R2))); rfl; exact e2; exact Tryd.underlying24; rfl; (rw [nums_length, HRO2.out.1]; kernel_rfl)))); exact rfl); simp only [Act.put, List.setIfInBounds_toArray, List.set_cons_zero, List.set_cons_succ])
          --MARK15
          refine wd_lg rfl rfl (by intro a w h; first | (obtain ⟨h, _⟩ := h; cases h; done) | (obtain ⟨_, h, _⟩ := h; cases h; done) | (obtain ⟨_, _, h, _⟩ := h; cases h; done) | (obtain ⟨_, _, _, h, _⟩ := h; cases h; done) | (rcases h with ⟨_, _, _, _, h, _⟩ | ⟨_, _, _, _, h, _⟩ <;> cases h; done)) ?_
          go_wp2_with fail
          go_at_call 37
          have hcc := checkgrowth_any w12 R2 HRO2.out.1 HRO2.out.2 ((k : Int) + 1) R HRO.out.1 (n : Int) (by omega) G A8 c8 (HGA.out.up hb12) 256 (HK.out.up hB12)
          rw [show checkGF R2 ((k : Int) + 1) R (n : Int) G 256 = true from HCGK.out] at hcc
          refine hcc.mono ?_
          clear hcc
          rintro r w13 ⟨rfl, hb13⟩
          have hb13 : Below w10.heap.size w10 w13 := hb12.trans (hb13.mono hb12.size)
          have hS : Same [w3.heap.size, w9.heap.size] w10 w13 := fun gg hg => hb13.block gg (by simp at hg; omega)
          go_wp2_with fail
          refine ⟨.inr hS, ?_⟩
          repeat (refine wd_wg (v := ?_) rfl rfl rfl rfl rfl rfl (fun w' hw' K hK => ?_) ?_; rotate_left; (skip; go_wp2_with (fail); exact rfl); simp only [Act.put, List.setIfInBounds_toArray, List.set_cons_zero, List.set_cons_succ])
          refine wd_pick (b := false) (v := .bool false) rfl rfl rfl rfl rfl ?_
          simp only [Act.put, List.setIfInBounds_toArray, List.set_cons_zero, List.set_cons_succ]
          refine wd_nil ?_
          have hbw := hbw2.trans (hb13.mono hbw2.size)
          go_wp2_with fail
          --MARK16
          go_roundw
          case rel => first | exact ⟨k + 1, by go_num, by omega, hbw⟩ | ((repeat apply Exists.intro); refine ⟨⟨k + 1, ?_, by omega, hbw⟩, rfl⟩; go_num)
          case measure => simp [intOf]; omega
        · have hkn2 : k = n := by omega
          subst hkn2
          clear hkn
          go_wp2_with fail
          --MARK17
          go_roundw
          case rel => first | exact ⟨k + 1, by go_num, by omega, by omega, hbrq⟩ | ((repeat apply Exists.intro); refine ⟨⟨k + 1, ?_, by omega, by omega, hbrq⟩, rfl⟩; go_num)
          case measure => simp [intOf]; omega
    · go_wp2_with fail
      --MARK18
      go_at_call 16
      refine (lives21_any _ (HK.out.up hBr)).mono ?_
      rintro r w9 ⟨rfl, hb9⟩
      go_wp2_with fail
      go_ret
      exact ⟨rfl, hBr.trans (hb9.mono hBr.size)⟩

end Go.Proofs.YtancldhincaphaaDoor
