/- That inquestlaw21.LedgerChain returns true. Condition: the table of layer 2 reads as its text lays it. -/
import Derived.Test.YtancldhincaphaaDoorLink
import Derived.Test.YtancldhincaphaaDoorSame21
import Derived.Test.YtancldhincaphaaDoorOrders2
import Derived.Test.YtancldhincaphaaDoorIsQ
import Derived.Test.YtancldhincaphaaDoorHeadEq
import Derived.Test.YtancldhincaphaaDoorTells
namespace Go.Proofs.YtancldhincaphaaDoor
open Go.RowKit
set_option maxRecDepth 100000

theorem cut_all (d : List Int) (h : d.length = 32) : cutF d 256 = d := by
  unfold cutF cutB
  apply List.ext_getElem
  · simp
  · intro i h1 h2
    have hc : clip 256 = 256 := by decide
    simp only [List.getElem_map, List.getElem_range, hc, byteCut]
    rw [if_neg (by omega), if_neg (by omega), ga_eq]
    simp [List.getD_eq_getElem?_getD, List.getElem?_eq_getElem h2]
theorem map_enc_lenC {M : List Ent} (h : NumOk M) : ∀ x ∈ M.map encL, x.length ≤ 1000 := fun x hx => by
  obtain ⟨e, he, rfl⟩ := List.mem_map.1 hx
  obtain ⟨j, hj, rfl⟩ := List.mem_iff_getElem.1 he
  have := h j hj
  have := encL_len _ this.1 this.2.2.h this.2.2.s
  omega
theorem headC_partsC (key : List Int) (T : List (List Int)) : headF key T = headC T.length (rootF (lleavesF T) 256) (lchainF T) (macF key (headT T.length (rootF (lleavesF T) 256) (lchainF T))) := rfl
theorem chain_cells {w : World} {g : Nat} {n : Int} {r c s : List Int} {T : TypeId} (h : Blk w g (headC n r c s) T) (hr : r.length = 32) : ∀ j v, (nums .u8 c)[j]? = some v → w.cell? ⟨g, 33 + j, none⟩ = some v := by
  rcases rd_chain h hr with h1 | ⟨g1, off, h1, h2⟩
  · intro j v hv; rw [h1] at hv; simp at hv
  · injection h1 with h1; injection h1 with e1 e2; subst e1; subst e2; exact h2
theorem link_eq {S T : List (List Int)} {x y : List Int} (h : linkL S x = linkL T y) : lchainF S = lchainF T ∧ leafF x 256 = leafF y 256 := by
  unfold linkL at h
  injection h with _ h
  exact List.append_inj h (by rw [(lchainF_ok S).1, (lchainF_ok T).1])
theorem is_link {S T : List (List Int)} {x y : List Int} (hc : lchainF (S ++ [x]) = lchainF (T ++ [y])) (hne : linkL S x ≠ linkL T y) : IsF (linkL S x) (linkL T y) 256 := ⟨hne, by rw [linkL_sum, linkL_sum, hc]⟩
theorem is_leaf {x y : List Int} (hc : leafF x 256 = leafF y 256) (hne : x ≠ y) : IsF (0 :: x) (0 :: y) 256 := ⟨fun h => hne (by injection h), hc⟩
theorem u8infoK : (Tryd.prog.info? 5).map (fun i => (i.zero, i.size, i.bytes)) = some (some (.int .u8 0), 1, 1) := by kernel_rfl
/-- append(x, y..) of bytes, x the call's own: what it turns is told. -/
theorem st_growK {ops : Array Oper} {rest : List Oper} {a : Act} {w : World} {Q : Exit → Act → World → Prop} {d' : Option Tmp} {tt : TypeId} {s x : Operand} {pos : String} {after : Array Edge} {base : Nat} {v : Value} {A : Option Addr} {c : Nat} {xs ys : List Int}
    (hs : a.eval s = v) (hx : a.eval x = .slice A ys.length c) (ho : Own w base v xs) (hr : Rd w A (nums .u8 ys)) (hn : A = none → c = 0) (hle : ys.length ≤ c) (hl : xs.length + ys.length ≤ 1000000) (hbase : base ≤ w.heap.size)
    (h : ∀ v' w', Own w' base v' (xs ++ ys) → w.grownBy w' v.ownBlock → (v'.ownBlock = v.ownBlock ∨ v'.ownBlock = some w.heap.size) → wpList Tryd.prog ops Q rest (a.put d' v') w') :
    wpList Tryd.prog ops Q (⟨d', .call ⟨.builtin .append, #[s, x], #[22, 22]⟩, tt, pos, after, none⟩ :: rest) a w := by
  obtain ⟨i0, hi, hz0, hz1, hz2⟩ := info_parts u8infoK
  by_cases hA : A = none
  · have hc := hn hA
    have h0 : ys = [] := List.eq_nil_of_length_eq_zero (by omega)
    subst hA; subst h0; subst hc
    refine wpList_append_own_none rfl s x 22 rfl base 5 i0 1 Tryd.underlying22 hi v _ _ hs ho hx ?_
    exact h v w (by rw [List.append_nil]; exact ho) ⟨rfl, rfl, rfl, Nat.le_refl _, fun _ _ _ => rfl⟩ (.inl rfl)
  · obtain ⟨ad, hA⟩ := Option.ne_none_iff_exists'.1 hA
    subst hA
    refine wpList_append_own_at (w := w) rfl s x 22 rfl base 5 i0 (.int .u8 0) 1 1 Tryd.underlying22 hi hz0 hz1 hz2 rfl (by decide) v xs.length (nums .u8 xs) hs ho ad ys.length c (nums .u8 ys) hx (by rw [nums_length]; omega) ?_ (nums_one _ _) (by unfold maxLen; omega) (by omega) hbase ?_
    · intro j u hu
      rcases hr with hr | ⟨g, off, hA2, hc⟩
      · rw [hr] at hu; simp at hu
      · injection hA2 with hA2
        subst hA2
        have : (⟨g, off, none⟩ : Addr).add j = ⟨g, off + j, none⟩ := by unfold Addr.add; split <;> simp_all
        rw [this]; exact hc j u hu
    · intro v' w' ho' hg _ hat
      refine h v' w' ?_ hg hat
      unfold Own
      rw [List.length_append, show nums .u8 (xs ++ ys) = nums .u8 xs ++ nums .u8 ys by simp [nums]]
      exact ho'
theorem tl_spotC {w : World} {base n c : Nat} {L : List (List Int)} {A : Option Addr} (h : TL w base L (.slice A n c)) : ∀ ad, A = some ad → ad.spot = none := by
  obtain ⟨cs, h1, _⟩ := h
  rcases h1.2 with ⟨h, _⟩ | ⟨g, cap, cur, hv, _⟩
  · injection h with h; subst h; intro ad ha; cases ha
  · injection hv with h; subst h; intro ad ha; injection ha with ha; subst ha; rfl
def Dist (u v : Value) : Prop := ∀ k, u.ownBlock = some k → v.ownBlock ≠ some k
theorem Dist.symm {u v : Value} (h : Dist u v) : Dist v u := fun k h1 h2 => h k h2 h1
theorem own_bld {base : Nat} {W : World} (hb : base ≤ W.heap.size) : Own (W.alloc (.cells #[.int .u8 0] 5)) base (.slice (some ⟨W.heap.size, 0, none⟩) 1 1) [0] := Own.ofBlk (Blk.new' _ _ (nums .u8 [0]) _ _ rfl rfl) hb (by decide)
theorem own_keepA {base : Nat} {W : World} {u : Value} {bs : List Int} (h : Own W base u bs) (ob : Obj) : Own (W.alloc ob) base u bs := h.kept ((Below.refl _ _).alloc (Nat.le_refl _) _)
theorem own_d {base : Nat} {W : World} {u : Value} {bs : List Int} (h : Own W base u bs) : Dist u (.slice (some ⟨W.heap.size, 0, none⟩) 1 1) := fun k hk h2 => by
  have := (h.lt k hk).2
  simp only [Value.ownBlock, Option.some.injEq] at h2
  omega
theorem own_keepG {base : Nat} {W W' : World} {u v : Value} {bs : List Int} (h : Own W base u bs) (hd : Dist u v) (hg : W.grownBy W' v.ownBlock) : Own W' base u bs :=
  ownsRow_ch h (Ch.grown (X := fun k => v.ownBlock = some k) hg (fun _ hk => hk)) (fun k hk => hd k hk)
theorem own_dG {base : Nat} {W : World} {u v v' : Value} {bs : List Int} (h : Own W base u bs) (hd : Dist u v) (hat : v'.ownBlock = v.ownBlock ∨ v'.ownBlock = some W.heap.size) : Dist u v' := fun k hk h2 => by
  rcases hat with hat | hat
  · exact hd k hk (hat ▸ h2)
  · rw [hat] at h2; injection h2 with h2; have := (h.lt k hk).2; omega
theorem cons_u8 {x : List Int} (h : U8 x) : U8 ([0] ++ x) := (U8.of fun y hy => by rw [List.mem_singleton.1 hy]; omega).append h
theorem st_zeroDZ {ops : Array Oper} {rest : List Oper} {a : Act} {w : World} {Q : Exit → Act → World → Prop} {d' : Option Tmp} {tt : TypeId} {pos : String} {after : Array Edge} {Z : List Int} (hZ : Hid (Z = List.replicate 32 0))
    (h : wpList Tryd.prog ops Q rest (a.put d' (.agg (nums .u8 Z).toArray)) w) :
    wpList Tryd.prog ops Q (⟨d', .build 24 #[], tt, pos, after, none⟩ :: rest) a w :=
  wpList_plain rfl fun K hK => by
    rw [hZ.out] at h
    unfold Oper.wp execOp
    simp only [Sem.run_bind, List.map_toArray, List.map_nil]
    rw [run_build w _ _ (nums .u8 (List.replicate 32 0)).toArray (by kernel_rfl)]
    exact hK _ _ h
theorem run_eql_D (Z : List Int) (h : Z.length = 32) (w : World) : (binOp .eql 24 (.agg (nums .u8 Z).toArray) (.agg (nums .u8 Z).toArray)).run Tryd.prog w = .ok (.bool true) w := by
  have := run_eql_nums (P := Tryd.prog) Tryd.underlying24 Tryd.underlying5 (by kernel_rfl) (by kernel_rfl) Z Z h h w
  rw [decide_eq_true rfl] at this; exact this
theorem take_snoc (S : List (List Int)) (n : Nat) (h : n < S.length) : S.take (n + 1) = S.take n ++ [S[n]] := by rw [List.take_add_one, List.getElem?_eq_getElem h]; rfl
theorem drop_consC (S : List (List Int)) (n : Nat) (h : n < S.length) : S.drop n = S[n] :: S.drop (n + 1) := List.drop_eq_getElem_cons h

set_option maxRecDepth 100000 in
set_option maxHeartbeats 16000000 in
theorem lawchain21_any (w : World) (L1 : List Ent) (A1 : Option Addr) (c1 : Nat) (hE1 : Ents w A1 c1 L1) (L2 : List Ent) (A2 : Option Addr) (c2 : Nat) (hE2 : Ents w A2 c2 L2) (hk : KV w) :
    Calls Tryd.prog 5 #[.slice A1 L1.length c1, .slice A2 L2.length c2] w fun r w' => r = .returned (.bool true) ∧ Below w.heap.size w w' := by
  obtain ⟨Z, hZ⟩ : ∃ Z : List Int, Z = List.replicate 32 0 := ⟨_, rfl⟩
  have HZ := Lib.hid hZ
  have HQZ := Lib.hid (run_eql_D Z (by rw [hZ]; rfl))
  clear hZ
  have HN1 := Lib.hid (numbered_any w L1 A1 c1 hE1 8 (by decide) 8 rfl)
  have HE2 := Lib.hid hE2
  have HK := Lib.hid hk
  clear hE1 hE2 hk
  go_enter Tryd.func5, Tryd.ntmps5
  go_wp2_with fail
  go_at_call 17
  refine HN1.out.mono ?_
  rintro r w1 ⟨M1, v1, rfl, hev1, hM1, hNum1⟩
  obtain ⟨B1, d1, rfl, -, -⟩ := hev1.slot
  have hB1 := hev1.below
  have HN2 := Lib.hid (numbered_any w1 L2 A2 c2 (HE2.out.up hB1) 8 (by decide) 8 rfl)
  go_wp2_with fail
  go_at_call 17
  refine HN2.out.mono ?_
  rintro r w2 ⟨M2, v2, rfl, hev2, hM2, hNum2⟩
  obtain ⟨B2, d2, rfl, -, -⟩ := hev2.slot
  have hb2 := hev2.below
  have hB2 := hB1.trans (hb2.mono hB1.size)
  have hent1 := (hev1.ents hNum1.b).up hb2
  have hent2 := hev2.ents hNum2.b
  have hfill1 := filled_any w2 [] none 0 ⟨Rd.nil _ _, Nat.le_refl _, fun _ => rfl, U8.nil⟩ (by simp) M1 B1 d1 hent1 hNum1 (by omega) (HK.out.up hB2)
  have hfill2 := fun W (h : Below w2.heap.size w2 W) => filled_any W [] none 0 ⟨Rd.nil _ _, Nat.le_refl _, fun _ => rfl, U8.nil⟩ (by simp) M2 B2 d2 (hent2.up h) hNum2 (by omega) (HK.out.up (hB2.trans (h.mono hB2.size)))
  have hSl : (M1.map encL).length = M1.length := List.length_map _
  have hTl : (M2.map encL).length = M2.length := List.length_map _
  have hSb := map_enc_lenC hNum1
  have hTb := map_enc_lenC hNum2
  obtain ⟨S, hS⟩ : ∃ S, S = M1.map encL := ⟨_, rfl⟩
  obtain ⟨T, hT⟩ : ∃ T, T = M2.map encL := ⟨_, rfl⟩
  rw [← hS] at hfill1 hSl hSb
  rw [← hT] at hfill2 hTl hTb
  have HF1 := Lib.hid hfill1
  have HF2 := Lib.hid hfill2
  have HSB := Lib.hid hSb
  have HTB := Lib.hid hTb
  have hSle : S.length ≤ 8 := by omega
  have hTle : T.length ≤ 8 := by omega
  clear hfill1 hfill2 hSl hTl hSb hTb hS hT hev1 hev2 hNum1 hNum2 hent1 hent2
  go_wp2_with fail
  --MARK1
  go_at_call 18
  refine HF1.out.mono ?_
  rintro r w3 ⟨g1, rfl, hb3, hL1⟩
  have hB3 := hB2.trans (hb3.mono hB2.size)
  have HLA := Lib.hid hL1
  clear hL1
  go_wp2_with fail
  go_at_call 18
  refine (HF2.out w3 hb3).mono ?_
  rintro r w4 ⟨g2, rfl, hb4, hL2⟩
  have hB4 := hB3.trans (hb4.mono hB3.size)
  have HLB := Lib.hid hL2
  have HLA4 := Lib.hid (HLA.out.up hb4)
  clear hL2
  go_wp2_with ((with_reducible apply st_un); rfl)
  --MARK2
  go_at_call 23
  refine (ledsize_any HLA4.out).mono ?_
  rintro r wz ⟨rfl, rfl⟩
  have hh1 := ledhead_any HLA4.out (by omega) (by simp) S.length (Nat.le_refl _) (S.length : Int) rfl (HK.out.up hB4)
  rw [List.take_length] at hh1
  have hone1 : ∀ v ∈ headF [] S, v.oneCell' = true := headC_one _ _ _ _
  have hone2 : ∀ v ∈ headF [] T, v.oneCell' = true := headC_one _ _ _ _
  have hhl1 := headF_len [] S
  have hhl2 := headF_len [] T
  have hp1 := headC_partsC [] S
  have hp2 := headC_partsC [] T
  have hr1 := (rootF_ok (lleavesF S) 256 (lleavesF_ok S)).1
  have hr2 := (rootF_ok (lleavesF T) 256 (lleavesF_ok T)).1
  have HP1 := Lib.hid (And.intro hp1 hr1)
  have HP2 := Lib.hid (And.intro hp2 hr2)
  have HH2 := Lib.hid (fun W h1 h2 => (List.take_length (l := T) ▸ ledhead_any (w := W) (base := w3.heap.size) (g := g2) (key := []) (T := T) (F := All w3.heap.size w4) h1 (by omega) (by simp) T.length (Nat.le_refl _) (T.length : Int) rfl h2))
  have heqS : S = T → headF [] S = headF [] T := fun h => by rw [h]
  obtain ⟨H1, hH1⟩ : ∃ H, H = headF [] S := ⟨_, rfl⟩
  obtain ⟨H2, hH2⟩ : ∃ H, H = headF [] T := ⟨_, rfl⟩
  rw [← hH1] at hh1 hone1 hhl1 HP1
  rw [← hH2] at hone2 hhl2 HP2 HH2
  have HH1 := Lib.hid hh1
  have HO1 := Lib.hid hone1
  have HO2 := Lib.hid hone2
  have HL1 := Lib.hid hhl1
  have HL2 := Lib.hid hhl2
  have HHE := Lib.hid (And.intro hH1 hH2)
  clear hh1 hone1 hone2 hhl1 hhl2 hp1 hp2 hr1 hr2 heqS hH1 hH2
  go_wp2_with fail
  --MARK3
  go_at_call 20
  refine HH1.out.mono ?_
  rintro r w5 ⟨rfl, hb5⟩
  have hq5 : Blk (w5.alloc (.cells (headC 0 zd zd zd).toArray 26)) w5.heap.size (headC 0 zd zd zd) 26 := Blk.new' _ _ _ _ _ rfl rfl
  go_upto_region 6 with ((with_reducible apply st_storeW (off := 0) (vs := H1) (cs := headC 0 zd zd zd) (T := 26)); rfl; rfl; exact hq5; (rw [HL1.out]; exact headSize); (rw [HL1.out, zd_len]; decide); exact HO1.out; intro w6 hd6 hw6; rw [laid_all _ _ (by rw [HL1.out, zd_len])] at hd6)
  have hb6 : Below w5.heap.size w5 w6 := Wrote.below ((Below.refl _ _).alloc (Nat.le_refl _) _) hw6 (Nat.le_refl _)
  have hb46 : Below w4.heap.size w4 w6 := hb5.trans (hb6.mono hb5.size)
  have hB6 := hB4.trans (hb46.mono hB4.size)
  have HLA6 := Lib.hid (HLA4.out.up hb46)
  have HLB6 := Lib.hid (HLB.out.up hb46)
  clear hq5 hw6 hb6
  go_wp2_with fail
  go_at_call 23
  refine (ledsize_any HLB6.out).mono ?_
  rintro r wz ⟨rfl, rfl⟩
  go_wp2_with fail
  --MARK4
  go_at_call 20
  refine (HH2.out w6 HLB6.out (HK.out.up hB6)).mono ?_
  rintro r w7 ⟨rfl, hb7⟩
  have hq7 : Blk (w7.alloc (.cells (headC 0 zd zd zd).toArray 26)) w7.heap.size (headC 0 zd zd zd) 26 := Blk.new' _ _ _ _ _ rfl rfl
  go_upto_region 7 with ((with_reducible apply st_storeW (off := 0) (vs := H2) (cs := headC 0 zd zd zd) (T := 26)); rfl; rfl; exact hq7; (rw [HL2.out]; exact headSize); (rw [HL2.out, zd_len]; decide); exact HO2.out; intro w8 hd8 hw8; rw [laid_all _ _ (by rw [HL2.out, zd_len])] at hd8)
  have hb8 : Below w7.heap.size w7 w8 := Wrote.below ((Below.refl _ _).alloc (Nat.le_refl _) _) hw8 (Nat.le_refl _)
  have hb68 : Below w6.heap.size w6 w8 := hb7.trans (hb8.mono hb7.size)
  have hB8 := hB6.trans (hb68.mono hB6.size)
  have HLA8 := Lib.hid (HLA6.out.up hb68)
  have HLB8 := Lib.hid (HLB6.out.up hb68)
  have hd6 := hd6.up hb68
  clear hq7 hw8 hb8
  go_wp2_with fail
  --MARK5
  go_at_call 19
  refine (ledtexts_any HLA8.out (by omega) HSB.out).mono ?_
  rintro r w9 ⟨v9, rfl, hb9, htl9⟩
  obtain ⟨AS, cS, rfl, htS⟩ := htl9.txts
  have hspS := tl_spotC htl9
  have hB9 := hB8.trans (hb9.mono hB8.size)
  go_wp2_with fail
  go_at_call 19
  refine (ledtexts_any (HLB8.out.up hb9) (by omega) HTB.out).mono ?_
  rintro r w10 ⟨v10, rfl, hb10, htl10⟩
  obtain ⟨AT, cT, rfl, htT⟩ := htl10.txts
  have hspT := tl_spotC htl10
  have hB10 := hB9.trans (hb10.mono hB9.size)
  have hd6 := (hd6.up hb9).up hb10
  have hd8 := (hd8.up hb9).up hb10
  have HS := Lib.hid (htS.up hb10)
  have HT := Lib.hid htT
  have HSPS := Lib.hid hspS
  have HSPT := Lib.hid hspT
  have HSAME := Lib.hid (same21_any w10 S T AS AT cS cT (htS.up hb10) htT (by omega) HTB.out)
  clear htl9 htl10 htS htT hspS hspT
  go_wp2_with fail
  --MARK6
  go_at_call 24
  by_cases hST : S = T
  · have hcall := HSAME.out
    rw [decide_eq_true hST] at hcall
    have hHH : H1 = H2 := by rw [HHE.out.1, HHE.out.2, hST]
    have heq := run_eql_headT [] T
    rw [← HHE.out.2] at heq
    refine hcall.mono ?_
    clear hcall
    rintro r w11 ⟨rfl, hb11⟩
    have hB11 := hB10.trans (hb11.mono hB10.size)
    have hd6 := hd6.up hb11
    have hd8 := hd8.up hb11
    rw [hHH] at hd6
    clear hHH hST
    --MARK7
    go_wp2_with (first | ((with_reducible apply st_un); rfl) | ((with_reducible apply st_load (n := 97) (cs := H2) (T := 26)); rfl; (first | exact hd6 | exact hd8); exact Tryd.underlying26; rfl; exact headSize; (rw [HL2.out]; exact Nat.le_refl _); exact row_all _ _ HL2.out))
    go_at_call 16
    refine (lives21_any _ (HK.out.up hB11)).mono ?_
    rintro r w12 ⟨rfl, hb12⟩
    go_wp2_with ((with_reducible apply st_un); rfl)
    go_ret
    exact ⟨rfl, hB11.trans (hb12.mono hB11.size)⟩
  · have hcall := HSAME.out
    rw [decide_eq_false hST] at hcall
    refine hcall.mono ?_
    clear hcall
    rintro r w11 ⟨rfl, hb11⟩
    have hB11 := hB10.trans (hb11.mono hB10.size)
    have hd6 := hd6.up hb11
    have hd8 := hd8.up hb11
    have HST := Lib.hid hST
    have hXo := (lchainF_ok S).1
    have hYo := (lchainF_ok T).1
    have hcA := hd6
    have hcB := hd8
    rw [HP1.out.1] at hcA
    rw [HP2.out.1] at hcB
    have hcA := chain_cells hcA HP1.out.2
    have hcB := chain_cells hcB HP2.out.2
    have hneq := run_neq_nums (P := Tryd.prog) Tryd.underlying24 Tryd.underlying5 (by kernel_rfl) (by kernel_rfl) (lchainF S) (lchainF T) hXo hYo
    have hl6 := hd6.lt
    have hl8 := hd8.lt
    by_cases hch : lchainF S = lchainF T
    · rw [decide_eq_true hch] at hneq
      have HCH := Lib.hid hch
      obtain ⟨X, hX⟩ : ∃ X, X = lchainF S := ⟨_, rfl⟩
      obtain ⟨Y, hY⟩ : ∃ Y, Y = lchainF T := ⟨_, rfl⟩
      rw [← hX] at hcA hneq hXo
      rw [← hY] at hcB hneq hYo
      have HCA := Lib.hid hcA
      have HCB := Lib.hid hcB
      have HXL := Lib.hid hXo
      have HYL := Lib.hid hYo
      have hneq : ∀ w : World, (binOp .neq 24 (.agg (nums .u8 X).toArray) (.agg (nums .u8 Y).toArray)).run Tryd.prog w = .ok (.bool false) w := hneq
      clear hch hST hX hY hcA hcB hXo hYo
      go_wp2_with (first | ((with_reducible apply st_loadCells (cs := nums .u8 (X))); rfl; exact HCA.out; exact Tryd.underlying24; rfl; (rw [nums_length, HXL.out]; kernel_rfl)) | ((with_reducible apply st_loadCells (cs := nums .u8 (Y))); rfl; exact HCB.out; exact Tryd.underlying24; rfl; (rw [nums_length, HYL.out]; kernel_rfl)))
      --MARK8
      have HSL := Lib.hid (HS.out.up hb11)
      have HTL := Lib.hid (HT.out.up hb11)
      clear hneq
      go_loopw [13, 14] (fun nv mv wr => ∃ n m : Nat, nv = .int .i64 n ∧ mv = .int .i64 m ∧ n ≤ S.length ∧ m ≤ T.length ∧ Hid (S.drop n = T.drop m) ∧ Hid (lchainF (S.take n) = lchainF (T.take m)) ∧ Below w11.heap.size w11 wr) (fun nv _ _ => (intOf nv).toNat)
      case atStart => exact ⟨S.length, T.length, rfl, rfl, Nat.le_refl _, Nat.le_refl _, (by rw [List.drop_length, List.drop_length] : S.drop S.length = T.drop T.length), (by rw [List.take_length, List.take_length]; exact HCH.out : lchainF (S.take S.length) = lchainF (T.take T.length)), Below.refl _ _⟩
      case round =>
        obtain ⟨n, m, rfl, rfl, hn, hm, HDR, HTK, hbr⟩ := hrel
        have hBr := hB11.trans (hbr.mono hB11.size)
        have HSR := Lib.hid (HSL.out.up hbr)
        have HTR := Lib.hid (HTL.out.up hbr)
        by_cases hn0 : n = 0
        · subst hn0
          by_cases hm0 : m = 0
          · subst hm0
            exact absurd (by have h := HDR.out; rwa [List.drop_zero, List.drop_zero] at h) HST.out
          · --NZERO
            obtain ⟨m', rfl⟩ : ∃ m', m = m' + 1 := ⟨m - 1, by omega⟩
            have hmT : m' < T.length := by omega
            have htk := take_snoc T m' hmT
            have hlk := link_any wr (T.take m') T[m'] AT cT (by rw [← htk]; exact HTR.out.take _) (by rw [List.length_take]; omega) (by rw [← htk]; exact fun x hx => HTB.out x (List.mem_of_mem_take hx))
            rw [show (T.take m').length + 1 = m' + 1 by rw [List.length_take]; omega] at hlk
            have hsum : sumF (linkL (T.take m') T[m']) = Z := by
              rw [HZ.out]
              have h1 := linkL_sum (T.take m') T[m']
              rw [cut_all _ (sumF_len _), ← htk, ← HTK.out] at h1
              rw [h1]; rfl
            have hlu := linkL_u8 (T.take m') T[m']
            have hll := linkL_len (T.take m') T[m']
            obtain ⟨P, hP⟩ : ∃ P, P = linkL (T.take m') T[m'] := ⟨_, rfl⟩
            rw [← hP] at hlk hsum hlu hll
            have hle := HTR.out.le
            have hmc : m' + 1 ≤ cT := by omega
            have HLK := Lib.hid hlk
            have HSU := Lib.hid hsum
            have HLU := Lib.hid hlu
            have HLL := Lib.hid hll
            have HNN := Lib.hid HTR.out.nn
            clear htk hlk hsum hlu hll hP hle hmT hm0
            go_wp2_with (first | ((with_reducible apply st_un); rfl) | ((with_reducible apply st_toD (sz := 1) (i := m' + 1)); exact Tryd.underlying43; kernel_rfl; rfl; rfl; (first | rfl | (push_cast; rfl)); exact hmc; exact HNN.out; exact HSPT.out))
            --MARK9
            go_at_call 25
            refine HLK.out.mono ?_
            rintro r w12 ⟨v12, rfl, hb12, ho12⟩
            obtain ⟨A12, c12, rfl, hy12, _⟩ := ho12.byt HLU.out
            have hB12 := hBr.trans (hb12.mono hBr.size)
            have hsum := refsum_any w12 P A12 c12 hy12.rd hy12.nn (by rw [HLL.out]; decide) HLU.out
            rw [HSU.out] at hsum
            have HSUM := Lib.hid hsum
            clear hsum ho12 hy12
            go_wp2_with ((with_reducible apply st_un); rfl)
            --MARK10
            go_at_call 27
            refine HSUM.out.mono ?_
            rintro r w13 ⟨rfl, hb13⟩
            have hB13 := hB12.trans (hb13.mono hB12.size)
            have heqz := HQZ.out
            go_wp2_with (first | ((with_reducible apply st_un); rfl) | ((with_reducible apply st_zeroDZ HZ)))
            --MARK11
            go_at_call 16
            refine (lives21_any _ (HK.out.up hB13)).mono ?_
            rintro r w14 ⟨rfl, hb14⟩
            go_wp2_with ((with_reducible apply st_un); rfl)
            go_ret
            exact ⟨rfl, hB13.trans (hb14.mono hB13.size)⟩
        · obtain ⟨n', rfl⟩ : ∃ n', n = n' + 1 := ⟨n - 1, by omega⟩
          clear hn0
          have hnS : n' < S.length := by omega
          have htkS := take_snoc S n' hnS
          have hlkS := fun W (h : Txts W AS cS S) => link_any W (S.take n') S[n'] AS cS (by rw [← htkS]; exact h.take _) (by rw [List.length_take]; omega) (by rw [← htkS]; exact fun x hx => HSB.out x (List.mem_of_mem_take hx))
          rw [show (S.take n').length + 1 = n' + 1 by rw [List.length_take]; omega] at hlkS
          have hluS := linkL_u8 (S.take n') S[n']
          have hllS := linkL_len (S.take n') S[n']
          have hleS := HSR.out.le
          have hnc : n' + 1 ≤ cS := by omega
          have HNNS := Lib.hid HSR.out.nn
          by_cases hm0 : m = 0
          · --MZERO
            subst hm0
            have hsum : sumF (linkL (S.take n') S[n']) = Z := by
              rw [HZ.out]
              have h1 := linkL_sum (S.take n') S[n']
              rw [cut_all _ (sumF_len _), ← htkS, HTK.out] at h1
              rw [h1]; rfl
            obtain ⟨P, hP⟩ : ∃ P, P = linkL (S.take n') S[n'] := ⟨_, rfl⟩
            rw [← hP] at hlkS hsum hluS hllS
            have HLK := Lib.hid (hlkS wr HSR.out)
            have HSU := Lib.hid hsum
            have HLU := Lib.hid hluS
            have HLL := Lib.hid hllS
            clear htkS hlkS hsum hluS hllS hP hleS hnS
            go_wp2_with (first | ((with_reducible apply st_un); rfl) | ((with_reducible apply st_toD (sz := 1) (i := n' + 1)); exact Tryd.underlying43; kernel_rfl; rfl; rfl; (first | rfl | (push_cast; rfl)); exact hnc; exact HNNS.out; exact HSPS.out))
            --MARK12
            go_at_call 25
            refine HLK.out.mono ?_
            rintro r w12 ⟨v12, rfl, hb12, ho12⟩
            obtain ⟨A12, c12, rfl, hy12, _⟩ := ho12.byt HLU.out
            have hB12 := hBr.trans (hb12.mono hBr.size)
            have hsum := refsum_any w12 P A12 c12 hy12.rd hy12.nn (by rw [HLL.out]; decide) HLU.out
            rw [HSU.out] at hsum
            have HSUM := Lib.hid hsum
            clear hsum ho12 hy12
            go_wp2_with ((with_reducible apply st_un); rfl)
            go_at_call 27
            refine HSUM.out.mono ?_
            rintro r w13 ⟨rfl, hb13⟩
            have hB13 := hB12.trans (hb13.mono hB12.size)
            have heqz := HQZ.out
            go_wp2_with (first | ((with_reducible apply st_un); rfl) | ((with_reducible apply st_zeroDZ HZ)))
            --MARK13
            go_at_call 16
            refine (lives21_any _ (HK.out.up hB13)).mono ?_
            rintro r w14 ⟨rfl, hb14⟩
            go_wp2_with ((with_reducible apply st_un); rfl)
            go_ret
            exact ⟨rfl, hB13.trans (hb14.mono hB13.size)⟩
          · obtain ⟨m', rfl⟩ : ∃ m', m = m' + 1 := ⟨m - 1, by omega⟩
            clear hm0
            have hmT : m' < T.length := by omega
            have htkT := take_snoc T m' hmT
            have hlkT := fun W (h : Txts W AT cT T) => link_any W (T.take m') T[m'] AT cT (by rw [← htkT]; exact h.take _) (by rw [List.length_take]; omega) (by rw [← htkT]; exact fun x hx => HTB.out x (List.mem_of_mem_take hx))
            rw [show (T.take m').length + 1 = m' + 1 by rw [List.length_take]; omega] at hlkT
            have hluT := linkL_u8 (T.take m') T[m']
            have hllT := linkL_len (T.take m') T[m']
            have hleT := HTR.out.le
            have hmc : m' + 1 ≤ cT := by omega
            have HNNT := Lib.hid HTR.out.nn
            have hchn := HTK.out
            rw [htkS, htkT] at hchn
            have hisl : linkL (S.take n') S[n'] ≠ linkL (T.take m') T[m'] → IsF (linkL (S.take n') S[n']) (linkL (T.take m') T[m']) 256 := is_link hchn
            have hlke : linkL (S.take n') S[n'] = linkL (T.take m') T[m'] → lchainF (S.take n') = lchainF (T.take m') ∧ leafF S[n'] 256 = leafF T[m'] 256 := link_eq
            have hisf : leafF S[n'] 256 = leafF T[m'] 256 → S[n'] ≠ T[m'] → IsF (0 :: S[n']) (0 :: T[m']) 256 := is_leaf
            have hdS := drop_consC S n' hnS
            have hdT := drop_consC T m' hmT
            obtain ⟨gS, oS, hAS, hgS, hcS⟩ := HSR.out.get (by omega)
            obtain ⟨gT, oT, hAT, hgT, hcT⟩ := HTR.out.get (by omega)
            obtain ⟨BS, eS, hcelS, hbyS⟩ := hcS n' hnS
            obtain ⟨BT, eT, hcelT, hbyT⟩ := hcT m' hmT
            have hbS := HSB.out _ (List.getElem_mem hnS)
            have hbT := HTB.out _ (List.getElem_mem hmT)
            obtain ⟨P, hP⟩ : ∃ P, P = linkL (S.take n') S[n'] := ⟨_, rfl⟩
            obtain ⟨R, hR⟩ : ∃ R, R = linkL (T.take m') T[m'] := ⟨_, rfl⟩
            rw [← hP] at hlkS hluS hllS hisl hlke
            rw [← hR] at hlkT hluT hllT hisl hlke
            obtain ⟨x, hx⟩ : ∃ x, x = S[n'] := ⟨_, rfl⟩
            obtain ⟨y, hy⟩ : ∃ y, y = T[m'] := ⟨_, rfl⟩
            rw [← hx] at hcelS hbyS hbS hlke hisf hdS
            rw [← hy] at hcelT hbyT hbT hlke hisf hdT
            have HLKS := Lib.hid hlkS
            have HLKT := Lib.hid hlkT
            have HLUS := Lib.hid hluS
            have HLUT := Lib.hid hluT
            have HLL := Lib.hid (And.intro hllS hllT)
            have HISL := Lib.hid hisl
            have HLKE := Lib.hid hlke
            have HISF := Lib.hid hisf
            have HDD := Lib.hid (And.intro hdS hdT)
            have HBYS := Lib.hid hbyS
            have HBYT := Lib.hid hbyT
            have HASA := Lib.hid (And.intro hAS hAT)
            clear htkS hlkS hluS hllS hleS htkT hlkT hluT hllT hleT hchn hisl hlke hisf hdS hdT hcS hcT hbyS hbyT hP hR hx hy hAS hAT
            go_wp2_with ((with_reducible apply st_un); rfl)
            --MARK14
            refine wp_region_C (Same [] wr) [3, 7] (by kernel_rfl) (by kernel_rfl) (by intro c a w h; first | (obtain ⟨_, h, _⟩ := h; cases h; done) | (obtain ⟨_, _, h, _⟩ := h; cases h; done) | (obtain ⟨_, _, _, h, _⟩ := h; cases h; done) | (obtain ⟨_, _, _, _, h, _⟩ := h; cases h; done) | (rcases h with ⟨_, ⟨_, _, _, _, h, _⟩ | ⟨_, _, _, _, h, _⟩⟩ <;> cases h; done)) (by intro a w h; first | (obtain ⟨h, _⟩ := h; cases h; done) | (obtain ⟨_, h, _⟩ := h; cases h; done) | (obtain ⟨_, _, h, _⟩ := h; cases h; done) | (obtain ⟨_, _, _, h, _⟩ := h; cases h; done) | (rcases h with ⟨_, _, _, _, h, _⟩ | ⟨_, _, _, _, h, _⟩ <;> cases h; done)) (Same.refl _ _) ?_
            repeat (refine wd_w (v := ?_) rfl rfl rfl rfl rfl rfl (fun w' hw' K hK => ?_) ?_; rotate_left; (skip; go_wp2_with ((first | ((with_reducible apply st_toD (sz := 1) (i := n' + 1)); exact Tryd.underlying43; kernel_rfl; rfl; rfl; (first | rfl | (push_cast; rfl)); exact hnc; exact HNNS.out; exact HSPS.out))); exact rfl); simp only [Act.put, List.setIfInBounds_toArray, List.set_cons_zero, List.set_cons_succ])
            --MARK15
            refine wd_l rfl rfl (by intro a w h; first | (obtain ⟨h, _⟩ := h; cases h; done) | (obtain ⟨_, h, _⟩ := h; cases h; done) | (obtain ⟨_, _, h, _⟩ := h; cases h; done) | (obtain ⟨_, _, _, h, _⟩ := h; cases h; done) | (rcases h with ⟨_, _, _, _, h, _⟩ | ⟨_, _, _, _, h, _⟩ <;> cases h; done)) ?_
            go_wp2_with fail
            go_at_call 25
            refine (HLKS.out _ (HSR.out.up ((Below.refl _ _).drew))).mono ?_
            rintro r w12 ⟨v12, rfl, hb12, ho12⟩
            obtain ⟨A12, c12, rfl, hy12, _⟩ := ho12.byt HLUS.out
            have hb12 : Below wr.heap.size wr w12 := (Below.refl wr.heap.size wr).drew.trans hb12
            go_wp2_with fail
            refine ⟨.inr (fun gg hg => by simp at hg), ?_⟩
            repeat (refine wd_w (v := ?_) rfl rfl rfl rfl rfl rfl (fun w' hw' K hK => ?_) ?_; rotate_left; (skip; go_wp2_with ((first | ((with_reducible apply st_toD (sz := 1) (i := m' + 1)); exact Tryd.underlying43; kernel_rfl; rfl; rfl; (first | rfl | (push_cast; rfl)); exact hmc; exact HNNT.out; exact HSPT.out))); exact rfl); simp only [Act.put, List.setIfInBounds_toArray, List.set_cons_zero, List.set_cons_succ])
            --MARK16
            refine wd_l rfl rfl (by intro a w h; first | (obtain ⟨h, _⟩ := h; cases h; done) | (obtain ⟨_, h, _⟩ := h; cases h; done) | (obtain ⟨_, _, h, _⟩ := h; cases h; done) | (obtain ⟨_, _, _, h, _⟩ := h; cases h; done) | (rcases h with ⟨_, _, _, _, h, _⟩ | ⟨_, _, _, _, h, _⟩ <;> cases h; done)) ?_
            go_wp2_with fail
            go_at_call 25
            refine (HLKT.out w12 (HTR.out.up hb12)).mono ?_
            rintro r w13 ⟨v13, rfl, hb13, ho13⟩
            obtain ⟨A13, c13, rfl, hy13, _⟩ := ho13.byt HLUT.out
            have hb13' := hb12.trans (hb13.mono hb12.size)
            have hB13 := hBr.trans (hb13'.mono hBr.size)
            have HY12 := Lib.hid (hy12.up hb13)
            have HY13 := Lib.hid hy13
            clear ho12 ho13 hy12 hy13
            go_wp2_with fail
            refine ⟨.inr (fun gg hg => by simp at hg), ?_⟩
            repeat (refine wd_w (v := ?_) rfl rfl rfl rfl rfl rfl (fun w' hw' K hK => ?_) ?_; rotate_left; (skip; go_wp2_with (fail); exact rfl); simp only [Act.put, List.setIfInBounds_toArray, List.set_cons_zero, List.set_cons_succ])
            refine wd_nil ?_
            have HSM := Lib.hid (refsame_any w13 A12 A13 c12 c13 P R HY12.out.rd HY13.out.rd (by rw [HLL.out.2]; decide))
            go_wp2_with fail
            --MARK17
            go_at_call 12
            by_cases hPR : P = R
            · have hcall := HSM.out
              rw [decide_eq_true hPR] at hcall
              refine hcall.mono ?_
              clear hcall
              rintro r w14 ⟨rfl, hb14⟩
              have hb14' := hb13'.trans (hb14.mono hb13'.size)
              have hB14 := hB13.trans (hb14.mono hB13.size)
              have hle2 := HLKE.out hPR
              have HLE := Lib.hid hle2
              have cS1 := (hb14'.cell (p := ⟨gS, oS + n', none⟩) hgS).trans hcelS
              have cT1 := (hb14'.cell (p := ⟨gT, oT + m', none⟩) hgT).trans hcelT
              have hgS' := Nat.lt_of_lt_of_le hgS hb14'.size
              have hgT' := Nat.lt_of_lt_of_le hgT hb14'.size
              obtain ⟨rfl, rfl⟩ := HASA.out
              clear hPR hle2 hcelS hcelT
              go_wp2_with fail
              --MARK18
              refine wp_region_C (Same [gS, gT] w14) [10] (by kernel_rfl) (by kernel_rfl) (by intro c a w h; first | (obtain ⟨_, h, _⟩ := h; cases h; done) | (obtain ⟨_, _, h, _⟩ := h; cases h; done) | (obtain ⟨_, _, _, h, _⟩ := h; cases h; done) | (obtain ⟨_, _, _, _, h, _⟩ := h; cases h; done) | (rcases h with ⟨_, ⟨_, _, _, _, h, _⟩ | ⟨_, _, _, _, h, _⟩⟩ <;> cases h; done)) (by intro a w h; first | (obtain ⟨h, _⟩ := h; cases h; done) | (obtain ⟨_, h, _⟩ := h; cases h; done) | (obtain ⟨_, _, h, _⟩ := h; cases h; done) | (obtain ⟨_, _, _, h, _⟩ := h; cases h; done) | (rcases h with ⟨_, _, _, _, h, _⟩ | ⟨_, _, _, _, h, _⟩ <;> cases h; done)) (Same.refl _ _) ?_
              repeat (refine wd_w (v := ?_) rfl rfl rfl rfl rfl rfl (fun w' hw' K hK => ?_) ?_; rotate_left; (have q1 := (hw'.cell gS (by simp) _).trans cS1; have q2 := (hw'.cell gT (by simp) _).trans cT1; go_wp2_with (fail); exact rfl); simp only [Act.put, List.setIfInBounds_toArray, List.set_cons_zero, List.set_cons_succ])
              --MARK19
              refine wd_l rfl rfl (by intro a w h; first | (obtain ⟨h, _⟩ := h; cases h; done) | (obtain ⟨_, h, _⟩ := h; cases h; done) | (obtain ⟨_, _, h, _⟩ := h; cases h; done) | (obtain ⟨_, _, _, h, _⟩ := h; cases h; done) | (rcases h with ⟨_, _, _, _, h, _⟩ | ⟨_, _, _, _, h, _⟩ <;> cases h; done)) ?_
              go_wp2_with fail
              go_at_call 12
              have hbd : Below wr.heap.size wr w14.drew := hb14'.drew
              have hcall := refsame_any w14.drew BS BT eS eT x y (HBYS.out.up hbd).rd (HBYT.out.up hbd).rd (by omega)
              by_cases hxy : x = y
              · rw [decide_eq_true hxy] at hcall
                refine hcall.mono ?_
                clear hcall
                rintro r w15 ⟨rfl, hb15⟩
                have hb15 : Below w14.heap.size w14 w15 := (Below.refl w14.heap.size w14).drew.trans hb15
                have hbw := (hbr.trans (hb14'.mono hbr.size)).trans (hb15.mono (by have := hbr.size; have := hb14'.size; omega))
                have hdr2 : Hid (S.drop n' = T.drop m') := by
                  show S.drop n' = T.drop m'
                  rw [HDD.out.1, HDD.out.2, hxy, HDR.out]
                have htk2 : Hid (lchainF (S.take n') = lchainF (T.take m')) := HLE.out.1
                clear hxy hbd
                go_wp2_with fail
                refine ⟨.inr (fun gg hg => hb15.block gg (by simp at hg; omega)), ?_⟩
                repeat (refine wd_w (v := ?_) rfl rfl rfl rfl rfl rfl (fun w' hw' K hK => ?_) ?_; rotate_left; (skip; go_wp2_with (fail); exact rfl); simp only [Act.put, List.setIfInBounds_toArray, List.set_cons_zero, List.set_cons_succ])
                refine wd_nil ?_
                go_wp2_with fail
                --MARK20
                go_roundw
                case rel => first | exact ⟨n', m', by go_num, by go_num, by omega, by omega, hdr2, htk2, hbw⟩ | ((repeat apply Exists.intro); refine ⟨⟨n', m', ?_, ?_, by omega, by omega, hdr2, htk2, hbw⟩, rfl⟩ <;> go_num)
                case measure => simp [intOf]
              · rw [decide_eq_false hxy] at hcall
                refine hcall.mono ?_
                clear hcall
                rintro r w15 ⟨rfl, hb15⟩
                have hb15 : Below w14.heap.size w14 w15 := (Below.refl w14.heap.size w14).drew.trans hb15
                have hb15' := hb14'.trans (hb15.mono hb14'.size)
                have hB15 := hB14.trans (hb15.mono hB14.size)
                have his0 := HISF.out HLE.out.2 hxy
                obtain ⟨xa, hxa⟩ : ∃ xa, xa = [0] ++ x := ⟨_, rfl⟩
                obtain ⟨ya, hya⟩ : ∃ ya, ya = [0] ++ y := ⟨_, rfl⟩
                have HIS : Hid (IsF xa ya 256) := by rw [hxa, hya]; exact his0
                have HXA := Lib.hid hxa
                have HYA := Lib.hid hya
                have HXU : Hid (U8 xa) := by rw [hxa]; exact cons_u8 HBYS.out.u
                have HYU : Hid (U8 ya) := by rw [hya]; exact cons_u8 HBYT.out.u
                have HXYL : Hid (xa.length ≤ 1000000 ∧ ya.length ≤ 1000000) := by rw [hxa, hya]; exact ⟨by simp; omega, by simp; omega⟩
                clear his0 hxa hya
                have d1 := (hb15.cell (p := ⟨gS, oS + n', none⟩) hgS').trans cS1
                have d2 := (hb15.cell (p := ⟨gT, oT + m', none⟩) hgT').trans cT1
                have hgS2 := Nat.lt_of_lt_of_le hgS' hb15.size
                have hgT2 := Nat.lt_of_lt_of_le hgT' hb15.size
                have HBX := Lib.hid (HBYS.out.up hb15')
                have HBYY := Lib.hid (HBYT.out.up hb15')
                clear hxy hbd
                go_wp2_with fail
                refine ⟨.inr (fun gg hg => hb15.block gg (by simp at hg; omega)), ?_⟩
                repeat (refine wd_w (v := ?_) rfl rfl rfl rfl rfl rfl (fun w' hw' K hK => ?_) ?_; rotate_left; (skip; go_wp2_with (fail); exact rfl); simp only [Act.put, List.setIfInBounds_toArray, List.set_cons_zero, List.set_cons_succ])
                refine wd_nil ?_
                go_upto_region 18 with (fail)
                clear cS1 cT1
                --MARK21
                refine wp_region_O2 (Same [gS, gT] w15) [0, 6, 7, 13, 15, 17] [] [[0, 1, 2, 3, 4, 5, 6, 7, 8, 9, 10, 11, 12, 13, 14, 15, 16, 17, 18, 19], [0, 1, 2, 3, 4, 5, 7, 6, 8, 9, 10, 11, 12, 13, 14, 15, 16, 17, 18, 19], [7, 0, 1, 2, 3, 4, 5, 6, 8, 9, 10, 11, 12, 13, 14, 15, 16, 17, 18, 19]] (by kernel_rfl) (by kernel_rfl) (by intro c a w h; first | (obtain ⟨_, h, _⟩ := h; cases h; done) | (obtain ⟨_, _, h, _⟩ := h; cases h; done) | (obtain ⟨_, _, _, h, _⟩ := h; cases h; done) | (obtain ⟨_, _, _, _, h, _⟩ := h; cases h; done) | (rcases h with ⟨_, ⟨_, _, _, _, h, _⟩ | ⟨_, _, _, _, h, _⟩⟩ <;> cases h; done)) (by intro a w h; first | (obtain ⟨h, _⟩ := h; cases h; done) | (obtain ⟨_, h, _⟩ := h; cases h; done) | (obtain ⟨_, _, h, _⟩ := h; cases h; done) | (obtain ⟨_, _, _, h, _⟩ := h; cases h; done) | (rcases h with ⟨_, _, _, _, h, _⟩ | ⟨_, _, _, _, h, _⟩ <;> cases h; done)) (Same.refl _ _) ?_
                intro LO hLO
                simp only [List.mem_cons, List.not_mem_nil, or_false] at hLO
                obtain ⟨wd0, hwd0⟩ : ∃ W, W = w15.drew := ⟨_, rfl⟩
                have hbd0 : Below w15.heap.size w15 wd0 := by rw [hwd0]; exact (Below.refl _ _).drew
                rw [← hwd0]
                clear hwd0
                rcases hLO with rfl | rfl | rfl
                · --ORDER1
                  refine wo_l rfl rfl rfl (by intro a w h; first | (obtain ⟨h, _⟩ := h; cases h; done) | (obtain ⟨_, h, _⟩ := h; cases h; done) | (obtain ⟨_, _, h, _⟩ := h; cases h; done) | (obtain ⟨_, _, _, h, _⟩ := h; cases h; done) | (rcases h with ⟨_, _, _, _, h, _⟩ | ⟨_, _, _, _, h, _⟩ <;> cases h; done)) ?_
                  go_wp2_with fail
                  have ba := hbd0.alloc hbd0.size (.cells #[.int .u8 0] 5)
                  have oa := own_bld (base := w15.heap.size) (W := wd0) hbd0.size
                  obtain ⟨wa, hwa⟩ : ∃ W, W = wd0.alloc (.cells #[.int .u8 0] 5) := ⟨_, rfl⟩
                  obtain ⟨ga, hga⟩ : ∃ G, G = wd0.heap.size := ⟨_, rfl⟩
                  rw [← hwa, ← hga] at oa
                  rw [← hwa] at ba
                  rw [← hwa]
                  try rw [← hga]
                  clear hwa hga
                  refine ⟨fun gg hg => ba.block gg (by simp at hg; omega), ?_⟩
                  try simp only [Act.put, List.setIfInBounds_toArray, List.set_cons_zero, List.set_cons_succ]
                  repeat (refine wo_w (v := ?_) rfl rfl rfl rfl rfl rfl rfl (fun w' hw' K hK => ?_) ?_; rotate_left; (have q1 := (hw'.cell gS (by simp) _).trans d1; have q2 := (hw'.cell gT (by simp) _).trans d2; go_wp2_with (fail); exact rfl); simp only [Act.put, List.setIfInBounds_toArray, List.set_cons_zero, List.set_cons_succ])
                  refine wo_l rfl rfl rfl (by intro a w h; first | (obtain ⟨h, _⟩ := h; cases h; done) | (obtain ⟨_, h, _⟩ := h; cases h; done) | (obtain ⟨_, _, h, _⟩ := h; cases h; done) | (obtain ⟨_, _, _, h, _⟩ := h; cases h; done) | (rcases h with ⟨_, _, _, _, h, _⟩ | ⟨_, _, _, _, h, _⟩ <;> cases h; done)) ?_
                  go_wp2_with ((with_reducible apply st_growK (base := w15.heap.size) (v := (.slice (some ⟨ga, 0, none⟩) 1 1)) (xs := [0]) (ys := x)); rfl; rfl; exact oa; exact (HBX.out.up ba).rd; exact (HBX.out.up ba).nn; exact HBX.out.le; (simp; omega); exact ba.size; intro va wa6 hoa hga hata)
                  have ka : Below w15.heap.size w15 wa6 := ba.grown hga ba.size (fun k hk => (oa.lt k hk).1)
                  rw [← HXA.out] at hoa
                  obtain ⟨Qa, Ca, rfl, -, -⟩ := hoa.byt HXU.out
                  refine ⟨fun gg hg => ka.block gg (by simp at hg; omega), ?_⟩
                  try simp only [Act.put, List.setIfInBounds_toArray, List.set_cons_zero, List.set_cons_succ]
                  refine wo_l rfl rfl rfl (by intro a w h; first | (obtain ⟨h, _⟩ := h; cases h; done) | (obtain ⟨_, h, _⟩ := h; cases h; done) | (obtain ⟨_, _, h, _⟩ := h; cases h; done) | (obtain ⟨_, _, _, h, _⟩ := h; cases h; done) | (rcases h with ⟨_, _, _, _, h, _⟩ | ⟨_, _, _, _, h, _⟩ <;> cases h; done)) ?_
                  go_wp2_with fail
                  have bb := ka.alloc ka.size (.cells #[.int .u8 0] 5)
                  have ob := own_bld (base := w15.heap.size) (W := wa6) ka.size
                  have dd := own_d hoa
                  have hoa := own_keepA hoa (.cells #[.int .u8 0] 5)
                  obtain ⟨wb, hwb⟩ : ∃ W, W = wa6.alloc (.cells #[.int .u8 0] 5) := ⟨_, rfl⟩
                  obtain ⟨gb, hgb⟩ : ∃ G, G = wa6.heap.size := ⟨_, rfl⟩
                  rw [← hwb, ← hgb] at ob
                  rw [← hwb] at bb
                  rw [← hgb] at dd
                  rw [← hwb] at hoa
                  rw [← hwb]
                  try rw [← hgb]
                  clear hwb hgb
                  refine ⟨fun gg hg => bb.block gg (by simp at hg; omega), ?_⟩
                  try simp only [Act.put, List.setIfInBounds_toArray, List.set_cons_zero, List.set_cons_succ]
                  repeat (refine wo_w (v := ?_) rfl rfl rfl rfl rfl rfl rfl (fun w' hw' K hK => ?_) ?_; rotate_left; (have q1 := (hw'.cell gS (by simp) _).trans d1; have q2 := (hw'.cell gT (by simp) _).trans d2; go_wp2_with (fail); exact rfl); simp only [Act.put, List.setIfInBounds_toArray, List.set_cons_zero, List.set_cons_succ])
                  refine wo_l rfl rfl rfl (by intro a w h; first | (obtain ⟨h, _⟩ := h; cases h; done) | (obtain ⟨_, h, _⟩ := h; cases h; done) | (obtain ⟨_, _, h, _⟩ := h; cases h; done) | (obtain ⟨_, _, _, h, _⟩ := h; cases h; done) | (rcases h with ⟨_, _, _, _, h, _⟩ | ⟨_, _, _, _, h, _⟩ <;> cases h; done)) ?_
                  go_wp2_with ((with_reducible apply st_growK (base := w15.heap.size) (v := (.slice (some ⟨gb, 0, none⟩) 1 1)) (xs := [0]) (ys := y)); rfl; rfl; exact ob; exact (HBYY.out.up bb).rd; exact (HBYY.out.up bb).nn; exact HBYY.out.le; (simp; omega); exact bb.size; intro vb wb6 hob hgb hatb)
                  have kb : Below w15.heap.size w15 wb6 := bb.grown hgb bb.size (fun k hk => (ob.lt k hk).1)
                  have dn := own_dG hoa dd hatb
                  have hoa := own_keepG hoa dd hgb
                  clear dd
                  have dd := dn
                  clear dn
                  rw [← HYA.out] at hob
                  obtain ⟨Qb, Cb, rfl, -, -⟩ := hob.byt HYU.out
                  refine ⟨fun gg hg => kb.block gg (by simp at hg; omega), ?_⟩
                  try simp only [Act.put, List.setIfInBounds_toArray, List.set_cons_zero, List.set_cons_succ]
                  repeat (refine wo_w (v := ?_) rfl rfl rfl rfl rfl rfl rfl (fun w' hw' K hK => ?_) ?_; rotate_left; (have q1 := (hw'.cell gS (by simp) _).trans d1; have q2 := (hw'.cell gT (by simp) _).trans d2; go_wp2_with (fail); exact rfl); simp only [Act.put, List.setIfInBounds_toArray, List.set_cons_zero, List.set_cons_succ])
                  --MARKI1
                  obtain ⟨_, _, hv1, hy1, _⟩ := hoa.byt HXU.out
                  injection hv1 with e1 e2 e3
                  subst e1; subst e3
                  obtain ⟨_, _, hv2, hy2, _⟩ := hob.byt HYU.out
                  injection hv2 with e1 e2 e3
                  subst e1; subst e3
                  have hBw := hB15.trans (kb.mono hB15.size)
                  have his := refis_any wb6 xa ya Qa Qb Ca Cb hy1 hy2 HXYL.out.1 HXYL.out.2 256
                  rw [decide_eq_true HIS.out] at his
                  have HISC := Lib.hid his
                  clear his
                  refine wo_l rfl rfl rfl (by intro a w h; first | (obtain ⟨h, _⟩ := h; cases h; done) | (obtain ⟨_, h, _⟩ := h; cases h; done) | (obtain ⟨_, _, h, _⟩ := h; cases h; done) | (obtain ⟨_, _, _, h, _⟩ := h; cases h; done) | (rcases h with ⟨_, _, _, _, h, _⟩ | ⟨_, _, _, _, h, _⟩ <;> cases h; done)) ?_
                  go_wp2_with fail
                  go_at_call 26
                  refine HISC.out.mono ?_
                  rintro r w20 ⟨rfl, hb20⟩
                  have b20 := kb.trans (hb20.mono kb.size)
                  have hB20 := hBw.trans (hb20.mono hBw.size)
                  go_wp2_with fail
                  refine ⟨fun gg hg => b20.block gg (by simp at hg; omega), ?_⟩
                  try simp only [Act.put, List.setIfInBounds_toArray, List.set_cons_zero, List.set_cons_succ]
                  repeat (refine wo_w (v := ?_) rfl rfl rfl rfl rfl rfl rfl (fun w' hw' K hK => ?_) ?_; rotate_left; (have q1 := (hw'.cell gS (by simp) _).trans d1; have q2 := (hw'.cell gT (by simp) _).trans d2; go_wp2_with (fail); exact rfl); simp only [Act.put, List.setIfInBounds_toArray, List.set_cons_zero, List.set_cons_succ])
                  refine wo_lg rfl rfl rfl (by intro a w h; first | (obtain ⟨h, _⟩ := h; cases h; done) | (obtain ⟨_, h, _⟩ := h; cases h; done) | (obtain ⟨_, _, h, _⟩ := h; cases h; done) | (obtain ⟨_, _, _, h, _⟩ := h; cases h; done) | (rcases h with ⟨_, _, _, _, h, _⟩ | ⟨_, _, _, _, h, _⟩ <;> cases h; done)) ?_
                  go_wp2_with fail
                  go_at_call 16
                  refine (lives21_any _ (HK.out.up hB20)).mono ?_
                  rintro r w21 ⟨rfl, hb21⟩
                  have b21 := b20.trans (hb21.mono b20.size)
                  have hB21 := hB20.trans (hb21.mono hB20.size)
                  go_wp2_with fail
                  refine ⟨fun gg hg => b21.block gg (by simp at hg; omega), ?_⟩
                  try simp only [Act.put, List.setIfInBounds_toArray, List.set_cons_zero, List.set_cons_succ]
                  refine wo_pick (b := true) (v := .bool true) rfl rfl rfl rfl rfl rfl ?_
                  try simp only [Act.put, List.setIfInBounds_toArray, List.set_cons_zero, List.set_cons_succ]
                  repeat (refine wo_w (v := ?_) rfl rfl rfl rfl rfl rfl rfl (fun w' hw' K hK => ?_) ?_; rotate_left; (have q1 := (hw'.cell gS (by simp) _).trans d1; have q2 := (hw'.cell gT (by simp) _).trans d2; go_wp2_with (fail); exact rfl); simp only [Act.put, List.setIfInBounds_toArray, List.set_cons_zero, List.set_cons_succ])
                  refine wo_nil ?_
                  go_wp2_with fail
                  go_ret
                  exact ⟨rfl, hB21⟩
                · --ORDER2
                  refine wo_l rfl rfl rfl (by intro a w h; first | (obtain ⟨h, _⟩ := h; cases h; done) | (obtain ⟨_, h, _⟩ := h; cases h; done) | (obtain ⟨_, _, h, _⟩ := h; cases h; done) | (obtain ⟨_, _, _, h, _⟩ := h; cases h; done) | (rcases h with ⟨_, _, _, _, h, _⟩ | ⟨_, _, _, _, h, _⟩ <;> cases h; done)) ?_
                  go_wp2_with fail
                  have ba := hbd0.alloc hbd0.size (.cells #[.int .u8 0] 5)
                  have oa := own_bld (base := w15.heap.size) (W := wd0) hbd0.size
                  obtain ⟨wa, hwa⟩ : ∃ W, W = wd0.alloc (.cells #[.int .u8 0] 5) := ⟨_, rfl⟩
                  obtain ⟨ga, hga⟩ : ∃ G, G = wd0.heap.size := ⟨_, rfl⟩
                  rw [← hwa, ← hga] at oa
                  rw [← hwa] at ba
                  rw [← hwa]
                  try rw [← hga]
                  clear hwa hga
                  refine ⟨fun gg hg => ba.block gg (by simp at hg; omega), ?_⟩
                  try simp only [Act.put, List.setIfInBounds_toArray, List.set_cons_zero, List.set_cons_succ]
                  repeat (refine wo_w (v := ?_) rfl rfl rfl rfl rfl rfl rfl (fun w' hw' K hK => ?_) ?_; rotate_left; (have q1 := (hw'.cell gS (by simp) _).trans d1; have q2 := (hw'.cell gT (by simp) _).trans d2; go_wp2_with (fail); exact rfl); simp only [Act.put, List.setIfInBounds_toArray, List.set_cons_zero, List.set_cons_succ])
                  refine wo_l rfl rfl rfl (by intro a w h; first | (obtain ⟨h, _⟩ := h; cases h; done) | (obtain ⟨_, h, _⟩ := h; cases h; done) | (obtain ⟨_, _, h, _⟩ := h; cases h; done) | (obtain ⟨_, _, _, h, _⟩ := h; cases h; done) | (rcases h with ⟨_, _, _, _, h, _⟩ | ⟨_, _, _, _, h, _⟩ <;> cases h; done)) ?_
                  go_wp2_with fail
                  have bb := ba.alloc ba.size (.cells #[.int .u8 0] 5)
                  have ob := own_bld (base := w15.heap.size) (W := wa) ba.size
                  have dd := own_d oa
                  have oa := own_keepA oa (.cells #[.int .u8 0] 5)
                  obtain ⟨wb, hwb⟩ : ∃ W, W = wa.alloc (.cells #[.int .u8 0] 5) := ⟨_, rfl⟩
                  obtain ⟨gb, hgb⟩ : ∃ G, G = wa.heap.size := ⟨_, rfl⟩
                  rw [← hwb, ← hgb] at ob
                  rw [← hwb] at bb
                  rw [← hgb] at dd
                  rw [← hwb] at oa
                  rw [← hwb]
                  try rw [← hgb]
                  clear hwb hgb
                  refine ⟨fun gg hg => bb.block gg (by simp at hg; omega), ?_⟩
                  try simp only [Act.put, List.setIfInBounds_toArray, List.set_cons_zero, List.set_cons_succ]
                  refine wo_l rfl rfl rfl (by intro a w h; first | (obtain ⟨h, _⟩ := h; cases h; done) | (obtain ⟨_, h, _⟩ := h; cases h; done) | (obtain ⟨_, _, h, _⟩ := h; cases h; done) | (obtain ⟨_, _, _, h, _⟩ := h; cases h; done) | (rcases h with ⟨_, _, _, _, h, _⟩ | ⟨_, _, _, _, h, _⟩ <;> cases h; done)) ?_
                  go_wp2_with ((with_reducible apply st_growK (base := w15.heap.size) (v := (.slice (some ⟨ga, 0, none⟩) 1 1)) (xs := [0]) (ys := x)); rfl; rfl; exact oa; exact (HBX.out.up bb).rd; exact (HBX.out.up bb).nn; exact HBX.out.le; (simp; omega); exact bb.size; intro va wa6 hoa hga hata)
                  have ka : Below w15.heap.size w15 wa6 := bb.grown hga bb.size (fun k hk => (oa.lt k hk).1)
                  have dn := own_dG ob dd.symm hata
                  have ob := own_keepG ob dd.symm hga
                  clear dd
                  have dd := dn
                  clear dn
                  rw [← HXA.out] at hoa
                  obtain ⟨Qa, Ca, rfl, -, -⟩ := hoa.byt HXU.out
                  refine ⟨fun gg hg => ka.block gg (by simp at hg; omega), ?_⟩
                  try simp only [Act.put, List.setIfInBounds_toArray, List.set_cons_zero, List.set_cons_succ]
                  repeat (refine wo_w (v := ?_) rfl rfl rfl rfl rfl rfl rfl (fun w' hw' K hK => ?_) ?_; rotate_left; (have q1 := (hw'.cell gS (by simp) _).trans d1; have q2 := (hw'.cell gT (by simp) _).trans d2; go_wp2_with (fail); exact rfl); simp only [Act.put, List.setIfInBounds_toArray, List.set_cons_zero, List.set_cons_succ])
                  refine wo_l rfl rfl rfl (by intro a w h; first | (obtain ⟨h, _⟩ := h; cases h; done) | (obtain ⟨_, h, _⟩ := h; cases h; done) | (obtain ⟨_, _, h, _⟩ := h; cases h; done) | (obtain ⟨_, _, _, h, _⟩ := h; cases h; done) | (rcases h with ⟨_, _, _, _, h, _⟩ | ⟨_, _, _, _, h, _⟩ <;> cases h; done)) ?_
                  go_wp2_with ((with_reducible apply st_growK (base := w15.heap.size) (v := (.slice (some ⟨gb, 0, none⟩) 1 1)) (xs := [0]) (ys := y)); rfl; rfl; exact ob; exact (HBYY.out.up ka).rd; exact (HBYY.out.up ka).nn; exact HBYY.out.le; (simp; omega); exact ka.size; intro vb wb6 hob hgb hatb)
                  have kb : Below w15.heap.size w15 wb6 := ka.grown hgb ka.size (fun k hk => (ob.lt k hk).1)
                  have dn := own_dG hoa dd.symm hatb
                  have hoa := own_keepG hoa dd.symm hgb
                  clear dd
                  have dd := dn
                  clear dn
                  rw [← HYA.out] at hob
                  obtain ⟨Qb, Cb, rfl, -, -⟩ := hob.byt HYU.out
                  refine ⟨fun gg hg => kb.block gg (by simp at hg; omega), ?_⟩
                  try simp only [Act.put, List.setIfInBounds_toArray, List.set_cons_zero, List.set_cons_succ]
                  repeat (refine wo_w (v := ?_) rfl rfl rfl rfl rfl rfl rfl (fun w' hw' K hK => ?_) ?_; rotate_left; (have q1 := (hw'.cell gS (by simp) _).trans d1; have q2 := (hw'.cell gT (by simp) _).trans d2; go_wp2_with (fail); exact rfl); simp only [Act.put, List.setIfInBounds_toArray, List.set_cons_zero, List.set_cons_succ])
                  --MARKI2
                  obtain ⟨_, _, hv1, hy1, _⟩ := hoa.byt HXU.out
                  injection hv1 with e1 e2 e3
                  subst e1; subst e3
                  obtain ⟨_, _, hv2, hy2, _⟩ := hob.byt HYU.out
                  injection hv2 with e1 e2 e3
                  subst e1; subst e3
                  have hBw := hB15.trans (kb.mono hB15.size)
                  have his := refis_any wb6 xa ya Qa Qb Ca Cb hy1 hy2 HXYL.out.1 HXYL.out.2 256
                  rw [decide_eq_true HIS.out] at his
                  have HISC := Lib.hid his
                  clear his
                  refine wo_l rfl rfl rfl (by intro a w h; first | (obtain ⟨h, _⟩ := h; cases h; done) | (obtain ⟨_, h, _⟩ := h; cases h; done) | (obtain ⟨_, _, h, _⟩ := h; cases h; done) | (obtain ⟨_, _, _, h, _⟩ := h; cases h; done) | (rcases h with ⟨_, _, _, _, h, _⟩ | ⟨_, _, _, _, h, _⟩ <;> cases h; done)) ?_
                  go_wp2_with fail
                  go_at_call 26
                  refine HISC.out.mono ?_
                  rintro r w20 ⟨rfl, hb20⟩
                  have b20 := kb.trans (hb20.mono kb.size)
                  have hB20 := hBw.trans (hb20.mono hBw.size)
                  go_wp2_with fail
                  refine ⟨fun gg hg => b20.block gg (by simp at hg; omega), ?_⟩
                  try simp only [Act.put, List.setIfInBounds_toArray, List.set_cons_zero, List.set_cons_succ]
                  repeat (refine wo_w (v := ?_) rfl rfl rfl rfl rfl rfl rfl (fun w' hw' K hK => ?_) ?_; rotate_left; (have q1 := (hw'.cell gS (by simp) _).trans d1; have q2 := (hw'.cell gT (by simp) _).trans d2; go_wp2_with (fail); exact rfl); simp only [Act.put, List.setIfInBounds_toArray, List.set_cons_zero, List.set_cons_succ])
                  refine wo_lg rfl rfl rfl (by intro a w h; first | (obtain ⟨h, _⟩ := h; cases h; done) | (obtain ⟨_, h, _⟩ := h; cases h; done) | (obtain ⟨_, _, h, _⟩ := h; cases h; done) | (obtain ⟨_, _, _, h, _⟩ := h; cases h; done) | (rcases h with ⟨_, _, _, _, h, _⟩ | ⟨_, _, _, _, h, _⟩ <;> cases h; done)) ?_
                  go_wp2_with fail
                  go_at_call 16
                  refine (lives21_any _ (HK.out.up hB20)).mono ?_
                  rintro r w21 ⟨rfl, hb21⟩
                  have b21 := b20.trans (hb21.mono b20.size)
                  have hB21 := hB20.trans (hb21.mono hB20.size)
                  go_wp2_with fail
                  refine ⟨fun gg hg => b21.block gg (by simp at hg; omega), ?_⟩
                  try simp only [Act.put, List.setIfInBounds_toArray, List.set_cons_zero, List.set_cons_succ]
                  refine wo_pick (b := true) (v := .bool true) rfl rfl rfl rfl rfl rfl ?_
                  try simp only [Act.put, List.setIfInBounds_toArray, List.set_cons_zero, List.set_cons_succ]
                  repeat (refine wo_w (v := ?_) rfl rfl rfl rfl rfl rfl rfl (fun w' hw' K hK => ?_) ?_; rotate_left; (have q1 := (hw'.cell gS (by simp) _).trans d1; have q2 := (hw'.cell gT (by simp) _).trans d2; go_wp2_with (fail); exact rfl); simp only [Act.put, List.setIfInBounds_toArray, List.set_cons_zero, List.set_cons_succ])
                  refine wo_nil ?_
                  go_wp2_with fail
                  go_ret
                  exact ⟨rfl, hB21⟩
                · --ORDER3
                  refine wo_l rfl rfl rfl (by intro a w h; first | (obtain ⟨h, _⟩ := h; cases h; done) | (obtain ⟨_, h, _⟩ := h; cases h; done) | (obtain ⟨_, _, h, _⟩ := h; cases h; done) | (obtain ⟨_, _, _, h, _⟩ := h; cases h; done) | (rcases h with ⟨_, _, _, _, h, _⟩ | ⟨_, _, _, _, h, _⟩ <;> cases h; done)) ?_
                  go_wp2_with fail
                  have bb := hbd0.alloc hbd0.size (.cells #[.int .u8 0] 5)
                  have ob := own_bld (base := w15.heap.size) (W := wd0) hbd0.size
                  obtain ⟨wb, hwb⟩ : ∃ W, W = wd0.alloc (.cells #[.int .u8 0] 5) := ⟨_, rfl⟩
                  obtain ⟨gb, hgb⟩ : ∃ G, G = wd0.heap.size := ⟨_, rfl⟩
                  rw [← hwb, ← hgb] at ob
                  rw [← hwb] at bb
                  rw [← hwb]
                  try rw [← hgb]
                  clear hwb hgb
                  refine ⟨fun gg hg => bb.block gg (by simp at hg; omega), ?_⟩
                  try simp only [Act.put, List.setIfInBounds_toArray, List.set_cons_zero, List.set_cons_succ]
                  refine wo_l rfl rfl rfl (by intro a w h; first | (obtain ⟨h, _⟩ := h; cases h; done) | (obtain ⟨_, h, _⟩ := h; cases h; done) | (obtain ⟨_, _, h, _⟩ := h; cases h; done) | (obtain ⟨_, _, _, h, _⟩ := h; cases h; done) | (rcases h with ⟨_, _, _, _, h, _⟩ | ⟨_, _, _, _, h, _⟩ <;> cases h; done)) ?_
                  go_wp2_with fail
                  have ba := bb.alloc bb.size (.cells #[.int .u8 0] 5)
                  have oa := own_bld (base := w15.heap.size) (W := wb) bb.size
                  have dd := own_d ob
                  have ob := own_keepA ob (.cells #[.int .u8 0] 5)
                  obtain ⟨wa, hwa⟩ : ∃ W, W = wb.alloc (.cells #[.int .u8 0] 5) := ⟨_, rfl⟩
                  obtain ⟨ga, hga⟩ : ∃ G, G = wb.heap.size := ⟨_, rfl⟩
                  rw [← hwa, ← hga] at oa
                  rw [← hwa] at ba
                  rw [← hga] at dd
                  rw [← hwa] at ob
                  rw [← hwa]
                  try rw [← hga]
                  clear hwa hga
                  refine ⟨fun gg hg => ba.block gg (by simp at hg; omega), ?_⟩
                  try simp only [Act.put, List.setIfInBounds_toArray, List.set_cons_zero, List.set_cons_succ]
                  repeat (refine wo_w (v := ?_) rfl rfl rfl rfl rfl rfl rfl (fun w' hw' K hK => ?_) ?_; rotate_left; (have q1 := (hw'.cell gS (by simp) _).trans d1; have q2 := (hw'.cell gT (by simp) _).trans d2; go_wp2_with (fail); exact rfl); simp only [Act.put, List.setIfInBounds_toArray, List.set_cons_zero, List.set_cons_succ])
                  refine wo_l rfl rfl rfl (by intro a w h; first | (obtain ⟨h, _⟩ := h; cases h; done) | (obtain ⟨_, h, _⟩ := h; cases h; done) | (obtain ⟨_, _, h, _⟩ := h; cases h; done) | (obtain ⟨_, _, _, h, _⟩ := h; cases h; done) | (rcases h with ⟨_, _, _, _, h, _⟩ | ⟨_, _, _, _, h, _⟩ <;> cases h; done)) ?_
                  go_wp2_with ((with_reducible apply st_growK (base := w15.heap.size) (v := (.slice (some ⟨ga, 0, none⟩) 1 1)) (xs := [0]) (ys := x)); rfl; rfl; exact oa; exact (HBX.out.up ba).rd; exact (HBX.out.up ba).nn; exact HBX.out.le; (simp; omega); exact ba.size; intro va wa6 hoa hga hata)
                  have ka : Below w15.heap.size w15 wa6 := ba.grown hga ba.size (fun k hk => (oa.lt k hk).1)
                  have dn := own_dG ob dd hata
                  have ob := own_keepG ob dd hga
                  clear dd
                  have dd := dn
                  clear dn
                  rw [← HXA.out] at hoa
                  obtain ⟨Qa, Ca, rfl, -, -⟩ := hoa.byt HXU.out
                  refine ⟨fun gg hg => ka.block gg (by simp at hg; omega), ?_⟩
                  try simp only [Act.put, List.setIfInBounds_toArray, List.set_cons_zero, List.set_cons_succ]
                  repeat (refine wo_w (v := ?_) rfl rfl rfl rfl rfl rfl rfl (fun w' hw' K hK => ?_) ?_; rotate_left; (have q1 := (hw'.cell gS (by simp) _).trans d1; have q2 := (hw'.cell gT (by simp) _).trans d2; go_wp2_with (fail); exact rfl); simp only [Act.put, List.setIfInBounds_toArray, List.set_cons_zero, List.set_cons_succ])
                  refine wo_l rfl rfl rfl (by intro a w h; first | (obtain ⟨h, _⟩ := h; cases h; done) | (obtain ⟨_, h, _⟩ := h; cases h; done) | (obtain ⟨_, _, h, _⟩ := h; cases h; done) | (obtain ⟨_, _, _, h, _⟩ := h; cases h; done) | (rcases h with ⟨_, _, _, _, h, _⟩ | ⟨_, _, _, _, h, _⟩ <;> cases h; done)) ?_
                  go_wp2_with ((with_reducible apply st_growK (base := w15.heap.size) (v := (.slice (some ⟨gb, 0, none⟩) 1 1)) (xs := [0]) (ys := y)); rfl; rfl; exact ob; exact (HBYY.out.up ka).rd; exact (HBYY.out.up ka).nn; exact HBYY.out.le; (simp; omega); exact ka.size; intro vb wb6 hob hgb hatb)
                  have kb : Below w15.heap.size w15 wb6 := ka.grown hgb ka.size (fun k hk => (ob.lt k hk).1)
                  have dn := own_dG hoa dd.symm hatb
                  have hoa := own_keepG hoa dd.symm hgb
                  clear dd
                  have dd := dn
                  clear dn
                  rw [← HYA.out] at hob
                  obtain ⟨Qb, Cb, rfl, -, -⟩ := hob.byt HYU.out
                  refine ⟨fun gg hg => kb.block gg (by simp at hg; omega), ?_⟩
                  try simp only [Act.put, List.setIfInBounds_toArray, List.set_cons_zero, List.set_cons_succ]
                  repeat (refine wo_w (v := ?_) rfl rfl rfl rfl rfl rfl rfl (fun w' hw' K hK => ?_) ?_; rotate_left; (have q1 := (hw'.cell gS (by simp) _).trans d1; have q2 := (hw'.cell gT (by simp) _).trans d2; go_wp2_with (fail); exact rfl); simp only [Act.put, List.setIfInBounds_toArray, List.set_cons_zero, List.set_cons_succ])
                  --MARKI3
                  obtain ⟨_, _, hv1, hy1, _⟩ := hoa.byt HXU.out
                  injection hv1 with e1 e2 e3
                  subst e1; subst e3
                  obtain ⟨_, _, hv2, hy2, _⟩ := hob.byt HYU.out
                  injection hv2 with e1 e2 e3
                  subst e1; subst e3
                  have hBw := hB15.trans (kb.mono hB15.size)
                  have his := refis_any wb6 xa ya Qa Qb Ca Cb hy1 hy2 HXYL.out.1 HXYL.out.2 256
                  rw [decide_eq_true HIS.out] at his
                  have HISC := Lib.hid his
                  clear his
                  refine wo_l rfl rfl rfl (by intro a w h; first | (obtain ⟨h, _⟩ := h; cases h; done) | (obtain ⟨_, h, _⟩ := h; cases h; done) | (obtain ⟨_, _, h, _⟩ := h; cases h; done) | (obtain ⟨_, _, _, h, _⟩ := h; cases h; done) | (rcases h with ⟨_, _, _, _, h, _⟩ | ⟨_, _, _, _, h, _⟩ <;> cases h; done)) ?_
                  go_wp2_with fail
                  go_at_call 26
                  refine HISC.out.mono ?_
                  rintro r w20 ⟨rfl, hb20⟩
                  have b20 := kb.trans (hb20.mono kb.size)
                  have hB20 := hBw.trans (hb20.mono hBw.size)
                  go_wp2_with fail
                  refine ⟨fun gg hg => b20.block gg (by simp at hg; omega), ?_⟩
                  try simp only [Act.put, List.setIfInBounds_toArray, List.set_cons_zero, List.set_cons_succ]
                  repeat (refine wo_w (v := ?_) rfl rfl rfl rfl rfl rfl rfl (fun w' hw' K hK => ?_) ?_; rotate_left; (have q1 := (hw'.cell gS (by simp) _).trans d1; have q2 := (hw'.cell gT (by simp) _).trans d2; go_wp2_with (fail); exact rfl); simp only [Act.put, List.setIfInBounds_toArray, List.set_cons_zero, List.set_cons_succ])
                  refine wo_lg rfl rfl rfl (by intro a w h; first | (obtain ⟨h, _⟩ := h; cases h; done) | (obtain ⟨_, h, _⟩ := h; cases h; done) | (obtain ⟨_, _, h, _⟩ := h; cases h; done) | (obtain ⟨_, _, _, h, _⟩ := h; cases h; done) | (rcases h with ⟨_, _, _, _, h, _⟩ | ⟨_, _, _, _, h, _⟩ <;> cases h; done)) ?_
                  go_wp2_with fail
                  go_at_call 16
                  refine (lives21_any _ (HK.out.up hB20)).mono ?_
                  rintro r w21 ⟨rfl, hb21⟩
                  have b21 := b20.trans (hb21.mono b20.size)
                  have hB21 := hB20.trans (hb21.mono hB20.size)
                  go_wp2_with fail
                  refine ⟨fun gg hg => b21.block gg (by simp at hg; omega), ?_⟩
                  try simp only [Act.put, List.setIfInBounds_toArray, List.set_cons_zero, List.set_cons_succ]
                  refine wo_pick (b := true) (v := .bool true) rfl rfl rfl rfl rfl rfl ?_
                  try simp only [Act.put, List.setIfInBounds_toArray, List.set_cons_zero, List.set_cons_succ]
                  repeat (refine wo_w (v := ?_) rfl rfl rfl rfl rfl rfl rfl (fun w' hw' K hK => ?_) ?_; rotate_left; (have q1 := (hw'.cell gS (by simp) _).trans d1; have q2 := (hw'.cell gT (by simp) _).trans d2; go_wp2_with (fail); exact rfl); simp only [Act.put, List.setIfInBounds_toArray, List.set_cons_zero, List.set_cons_succ])
                  refine wo_nil ?_
                  go_wp2_with fail
                  go_ret
                  exact ⟨rfl, hB21⟩
            · --CLASH
              have hcall := HSM.out
              rw [decide_eq_false hPR] at hcall
              have HIS := Lib.hid (HISL.out hPR)
              refine hcall.mono ?_
              clear hcall hPR
              rintro r w14 ⟨rfl, hb14⟩
              have hB14 := hB13.trans (hb14.mono hB13.size)
              have his := refis_any w14 P R A12 A13 c12 c13 (HY12.out.up hb14) (HY13.out.up hb14) (by rw [HLL.out.1]; decide) (by rw [HLL.out.2]; decide) 256
              rw [decide_eq_true HIS.out] at his
              have HISC := Lib.hid his
              clear his
              go_wp2_with fail
              --MARK22
              go_at_call 26
              refine HISC.out.mono ?_
              rintro r w15 ⟨rfl, hb15⟩
              have hB15 := hB14.trans (hb15.mono hB14.size)
              go_wp2_with ((with_reducible apply st_un); rfl)
              --MARK23
              go_at_call 16
              refine (lives21_any _ (HK.out.up hB15)).mono ?_
              rintro r w16 ⟨rfl, hb16⟩
              go_wp2_with ((with_reducible apply st_un); rfl)
              go_ret
              exact ⟨rfl, hB15.trans (hb16.mono hB15.size)⟩
    · have hd := decide_eq_false hch
      rw [hd] at hneq
      obtain ⟨X, hX⟩ : ∃ X, X = lchainF S := ⟨_, rfl⟩
      obtain ⟨Y, hY⟩ : ∃ Y, Y = lchainF T := ⟨_, rfl⟩
      rw [← hX] at hcA hneq hXo
      rw [← hY] at hcB hneq hYo
      have HCA := Lib.hid hcA
      have HCB := Lib.hid hcB
      have HXL := Lib.hid hXo
      have HYL := Lib.hid hYo
      have hneq : ∀ w : World, (binOp .neq 24 (.agg (nums .u8 X).toArray) (.agg (nums .u8 Y).toArray)).run Tryd.prog w = .ok (.bool true) w := hneq
      clear hch hd hST hX hY hcA hcB hXo hYo
      go_wp2_with (first | ((with_reducible apply st_loadCells (cs := nums .u8 (X))); rfl; exact HCA.out; exact Tryd.underlying24; rfl; (rw [nums_length, HXL.out]; kernel_rfl)) | ((with_reducible apply st_loadCells (cs := nums .u8 (Y))); rfl; exact HCB.out; exact Tryd.underlying24; rfl; (rw [nums_length, HYL.out]; kernel_rfl)))
      --MARK24
      go_at_call 16
      refine (lives21_any _ (HK.out.up hB11)).mono ?_
      rintro r w12 ⟨rfl, hb12⟩
      go_wp2_with fail
      go_ret
      exact ⟨rfl, hB11.trans (hb12.mono hB11.size)⟩

end Go.Proofs.YtancldhincaphaaDoor
