/- What inquestlaw21.tells answers of a ledger and its texts. Condition: the table of layer 2 reads as its text lays it. -/
import Derived.Test.YtancldhincaphaaDoorRefA
import Derived.Test.YtancldhincaphaaDoorHeadEq
namespace Go.Proofs.YtancldhincaphaaDoor
open Go.RowKit
set_option maxRecDepth 100000

theorem Own.set {w : World} {base g n c k : Nat} {bs : List Int} {x : Int} (h : Own w base (.slice (some ⟨g, 0, none⟩) n c) bs) (hk : k < bs.length) : Own (w.setCell ⟨g, k, none⟩ (.int .u8 x)) base (.slice (some ⟨g, 0, none⟩) n c) (bs.set k x) := by
  obtain ⟨hl, h | ⟨g', cap, cur, hv, hg, hh, hn, hm, hsz, ht⟩⟩ := h
  · have := h.2; omega
  · injection hv with e1 e2 e3
    injection e1 with e1
    injection e1 with e1
    subst e1
    refine ⟨by simp [nums_length], .inr ⟨g, cap, cur.set! k (.int .u8 x), by rw [e2, e3, List.length_set], hg, ?_, by rw [List.length_set]; exact hn, hm, by simpa using hsz, ?_⟩⟩
    · have := heap_setCell_same w g k cur 5 (.int .u8 x) hh
      rw [this]; rfl
    · rw [List.length_set]
      have h1 : (cur.set! k (Value.int .u8 x)).toList = cur.toList.set k (.int .u8 x) := by simp
      rw [h1, List.take_set, ht]
      simp [nums, List.map_set]
theorem Own.cellU {w : World} {base g n c k : Nat} {bs : List Int} (h : Own w base (.slice (some ⟨g, 0, none⟩) n c) bs) (hk : k < bs.length) : w.cell? ⟨g, k, none⟩ = some (.int .u8 (ga bs k)) ∧ w.frozen? ⟨g, k, none⟩ = false := by
  obtain ⟨hl, h | ⟨g', cap, cur, hv, hg, hh, hn, hm, hsz, ht⟩⟩ := h
  · have := h.2; omega
  · injection hv with e1 e2 e3
    injection e1 with e1
    injection e1 with e1
    subst e1
    refine ⟨?_, by simp [World.frozen?, hh]⟩
    have h2 := nums_at .u8 bs k hk
    rw [← ht, List.getElem?_take] at h2
    split at h2
    · simp only [World.cell?, hh]
      simpa [ga] using h2
    · cases h2
theorem lpathR_len (T : List (List Int)) (i n : Int) (h : T.length ≤ 64) : (lpathR T i n).1.length ≤ 1000 := by
  unfold lpathR
  split
  · have := (pathF_ok (lleavesF (T.take n.toNat)).length _ i 256 rfl (lleavesF_ok _)).2
    rw [lleavesF_len, List.length_take] at this
    show (pathF (lleavesF (T.take n.toNat)) i 256).length ≤ 1000
    omega
  · simp
theorem lgrowthR_len (T : List (List Int)) (i n : Int) (h : T.length ≤ 64) : (lgrowthR T i n).1.length ≤ 1000 := by
  unfold lgrowthR
  split
  next hh =>
    have := (growthR_ok (lleavesF (T.take n.toNat)) i 256 (lleavesF_ok _)).2
    have hl : (lleavesF (T.take n.toNat)).length = n.toNat := by rw [lleavesF_len, List.length_take]; omega
    unfold growthR at this
    rw [if_pos (by rw [hl]; omega), hl] at this
    have h3 : (growthF (lleavesF (T.take n.toNat)) i.toNat 256 true).length ≤ n.toNat + 1 := this
    show (growthF (lleavesF (T.take n.toNat)) i.toNat 256 true).length ≤ 1000
    omega
  · simp
theorem run_eql_zero (w : World) : (binOp .eql 26 (.agg (headC 0 zd zd zd).toArray) (.agg (headC 0 zd zd zd).toArray)).run Tryd.prog w = .ok (.bool true) w := by
  have h := run_equal_head 0 0 zd zd zd zd zd zd rfl rfl rfl rfl rfl rfl w
  simp [binOp, h]
theorem headF_eqT (key : List Int) (T : List (List Int)) (w : World) : (Op.equal 26 (.agg (headF key T).toArray) (.agg (headF key T).toArray)).run Tryd.prog w = .ok true w := by
  have h := run_equal_head T.length T.length (rootF (lleavesF T) 256) (lchainF T) (macF key (headT T.length (rootF (lleavesF T) 256) (lchainF T))) (rootF (lleavesF T) 256) (lchainF T) (macF key (headT T.length (rootF (lleavesF T) 256) (lchainF T))) (rootF_ok _ _ (lleavesF_ok T)).1 (lchainF_ok T).1 (macF_len _ _) (rootF_ok _ _ (lleavesF_ok T)).1 (lchainF_ok T).1 (macF_len _ _) w
  unfold headF
  rw [h]; simp
theorem run_eql_headT (key : List Int) (T : List (List Int)) (w : World) : (binOp .eql 26 (.agg (headF key T).toArray) (.agg (headF key T).toArray)).run Tryd.prog w = .ok (.bool true) w := by
  simp [binOp, headF_eqT key T w]
theorem calls_true {P : Program} {f : FuncId} {args : Array Value} {w : World} {p : Prop} [Decidable p] (h : Calls P f args w fun e w' => e = .returned (.bool (decide p)) ∧ Below w.heap.size w w') (hp : p) : Calls P f args w fun e w' => e = .returned (.bool true) ∧ Below w.heap.size w w' := by
  rw [decide_eq_true hp] at h; exact h

set_option maxRecDepth 100000 in
set_option maxHeartbeats 16000000 in
theorem tells_any (w : World) (base g : Nat) (key : List Int) (T : List (List Int)) (F : Nat → Prop) (hL : Led w base g key T F) (hT : T.length ≤ 64) (hTb : ∀ x ∈ T, x.length ≤ 1000 ∧ U8 x) (K : Option Addr) (ck : Nat) (hy : Byt w K ck key) (hkl : key.length ≤ 1000) (A : Option Addr) (c : Nat) (hX : Txts w A c T) (hspA : ∀ ad, A = some ad → ad.spot = none) (i n : Int) (hk : KV w) :
    Calls Tryd.prog 31 #[.pointer (some ⟨g, 0, none⟩), .slice K key.length ck, .slice A T.length c, .int .i64 i, .int .i64 n] w fun r w' => r = .returned (.bool true) ∧ Below w.heap.size w w' := by
  have hTb1 : ∀ x ∈ T, x.length ≤ 1000 := fun x hx => (hTb x hx).1
  have hsize := ledsize_any hL
  have htext := ledtext_any hL hTb1 i
  have hpath := fun w (h : Led w base g key T F) hk => ledpath_any h hT i n hk
  have hrpath := fun w (h : Txts w A c T) => refpath21_any w T A c h hT hTb1 i n
  have hgrow := fun w (h : Led w base g key T F) hk => ledgrowth_any h hT i n hk
  have hrgrow := fun w (h : Txts w A c T) => refgrowth21_any w T A c h hT hTb1 i n
  have hpl := lpathR_len T i n hT
  have hgl := lgrowthR_len T i n hT
  obtain ⟨⟨P, fp⟩, hP⟩ : ∃ p, p = lpathR T i n := ⟨_, rfl⟩
  obtain ⟨⟨G, fg⟩, hG⟩ : ∃ p, p = lgrowthR T i n := ⟨_, rfl⟩
  rw [← hP] at hpath hrpath hpl
  have hpl : P.length ≤ 1000 := hpl
  rw [← hG] at hgrow hrgrow hgl
  have hgl : G.length ≤ 1000 := hgl
  have hsp := fun w (A B : Option Addr) (c d : Nat) h1 h2 => calls_true (samed_any w P P A B c d h1 h2 (by omega) (by omega)) rfl
  have hsg := fun w (A B : Option Addr) (c d : Nat) h1 h2 => calls_true (samed_any w G G A B c d h1 h2 (by omega) (by omega)) rfl
  have hrh := fun (N : Nat) w (h1 : Byt w K ck key) (h2 : Txts w A c (T.take N)) => refhead_any w key K ck h1 hkl (T.take N) A c h2 (by rw [List.length_take]; omega) (fun b h => hTb1 b (List.mem_of_mem_take h))
  have HRHT := Lib.hid hrh
  have HL := Lib.hid hL
  have HX := Lib.hid hX
  have HSPA := Lib.hid hspA
  have HY := Lib.hid hy
  have HK := Lib.hid hk
  have HTB := Lib.hid hTb
  have HTB1 := Lib.hid hTb1
  have HSZ := Lib.hid hsize
  have HTX := Lib.hid htext
  have HPA := Lib.hid hpath
  have HRP := Lib.hid hrpath
  have HGR := Lib.hid hgrow
  have HRG := Lib.hid hrgrow
  have HSP := Lib.hid hsp
  have HSG := Lib.hid hsg
  clear hrh hL hX hspA hy hk hTb hTb1 hsize htext hpath hrpath hgrow hrgrow hsp hsg hP hG
  by_cases hi : 0 ≤ i ∧ i < T.length
  · obtain ⟨k, rfl⟩ : ∃ k : Nat, i = k := ⟨i.toNat, by omega⟩
    have hkT : k < T.length := by omega
    have htx := HTX.out
    rw [show ltextR T (k : Int) = (T[k], 0) by unfold ltextR; rw [dif_pos hi]; rfl] at htx
    have htb := HTB.out _ (List.getElem_mem hkT)
    obtain ⟨gt, off, rfl, hgt, hcx⟩ := HX.out.get (by omega)
    obtain ⟨B, d, hcell, hby⟩ := hcx k hkT
    obtain ⟨b, hb⟩ : ∃ b, b = T[k] := ⟨_, rfl⟩
    rw [← hb] at htx htb hcell hby
    have HTX2 := Lib.hid htx
    have HBY := Lib.hid hby
    have HTBB := Lib.hid htb
    have hbl : b.length ≤ 1000 := htb.1
    clear htx htb hby hb hcx
    go_enter Tryd.func31, Tryd.ntmps31
    go_wp2_with fail
    go_at_call 23
    refine HSZ.out.mono ?_
    rintro r wz ⟨rfl, rfl⟩
    have hne : ((T.length : Int) != (T.length : Int)) = false := by simp
    go_wp2_with fail
    go_at_call 32
    refine HTX2.out.mono ?_
    rintro r w1 ⟨v1, rfl, hb1, ho1⟩
    obtain ⟨B1, d1, rfl, hy1, _⟩ := ho1.byt HTBB.out.2
    have c1 := (hb1.cell (p := ⟨gt, off + k, none⟩) hgt).trans hcell
    have hgt1 := Nat.lt_of_lt_of_le hgt hb1.size
    have HSAME := Lib.hid (calls_true (refsame_any w1 B1 B d1 d b b hy1.rd (HBY.out.up hb1).rd (by omega)) rfl)
    have HO1 := Lib.hid ho1
    clear hne hy1 ho1
    --MARK1
    go_wp2_with ((with_reducible apply st_un); rfl)
    --MARK2
    go_at_call 12
    refine HSAME.out.mono ?_
    rintro r w1' ⟨rfl, hb1'⟩
    have hB1 := hb1.trans (hb1'.mono hb1.size)
    have HO := Lib.hid (HO1.out.kept hb1')
    clear hcell c1 hgt1
    go_wp2_with ((with_reducible apply st_un); rfl)
    --MARK3
    go_loopw [13] (fun j wr => ∃ (q : Nat) (bs : List Int), j = .int .i64 q ∧ q ≤ b.length ∧ bs.length = b.length ∧ Below w.heap.size w wr ∧ Own wr w.heap.size (.slice B1 b.length d1) bs) (fun j _ => b.length - (intOf j).toNat)
    case atStart => exact ⟨0, b, rfl, by omega, rfl, hB1, HO.out⟩
    case round =>
      clear hB1 hb1 hb1'
      obtain ⟨q, bs, rfl, hq, hbs, hB1, hown⟩ := hrel
      by_cases hqb : q < b.length
      · have hown0 := hown
        obtain ⟨g1, cap1, cur1, hv1, hg1, hblk1, hcl1, _, _⟩ := hown0.blk (by omega)
        injection hv1 with e1 e2 e3
        subst e1
        have hcu := hown.cellU (k := q) (by omega)
        obtain ⟨cu, fu⟩ := hcu
        obtain ⟨x, hx⟩ : ∃ x, x = ga bs q := ⟨_, rfl⟩
        rw [← hx] at cu
        have hg1l := (hown.lt g1 rfl).2
        have HOW := Lib.hid hown
        have HBS := Lib.hid hbs
        clear hown hown0 hblk1 hx hbs e2 e3 hcl1
        --MARK4
        go_wp2_with fail
        --MARK5
        go_roundw
        case rel => first | exact ⟨q + 1, bs.set q _, by go_num, by omega, by rw [List.length_set]; exact HBS.out, hB1.setCell hg1 _, HOW.out.set (by rw [HBS.out]; exact hqb)⟩ | ((repeat apply Exists.intro); refine ⟨⟨q + 1, bs.set q _, ?_, by omega, by rw [List.length_set]; exact HBS.out, hB1.setCell hg1 _, HOW.out.set (by rw [HBS.out]; exact hqb)⟩, rfl⟩; go_num)
        case measure => simp [intOf]; omega
      · rename World => w1
        clear hown hbs
        go_wp2_with fail
        --MARK6
        go_at_call 33
        refine (HPA.out w1 (HL.out.up hB1) (HK.out.up hB1)).mono ?_
        rintro r w2 ⟨v2, rfl, hb2, ho2⟩
        obtain ⟨A2, c2, rfl, hd2, _⟩ := ho2.dg
        have hB2 := hB1.trans (hb2.mono hB1.size)
        clear ho2
        go_wp2_with fail
        go_at_call 58
        refine (HRP.out w2 (HX.out.up hB2)).mono ?_
        rintro r w3 ⟨v3, rfl, hb3, ho3⟩
        obtain ⟨A3, c3, rfl, hd3, _⟩ := ho3.dg
        have hB3 := hB2.trans (hb3.mono hB2.size)
        have hd2 := hd2.up hb3
        clear ho3
        go_wp2_with fail
        go_at_call 34
        refine (HGR.out w3 (HL.out.up hB3) (HK.out.up hB3)).mono ?_
        rintro r w4 ⟨v4, rfl, hb4, ho4⟩
        obtain ⟨A4, c4, rfl, hd4, _⟩ := ho4.dg
        have hB4 := hB3.trans (hb4.mono hB3.size)
        have hd2 := hd2.up hb4
        have hd3 := hd3.up hb4
        clear ho4
        go_wp2_with fail
        go_at_call 59
        refine (HRG.out w4 (HX.out.up hB4)).mono ?_
        rintro r w5 ⟨v5, rfl, hb5, ho5⟩
        obtain ⟨A5, c5, rfl, hd5, _⟩ := ho5.dg
        have hB5 := hB4.trans (hb5.mono hB4.size)
        have HD2 := Lib.hid (hd2.up hb5)
        have HD3 := Lib.hid (hd3.up hb5)
        have HD4 := Lib.hid (hd4.up hb5)
        have HD5 := Lib.hid hd5
        have hfp : (fp != fp) = false := by simp
        have hfg : (fg != fg) = false := by simp
        clear ho5 hd2 hd3 hd4 hd5
        go_wp2_with fail
        --MARKBI
        go_at_call 60
        refine (HSP.out w5 A2 A3 c2 c3 HD2.out HD3.out).mono ?_
        rintro r w6 ⟨rfl, hb6⟩
        have hB6 := hB5.trans (hb6.mono hB5.size)
        go_wp2_with ((with_reducible apply st_un); rfl)
        go_at_call 60
        refine (HSG.out w6 A4 A5 c4 c5 (HD4.out.up hb6) (HD5.out.up hb6)).mono ?_
        rintro r w7 ⟨rfl, hb7⟩
        have hB7 := hB6.trans (hb7.mono hB6.size)
        by_cases hn : 0 ≤ n ∧ n ≤ T.length
        · --NINI
          obtain ⟨N, rfl⟩ : ∃ N : Nat, n = N := ⟨n.toNat, by omega⟩
          have hN : N ≤ T.length := by omega
          have hhead := ledhead_any (HL.out.up hB7) hT hkl N hN (N : Int) rfl (HK.out.up hB7)
          have hlen : (T.take N).length = N := by rw [List.length_take]; omega
          have hrhead := HRHT.out N
          rw [hlen] at hrhead
          have hhl := headF_len key (T.take N)
          have hone : ∀ v ∈ headF key (T.take N), v.oneCell' = true := headC_one _ _ _ _
          have heq := run_eql_headT key (T.take N)
          obtain ⟨HD, hHD⟩ : ∃ HD, HD = headF key (T.take N) := ⟨_, rfl⟩
          rw [← hHD] at hhead hrhead hhl hone heq
          have HHEAD := Lib.hid hhead
          have HRH := Lib.hid hrhead
          have HHL := Lib.hid hhl
          have HONE := Lib.hid hone
          have HEQ := Lib.hid heq
          clear hn hhead hrhead hhl hone heq hHD hlen hpl hgl
          go_wp2_with ((with_reducible apply st_un); rfl)
          --MARKCI
          go_at_call 20
          refine HHEAD.out.mono ?_
          rintro r w8 ⟨rfl, hb8⟩
          have hB8 := hB7.trans (hb8.mono hB7.size)
          have hq : Blk (w8.alloc (.cells (headC 0 zd zd zd).toArray 26)) w8.heap.size (headC 0 zd zd zd) 26 := Blk.new' _ _ _ _ _ rfl rfl
          go_upto_region 20 with ((with_reducible apply st_storeW (off := 0) (vs := HD) (cs := headC 0 zd zd zd) (T := 26)); rfl; rfl; exact hq; (rw [HHL.out]; exact headSize); (rw [HHL.out, zd_len]; decide); exact HONE.out; intro w9 hd9 hw9; rw [laid_all _ _ (by rw [HHL.out, zd_len])] at hd9)
          have hb9 : Below w8.heap.size w8 w9 := Wrote.below ((Below.refl _ _).alloc (Nat.le_refl _) _) hw9 (Nat.le_refl _)
          have hB9 := hB8.trans (hb9.mono hB8.size)
          have hl9 := hd9.lt
          have hle := HX.out.le
          have hNc : N ≤ c := by omega
          have hsp := HX.out.nn
          have HNN := Lib.hid hsp
          have HSPT := Lib.hid HSPA.out
          clear hq hw9 hle hsp
          go_wp2_with ((with_reducible apply st_un); rfl)
          --MARKDI
          refine wp_region_C (Same [w8.heap.size] w9) [5] (by kernel_rfl) (by kernel_rfl) (by intro c a w h; first | (obtain ⟨_, h, _⟩ := h; cases h; done) | (obtain ⟨_, _, h, _⟩ := h; cases h; done) | (obtain ⟨_, _, _, h, _⟩ := h; cases h; done) | (obtain ⟨_, _, _, _, h, _⟩ := h; cases h; done) | (rcases h with ⟨_, ⟨_, _, _, _, h, _⟩ | ⟨_, _, _, _, h, _⟩⟩ <;> cases h; done)) (by intro a w h; first | (obtain ⟨h, _⟩ := h; cases h; done) | (obtain ⟨_, h, _⟩ := h; cases h; done) | (obtain ⟨_, _, h, _⟩ := h; cases h; done) | (obtain ⟨_, _, _, h, _⟩ := h; cases h; done) | (rcases h with ⟨_, _, _, _, h, _⟩ | ⟨_, _, _, _, h, _⟩ <;> cases h; done)) (Same.refl _ _) ?_
          repeat (refine wd_w (v := ?_) rfl rfl rfl rfl rfl rfl (fun w' hw' K hK => ?_) ?_; rotate_left; (have e1 := hw'.blk hd9 (by simp); go_wp2_with ((first | ((with_reducible apply st_load (n := 97) (cs := HD) (T := 26)); rfl; exact e1; exact Tryd.underlying26; rfl; exact headSize; (rw [HHL.out]; exact Nat.le_refl _); (exact row_all _ _ HHL.out)) | ((with_reducible apply st_toD (sz := 1) (i := N)); exact Tryd.underlying43; kernel_rfl; rfl; rfl; rfl; exact hNc; exact HNN.out; exact HSPT.out))); exact rfl); simp only [Act.put, List.setIfInBounds_toArray, List.set_cons_zero, List.set_cons_succ])
          --MARKEI
          refine wd_l rfl rfl (by intro a w h; first | (obtain ⟨h, _⟩ := h; cases h; done) | (obtain ⟨_, h, _⟩ := h; cases h; done) | (obtain ⟨_, _, h, _⟩ := h; cases h; done) | (obtain ⟨_, _, _, h, _⟩ := h; cases h; done) | (rcases h with ⟨_, _, _, _, h, _⟩ | ⟨_, _, _, _, h, _⟩ <;> cases h; done)) ?_
          go_wp2_with fail
          go_at_call 61
          refine (HRH.out _ (HY.out.up hB9.drew) ((HX.out.up hB9.drew).take N)).mono ?_
          rintro r w10 ⟨rfl, hb10⟩
          have hb10 : Below w9.heap.size w9 w10 := (Below.refl w9.heap.size w9).drew.trans hb10
          have hB10 := hB9.trans (hb10.mono hB9.size)
          go_wp2_with fail
          refine ⟨.inr (fun gg hg => hb10.block gg (by simp at hg; omega)), ?_⟩
          repeat (refine wd_wg (v := ?_) rfl rfl rfl rfl rfl rfl (fun w' hw' K hK => ?_) ?_; rotate_left; (have e2 := HEQ.out; go_wp2_with (fail); exact rfl); simp only [Act.put, List.setIfInBounds_toArray, List.set_cons_zero, List.set_cons_succ])
          refine wd_pick (b := true) (v := .bool true) rfl rfl rfl rfl rfl ?_
          simp only [Act.put, List.setIfInBounds_toArray, List.set_cons_zero, List.set_cons_succ]
          repeat (refine wd_wg (v := ?_) rfl rfl rfl rfl rfl rfl (fun w' hw' K hK => ?_) ?_; rotate_left; (skip; go_wp2_with (fail); exact rfl); simp only [Act.put, List.setIfInBounds_toArray, List.set_cons_zero, List.set_cons_succ])
          refine wd_nil ?_
          go_wp2_with fail
          --MARKGI
          go_ret
          exact ⟨rfl, hB10⟩
        · --NOUTI
          have hhead := headwhy_any w7 (.pointer (some ⟨g, 0, none⟩)) n 9 (by decide) (fun w' hb => by have h := ledfirst_any (HL.out.up (hB7.trans (hb.mono hB7.size))) n; rw [show firstR T n = 9 from if_neg hn] at h; exact h)
          have HHEAD := Lib.hid hhead
          clear hhead hpl hgl
          go_wp2_with ((with_reducible apply st_un); rfl)
          go_at_call 20
          refine HHEAD.out.mono ?_
          rintro r w8 ⟨rfl, hb8⟩
          have hB8 := hB7.trans (hb8.mono hB7.size)
          have hq : Blk (w8.alloc (.cells (headC 0 zd zd zd).toArray 26)) w8.heap.size (headC 0 zd zd zd) 26 := Blk.new' _ _ _ _ _ rfl rfl
          go_upto_region 20 with ((with_reducible apply st_storeW (off := 0) (vs := headC 0 zd zd zd) (cs := headC 0 zd zd zd) (T := 26)); rfl; rfl; exact hq; exact headSize; (rw [zd_len]; decide); exact headC_one _ _ _ _; intro w9 hd9 hw9; rw [laid_all _ _ (by rfl)] at hd9)
          have hb9 : Below w8.heap.size w8 w9 := Wrote.below ((Below.refl _ _).alloc (Nat.le_refl _) _) hw9 (Nat.le_refl _)
          have hB9 := hB8.trans (hb9.mono hB8.size)
          have hez := run_eql_zero
          --MARKFI
          clear hq hw9
          by_cases hn0 : n < 0
          · clear hn
            go_wp2_with (first | ((with_reducible apply st_un); rfl) | ((with_reducible apply st_load (n := 97) (cs := headC 0 zd zd zd) (T := 26)); rfl; exact hd9; exact Tryd.underlying26; rfl; exact headSize; (rw [zd_len]; exact Nat.le_refl _); (exact row_all _ _ zd_len)) | (with_reducible apply st_zeroH))
            go_ret
            exact ⟨rfl, hB9⟩
          · --MARKHI
            have hn1 : (T.length : Int) < n := by omega
            clear hn
            go_wp2_with (first | ((with_reducible apply st_un); rfl) | ((with_reducible apply st_load (n := 97) (cs := headC 0 zd zd zd) (T := 26)); rfl; exact hd9; exact Tryd.underlying26; rfl; exact headSize; (rw [zd_len]; exact Nat.le_refl _); (exact row_all _ _ zd_len)) | (with_reducible apply st_zeroH))
            go_ret
            exact ⟨rfl, hB9⟩
  · have htx := HTX.out
    rw [show ltextR T i = ([], 9) by unfold ltextR; rw [dif_neg hi]] at htx
    have HTX2 := Lib.hid htx
    clear htx
    go_enter Tryd.func31, Tryd.ntmps31
    go_wp2_with fail
    go_at_call 23
    refine HSZ.out.mono ?_
    rintro r wz ⟨rfl, rfl⟩
    have hne : ((T.length : Int) != (T.length : Int)) = false := by simp
    go_wp2_with fail
    go_at_call 32
    refine HTX2.out.mono ?_
    rintro r w1 ⟨v1, rfl, hb1, ho1⟩
    obtain ⟨B1, d1, rfl, hy1, _⟩ := ho1.byt U8.nil
    clear hne hy1 ho1
    have hcond : i < 0 ∨ (T.length : Int) ≤ i := by omega
    clear hi
    rcases hcond with hc0 | hc0
    · --OUTA
      go_wp2_with ((with_reducible apply st_un); rfl)
      --MARK7A
      go_loopw [13] (fun j wr => ∃ q : Nat, j = .int .i64 q ∧ Below w.heap.size w wr) (fun _ _ => 0)
      case atStart => exact ⟨0, rfl, hb1⟩
      case round =>
        clear hb1
        obtain ⟨q, rfl, hB1⟩ := hrel
        rename World => w1
        go_wp2_with fail
        --MARK8
        go_at_call 33
        refine (HPA.out w1 (HL.out.up hB1) (HK.out.up hB1)).mono ?_
        rintro r w2 ⟨v2, rfl, hb2, ho2⟩
        obtain ⟨A2, c2, rfl, hd2, _⟩ := ho2.dg
        have hB2 := hB1.trans (hb2.mono hB1.size)
        clear ho2
        go_wp2_with fail
        go_at_call 58
        refine (HRP.out w2 (HX.out.up hB2)).mono ?_
        rintro r w3 ⟨v3, rfl, hb3, ho3⟩
        obtain ⟨A3, c3, rfl, hd3, _⟩ := ho3.dg
        have hB3 := hB2.trans (hb3.mono hB2.size)
        have hd2 := hd2.up hb3
        clear ho3
        go_wp2_with fail
        go_at_call 34
        refine (HGR.out w3 (HL.out.up hB3) (HK.out.up hB3)).mono ?_
        rintro r w4 ⟨v4, rfl, hb4, ho4⟩
        obtain ⟨A4, c4, rfl, hd4, _⟩ := ho4.dg
        have hB4 := hB3.trans (hb4.mono hB3.size)
        have hd2 := hd2.up hb4
        have hd3 := hd3.up hb4
        clear ho4
        go_wp2_with fail
        go_at_call 59
        refine (HRG.out w4 (HX.out.up hB4)).mono ?_
        rintro r w5 ⟨v5, rfl, hb5, ho5⟩
        obtain ⟨A5, c5, rfl, hd5, _⟩ := ho5.dg
        have hB5 := hB4.trans (hb5.mono hB4.size)
        have HD2 := Lib.hid (hd2.up hb5)
        have HD3 := Lib.hid (hd3.up hb5)
        have HD4 := Lib.hid (hd4.up hb5)
        have HD5 := Lib.hid hd5
        have hfp : (fp != fp) = false := by simp
        have hfg : (fg != fg) = false := by simp
        clear ho5 hd2 hd3 hd4 hd5
        go_wp2_with fail
        --MARKBOA
        go_at_call 60
        refine (HSP.out w5 A2 A3 c2 c3 HD2.out HD3.out).mono ?_
        rintro r w6 ⟨rfl, hb6⟩
        have hB6 := hB5.trans (hb6.mono hB5.size)
        go_wp2_with ((with_reducible apply st_un); rfl)
        go_at_call 60
        refine (HSG.out w6 A4 A5 c4 c5 (HD4.out.up hb6) (HD5.out.up hb6)).mono ?_
        rintro r w7 ⟨rfl, hb7⟩
        have hB7 := hB6.trans (hb7.mono hB6.size)
        by_cases hn : 0 ≤ n ∧ n ≤ T.length
        · --NINOA
          obtain ⟨N, rfl⟩ : ∃ N : Nat, n = N := ⟨n.toNat, by omega⟩
          have hN : N ≤ T.length := by omega
          have hhead := ledhead_any (HL.out.up hB7) hT hkl N hN (N : Int) rfl (HK.out.up hB7)
          have hlen : (T.take N).length = N := by rw [List.length_take]; omega
          have hrhead := HRHT.out N
          rw [hlen] at hrhead
          have hhl := headF_len key (T.take N)
          have hone : ∀ v ∈ headF key (T.take N), v.oneCell' = true := headC_one _ _ _ _
          have heq := run_eql_headT key (T.take N)
          obtain ⟨HD, hHD⟩ : ∃ HD, HD = headF key (T.take N) := ⟨_, rfl⟩
          rw [← hHD] at hhead hrhead hhl hone heq
          have HHEAD := Lib.hid hhead
          have HRH := Lib.hid hrhead
          have HHL := Lib.hid hhl
          have HONE := Lib.hid hone
          have HEQ := Lib.hid heq
          clear hn hhead hrhead hhl hone heq hHD hlen hpl hgl
          go_wp2_with ((with_reducible apply st_un); rfl)
          --MARKCOA
          go_at_call 20
          refine HHEAD.out.mono ?_
          rintro r w8 ⟨rfl, hb8⟩
          have hB8 := hB7.trans (hb8.mono hB7.size)
          have hq : Blk (w8.alloc (.cells (headC 0 zd zd zd).toArray 26)) w8.heap.size (headC 0 zd zd zd) 26 := Blk.new' _ _ _ _ _ rfl rfl
          go_upto_region 20 with ((with_reducible apply st_storeW (off := 0) (vs := HD) (cs := headC 0 zd zd zd) (T := 26)); rfl; rfl; exact hq; (rw [HHL.out]; exact headSize); (rw [HHL.out, zd_len]; decide); exact HONE.out; intro w9 hd9 hw9; rw [laid_all _ _ (by rw [HHL.out, zd_len])] at hd9)
          have hb9 : Below w8.heap.size w8 w9 := Wrote.below ((Below.refl _ _).alloc (Nat.le_refl _) _) hw9 (Nat.le_refl _)
          have hB9 := hB8.trans (hb9.mono hB8.size)
          have hl9 := hd9.lt
          have hle := HX.out.le
          have hNc : N ≤ c := by omega
          have hsp := HX.out.nn
          have HNN := Lib.hid hsp
          have HSPT := Lib.hid HSPA.out
          clear hq hw9 hle hsp
          go_wp2_with ((with_reducible apply st_un); rfl)
          --MARKDOA
          refine wp_region_C (Same [w8.heap.size] w9) [5] (by kernel_rfl) (by kernel_rfl) (by intro c a w h; first | (obtain ⟨_, h, _⟩ := h; cases h; done) | (obtain ⟨_, _, h, _⟩ := h; cases h; done) | (obtain ⟨_, _, _, h, _⟩ := h; cases h; done) | (obtain ⟨_, _, _, _, h, _⟩ := h; cases h; done) | (rcases h with ⟨_, ⟨_, _, _, _, h, _⟩ | ⟨_, _, _, _, h, _⟩⟩ <;> cases h; done)) (by intro a w h; first | (obtain ⟨h, _⟩ := h; cases h; done) | (obtain ⟨_, h, _⟩ := h; cases h; done) | (obtain ⟨_, _, h, _⟩ := h; cases h; done) | (obtain ⟨_, _, _, h, _⟩ := h; cases h; done) | (rcases h with ⟨_, _, _, _, h, _⟩ | ⟨_, _, _, _, h, _⟩ <;> cases h; done)) (Same.refl _ _) ?_
          repeat (refine wd_w (v := ?_) rfl rfl rfl rfl rfl rfl (fun w' hw' K hK => ?_) ?_; rotate_left; (have e1 := hw'.blk hd9 (by simp); go_wp2_with ((first | ((with_reducible apply st_load (n := 97) (cs := HD) (T := 26)); rfl; exact e1; exact Tryd.underlying26; rfl; exact headSize; (rw [HHL.out]; exact Nat.le_refl _); (exact row_all _ _ HHL.out)) | ((with_reducible apply st_toD (sz := 1) (i := N)); exact Tryd.underlying43; kernel_rfl; rfl; rfl; rfl; exact hNc; exact HNN.out; exact HSPT.out))); exact rfl); simp only [Act.put, List.setIfInBounds_toArray, List.set_cons_zero, List.set_cons_succ])
          --MARKEOA
          refine wd_l rfl rfl (by intro a w h; first | (obtain ⟨h, _⟩ := h; cases h; done) | (obtain ⟨_, h, _⟩ := h; cases h; done) | (obtain ⟨_, _, h, _⟩ := h; cases h; done) | (obtain ⟨_, _, _, h, _⟩ := h; cases h; done) | (rcases h with ⟨_, _, _, _, h, _⟩ | ⟨_, _, _, _, h, _⟩ <;> cases h; done)) ?_
          go_wp2_with fail
          go_at_call 61
          refine (HRH.out _ (HY.out.up hB9.drew) ((HX.out.up hB9.drew).take N)).mono ?_
          rintro r w10 ⟨rfl, hb10⟩
          have hb10 : Below w9.heap.size w9 w10 := (Below.refl w9.heap.size w9).drew.trans hb10
          have hB10 := hB9.trans (hb10.mono hB9.size)
          go_wp2_with fail
          refine ⟨.inr (fun gg hg => hb10.block gg (by simp at hg; omega)), ?_⟩
          repeat (refine wd_wg (v := ?_) rfl rfl rfl rfl rfl rfl (fun w' hw' K hK => ?_) ?_; rotate_left; (have e2 := HEQ.out; go_wp2_with (fail); exact rfl); simp only [Act.put, List.setIfInBounds_toArray, List.set_cons_zero, List.set_cons_succ])
          refine wd_pick (b := true) (v := .bool true) rfl rfl rfl rfl rfl ?_
          simp only [Act.put, List.setIfInBounds_toArray, List.set_cons_zero, List.set_cons_succ]
          repeat (refine wd_wg (v := ?_) rfl rfl rfl rfl rfl rfl (fun w' hw' K hK => ?_) ?_; rotate_left; (skip; go_wp2_with (fail); exact rfl); simp only [Act.put, List.setIfInBounds_toArray, List.set_cons_zero, List.set_cons_succ])
          refine wd_nil ?_
          go_wp2_with fail
          --MARKGOA
          go_ret
          exact ⟨rfl, hB10⟩
        · --NOUTOA
          have hhead := headwhy_any w7 (.pointer (some ⟨g, 0, none⟩)) n 9 (by decide) (fun w' hb => by have h := ledfirst_any (HL.out.up (hB7.trans (hb.mono hB7.size))) n; rw [show firstR T n = 9 from if_neg hn] at h; exact h)
          have HHEAD := Lib.hid hhead
          clear hhead hpl hgl
          go_wp2_with ((with_reducible apply st_un); rfl)
          go_at_call 20
          refine HHEAD.out.mono ?_
          rintro r w8 ⟨rfl, hb8⟩
          have hB8 := hB7.trans (hb8.mono hB7.size)
          have hq : Blk (w8.alloc (.cells (headC 0 zd zd zd).toArray 26)) w8.heap.size (headC 0 zd zd zd) 26 := Blk.new' _ _ _ _ _ rfl rfl
          go_upto_region 20 with ((with_reducible apply st_storeW (off := 0) (vs := headC 0 zd zd zd) (cs := headC 0 zd zd zd) (T := 26)); rfl; rfl; exact hq; exact headSize; (rw [zd_len]; decide); exact headC_one _ _ _ _; intro w9 hd9 hw9; rw [laid_all _ _ (by rfl)] at hd9)
          have hb9 : Below w8.heap.size w8 w9 := Wrote.below ((Below.refl _ _).alloc (Nat.le_refl _) _) hw9 (Nat.le_refl _)
          have hB9 := hB8.trans (hb9.mono hB8.size)
          have hez := run_eql_zero
          --MARKFOA
          clear hq hw9
          by_cases hn0 : n < 0
          · clear hn
            go_wp2_with (first | ((with_reducible apply st_un); rfl) | ((with_reducible apply st_load (n := 97) (cs := headC 0 zd zd zd) (T := 26)); rfl; exact hd9; exact Tryd.underlying26; rfl; exact headSize; (rw [zd_len]; exact Nat.le_refl _); (exact row_all _ _ zd_len)) | (with_reducible apply st_zeroH))
            go_ret
            exact ⟨rfl, hB9⟩
          · --MARKHOA
            have hn1 : (T.length : Int) < n := by omega
            clear hn
            go_wp2_with (first | ((with_reducible apply st_un); rfl) | ((with_reducible apply st_load (n := 97) (cs := headC 0 zd zd zd) (T := 26)); rfl; exact hd9; exact Tryd.underlying26; rfl; exact headSize; (rw [zd_len]; exact Nat.le_refl _); (exact row_all _ _ zd_len)) | (with_reducible apply st_zeroH))
            go_ret
            exact ⟨rfl, hB9⟩
    · --OUTB
      go_wp2_with ((with_reducible apply st_un); rfl)
      --MARK7B
      go_loopw [13] (fun j wr => ∃ q : Nat, j = .int .i64 q ∧ Below w.heap.size w wr) (fun _ _ => 0)
      case atStart => exact ⟨0, rfl, hb1⟩
      case round =>
        clear hb1
        obtain ⟨q, rfl, hB1⟩ := hrel
        rename World => w1
        go_wp2_with fail
        --MARK8
        go_at_call 33
        refine (HPA.out w1 (HL.out.up hB1) (HK.out.up hB1)).mono ?_
        rintro r w2 ⟨v2, rfl, hb2, ho2⟩
        obtain ⟨A2, c2, rfl, hd2, _⟩ := ho2.dg
        have hB2 := hB1.trans (hb2.mono hB1.size)
        clear ho2
        go_wp2_with fail
        go_at_call 58
        refine (HRP.out w2 (HX.out.up hB2)).mono ?_
        rintro r w3 ⟨v3, rfl, hb3, ho3⟩
        obtain ⟨A3, c3, rfl, hd3, _⟩ := ho3.dg
        have hB3 := hB2.trans (hb3.mono hB2.size)
        have hd2 := hd2.up hb3
        clear ho3
        go_wp2_with fail
        go_at_call 34
        refine (HGR.out w3 (HL.out.up hB3) (HK.out.up hB3)).mono ?_
        rintro r w4 ⟨v4, rfl, hb4, ho4⟩
        obtain ⟨A4, c4, rfl, hd4, _⟩ := ho4.dg
        have hB4 := hB3.trans (hb4.mono hB3.size)
        have hd2 := hd2.up hb4
        have hd3 := hd3.up hb4
        clear ho4
        go_wp2_with fail
        go_at_call 59
        refine (HRG.out w4 (HX.out.up hB4)).mono ?_
        rintro r w5 ⟨v5, rfl, hb5, ho5⟩
        obtain ⟨A5, c5, rfl, hd5, _⟩ := ho5.dg
        have hB5 := hB4.trans (hb5.mono hB4.size)
        have HD2 := Lib.hid (hd2.up hb5)
        have HD3 := Lib.hid (hd3.up hb5)
        have HD4 := Lib.hid (hd4.up hb5)
        have HD5 := Lib.hid hd5
        have hfp : (fp != fp) = false := by simp
        have hfg : (fg != fg) = false := by simp
        clear ho5 hd2 hd3 hd4 hd5
        go_wp2_with fail
        --MARKBOB
        go_at_call 60
        refine (HSP.out w5 A2 A3 c2 c3 HD2.out HD3.out).mono ?_
        rintro r w6 ⟨rfl, hb6⟩
        have hB6 := hB5.trans (hb6.mono hB5.size)
        go_wp2_with ((with_reducible apply st_un); rfl)
        go_at_call 60
        refine (HSG.out w6 A4 A5 c4 c5 (HD4.out.up hb6) (HD5.out.up hb6)).mono ?_
        rintro r w7 ⟨rfl, hb7⟩
        have hB7 := hB6.trans (hb7.mono hB6.size)
        by_cases hn : 0 ≤ n ∧ n ≤ T.length
        · --NINOB
          obtain ⟨N, rfl⟩ : ∃ N : Nat, n = N := ⟨n.toNat, by omega⟩
          have hN : N ≤ T.length := by omega
          have hhead := ledhead_any (HL.out.up hB7) hT hkl N hN (N : Int) rfl (HK.out.up hB7)
          have hlen : (T.take N).length = N := by rw [List.length_take]; omega
          have hrhead := HRHT.out N
          rw [hlen] at hrhead
          have hhl := headF_len key (T.take N)
          have hone : ∀ v ∈ headF key (T.take N), v.oneCell' = true := headC_one _ _ _ _
          have heq := run_eql_headT key (T.take N)
          obtain ⟨HD, hHD⟩ : ∃ HD, HD = headF key (T.take N) := ⟨_, rfl⟩
          rw [← hHD] at hhead hrhead hhl hone heq
          have HHEAD := Lib.hid hhead
          have HRH := Lib.hid hrhead
          have HHL := Lib.hid hhl
          have HONE := Lib.hid hone
          have HEQ := Lib.hid heq
          clear hn hhead hrhead hhl hone heq hHD hlen hpl hgl
          go_wp2_with ((with_reducible apply st_un); rfl)
          --MARKCOB
          go_at_call 20
          refine HHEAD.out.mono ?_
          rintro r w8 ⟨rfl, hb8⟩
          have hB8 := hB7.trans (hb8.mono hB7.size)
          have hq : Blk (w8.alloc (.cells (headC 0 zd zd zd).toArray 26)) w8.heap.size (headC 0 zd zd zd) 26 := Blk.new' _ _ _ _ _ rfl rfl
          go_upto_region 20 with ((with_reducible apply st_storeW (off := 0) (vs := HD) (cs := headC 0 zd zd zd) (T := 26)); rfl; rfl; exact hq; (rw [HHL.out]; exact headSize); (rw [HHL.out, zd_len]; decide); exact HONE.out; intro w9 hd9 hw9; rw [laid_all _ _ (by rw [HHL.out, zd_len])] at hd9)
          have hb9 : Below w8.heap.size w8 w9 := Wrote.below ((Below.refl _ _).alloc (Nat.le_refl _) _) hw9 (Nat.le_refl _)
          have hB9 := hB8.trans (hb9.mono hB8.size)
          have hl9 := hd9.lt
          have hle := HX.out.le
          have hNc : N ≤ c := by omega
          have hsp := HX.out.nn
          have HNN := Lib.hid hsp
          have HSPT := Lib.hid HSPA.out
          clear hq hw9 hle hsp
          go_wp2_with ((with_reducible apply st_un); rfl)
          --MARKDOB
          refine wp_region_C (Same [w8.heap.size] w9) [5] (by kernel_rfl) (by kernel_rfl) (by intro c a w h; first | (obtain ⟨_, h, _⟩ := h; cases h; done) | (obtain ⟨_, _, h, _⟩ := h; cases h; done) | (obtain ⟨_, _, _, h, _⟩ := h; cases h; done) | (obtain ⟨_, _, _, _, h, _⟩ := h; cases h; done) | (rcases h with ⟨_, ⟨_, _, _, _, h, _⟩ | ⟨_, _, _, _, h, _⟩⟩ <;> cases h; done)) (by intro a w h; first | (obtain ⟨h, _⟩ := h; cases h; done) | (obtain ⟨_, h, _⟩ := h; cases h; done) | (obtain ⟨_, _, h, _⟩ := h; cases h; done) | (obtain ⟨_, _, _, h, _⟩ := h; cases h; done) | (rcases h with ⟨_, _, _, _, h, _⟩ | ⟨_, _, _, _, h, _⟩ <;> cases h; done)) (Same.refl _ _) ?_
          repeat (refine wd_w (v := ?_) rfl rfl rfl rfl rfl rfl (fun w' hw' K hK => ?_) ?_; rotate_left; (have e1 := hw'.blk hd9 (by simp); go_wp2_with ((first | ((with_reducible apply st_load (n := 97) (cs := HD) (T := 26)); rfl; exact e1; exact Tryd.underlying26; rfl; exact headSize; (rw [HHL.out]; exact Nat.le_refl _); (exact row_all _ _ HHL.out)) | ((with_reducible apply st_toD (sz := 1) (i := N)); exact Tryd.underlying43; kernel_rfl; rfl; rfl; rfl; exact hNc; exact HNN.out; exact HSPT.out))); exact rfl); simp only [Act.put, List.setIfInBounds_toArray, List.set_cons_zero, List.set_cons_succ])
          --MARKEOB
          refine wd_l rfl rfl (by intro a w h; first | (obtain ⟨h, _⟩ := h; cases h; done) | (obtain ⟨_, h, _⟩ := h; cases h; done) | (obtain ⟨_, _, h, _⟩ := h; cases h; done) | (obtain ⟨_, _, _, h, _⟩ := h; cases h; done) | (rcases h with ⟨_, _, _, _, h, _⟩ | ⟨_, _, _, _, h, _⟩ <;> cases h; done)) ?_
          go_wp2_with fail
          go_at_call 61
          refine (HRH.out _ (HY.out.up hB9.drew) ((HX.out.up hB9.drew).take N)).mono ?_
          rintro r w10 ⟨rfl, hb10⟩
          have hb10 : Below w9.heap.size w9 w10 := (Below.refl w9.heap.size w9).drew.trans hb10
          have hB10 := hB9.trans (hb10.mono hB9.size)
          go_wp2_with fail
          refine ⟨.inr (fun gg hg => hb10.block gg (by simp at hg; omega)), ?_⟩
          repeat (refine wd_wg (v := ?_) rfl rfl rfl rfl rfl rfl (fun w' hw' K hK => ?_) ?_; rotate_left; (have e2 := HEQ.out; go_wp2_with (fail); exact rfl); simp only [Act.put, List.setIfInBounds_toArray, List.set_cons_zero, List.set_cons_succ])
          refine wd_pick (b := true) (v := .bool true) rfl rfl rfl rfl rfl ?_
          simp only [Act.put, List.setIfInBounds_toArray, List.set_cons_zero, List.set_cons_succ]
          repeat (refine wd_wg (v := ?_) rfl rfl rfl rfl rfl rfl (fun w' hw' K hK => ?_) ?_; rotate_left; (skip; go_wp2_with (fail); exact rfl); simp only [Act.put, List.setIfInBounds_toArray, List.set_cons_zero, List.set_cons_succ])
          refine wd_nil ?_
          go_wp2_with fail
          --MARKGOB
          go_ret
          exact ⟨rfl, hB10⟩
        · --NOUTOB
          have hhead := headwhy_any w7 (.pointer (some ⟨g, 0, none⟩)) n 9 (by decide) (fun w' hb => by have h := ledfirst_any (HL.out.up (hB7.trans (hb.mono hB7.size))) n; rw [show firstR T n = 9 from if_neg hn] at h; exact h)
          have HHEAD := Lib.hid hhead
          clear hhead hpl hgl
          go_wp2_with ((with_reducible apply st_un); rfl)
          go_at_call 20
          refine HHEAD.out.mono ?_
          rintro r w8 ⟨rfl, hb8⟩
          have hB8 := hB7.trans (hb8.mono hB7.size)
          have hq : Blk (w8.alloc (.cells (headC 0 zd zd zd).toArray 26)) w8.heap.size (headC 0 zd zd zd) 26 := Blk.new' _ _ _ _ _ rfl rfl
          go_upto_region 20 with ((with_reducible apply st_storeW (off := 0) (vs := headC 0 zd zd zd) (cs := headC 0 zd zd zd) (T := 26)); rfl; rfl; exact hq; exact headSize; (rw [zd_len]; decide); exact headC_one _ _ _ _; intro w9 hd9 hw9; rw [laid_all _ _ (by rfl)] at hd9)
          have hb9 : Below w8.heap.size w8 w9 := Wrote.below ((Below.refl _ _).alloc (Nat.le_refl _) _) hw9 (Nat.le_refl _)
          have hB9 := hB8.trans (hb9.mono hB8.size)
          have hez := run_eql_zero
          --MARKFOB
          clear hq hw9
          by_cases hn0 : n < 0
          · clear hn
            go_wp2_with (first | ((with_reducible apply st_un); rfl) | ((with_reducible apply st_load (n := 97) (cs := headC 0 zd zd zd) (T := 26)); rfl; exact hd9; exact Tryd.underlying26; rfl; exact headSize; (rw [zd_len]; exact Nat.le_refl _); (exact row_all _ _ zd_len)) | (with_reducible apply st_zeroH))
            go_ret
            exact ⟨rfl, hB9⟩
          · --MARKHOB
            have hn1 : (T.length : Int) < n := by omega
            clear hn
            go_wp2_with (first | ((with_reducible apply st_un); rfl) | ((with_reducible apply st_load (n := 97) (cs := headC 0 zd zd zd) (T := 26)); rfl; exact hd9; exact Tryd.underlying26; rfl; exact headSize; (rw [zd_len]; exact Nat.le_refl _); (exact row_all _ _ zd_len)) | (with_reducible apply st_zeroH))
            go_ret
            exact ⟨rfl, hB9⟩

end Go.Proofs.YtancldhincaphaaDoor
