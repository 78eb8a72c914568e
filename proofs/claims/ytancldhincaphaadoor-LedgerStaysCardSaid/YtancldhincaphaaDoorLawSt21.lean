/- That inquestlaw21.LedgerStays returns true. Condition: the table of layer 2 reads as its text lays it. -/
import Derived.Test.YtancldhincaphaaDoorLedX
import Derived.Test.YtancldhincaphaaDoorSame21
import Derived.Test.YtancldhincaphaaDoorHeadEq
namespace Go.Proofs.YtancldhincaphaaDoor
open Go.RowKit
set_option maxRecDepth 100000

theorem Txts.take {w : World} {A : Option Addr} {c : Nat} {l : List (List Int)} (h : Txts w A c l) (k : Nat) : Txts w A c (l.take k) := by
  refine ⟨by rw [List.length_take]; have := h.le; omega, h.nn, ?_⟩
  rcases h.at' with rfl | ⟨g, o, h1, h2, h3⟩
  · left; simp
  · refine .inr ⟨g, o, h1, h2, fun j hj => ?_⟩
    have hj' : j < l.length := by rw [List.length_take] at hj; omega
    obtain ⟨B, d, h4, h5⟩ := h3 j hj'
    rw [List.getElem_take]
    exact ⟨B, d, h4, h5⟩
theorem Txts.spot {w : World} {A : Option Addr} {c : Nat} {l : List (List Int)} (h : Txts w A c l) (hl : 0 < l.length) : ∀ ad, A = some ad → ad.spot = none := by
  obtain ⟨g, o, rfl, _⟩ := h.get hl
  intro ad ha; injection ha with ha; subst ha; rfl
theorem TL.spot {w : World} {base n c : Nat} {L : List (List Int)} {A : Option Addr} (h : TL w base L (.slice A n c)) : ∀ ad, A = some ad → ad.spot = none := by
  obtain ⟨cs, h1, _⟩ := h
  rcases h1.2 with ⟨h, _⟩ | ⟨g, cap, cur, hv, _⟩
  · injection h with h; subst h; intro ad ha; cases ha
  · injection hv with h; subst h; intro ad ha; injection ha with ha; subst ha; rfl
theorem hinfo : (Tryd.prog.info? 26).map (fun i => (i.zero, i.size, i.bytes)) = some (some (.agg (headC 0 zd zd zd).toArray), 97, 104) := by kernel_rfl
theorem headF_eq (key : List Int) (T : List (List Int)) (w : World) : (Op.equal 26 (.agg (headF key T).toArray) (.agg (headF key T).toArray)).run Tryd.prog w = .ok true w := by
  have h := run_equal_head T.length T.length (rootF (lleavesF T) 256) (lchainF T) (macF key (headT T.length (rootF (lleavesF T) 256) (lchainF T))) (rootF (lleavesF T) 256) (lchainF T) (macF key (headT T.length (rootF (lleavesF T) 256) (lchainF T))) (rootF_ok _ _ (lleavesF_ok T)).1 (lchainF_ok T).1 (macF_len _ _) (rootF_ok _ _ (lleavesF_ok T)).1 (lchainF_ok T).1 (macF_len _ _) w
  unfold headF
  rw [h]; simp
theorem run_neq_head (key : List Int) (T : List (List Int)) (w : World) : (binOp .neq 26 (.agg (headF key T).toArray) (.agg (headF key T).toArray)).run Tryd.prog w = .ok (.bool false) w := by
  simp [binOp, headF_eq key T w]
theorem run_eql_head (key : List Int) (T : List (List Int)) (w : World) : (binOp .eql 26 (.agg (headF key T).toArray) (.agg (headF key T).toArray)).run Tryd.prog w = .ok (.bool true) w := by
  simp [binOp, headF_eq key T w]
theorem headF_one (key : List Int) (T : List (List Int)) : ∀ v ∈ headF key T, v.oneCell' = true := headC_one _ _ _ _
/-- The heads of the first k. -/
def headsF (key : List Int) (T : List (List Int)) (k : Nat) : List (List Value) := (List.range k).map fun n => headF key (T.take n)
theorem headsF_step (key : List Int) (T : List (List Int)) (k : Nat) : headsF key T (k + 1) = headsF key T k ++ [headF key (T.take k)] := by simp [headsF, List.range_succ]
theorem headsF_len (key : List Int) (T : List (List Int)) (k : Nat) : (headsF key T k).length = k := by simp [headsF]
theorem headsF_at (key : List Int) (T : List (List Int)) (k n : Nat) (h : n < k) : (headsF key T k)[n]'(by rw [headsF_len]; exact h) = headF key (T.take n) := by simp [headsF]
/-- What Add does, in two cases. -/
theorem addR_cases (T : List (List Int)) (e : Ent) (he : EntB e) : (∃ b, addR T e = (T ++ [b], 0) ∧ b.length ≤ 1000) ∨ ∃ r, addR T e = (T, r) ∧ r ≠ 0 := by
  by_cases h : OkE e
  · by_cases h1 : 64 ≤ T.length
    · exact .inr ⟨11, addR_full T e h h1, by decide⟩
    · by_cases h2 : e.job = T.length
      · exact .inl ⟨encL e, addR_ok T e h (by omega) h2, by have := encL_len e h he.h he.s; omega⟩
      · exact .inr ⟨2, addR_arg T e h (by omega) h2, by decide⟩
  · exact .inr ⟨2, addR_no T e h, by decide⟩
theorem map_enc_len {M : List Ent} (h : NumOk M) : ∀ x ∈ M.map encL, x.length ≤ 1000 := fun x hx => by
  obtain ⟨e, he, rfl⟩ := List.mem_map.1 hx
  obtain ⟨j, hj, rfl⟩ := List.mem_iff_getElem.1 he
  have := h j hj
  have := encL_len _ this.1 this.2.2.h this.2.2.s
  omega

set_option maxRecDepth 100000 in
set_option maxHeartbeats 16000000 in
theorem lawstays_any (w : World) (bs0 : List Int) (A : Option Addr) (ck : Nat) (hr0 : Rd w A (nums .u8 bs0)) (hc0 : bs0.length ≤ ck) (hA : A = none → ck = 0) (hu : U8 bs0) (L : List Ent) (B : Option Addr) (c : Nat) (hE : Ents w B c L)
    (e : Ent) (D : Option Addr) (d : Nat) (he : EntB e) (ho : Nts w D d e.ord) (hl : e.ord.length ≤ 9223372036854775807) (hk : KV w) :
    Calls Tryd.prog 4 #[.slice A bs0.length ck, .slice B L.length c, .agg (entC e D d).toArray] w fun r w' => r = .returned (.bool true) ∧ Below w.heap.size w w' := by
  obtain ⟨key, hkl, _, hyk, HCUTK⟩ := (Byt.mk hr0 hc0 hA hu).cut 100 100 rfl
  obtain ⟨w0, hw0⟩ : ∃ W, W = w.alloc (.cells (entC e D d).toArray 39) := ⟨_, rfl⟩
  have hx0 : Blk w0 w.heap.size (entC e D d) 39 := by rw [hw0]; exact Blk.new' _ _ _ _ _ rfl rfl
  have hB0 : Below w.heap.size w w0 := by rw [hw0]; exact (Below.refl _ _).alloc (Nat.le_refl _) _
  have hcut := fun w (h : Nts w D d e.ord) => cut20_any w e he D d h hl
  have hnum := numbered_any w0 L B c (hE.up hB0) 12 (by decide) 12 rfl
  have HW0 := Lib.hid hw0
  have HCUT := Lib.hid hcut
  have HNUM := Lib.hid hnum
  have HLEN := Lib.hid (entC_len he D d)
  have HO := Lib.hid ho
  have HK := Lib.hid hk
  have HKEY := Lib.hid hyk
  have HCB := Lib.hid (cutE_B he)
  have HCL := Lib.hid (cutE_len e)
  have hxl := hx0.lt
  clear hw0 hcut hnum he ho hk hE hyk hr0 hc0 hA hu hl
  go_enter Tryd.func4, Tryd.ntmps4
  go_upto_region 1 with (fail)
  rw [← HW0.out]
  go_wp2_with fail
  go_at_call 9
  refine (HCUTK.out _).mono ?_
  rintro r wz ⟨rfl, rfl⟩
  go_wp2_with fail
  go_at_call 17
  refine HNUM.out.mono ?_
  rintro r w1 ⟨M, v1, rfl, hev, hM12, hNum⟩
  obtain ⟨A1, c1, rfl, -, -⟩ := hev.slot
  have hb1 := hev.below
  have hB1 := hB0.trans (hb1.mono hB0.size)
  have hx1 := hx0.up hb1
  have hfill := filled_any w1 key A ck (HKEY.out.up hB1) (by omega) M A1 c1 (hev.ents hNum.b) hNum (by omega) (HK.out.up hB1)
  have hTl : (M.map encL).length = M.length := List.length_map _
  have hTb := map_enc_len hNum
  obtain ⟨T, hT⟩ : ∃ T, T = M.map encL := ⟨_, rfl⟩
  rw [← hT] at hfill hTl hTb
  obtain ⟨m, hm⟩ : ∃ m, m = M.length := ⟨_, rfl⟩
  rw [← hm] at hfill hTl hM12 ⊢
  have HFILL := Lib.hid hfill
  have HTL := Lib.hid hTl
  have HTB := Lib.hid hTb
  have hTle : T.length ≤ 64 := by omega
  have HTLE := Lib.hid hTle
  clear hfill hTl hTb hT hm hev hNum hTle
  go_wp2_with fail
  --MARK1
  go_at_call 18
  refine HFILL.out.mono ?_
  rintro r w2 ⟨g, rfl, hb2, hL2⟩
  have hB2 := hB1.trans (hb2.mono hB1.size)
  have hx2 := hx1.up hb2
  have HL2 := Lib.hid hL2
  have hs12 := hb2.size
  clear hL2
  go_wp2_with fail
  go_at_call 19
  refine (ledtexts_any HL2.out HTLE.out HTB.out).mono ?_
  rintro r w3 ⟨v3, rfl, hb3, htl3⟩
  obtain ⟨A3, c3, rfl, htx3⟩ := htl3.txts
  have hB3 := hB2.trans (hb3.mono hB2.size)
  have hx3 := hx2.up hb3
  have HL3 := Lib.hid (HL2.out.up hb3)
  have HTL3 := Lib.hid htl3
  have hs23 := hb3.size
  have hs01 := hb1.size
  have hs00 := hB0.size
  clear htl3 htx3
  go_wp2_with fail
  --MARK2
  go_loopw [9, 10] (fun v i wr => ∃ k : Nat, i = .int .i64 k ∧ k ≤ m + 1 ∧ Below w3.heap.size w3 wr ∧ OwnR wr w3.heap.size 26 97 v (headsF key T k)) (fun _ i _ => m + 1 - (intOf i).toNat)
  case atStart => exact ⟨0, rfl, by omega, Below.refl _ _, OwnR.nil _ _ _ _⟩
  case round =>
    obtain ⟨k, rfl, hk, hbr, hh⟩ := hrel
    have HH := Lib.hid hh
    clear hh
    by_cases hlt : k ≤ m
    · have hhead := ledhead_any (HL3.out.up hbr) HTLE.out (by omega) k (by rw [HTL.out]; exact hlt) k rfl (HK.out.up (hB3.trans (hbr.mono hB3.size)))
      have hstep := headsF_step key T k
      have hhl := headF_len key (T.take k)
      have hone := headF_one key (T.take k)
      obtain ⟨HD, hHD⟩ : ∃ HD, HD = headF key (T.take k) := ⟨_, rfl⟩
      rw [← hHD] at hhead hstep hhl hone
      have HST := Lib.hid hstep
      have HHL := Lib.hid hhl
      have HONE := Lib.hid hone
      have HHEAD := Lib.hid hhead
      clear hhead hstep hhl hone hHD
      go_wp2_with fail
      --MARK3
      go_at_call 20
      refine HHEAD.out.mono ?_
      rintro r w4 ⟨rfl, hb4⟩
      have hq : Blk (w4.alloc (.cells (headC 0 zd zd zd).toArray 26)) w4.heap.size (headC 0 zd zd zd) 26 := Blk.new' _ _ _ _ _ rfl rfl
      go_upto_region 12 with ((with_reducible apply st_storeW (off := 0) (vs := HD) (cs := headC 0 zd zd zd) (T := 26)); rfl; rfl; exact hq; (rw [HHL.out]; exact headSize); (rw [HHL.out, zd_len]; decide); exact HONE.out; intro w5 hd5 hw5; rw [laid_all _ _ (by rw [HHL.out, zd_len])] at hd5)
      have hb5 : Below w4.heap.size w4 w5 := Wrote.below ((Below.refl _ _).alloc (Nat.le_refl _) _) hw5 (Nat.le_refl _)
      have hbr5 : Below w3.heap.size w3 w5 := (hbr.trans (hb4.mono hbr.size)).trans (hb5.mono (by have := hbr.size; have := hb4.size; omega))
      have hba : Below w5.heap.size w5 (w5.alloc (.cells HD.toArray 26)) := (Below.refl _ _).alloc (Nat.le_refl _) _
      have hra : Blk (w5.alloc (.cells HD.toArray 26)) w5.heap.size HD 26 := Blk.new' _ _ _ _ _ rfl rfl
      have hbr6 := hbr5.trans (hba.mono hbr5.size)
      have HH6 := Lib.hid (((HH.out.kept hb4).kept hb5).kept hba)
      have HHC := Lib.hid (headsF_len key T k)
      have hbr4s := hb4.size
      --MARK4
      go_wp2_with (first | ((with_reducible apply st_load (n := 97) (cs := HD) (T := 26)); rfl; exact hd5; exact Tryd.underlying26; rfl; exact headSize; (rw [HHL.out]; exact Nat.le_refl _); exact row_all _ _ HHL.out) | ((with_reducible apply st_buildR (cs := HD) (e := 26)); exact Tryd.underlying45; exact hinfo; rfl; decide; decide; rfl; exact HHL.out) | ((with_reducible apply st_appendR (base := w3.heap.size) (g2 := w5.heap.size) (e := 26) (v := u9) (cs := HD) (css := headsF key T k)); exact Tryd.underlying45; exact hinfo; rfl; decide; decide; rfl; rfl; exact HH6.out; exact hra; exact HHL.out; exact HONE.out; (rw [HHC.out]; omega); exact hbr6.size; intro v7 w7 ho7 hg7 _hat7))
      rw [← HST.out] at ho7
      have hbr7 := hbr6.grown hg7 hbr6.size (fun q hq => (HH6.out.lt q hq).1)
      --MARK5
      go_roundw
      case rel => exact ⟨k + 1, by go_num, by omega, hbr7, ho7⟩
      case measure => simp [intOf]; omega
    · have hkm : k = m + 1 := by omega
      subst hkm
      obtain ⟨A9, c9, hv9, -, -, -⟩ := HH.out.form
      rw [headsF_len] at hv9
      subst hv9
      have hB4 := hB3.trans (hbr.mono hB3.size)
      have hx4 := hx3.up hbr
      have HL4 := Lib.hid (HL3.out.up hbr)
      have HTL4 := Lib.hid (HTL3.out.up hbr)
      have hs4 := hbr.size
      clear hlt hk
      --MARK6
      go_wp2_with ((with_reducible apply st_load (n := 69) (cs := entC e D d) (T := 39)); rfl; exact hx4; exact Tryd.underlying39; rfl; exact entSize; (rw [HLEN.out]; decide); exact row_all _ _ HLEN.out)
      go_at_call 22
      refine (HCUT.out wr (HO.out.up hB4)).mono ?_
      rintro r w5 ⟨A5, c5, rfl, hg5⟩
      obtain ⟨A5', c5', hv5, hn5⟩ := hg5.slot
      injection hv5 with q1 q2 q3
      subst q1; subst q3
      have hb5 := hg5.1
      have hB5 := hB4.trans (hb5.mono hB4.size)
      have HL5 := Lib.hid (HL4.out.up hb5)
      have HTL5 := Lib.hid (HTL4.out.up hb5)
      have HH5 := Lib.hid (HH.out.kept hb5)
      have hadd := ledadd_any w5 w1.heap.size g key T _ HL5.out HTLE.out (by have := hb5.size; omega) (cutE e) HCB.out A5 c5 hn5 (by have := HCL.out; omega) (HK.out.up hB5)
      unfold AddPost at hadd
      have hcs := addR_cases T (cutE e) HCB.out
      have hs5 := hb5.size
      clear hg5 hn5
      --MARK7
      obtain ⟨T', rr, hab, hpre, hTb', hcase⟩ : ∃ T' rr, addR T (cutE e) = (T', rr) ∧ (∀ n, n ≤ m → T'.take n = T.take n) ∧ (∀ x ∈ T', x.length ≤ 1000) ∧ ((rr = 0 ∧ T'.length = m + 1) ∨ (rr ≠ 0 ∧ T'.length = m)) := by
        rcases hcs with ⟨b, h1, h2⟩ | ⟨r0, h1, h2⟩
        · refine ⟨_, _, h1, fun n hn => by rw [List.take_append_of_le_length (by rw [HTL.out]; exact hn)], fun x hx => ?_, .inl ⟨rfl, by rw [List.length_append, HTL.out]; rfl⟩⟩
          rcases List.mem_append.1 hx with hx | hx
          · exact HTB.out x hx
          · rw [List.mem_singleton.1 hx]; exact h2
        · exact ⟨_, _, h1, fun n _ => rfl, HTB.out, .inr ⟨h2, HTL.out⟩⟩
      rw [hab] at hadd
      have HADD := Lib.hid hadd
      have HPRE := Lib.hid hpre
      have HTB2 := Lib.hid hTb'
      clear hadd hab hpre hTb' hcs
      go_wp2_with fail
      go_at_call 21
      refine HADD.out.mono ?_
      rintro r w6 ⟨rfl, hL6, hC6⟩
      have hfar : ∀ k, w2.heap.size ≤ k → ¬ All w1.heap.size w2 k := fun k h1 h2 => by have := h2.2; omega
      have hB6 := hB5.trans (hC6.below (B := w.heap.size) (fun k hk => by have := hk.1; have := hb1.size; omega) hB5.size)
      have HL6 := Lib.hid hL6
      have HTL6 := Lib.hid (HTL5.out.ch hC6 (fun k h1 _ => hfar k h1))
      have HH6 := Lib.hid (HH5.out.ch hC6 (fun k hk => hfar k (by have := (HH5.out.lt k hk).1; omega)))
      have hs6 := hC6.size
      clear hL6 hC6 hfar
      rcases hcase with ⟨rfl, hlen⟩ | ⟨hrr, hlen⟩
      · --BRANCH0
        have hsize := ledsize_any HL6.out
        rw [hlen] at hsize
        have HSZ := Lib.hid hsize
        have HLN := Lib.hid hlen
        clear hsize hlen
        go_wp2_with fail
        go_at_call 23
        refine HSZ.out.mono ?_
        rintro r wz ⟨rfl, rfl⟩
        --MARKA0
        go_wp2_with ((with_reducible apply st_un); rfl)
        --MARKB0
        go_loopw [14] (fun i wq => ∃ k : Nat, i = .int .i64 k ∧ k ≤ m + 1 ∧ Below w6.heap.size w6 wq) (fun i _ => m + 1 - (intOf i).toNat)
        case atStart => exact ⟨0, rfl, by omega, Below.refl _ _⟩
        case round =>
          obtain ⟨k, rfl, hk, hbq⟩ := hrel
          rename World => wq
          by_cases hlt : k ≤ m
          · have hhead := ledhead_any (HL6.out.up hbq) (by rw [HLN.out]; omega) (by omega) k (by rw [HLN.out]; omega) k rfl (HK.out.up (hB6.trans (hbq.mono hB6.size)))
            rw [HPRE.out k hlt] at hhead
            have hhl := headF_len key (T.take k)
            have hone := headF_one key (T.take k)
            have hne := run_neq_head key (T.take k)
            have hhr := HH6.out.kept hbq
            obtain ⟨gh, hA9, hlen9, hgh, hcell9⟩ := hhr.get (by rw [headsF_len]; omega)
            have hcell := hcell9 k (by rw [headsF_len]; omega)
            rw [headsF_at key T (m + 1) k (by omega)] at hcell
            obtain ⟨HD, hHD⟩ : ∃ HD, HD = headF key (T.take k) := ⟨_, rfl⟩
            rw [← hHD] at hhead hhl hone hne hcell
            subst hA9
            have HHL := Lib.hid hhl
            have HONE := Lib.hid hone
            have HHEAD := Lib.hid hhead
            have HCELL := Lib.hid hcell
            have HNE := Lib.hid hne
            clear hhead hhl hone hHD hhr hcell9 hcell hlen9 hne
            go_wp2_with fail
            --MARKC0
            go_at_call 20
            refine HHEAD.out.mono ?_
            rintro r w7 ⟨rfl, hb7⟩
            have hq : Blk (w7.alloc (.cells (headC 0 zd zd zd).toArray 26)) w7.heap.size (headC 0 zd zd zd) 26 := Blk.new' _ _ _ _ _ rfl rfl
            go_upto_region 20 with ((with_reducible apply st_storeW (off := 0) (vs := HD) (cs := headC 0 zd zd zd) (T := 26)); rfl; rfl; exact hq; (rw [HHL.out]; exact headSize); (rw [HHL.out, zd_len]; decide); exact HONE.out; intro w8 hd8 hw8; rw [laid_all _ _ (by rw [HHL.out, zd_len])] at hd8)
            have hb8 : Below w7.heap.size w7 w8 := Wrote.below ((Below.refl _ _).alloc (Nat.le_refl _) _) hw8 (Nat.le_refl _)
            have hb78 : Below wq.heap.size wq w8 := hb7.trans (hb8.mono hb7.size)
            have hbq8 := hbq.trans (hb78.mono hbq.size)
            have c8 : ∀ j v, HD[j]? = some v → w8.cell? ⟨gh, k * 97 + j, none⟩ = some v := fun j v hv => (hb78.cell (p := ⟨gh, k * 97 + j, none⟩) hgh).trans (HCELL.out j v hv)
            have HC8 := Lib.hid c8
            clear hq hw8 c8
            --MARKD0
            refine wp_region_C (Same [gh, w7.heap.size] w8) [] (by kernel_rfl) (by kernel_rfl) (by intro c a w h; first | (obtain ⟨_, h, _⟩ := h; cases h; done) | (obtain ⟨_, _, h, _⟩ := h; cases h; done) | (obtain ⟨_, _, _, h, _⟩ := h; cases h; done) | (obtain ⟨_, _, _, _, h, _⟩ := h; cases h; done) | (rcases h with ⟨_, ⟨_, _, _, _, h, _⟩ | ⟨_, _, _, _, h, _⟩⟩ <;> cases h; done)) (by intro a w h; first | (obtain ⟨h, _⟩ := h; cases h; done) | (obtain ⟨_, h, _⟩ := h; cases h; done) | (obtain ⟨_, _, h, _⟩ := h; cases h; done) | (obtain ⟨_, _, _, h, _⟩ := h; cases h; done) | (rcases h with ⟨_, _, _, _, h, _⟩ | ⟨_, _, _, _, h, _⟩ <;> cases h; done)) (Same.refl _ _) ?_
            repeat (refine wd_wg (v := ?_) rfl rfl rfl rfl rfl rfl (fun w' hw' K hK => ?_) ?_; rotate_left; (have e1 := hw'.blk hd8 (by simp); have e2 := HNE.out; have e3 : ∀ j v, HD[j]? = some v → w'.cell? ⟨gh, k * 97 + j, none⟩ = some v := fun j v hv => (hw'.cell gh (by simp) _).trans (HC8.out j v hv); go_wp2_with ((first | ((with_reducible apply st_load (n := 97) (cs := HD) (T := 26)); rfl; exact e1; exact Tryd.underlying26; rfl; exact headSize; (rw [HHL.out]; exact Nat.le_refl _); (exact row_all _ _ HHL.out)) | ((with_reducible apply st_loadCells (cs := HD)); rfl; exact e3; exact Tryd.underlying26; rfl; (rw [HHL.out]; exact headSize)))); exact rfl); simp only [Act.put, List.setIfInBounds_toArray, List.set_cons_zero, List.set_cons_succ])
            --MARKE0
            refine wd_pick (b := false) (v := .bool false) rfl rfl rfl rfl rfl ?_
            simp only [Act.put, List.setIfInBounds_toArray, List.set_cons_zero, List.set_cons_succ]
            refine wd_nil ?_
            go_wp2_with fail
            --MARKF0
            go_roundw
            case rel => first | exact ⟨k + 1, by go_num, by omega, hbq8.drew⟩ | ((repeat apply Exists.intro); refine ⟨⟨k + 1, ?_, by omega, hbq8.drew⟩, rfl⟩; go_num)
            case measure => simp [intOf]; omega
          · have hB7 := hB6.trans (hbq.mono hB6.size)
            have hcall := ledtexts_any (HL6.out.up hbq) (by rw [HLN.out]; omega) HTB2.out
            have HCALL := Lib.hid hcall
            clear hcall
            go_wp2_with fail
            --MARKG0
            go_at_call 19
            refine HCALL.out.mono ?_
            rintro r w7 ⟨v7, rfl, hb7, htl7⟩
            obtain ⟨A7, c7, rfl, htx7⟩ := htl7.txts
            obtain ⟨A3', c3', hv3, htx3⟩ := (HTL6.out.up (hbq.trans (hb7.mono hbq.size))).txts
            injection hv3 with q1 q2 q3
            subst q1; subst q3
            have hB8 := hB7.trans (hb7.mono hB7.size)
            have hle7 := htx7.le
            have hsp := htl7.spot
            have htt := htx7.take m
            rw [HPRE.out m (Nat.le_refl _), List.take_of_length_le (by rw [HTL.out]; exact Nat.le_refl _)] at htt
            have hcall := same21_any w7 T T A7 A3 c7 c3 htt htx3 (by rw [HTL.out]; omega) HTB.out
            rw [decide_eq_true rfl, show Value.slice A7 T.length c7 = .slice A7 m c7 by rw [HTL.out]] at hcall
            have HCALL := Lib.hid hcall
            have HNN := Lib.hid htx7.nn
            have HSP := Lib.hid hsp
            have hmc : m ≤ c7 := by have := HLN.out; omega
            clear htl7 htx7 htx3 htt hcall hsp hle7
            --MARKH0
            go_wp2_with ((with_reducible apply st_toD (sz := 1) (i := m)); exact Tryd.underlying43; kernel_rfl; rfl; rfl; rfl; exact hmc; exact HNN.out; exact HSP.out)
            --MARKI0
            go_at_call 24
            have hc2 := HCALL.out
            refine hc2.mono ?_
            clear hc2
            rintro r w8 ⟨rfl, hb8⟩
            have hB9 := hB8.trans (hb8.mono hB8.size)
            go_wp2_with ((with_reducible apply st_un); rfl)
            go_at_call 16
            refine (lives21_any _ (HK.out.up hB9)).mono ?_
            rintro r w9 ⟨rfl, hb9⟩
            go_wp2_with ((with_reducible apply st_un); rfl)
            go_ret
            exact ⟨rfl, hB9.trans (hb9.mono hB9.size)⟩
      · --BRANCH1
        have hsize := ledsize_any HL6.out
        rw [hlen] at hsize
        have HSZ := Lib.hid hsize
        have HLN := Lib.hid hlen
        clear hsize hlen
        have hr0 : (rr == 0) = false := by simpa using hrr
        go_wp2_with fail
        go_at_call 23
        refine HSZ.out.mono ?_
        rintro r wz ⟨rfl, rfl⟩
        --MARKA1
        have hmm : ((m : Int) == (m : Int) + 1) = false := by simp; omega
        go_wp2_with ((with_reducible apply st_un); rfl)
        go_at_call 23
        refine HSZ.out.mono ?_
        rintro r wz ⟨rfl, rfl⟩
        clear hmm
        go_wp2_with ((with_reducible apply st_un); rfl)
        --MARKB1
        go_loopw [14] (fun i wq => ∃ k : Nat, i = .int .i64 k ∧ k ≤ m + 1 ∧ Below w6.heap.size w6 wq) (fun i _ => m + 1 - (intOf i).toNat)
        case atStart => exact ⟨0, rfl, by omega, Below.refl _ _⟩
        case round =>
          obtain ⟨k, rfl, hk, hbq⟩ := hrel
          rename World => wq
          by_cases hlt : k ≤ m
          · have hhead := ledhead_any (HL6.out.up hbq) (by rw [HLN.out]; omega) (by omega) k (by rw [HLN.out]; omega) k rfl (HK.out.up (hB6.trans (hbq.mono hB6.size)))
            rw [HPRE.out k hlt] at hhead
            have hhl := headF_len key (T.take k)
            have hone := headF_one key (T.take k)
            have hne := run_neq_head key (T.take k)
            have hhr := HH6.out.kept hbq
            obtain ⟨gh, hA9, hlen9, hgh, hcell9⟩ := hhr.get (by rw [headsF_len]; omega)
            have hcell := hcell9 k (by rw [headsF_len]; omega)
            rw [headsF_at key T (m + 1) k (by omega)] at hcell
            obtain ⟨HD, hHD⟩ : ∃ HD, HD = headF key (T.take k) := ⟨_, rfl⟩
            rw [← hHD] at hhead hhl hone hne hcell
            subst hA9
            have HHL := Lib.hid hhl
            have HONE := Lib.hid hone
            have HHEAD := Lib.hid hhead
            have HCELL := Lib.hid hcell
            have HNE := Lib.hid hne
            clear hhead hhl hone hHD hhr hcell9 hcell hlen9 hne
            go_wp2_with fail
            --MARKC1
            go_at_call 20
            refine HHEAD.out.mono ?_
            rintro r w7 ⟨rfl, hb7⟩
            have hq : Blk (w7.alloc (.cells (headC 0 zd zd zd).toArray 26)) w7.heap.size (headC 0 zd zd zd) 26 := Blk.new' _ _ _ _ _ rfl rfl
            go_upto_region 20 with ((with_reducible apply st_storeW (off := 0) (vs := HD) (cs := headC 0 zd zd zd) (T := 26)); rfl; rfl; exact hq; (rw [HHL.out]; exact headSize); (rw [HHL.out, zd_len]; decide); exact HONE.out; intro w8 hd8 hw8; rw [laid_all _ _ (by rw [HHL.out, zd_len])] at hd8)
            have hb8 : Below w7.heap.size w7 w8 := Wrote.below ((Below.refl _ _).alloc (Nat.le_refl _) _) hw8 (Nat.le_refl _)
            have hb78 : Below wq.heap.size wq w8 := hb7.trans (hb8.mono hb7.size)
            have hbq8 := hbq.trans (hb78.mono hbq.size)
            have c8 : ∀ j v, HD[j]? = some v → w8.cell? ⟨gh, k * 97 + j, none⟩ = some v := fun j v hv => (hb78.cell (p := ⟨gh, k * 97 + j, none⟩) hgh).trans (HCELL.out j v hv)
            have HC8 := Lib.hid c8
            clear hq hw8 c8
            --MARKD1
            refine wp_region_C (Same [gh, w7.heap.size] w8) [] (by kernel_rfl) (by kernel_rfl) (by intro c a w h; first | (obtain ⟨_, h, _⟩ := h; cases h; done) | (obtain ⟨_, _, h, _⟩ := h; cases h; done) | (obtain ⟨_, _, _, h, _⟩ := h; cases h; done) | (obtain ⟨_, _, _, _, h, _⟩ := h; cases h; done) | (rcases h with ⟨_, ⟨_, _, _, _, h, _⟩ | ⟨_, _, _, _, h, _⟩⟩ <;> cases h; done)) (by intro a w h; first | (obtain ⟨h, _⟩ := h; cases h; done) | (obtain ⟨_, h, _⟩ := h; cases h; done) | (obtain ⟨_, _, h, _⟩ := h; cases h; done) | (obtain ⟨_, _, _, h, _⟩ := h; cases h; done) | (rcases h with ⟨_, _, _, _, h, _⟩ | ⟨_, _, _, _, h, _⟩ <;> cases h; done)) (Same.refl _ _) ?_
            repeat (refine wd_wg (v := ?_) rfl rfl rfl rfl rfl rfl (fun w' hw' K hK => ?_) ?_; rotate_left; (have e1 := hw'.blk hd8 (by simp); have e2 := HNE.out; have e3 : ∀ j v, HD[j]? = some v → w'.cell? ⟨gh, k * 97 + j, none⟩ = some v := fun j v hv => (hw'.cell gh (by simp) _).trans (HC8.out j v hv); go_wp2_with ((first | ((with_reducible apply st_load (n := 97) (cs := HD) (T := 26)); rfl; exact e1; exact Tryd.underlying26; rfl; exact headSize; (rw [HHL.out]; exact Nat.le_refl _); (exact row_all _ _ HHL.out)) | ((with_reducible apply st_loadCells (cs := HD)); rfl; exact e3; exact Tryd.underlying26; rfl; (rw [HHL.out]; exact headSize)))); exact rfl); simp only [Act.put, List.setIfInBounds_toArray, List.set_cons_zero, List.set_cons_succ])
            --MARKE1
            refine wd_pick (b := false) (v := .bool false) rfl rfl rfl rfl rfl ?_
            simp only [Act.put, List.setIfInBounds_toArray, List.set_cons_zero, List.set_cons_succ]
            refine wd_nil ?_
            go_wp2_with fail
            --MARKF1
            go_roundw
            case rel => first | exact ⟨k + 1, by go_num, by omega, hbq8.drew⟩ | ((repeat apply Exists.intro); refine ⟨⟨k + 1, ?_, by omega, hbq8.drew⟩, rfl⟩; go_num)
            case measure => simp [intOf]; omega
          · have hB7 := hB6.trans (hbq.mono hB6.size)
            have hcall := ledtexts_any (HL6.out.up hbq) (by rw [HLN.out]; omega) HTB2.out
            have HCALL := Lib.hid hcall
            clear hcall
            go_wp2_with fail
            --MARKG1
            go_at_call 19
            refine HCALL.out.mono ?_
            rintro r w7 ⟨v7, rfl, hb7, htl7⟩
            obtain ⟨A7, c7, rfl, htx7⟩ := htl7.txts
            obtain ⟨A3', c3', hv3, htx3⟩ := (HTL6.out.up (hbq.trans (hb7.mono hbq.size))).txts
            injection hv3 with q1 q2 q3
            subst q1; subst q3
            have hB8 := hB7.trans (hb7.mono hB7.size)
            have hle7 := htx7.le
            have hsp := htl7.spot
            have htt := htx7.take m
            rw [HPRE.out m (Nat.le_refl _), List.take_of_length_le (by rw [HTL.out]; exact Nat.le_refl _)] at htt
            have hcall := same21_any w7 T T A7 A3 c7 c3 htt htx3 (by rw [HTL.out]; omega) HTB.out
            rw [decide_eq_true rfl, show Value.slice A7 T.length c7 = .slice A7 m c7 by rw [HTL.out]] at hcall
            have HCALL := Lib.hid hcall
            have HNN := Lib.hid htx7.nn
            have HSP := Lib.hid hsp
            have hmc : m ≤ c7 := by have := HLN.out; omega
            clear htl7 htx7 htx3 htt hcall hsp hle7
            --MARKH1
            go_wp2_with ((with_reducible apply st_toD (sz := 1) (i := m)); exact Tryd.underlying43; kernel_rfl; rfl; rfl; rfl; exact hmc; exact HNN.out; exact HSP.out)
            --MARKI1
            go_at_call 24
            have hc2 := HCALL.out
            refine hc2.mono ?_
            clear hc2
            rintro r w8 ⟨rfl, hb8⟩
            have hB9 := hB8.trans (hb8.mono hB8.size)
            go_wp2_with ((with_reducible apply st_un); rfl)
            go_at_call 16
            refine (lives21_any _ (HK.out.up hB9)).mono ?_
            rintro r w9 ⟨rfl, hb9⟩
            go_wp2_with ((with_reducible apply st_un); rfl)
            go_ret
            exact ⟨rfl, hB9.trans (hb9.mono hB9.size)⟩

end Go.Proofs.YtancldhincaphaaDoor
