/- What entry.Decode answers. No condition but the kinds' own bounds. -/
import Derived.Test.YtepicdcmcagipaaEntD
import Derived.Test.YtepicdcmcagipaaByEq
namespace Go.Proofs.Ytepicdcmcagipaa
open Go.RowKit

def DecPost (b : List Int) (w : World) (r : Ending) (w' : World) : Prop :=
  ∃ A c, r = .returned (.tuple #[.agg (entC (decR b).1 A c).toArray, .int .i64 (decR b).2]) ∧ GrowI w (decR b).1.ord (.slice A (decR b).1.ord.length c) w'
theorem ReadPost.none {b : List Int} {w : World} {r : Ending} {w' : World} (h : ReadPost b w r w') (hn : readR b = none) : ∃ cs : List Value, cs.length = 69 ∧ (∀ v ∈ cs, v.oneCell' = true) ∧ r = .returned (.tuple #[.agg cs.toArray, .bool false]) ∧ Below w.heap.size w w' := by
  rcases h with ⟨e, A, c, h1, _⟩ | ⟨cs, _, h⟩
  · rw [hn] at h1; cases h1
  · exact ⟨cs, h⟩
theorem ReadPost.some {b : List Int} {w : World} {r : Ending} {w' : World} {e : Ent} (h : ReadPost b w r w') (hn : readR b = some e) : ∃ A c, r = .returned (.tuple #[.agg (entC e A c).toArray, .bool true]) ∧ GrowI w e.ord (.slice A e.ord.length c) w' := by
  rcases h with ⟨e', A, c, h1, h2⟩ | ⟨cs, h1, _⟩
  · rw [hn] at h1; injection h1 with h1; subst h1; exact ⟨A, c, h2⟩
  · rw [hn] at h1; cases h1
theorem b64_nat (n : Nat) (h : n ≤ 1099511627776) : B64 (n : Int) := ⟨by omega, by omega⟩
theorem u8_part {b : List Int} (h : U8 b) {l : List Int} (hl : ∀ x ∈ l, x ∈ b) : U8 l := U8.of fun x hx => by
  obtain ⟨i, hi, e⟩ := List.mem_iff_getElem.1 (hl x hx)
  have := h i
  unfold ga at this
  rw [List.getD_eq_getElem?_getD, List.getElem?_eq_getElem hi] at this
  rw [← e]; exact this
theorem numR_mem {b : List Int} {most x : Nat} {r : List Int} (h : numR b most = some (x, r)) : x ≤ most ∧ ∀ y ∈ r, y ∈ b := by
  obtain ⟨n, _, h2, h3, _⟩ := numR_some h
  exact ⟨h2, fun y hy => by rw [h3] at hy; exact List.mem_of_mem_drop hy⟩
theorem read_EntB {b : List Int} {e : Ent} (u : U8 b) (h : readR b = some e) : EntB e ∧ e.ord.length ≤ b.length := by
  have hl := read_lens b e h
  unfold readR at h
  split at h
  · cases h
  · rename_i j b1 h1
    have m1 := numR_mem h1
    split at h
    · cases h
    · rename_i t b2 h2
      have m2 := numR_mem h2
      split at h
      · cases h
      · split at h
        · cases h
        · rename_i r b3 h3
          have m3 := numR_mem h3
          split at h
          · cases h
          · rename_i n b4 h4
            have m4 := numR_mem h4
            split at h
            · injection h with h
              have i2 : ∀ y ∈ b2, y ∈ b := fun y hy => m1.2 y (m2.2 y hy)
              have i4 : ∀ y ∈ b4, y ∈ b := fun y hy => i2 y (List.mem_of_mem_drop (m3.2 y (m4.2 y hy)))
              have l1 : b1.length ≤ b.length := by obtain ⟨n, _, _, h3, _⟩ := numR_some h1; rw [h3, List.length_drop]; omega
              have l2 : b2.length ≤ b1.length := by obtain ⟨n, _, _, h3, _⟩ := numR_some h2; rw [h3, List.length_drop]; omega
              have l3 : b3.length ≤ b2.length := by obtain ⟨n, _, _, h3, _⟩ := numR_some h3; rw [h3, List.length_drop, List.length_drop]; omega
              have l4 : b4.length ≤ b3.length := by obtain ⟨n, _, _, h3, _⟩ := numR_some h4; rw [h3, List.length_drop]; omega
              subst h
              have hk := (u8_part u i2) 64
              refine ⟨⟨hl.1, hl.2, u8_part u fun y hy => i2 y (List.mem_of_mem_take hy), u8_part u fun y hy => i2 y (List.mem_of_mem_drop (List.mem_of_mem_take hy)), b64_nat _ (by omega), b64_nat _ m2.1, ?_, b64_nat _ (by omega), fun x hx => ?_⟩, by show b4.length ≤ _; omega⟩
              · show B64 (b2.getD 64 0)
                unfold ga at hk; exact ⟨by omega, by omega⟩
              · obtain ⟨i, hi, e⟩ := List.mem_iff_getElem.1 (i4 x hx)
                have := u i
                unfold ga at this
                rw [List.getD_eq_getElem?_getD, List.getElem?_eq_getElem hi] at this
                rw [← e]; simp only [Option.getD_some] at this; exact ⟨by omega, by omega⟩
            · cases h
/-- Entry{}. -/
theorem st_buildE {ops : Array Oper} {rest : List Oper} {a : Act} {w : World} {Q : Exit → Act → World → Prop} {d' : Option Tmp} {tt : TypeId} {pos : String} {after : Array Edge}
    (h : wpList Try.prog ops Q rest (a.put d' (.agg entZ.toArray)) w) :
    wpList Try.prog ops Q (⟨d', .build 28 #[], tt, pos, after, none⟩ :: rest) a w :=
  wpList_plain rfl fun K hK => by
    unfold Oper.wp execOp
    simp only [Sem.run_bind, List.map_toArray, List.map_nil]
    rw [run_build w _ _ entZ.toArray (by kernel_rfl)]
    exact hK _ _ h
theorem entZ_one : ∀ v ∈ entZ, v.oneCell' = true := entV_one _ _ _ _ _ _ _ rfl
theorem entC_zero : entC zeroE none 0 = entZ := rfl
theorem decR_none {b : List Int} (h : readR b = none) : decR b = (zeroE, 4) := by unfold decR; rw [h]
theorem decR_bad {b : List Int} {e : Ent} (h : readR b = some e) (hn : ¬ OkE e) : decR b = (zeroE, 4) := by unfold decR; rw [h]; dsimp only; rw [if_neg (fun x => hn x.1)]
theorem decR_other {b : List Int} {e : Ent} (h : readR b = some e) (hn : ¬ encL e = b) : decR b = (zeroE, 4) := by unfold decR; rw [h]; dsimp only; rw [if_neg (fun x => hn x.2)]
theorem decR_ok {b : List Int} {e : Ent} (h : readR b = some e) (h1 : OkE e) (h2 : encL e = b) : decR b = (e, 0) := by unfold decR; rw [h]; dsimp only; rw [if_pos ⟨h1, h2⟩]
theorem DecPost.zero {b : List Int} {w w' : World} {v : Value} (h : decR b = (zeroE, 4)) (hb : Below w.heap.size w w') (hv : v = .int .i64 4) : DecPost b w (.returned (.tuple #[.agg entZ.toArray, v])) w' :=
  ⟨none, 0, by rw [h, hv]; rfl, by rw [h]; exact ⟨hb, OwnC.nil _ _ _⟩⟩
theorem DecPost.ok {b : List Int} {w w' : World} {e : Ent} {A : Option Addr} {c : Nat} {v : Value} {cs : List Value} (h : decR b = (e, 0)) (hg : GrowI w e.ord (.slice A e.ord.length c) w') (hc : cs = entC e A c) (hv : v = .int .i64 0) : DecPost b w (.returned (.tuple #[.agg cs.toArray, v])) w' :=
  ⟨A, c, by rw [h, hv, hc], by rw [h]; exact hg⟩
theorem varL_u8 (x : Nat) : U8 (varL x) := U8.of (varT_u8 10 x)
theorem encL_u8 {e : Ent} (h : OkE e) (hb : EntB e) : U8 (encL e) := by
  have hl := h.2.2.2.2.2.len
  have hk := h.2.2.1
  unfold encL
  refine ((((((varL_u8 _).append (varL_u8 _)).append hb.uh).append hb.us).append (U8.of fun x hx => ?_)).append (varL_u8 _) |>.append (U8.of fun x hx => ?_)).append (U8.of fun x hx => ?_)
  · rw [List.mem_singleton.1 hx]; omega
  · rw [List.mem_singleton.1 hx]; omega
  · have := h.2.2.2.2.2.1 x hx; omega

set_option maxRecDepth 100000 in
set_option maxHeartbeats 8000000 in
theorem decode_any (w : World) (A : Option Addr) (c : Nat) (b : List Int) (hby : Byt w A c b) (hl : b.length ≤ 1000) :
    Calls Try.prog 11 #[.slice A b.length c] w (DecPost b w) := by
  have HBY := Lib.hid hby
  have hB0 : Below w.heap.size w (w.alloc (.cells entZ.toArray 28)) := (Below.refl _ _).alloc (Nat.le_refl _) _
  have hr0 : Blk (w.alloc (.cells entZ.toArray 28)) w.heap.size entZ 28 := Blk.new' _ _ _ _ _ rfl rfl
  cases hrd : readR b with
  | none =>
    have hd := decR_none hrd
    have hcall := fun W (h : Byt W A c b) => (read_any W A c b h (by omega)).mono fun r w' hp => hp.none hrd
    have HD := Lib.hid hd
    have HC := Lib.hid hcall
    clear hd hcall hrd hby
    go_enter Try.func11, Try.ntmps11
    go_wp2_with (with_reducible apply st_allocE)
    go_at_call 24
    refine (HC.out _ (HBY.out.up hB0)).mono ?_
    rintro r w1 ⟨CS, hlen, hone, rfl, hb1⟩
    have hB1 := hB0.trans (hb1.mono hB0.size)
    have hr1 := hr0.up hb1
    have hlt := hr1.lt
    have HLEN := Lib.hid hlen
    have HONE := Lib.hid hone
    clear hlen hone hB0 hr0 hb1
    go_wp2_with (first | (with_reducible apply st_allocE) | (with_reducible apply st_buildE) | ((with_reducible apply st_storeW (off := 0) (vs := CS) (cs := entZ) (T := 28)); rfl; rfl; exact Blk.new' _ _ _ _ _ rfl rfl; (rw [HLEN.out]; exact entSize); (rw [HLEN.out, entZ_len]; decide); exact HONE.out; intro w2 hd2 hw2; have hr2 := hw2.blk (hr1.alloc _) (by omega); have hB2 := Wrote.below (hB1.alloc hB1.size _) hw2 hB1.size) | ((with_reducible apply st_storeW (off := 0) (vs := entZ) (cs := entZ) (T := 28)); rfl; rfl; exact hr2; (rw [entZ_len]; exact entSize); exact Nat.le_of_eq (Nat.zero_add _); exact entZ_one; intro w3 hd3 hw3; rw [laid_all _ _ rfl] at hd3))
    refine bodyPost_ret (ret_row_tmp rfl _ _ _ entZ 28 _ rfl hd3 Try.underlying28 rfl (by rw [entZ_len]; exact entSize)) rfl (DecPost.zero HD.out (Wrote.below hB2 hw3 (Nat.le_refl _)) rfl)
  | some e =>
    have heb := read_EntB hby.u hrd
    have hcall := fun W (h : Byt W A c b) => (read_any W A c b h (by omega)).mono fun r w' hp => hp.some hrd
    have HC := Lib.hid hcall
    have HEB := Lib.hid heb
    have henc := fun W A1 c1 h => encode_any W e heb.1 A1 c1 h (by omega)
    clear hcall
    by_cases hok : OkE e
    · rw [encR_yes e hok] at henc
      have heu := encL_u8 hok heb.1
      by_cases he : encL e = b
      · have hd := decR_ok hrd hok he
        have heq : decide (b = encL e) = true := decide_eq_true he.symm
        obtain ⟨E, hE⟩ : ∃ E, E = encL e := ⟨_, rfl⟩
        rw [← hE] at henc heu heq
        have HENC := Lib.hid henc
        have HD := Lib.hid hd
        have HEU := Lib.hid heu
        have HEQ := Lib.hid heq
        clear henc hd heu heq hE he hrd hby hok heb
        go_enter Try.func11, Try.ntmps11
        go_wp2_with (with_reducible apply st_allocE)
        go_at_call 24
        refine (HC.out _ (HBY.out.up hB0)).mono ?_
        rintro r w1 ⟨A1, c1, rfl, hg1⟩
        have hB1 := hB0.trans (hg1.1.mono hB0.size)
        have hr1 := hr0.up hg1.1
        have hlt := hr1.lt
        obtain ⟨A2, c2, hv, hnt⟩ := hg1.slot
        injection hv with hv1 hv2 hv3
        subst hv1
        subst hv3
        have hlen := entC_len HEB.out.1 A1 c1
        have hone := entC_one (e := e) A1 c1
        obtain ⟨CS, hCS⟩ : ∃ CS, CS = entC e A1 c1 := ⟨_, rfl⟩
        rw [← hCS] at hlen hone ⊢
        have HLEN := Lib.hid hlen
        have HONE := Lib.hid hone
        have HCS := Lib.hid hCS
        have HG1 := Lib.hid hg1
        clear hlen hone hCS hB0 hr0 hv2 hg1
        go_wp2_with (first | (with_reducible apply st_allocE) | ((with_reducible apply st_storeW (off := 0) (vs := CS) (cs := entZ) (T := 28)); rfl; rfl; exact Blk.new' _ _ _ _ _ rfl rfl; (rw [HLEN.out]; exact entSize); (rw [HLEN.out, entZ_len]; decide); exact HONE.out; intro w2 hd2 hw2; rw [laid_all _ _ (by rw [HLEN.out, entZ_len])] at hd2; have hr2 := hw2.blk (hr1.alloc _) (by omega); have hBr := Wrote.below ((Below.refl w1.heap.size w1).alloc (Nat.le_refl _) _) hw2 (Nat.le_refl _)) | ((with_reducible apply st_load (n := 69) (cs := CS) (T := 28)); rfl; exact hd2; exact Try.underlying28; rfl; exact entSize; (rw [HLEN.out]; decide); exact row_all _ _ HLEN.out))
        go_at_call 9
        rw [HCS.out]
        refine (HENC.out _ A1 c1 (hnt.up hBr)).mono ?_
        rw [← HCS.out]
        rintro r w3 ⟨v3, rfl, hb3, ho3⟩
        have hr3 := hr2.up hb3
        have hd3 := hd2.up hb3
        have hBr3 := hBr.trans (hb3.mono hBr.size)
        obtain ⟨A3, c3, rfl, h3l, h3n, h3r, _⟩ := ho3.from
        go_wp2_with ((with_reducible apply st_un); rfl)
        go_at_call 25
        have hcall := bytesEq_any w3 A A3 c c3 b E (HBY.out.up (hB1.trans (hBr3.mono hB1.size))).rd h3r HBY.out.u HEU.out
        rw [HEQ.out] at hcall
        refine hcall.mono ?_
        clear hcall
        rintro r w4 ⟨rfl, rfl⟩

        go_wp2_with (first | ((with_reducible apply st_load (n := 69) (cs := CS) (T := 28)); rfl; exact hd3; exact Try.underlying28; rfl; exact entSize; (rw [HLEN.out]; decide); exact row_all _ _ HLEN.out) | ((with_reducible apply st_storeW (off := 0) (vs := CS) (cs := entZ) (T := 28)); rfl; rfl; exact hr3; (rw [HLEN.out]; exact entSize); (rw [HLEN.out, entZ_len]; decide); exact HONE.out; intro w9 hd9 hw9; rw [laid_all _ _ (by rw [HLEN.out, entZ_len])] at hd9))
        refine bodyPost_ret (ret_row_tmp rfl _ _ _ CS 28 _ rfl hd9 Try.underlying28 rfl (by rw [HLEN.out]; exact entSize)) rfl (DecPost.ok HD.out ⟨Wrote.below (hB1.trans (hBr3.mono hB1.size)) hw9 (Nat.le_refl _), OwnC.mono (OwnC.farWrote (OwnC.kept HG1.out.2 hBr3) hw9 (by simp)) (by simp)⟩ HCS.out rfl)
      · have hd := decR_other hrd he
        have heq : decide (b = encL e) = false := decide_eq_false (fun h => he h.symm)
        obtain ⟨E, hE⟩ : ∃ E, E = encL e := ⟨_, rfl⟩
        rw [← hE] at henc heu heq
        have HENC := Lib.hid henc
        have HD := Lib.hid hd
        have HEU := Lib.hid heu
        have HEQ := Lib.hid heq
        clear henc hd heu heq hE he hrd hby hok heb
        go_enter Try.func11, Try.ntmps11
        go_wp2_with (with_reducible apply st_allocE)
        go_at_call 24
        refine (HC.out _ (HBY.out.up hB0)).mono ?_
        rintro r w1 ⟨A1, c1, rfl, hg1⟩
        have hB1 := hB0.trans (hg1.1.mono hB0.size)
        have hr1 := hr0.up hg1.1
        have hlt := hr1.lt
        obtain ⟨A2, c2, hv, hnt⟩ := hg1.slot
        injection hv with hv1 hv2 hv3
        subst hv1
        subst hv3
        have hlen := entC_len HEB.out.1 A1 c1
        have hone := entC_one (e := e) A1 c1
        obtain ⟨CS, hCS⟩ : ∃ CS, CS = entC e A1 c1 := ⟨_, rfl⟩
        rw [← hCS] at hlen hone ⊢
        have HLEN := Lib.hid hlen
        have HONE := Lib.hid hone
        have HCS := Lib.hid hCS
        have HG1 := Lib.hid hg1
        clear hlen hone hCS hB0 hr0 hv2 hg1
        go_wp2_with (first | (with_reducible apply st_allocE) | ((with_reducible apply st_storeW (off := 0) (vs := CS) (cs := entZ) (T := 28)); rfl; rfl; exact Blk.new' _ _ _ _ _ rfl rfl; (rw [HLEN.out]; exact entSize); (rw [HLEN.out, entZ_len]; decide); exact HONE.out; intro w2 hd2 hw2; rw [laid_all _ _ (by rw [HLEN.out, entZ_len])] at hd2; have hr2 := hw2.blk (hr1.alloc _) (by omega); have hBr := Wrote.below ((Below.refl w1.heap.size w1).alloc (Nat.le_refl _) _) hw2 (Nat.le_refl _)) | ((with_reducible apply st_load (n := 69) (cs := CS) (T := 28)); rfl; exact hd2; exact Try.underlying28; rfl; exact entSize; (rw [HLEN.out]; decide); exact row_all _ _ HLEN.out))
        go_at_call 9
        rw [HCS.out]
        refine (HENC.out _ A1 c1 (hnt.up hBr)).mono ?_
        rw [← HCS.out]
        rintro r w3 ⟨v3, rfl, hb3, ho3⟩
        have hr3 := hr2.up hb3
        have hd3 := hd2.up hb3
        have hBr3 := hBr.trans (hb3.mono hBr.size)
        obtain ⟨A3, c3, rfl, h3l, h3n, h3r, _⟩ := ho3.from
        go_wp2_with ((with_reducible apply st_un); rfl)
        go_at_call 25
        have hcall := bytesEq_any w3 A A3 c c3 b E (HBY.out.up (hB1.trans (hBr3.mono hB1.size))).rd h3r HBY.out.u HEU.out
        rw [HEQ.out] at hcall
        refine hcall.mono ?_
        clear hcall
        rintro r w4 ⟨rfl, rfl⟩

        go_wp2_with (first | (with_reducible apply st_buildE) | ((with_reducible apply st_storeW (off := 0) (vs := entZ) (cs := entZ) (T := 28)); rfl; rfl; exact hr3; (rw [entZ_len]; exact entSize); exact Nat.le_of_eq (Nat.zero_add _); exact entZ_one; intro w9 hd9 hw9; rw [laid_all _ _ rfl] at hd9))
        refine bodyPost_ret (ret_row_tmp rfl _ _ _ entZ 28 _ rfl hd9 Try.underlying28 rfl (by rw [entZ_len]; exact entSize)) rfl (DecPost.zero HD.out (Wrote.below (hB1.trans (hBr3.mono hB1.size)) hw9 (Nat.le_refl _)) rfl)
    · have hd := decR_bad hrd hok
      rw [encR_no e hok] at henc
      have HENC := Lib.hid henc
      have HD := Lib.hid hd
      clear henc hd hrd hby hok heb
      go_enter Try.func11, Try.ntmps11
      go_wp2_with (with_reducible apply st_allocE)
      go_at_call 24
      refine (HC.out _ (HBY.out.up hB0)).mono ?_
      rintro r w1 ⟨A1, c1, rfl, hg1⟩
      have hB1 := hB0.trans (hg1.1.mono hB0.size)
      have hr1 := hr0.up hg1.1
      have hlt := hr1.lt
      obtain ⟨A2, c2, hv, hnt⟩ := hg1.slot
      injection hv with hv1 hv2 hv3
      subst hv1
      subst hv3
      have hlen := entC_len HEB.out.1 A1 c1
      have hone := entC_one (e := e) A1 c1
      obtain ⟨CS, hCS⟩ : ∃ CS, CS = entC e A1 c1 := ⟨_, rfl⟩
      rw [← hCS] at hlen hone ⊢
      have HLEN := Lib.hid hlen
      have HONE := Lib.hid hone
      have HCS := Lib.hid hCS
      have HG1 := Lib.hid hg1
      clear hlen hone hCS hB0 hr0 hv2 hg1
      go_wp2_with (first | (with_reducible apply st_allocE) | ((with_reducible apply st_storeW (off := 0) (vs := CS) (cs := entZ) (T := 28)); rfl; rfl; exact Blk.new' _ _ _ _ _ rfl rfl; (rw [HLEN.out]; exact entSize); (rw [HLEN.out, entZ_len]; decide); exact HONE.out; intro w2 hd2 hw2; rw [laid_all _ _ (by rw [HLEN.out, entZ_len])] at hd2; have hr2 := hw2.blk (hr1.alloc _) (by omega); have hBr := Wrote.below ((Below.refl w1.heap.size w1).alloc (Nat.le_refl _) _) hw2 (Nat.le_refl _)) | ((with_reducible apply st_load (n := 69) (cs := CS) (T := 28)); rfl; exact hd2; exact Try.underlying28; rfl; exact entSize; (rw [HLEN.out]; decide); exact row_all _ _ HLEN.out))
      go_at_call 9
      rw [HCS.out]
      refine (HENC.out _ A1 c1 (hnt.up hBr)).mono ?_
      rw [← HCS.out]
      rintro r w3 ⟨v3, rfl, hb3, ho3⟩
      have hr3 := hr2.up hb3
      have hd3 := hd2.up hb3
      have hBr3 := hBr.trans (hb3.mono hBr.size)
      go_wp2_with (first | (with_reducible apply st_buildE) | ((with_reducible apply st_storeW (off := 0) (vs := entZ) (cs := entZ) (T := 28)); rfl; rfl; exact hr3; (rw [entZ_len]; exact entSize); exact Nat.le_of_eq (Nat.zero_add _); exact entZ_one; intro w9 hd9 hw9; rw [laid_all _ _ rfl] at hd9))
      refine bodyPost_ret (ret_row_tmp rfl _ _ _ entZ 28 _ rfl hd9 Try.underlying28 rfl (by rw [entZ_len]; exact entSize)) rfl (DecPost.zero HD.out (Wrote.below (hB1.trans (hBr3.mono hB1.size)) hw9 (Nat.le_refl _)) rfl)

end Go.Proofs.Ytepicdcmcagipaa
