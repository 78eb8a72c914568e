/- What entry.Encode and the reference's Encode answer. No condition but the kinds' own bounds. -/
import Derived.Test.YtepicdcmcagipaaEntR
import Derived.Test.YtepicdcmcagipaaGb
namespace Go.Proofs.Ytepicdcmcagipaa
open Go.RowKit

/-- Bytes in memory of the call's own, and a number. -/
def GivesN (r : List Int × Int) (w : World) (e : Ending) (w' : World) : Prop := ∃ v, e = .returned (.tuple #[v, .int .i64 r.2]) ∧ Below w.heap.size w w' ∧ Own w' w.heap.size v r.1
theorem rd_h {w : World} {g : Nat} {e : Ent} {A : Option Addr} {c : Nat} {T : TypeId} (h : Blk w g (entC e A c) T) (_he : EntB e) : Rd w (some ⟨g, 2, none⟩) (nums .u8 e.h) := by
  refine .inr ⟨g, 2, rfl, fun j v hv => ?_⟩
  rw [h.cell]
  unfold entC
  rw [show 2 + j = j + 1 + 1 by omega, List.getElem?_cons_succ, List.getElem?_cons_succ, List.append_assoc, List.getElem?_append_left (List.getElem?_eq_some_iff.1 hv).1]
  exact hv
theorem rd_s {w : World} {g : Nat} {e : Ent} {A : Option Addr} {c : Nat} {T : TypeId} (h : Blk w g (entC e A c) T) (he : EntB e) : Rd w (some ⟨g, 34, none⟩) (nums .u8 e.s) := by
  refine .inr ⟨g, 34, rfl, fun j v hv => ?_⟩
  rw [h.cell]
  unfold entC
  rw [show 34 + j = (32 + j) + 1 + 1 by omega, List.getElem?_cons_succ, List.getElem?_cons_succ, List.append_assoc, List.getElem?_append_right (by rw [nums_length, he.h]; omega), nums_length, he.h, show 32 + j - 32 = j by omega, List.getElem?_append_left (List.getElem?_eq_some_iff.1 hv).1]
  exact hv
theorem encR_no (e : Ent) (h : ¬ OkE e) : encR e = ([], 2) := by unfold encR; rw [if_neg h]
theorem encR_yes (e : Ent) (h : OkE e) : encR e = (encL e, 0) := by unfold encR; rw [if_pos h]

set_option maxRecDepth 100000 in
set_option maxHeartbeats 8000000 in
theorem encode_any (w : World) (e : Ent) (he : EntB e) (A : Option Addr) (c : Nat) (ho : Nts w A c e.ord) (hl : e.ord.length ≤ 1000) :
    Calls Try.prog 9 #[.agg (entC e A c).toArray] w (GivesN (encR e) w) := by
  have HE := Lib.hid he
  have HO := Lib.hid ho
  have hx0 : Blk (w.alloc (.cells (entC e A c).toArray 28)) w.heap.size (entC e A c) 28 := Blk.new' _ _ _ _ _ rfl rfl
  have hB0 : Below w.heap.size w (w.alloc (.cells (entC e A c).toArray 28)) := (Below.refl _ _).alloc (Nat.le_refl _) _
  have hchk := fun w (h : Nts w A c e.ord) => check_any w e he A c h hl
  have HCHK := Lib.hid hchk
  clear hchk he
  by_cases hok : OkE e
  · obtain ⟨J, hJ⟩ : ∃ J : Nat, e.job = J := ⟨e.job.toNat, by have := hok.1; omega⟩
    obtain ⟨I, hI⟩ : ∃ I : Nat, e.time = I := ⟨e.time.toNat, by have := hok.2.1; omega⟩
    obtain ⟨K, hK⟩ : ∃ K : Nat, e.kind = K := ⟨e.kind.toNat, by have := hok.2.2.1; omega⟩
    obtain ⟨R, hR⟩ : ∃ R : Nat, e.tries = R := ⟨e.tries.toNat, by have := hok.2.2.2.1; omega⟩
    have hJ2 : J ≤ 63 := by have := hok.1; omega
    have hI2 : I ≤ 1099511627776 := by have := hok.2.1; omega
    have hK2 : K ≤ 4 := by have := hok.2.2.1; omega
    have hR2 : R ≤ 1073741824 := by have := hok.2.2.2.1; omega
    have hol := hok.2.2.2.2.2.len
    have horr := hok.2.2.2.2.2.1
    have hc0 := HCHK.out
    rw [checkR_yes e hok] at hc0
    rw [encR_yes e hok]
    have hv1 := fun w => var_any w J (by omega)
    have hv2 := fun w => var_any w I (by omega)
    have hv3 := fun w => var_any w R (by omega)
    have hl1 := varL_len J
    have hl2 := varL_len I
    have hl3 := varL_len R
    obtain ⟨V1, hV1⟩ : ∃ V1, V1 = varL J := ⟨_, rfl⟩
    obtain ⟨V2, hV2⟩ : ∃ V2, V2 = varL I := ⟨_, rfl⟩
    obtain ⟨V3, hV3⟩ : ∃ V3, V3 = varL R := ⟨_, rfl⟩
    have henc : encL e = V1 ++ V2 ++ e.h ++ e.s ++ [(K : Int)] ++ V3 ++ [(e.ord.length : Int)] ++ e.ord := by
      unfold encL; rw [hJ, hI, hK, hR, hV1, hV2, hV3]; rfl
    rw [← hV1] at hv1 hl1
    rw [← hV2] at hv2 hl2
    rw [← hV3] at hv3 hl3
    have hv4 := fun w => var_any w e.ord.length (by omega)
    rw [varL_small e.ord.length (by omega)] at hv4
    have HV4 := Lib.hid hv4
    clear hv4
    have hh32 : e.h.length ≤ 32 := by rw [HE.out.h]; exact Nat.le_refl _
    have hs32 : e.s.length ≤ 32 := by rw [HE.out.s]; exact Nat.le_refl _
    have HENC := Lib.hid henc
    have HV1 := Lib.hid hv1
    have HV2 := Lib.hid hv2
    have HV3 := Lib.hid hv3
    have HC0 := Lib.hid hc0
    have HORR := Lib.hid horr
    have HJ := Lib.hid hJ
    have HI := Lib.hid hI
    have HK := Lib.hid hK
    have HR := Lib.hid hR
    obtain ⟨E, hE⟩ : ∃ E, E = encL e := ⟨_, rfl⟩
    have HEE := Lib.hid hE
    rw [← hE]
    clear hc0 henc hv1 hv2 hv3 hV1 hV2 hV3 horr hJ hI hK hR hE hok
    go_enter Try.func9, Try.ntmps9
    go_wp2_with ((with_reducible apply st_load (n := 69) (cs := entC e A c) (T := 28)); rfl; exact hx0; exact Try.underlying28; rfl; exact entSize; (rw [entC_len HE.out]; decide); exact row_all _ _ (entC_len HE.out A c))
    go_at_call 15
    refine (HC0.out _ (HO.out.up hB0)).mono ?_
    rintro r w1 ⟨rfl, hb1⟩
    have hx1 := hx0.up hb1
    have hB1 := hB0.trans (hb1.mono hB0.size)
    have hg0 := hx1.lt
    have c0 : w1.cell? ⟨w.heap.size, 0, none⟩ = some (.int .i64 J) := by rw [← HJ.out]; exact hx1.cell 0
    have c1 : w1.cell? ⟨w.heap.size, 1, none⟩ = some (.int .i64 I) := by rw [← HI.out]; exact hx1.cell 1
    have c66 : w1.cell? ⟨w.heap.size, 66, none⟩ = some (.int .i64 K) := by rw [← HK.out]; exact (hx1.cell _).trans (entC_at HE.out A c 0)
    have c67 : w1.cell? ⟨w.heap.size, 67, none⟩ = some (.slice A e.ord.length c) := (hx1.cell _).trans (entC_at HE.out A c 1)
    have c68 : w1.cell? ⟨w.heap.size, 68, none⟩ = some (.int .i64 R) := by rw [← HR.out]; exact (hx1.cell _).trans (entC_at HE.out A c 2)
    clear hb1 hB0 hx0
    go_wp2_with fail
    refine wp_region_C (Same [w.heap.size] w1) [3, 7, 8] (by kernel_rfl) (by kernel_rfl) (by intro c a w h; first | (obtain ⟨_, h, _⟩ := h; cases h; done) | (obtain ⟨_, _, h, _⟩ := h; cases h; done) | (obtain ⟨_, _, _, h, _⟩ := h; cases h; done) | (obtain ⟨_, _, _, _, h, _⟩ := h; cases h; done) | (rcases h with ⟨_, ⟨_, _, _, _, h, _⟩ | ⟨_, _, _, _, h, _⟩⟩ <;> cases h; done)) (by intro a w h; first | (obtain ⟨h, _⟩ := h; cases h; done) | (obtain ⟨_, h, _⟩ := h; cases h; done) | (obtain ⟨_, _, h, _⟩ := h; cases h; done) | (obtain ⟨_, _, _, h, _⟩ := h; cases h; done) | (rcases h with ⟨_, _, _, _, h, _⟩ | ⟨_, _, _, _, h, _⟩ <;> cases h; done)) (Same.refl _ _) ?_
    repeat (refine wd_q (v := ?_) rfl rfl rfl rfl rfl rfl (fun w' hw' K hK => ?_) ?_; rotate_left; (have e0 := (hw'.cell w.heap.size (by simp) 0).trans c0; have e1 := (hw'.cell w.heap.size (by simp) 1).trans c1; go_wp2; exact rfl); simp only [Act.put, List.setIfInBounds_toArray, List.set_cons_zero, List.set_cons_succ])
    refine wd_l rfl rfl (by intro a w h; first | (obtain ⟨h, _⟩ := h; cases h; done) | (obtain ⟨_, h, _⟩ := h; cases h; done) | (obtain ⟨_, _, h, _⟩ := h; cases h; done) | (obtain ⟨_, _, _, h, _⟩ := h; cases h; done) | (rcases h with ⟨_, _, _, _, h, _⟩ | ⟨_, _, _, _, h, _⟩ <;> cases h; done)) ?_
    go_wp2_with fail
    go_at_call 22
    refine (HV1.out _).mono ?_
    rintro r w2 ⟨v2, rfl, hb2, ho2⟩
    have hG2 : Grows w1 V1 v2 w2 := ⟨(Below.refl _ _).drew.trans (hb2.mono (Nat.le_refl _)), ho2⟩
    go_wp2_with fail
    refine ⟨.inr (fun g hg => by rw [List.mem_singleton.1 hg]; exact hG2.1.block _ hg0), ?_⟩
    repeat (refine wd_q (v := ?_) rfl rfl rfl rfl rfl rfl (fun w' hw' K hK => ?_) ?_; rotate_left; (have e0 := (hw'.cell w.heap.size (by simp) 0).trans c0; have e1 := (hw'.cell w.heap.size (by simp) 1).trans c1; go_wp2; exact rfl); simp only [Act.put, List.setIfInBounds_toArray, List.set_cons_zero, List.set_cons_succ])
    refine wd_l rfl rfl (by intro a w h; first | (obtain ⟨h, _⟩ := h; cases h; done) | (obtain ⟨_, h, _⟩ := h; cases h; done) | (obtain ⟨_, _, h, _⟩ := h; cases h; done) | (obtain ⟨_, _, _, h, _⟩ := h; cases h; done) | (rcases h with ⟨_, _, _, _, h, _⟩ | ⟨_, _, _, _, h, _⟩ <;> cases h; done)) ?_
    go_wp2_with fail
    go_at_call 22
    refine (HV2.out _).mono ?_
    rintro r w3 ⟨v3, rfl, hb3, ho3⟩
    obtain ⟨A3, C3, rfl, p3, q3, r3, _⟩ := ho3.from
    have hG3 := hG2.up hb3
    go_wp2_with fail
    refine ⟨.inr (fun g hg => by rw [List.mem_singleton.1 hg]; exact hG3.1.block _ hg0), ?_⟩
    refine wd_l rfl rfl (by intro a w h; first | (obtain ⟨h, _⟩ := h; cases h; done) | (obtain ⟨_, h, _⟩ := h; cases h; done) | (obtain ⟨_, _, h, _⟩ := h; cases h; done) | (obtain ⟨_, _, _, h, _⟩ := h; cases h; done) | (rcases h with ⟨_, _, _, _, h, _⟩ | ⟨_, _, _, _, h, _⟩ <;> cases h; done)) ?_
    go_wp2_with ((with_reducible apply st_grow (w0 := w1) (xs := V1) (ys := V2)); rfl; rfl; exact hG3; exact q3; exact r3; omega; intro v4 w4 hG4)
    refine ⟨.inr (fun g hg => by rw [List.mem_singleton.1 hg]; exact hG4.1.block _ hg0), ?_⟩
    repeat (refine wd_q (v := ?_) rfl rfl rfl rfl rfl rfl (fun w' hw' K hK => ?_) ?_; rotate_left; (skip; go_wp2; exact rfl); simp only [Act.put, List.setIfInBounds_toArray, List.set_cons_zero, List.set_cons_succ])
    refine wd_nil ?_
    have hx4 := hx1.below hG4.1 hg0
    clear hG3 hG2 ho2 ho3
    go_wp2_with (first | ((with_reducible apply st_allArr); exact Try.underlying23; kernel_rfl; rfl) | ((with_reducible apply st_grow (w0 := w1) (xs := (V1 ++ V2)) (ys := e.h)); rfl; (rw [HE.out.h]; rfl); exact hG4; (intro h; cases h); exact (rd_h hx4 HE.out); (simp only [List.length_append]; omega); intro v5 w5 hG5; have hx5 := hx1.below hG5.1 hg0) | ((with_reducible apply st_grow (w0 := w1) (xs := (V1 ++ V2 ++ e.h)) (ys := e.s)); rfl; (rw [HE.out.s]; rfl); exact hG5; (intro h; cases h); exact (rd_s hx5 HE.out); (simp only [List.length_append]; omega); intro v6 w6 hG6; have d66w6 := (hG6.1.cell (p := ⟨w.heap.size, 66, none⟩) hg0).trans c66) | ((with_reducible apply st_grow (w0 := w1) (xs := (V1 ++ V2 ++ e.h ++ e.s)) (ys := [(K : Int)])); rfl; rfl; exact (hG6.alloc _); (intro h; cases h); exact (Rd.ofBlk (Blk.new' _ _ _ 5 _ rfl rfl)); (simp only [List.length_append, List.length_singleton]; omega); intro v7 w7 hG7; have d68w7 := (hG7.1.cell (p := ⟨w.heap.size, 68, none⟩) hg0).trans c68))
    go_at_call 22
    refine (HV3.out _).mono ?_
    rintro r w8 ⟨v8, rfl, hb8, ho8⟩
    obtain ⟨A8, C8, rfl, p8, q8, r8, _⟩ := ho8.from
    have hG8 := hG7.up hb8
    go_wp2_with ((with_reducible apply st_grow (w0 := w1) (xs := (V1 ++ V2 ++ e.h ++ e.s ++ [(K : Int)])) (ys := V3)); rfl; rfl; exact hG8; exact q8; exact r8; (simp only [List.length_append, List.length_singleton]; omega); intro v9 w9 hG9; have d67w9 := (hG9.1.cell (p := ⟨w.heap.size, 67, none⟩) hg0).trans c67)
    go_at_call 22
    refine (HV4.out _).mono ?_
    rintro r w10 ⟨v10, rfl, hb10, ho10⟩
    obtain ⟨A10, C10, rfl, p10, q10, r10, _⟩ := ho10.from
    have hG10 := hG9.up hb10
    go_wp2_with ((with_reducible apply st_grow (w0 := w1) (xs := (V1 ++ V2 ++ e.h ++ e.s ++ [(K : Int)] ++ V3)) (ys := [(e.ord.length : Int)])); rfl; rfl; exact hG10; exact q10; exact r10; (simp only [List.length_append, List.length_singleton]; omega); intro v11 w11 hG11; have d67w11 := (hG11.1.cell (p := ⟨w.heap.size, 67, none⟩) hg0).trans c67)
    obtain ⟨X, hX⟩ : ∃ X, X = (V1 ++ V2 ++ e.h ++ e.s ++ [(K : Int)] ++ V3 ++ [(e.ord.length : Int)]) := ⟨_, rfl⟩
    have hXl : X.length ≤ 200 := by rw [hX]; simp only [List.length_append, List.length_singleton]; omega
    rw [← hX] at hG11
    have henc := HENC.out
    rw [← hX, ← HEE.out] at henc
    have HENC2 := Lib.hid henc
    clear hX henc
    go_loopw [5, 56] (fun v i wr => ∃ k : Nat, i = .int .i64 k ∧ k ≤ e.ord.length ∧ Grows w1 (X ++ e.ord.take k) v wr) (fun _ i _ => e.ord.length - (intOf i).toNat)
    case atStart => exact ⟨0, rfl, by omega, by rw [List.take_zero, List.append_nil]; exact hG11⟩
    case round =>
      clear hG11
      obtain ⟨k, rfl, hk, hG⟩ := hrel
      have d67r := (hG.1.cell (p := ⟨w.heap.size, 67, none⟩) hg0).trans c67
      by_cases hlt : k < e.ord.length
      · obtain ⟨g, o, rfl, hg, hc⟩ := HO.out.get (by omega)
        have cx : wr.cell? ⟨g, o + k, none⟩ = some (.int .i64 (ga e.ord k)) := ((hB1.trans (hG.1.mono hB1.size)).cell (p := ⟨g, o + k, none⟩) hg).trans (hc k hlt)
        have htk := take_at e.ord k hlt
        rw [← ga_eq] at htk
        have hxr := HORR.out (ga e.ord k) (by have : ga e.ord k = e.ord[k] := by simp [ga, hlt]
                                              rw [this]; exact List.getElem_mem _)
        have hkl : (e.ord.take k).length ≤ 64 := by rw [List.length_take]; omega
        obtain ⟨x, hx⟩ : ∃ x, x = ga e.ord k := ⟨_, rfl⟩
        rw [← hx] at cx htk hxr
        have HTK := Lib.hid htk
        clear hc htk hx
        go_wp2_with ((with_reducible apply st_grow (w0 := w1) (xs := X ++ e.ord.take k) (ys := [x])); rfl; rfl; exact (hG.alloc _); (intro h; cases h); exact (Rd.ofBlk (Blk.new' _ _ _ 5 _ rfl rfl)); (simp only [List.length_append, List.length_singleton]; omega); intro v2 w2 hG2)
        rw [List.append_assoc, ← HTK.out] at hG2
        go_roundw
        case rel => exact ⟨k + 1, by go_num, by omega, hG2⟩
        case measure => simp [intOf]; omega
      · have e9 : e.ord.take k = e.ord := List.take_of_length_le (by omega)
        rw [e9, ← HENC2.out] at hG
        clear e9
        go_wp2_with fail
        go_ret2
        exact ⟨_, rfl, hB1.trans (hG.1.mono hB1.size), hG.2.mono hB1.size⟩
  · have hc0 := HCHK.out
    rw [checkR_no e hok] at hc0
    rw [encR_no e hok]
    have HC0 := Lib.hid hc0
    clear hc0 hok
    go_enter Try.func9, Try.ntmps9
    go_wp2_with ((with_reducible apply st_load (n := 69) (cs := entC e A c) (T := 28)); rfl; exact hx0; exact Try.underlying28; rfl; exact entSize; (rw [entC_len HE.out]; decide); exact row_all _ _ (entC_len HE.out A c))
    go_at_call 15
    refine (HC0.out _ (HO.out.up hB0)).mono ?_
    rintro r w1 ⟨rfl, hb1⟩
    go_wp2_with fail
    go_ret2
    exact ⟨_, rfl, hB0.trans (hb1.mono hB0.size), Own.nil _ _⟩

set_option maxRecDepth 100000 in
set_option maxHeartbeats 8000000 in
theorem refencode_any (w : World) (e : Ent) (he : EntB e) (A : Option Addr) (c : Nat) (ho : Nts w A c e.ord) (hl : e.ord.length ≤ 1000) :
    Calls Try.prog 10 #[.agg (entC e A c).toArray] w (GivesN (encR e) w) := by
  have HE := Lib.hid he
  have HO := Lib.hid ho
  have hx0 : Blk (w.alloc (.cells (entC e A c).toArray 28)) w.heap.size (entC e A c) 28 := Blk.new' _ _ _ _ _ rfl rfl
  have hB0 : Below w.heap.size w (w.alloc (.cells (entC e A c).toArray 28)) := (Below.refl _ _).alloc (Nat.le_refl _) _
  have hchk := fun w (h : Nts w A c e.ord) => refcheck_any w e he A c h hl
  have HCHK := Lib.hid hchk
  clear hchk he
  by_cases hok : OkE e
  · obtain ⟨J, hJ⟩ : ∃ J : Nat, e.job = J := ⟨e.job.toNat, by have := hok.1; omega⟩
    obtain ⟨I, hI⟩ : ∃ I : Nat, e.time = I := ⟨e.time.toNat, by have := hok.2.1; omega⟩
    obtain ⟨K, hK⟩ : ∃ K : Nat, e.kind = K := ⟨e.kind.toNat, by have := hok.2.2.1; omega⟩
    obtain ⟨R, hR⟩ : ∃ R : Nat, e.tries = R := ⟨e.tries.toNat, by have := hok.2.2.2.1; omega⟩
    have hJ2 : J ≤ 63 := by have := hok.1; omega
    have hI2 : I ≤ 1099511627776 := by have := hok.2.1; omega
    have hK2 : K ≤ 4 := by have := hok.2.2.1; omega
    have hR2 : R ≤ 1073741824 := by have := hok.2.2.2.1; omega
    have hol := hok.2.2.2.2.2.len
    have horr := hok.2.2.2.2.2.1
    have hc0 := HCHK.out
    rw [checkR_yes e hok] at hc0
    rw [encR_yes e hok]
    have hv1 := fun w => refvar_any w J (by omega)
    have hv2 := fun w => refvar_any w I (by omega)
    have hv3 := fun w => refvar_any w R (by omega)
    have hl1 := varL_len J
    have hl2 := varL_len I
    have hl3 := varL_len R
    obtain ⟨V1, hV1⟩ : ∃ V1, V1 = varL J := ⟨_, rfl⟩
    obtain ⟨V2, hV2⟩ : ∃ V2, V2 = varL I := ⟨_, rfl⟩
    obtain ⟨V3, hV3⟩ : ∃ V3, V3 = varL R := ⟨_, rfl⟩
    have henc : encL e = V1 ++ V2 ++ e.h ++ e.s ++ [(K : Int)] ++ V3 ++ [(e.ord.length : Int)] ++ e.ord := by
      unfold encL; rw [hJ, hI, hK, hR, hV1, hV2, hV3]; rfl
    rw [← hV1] at hv1 hl1
    rw [← hV2] at hv2 hl2
    rw [← hV3] at hv3 hl3
    have hh32 : e.h.length ≤ 32 := by rw [HE.out.h]; exact Nat.le_refl _
    have hs32 : e.s.length ≤ 32 := by rw [HE.out.s]; exact Nat.le_refl _
    have HENC := Lib.hid henc
    have HV1 := Lib.hid hv1
    have HV2 := Lib.hid hv2
    have HV3 := Lib.hid hv3
    have HC0 := Lib.hid hc0
    have HORR := Lib.hid horr
    have HJ := Lib.hid hJ
    have HI := Lib.hid hI
    have HK := Lib.hid hK
    have HR := Lib.hid hR
    obtain ⟨E, hE⟩ : ∃ E, E = encL e := ⟨_, rfl⟩
    have HEE := Lib.hid hE
    rw [← hE]
    clear hc0 henc hv1 hv2 hv3 hV1 hV2 hV3 horr hJ hI hK hR hE hok
    go_enter Try.func10, Try.ntmps10
    go_wp2_with ((with_reducible apply st_load (n := 69) (cs := entC e A c) (T := 28)); rfl; exact hx0; exact Try.underlying28; rfl; exact entSize; (rw [entC_len HE.out]; decide); exact row_all _ _ (entC_len HE.out A c))
    go_at_call 16
    refine (HC0.out _ (HO.out.up hB0)).mono ?_
    rintro r w1 ⟨rfl, hb1⟩
    have hx1 := hx0.up hb1
    have hB1 := hB0.trans (hb1.mono hB0.size)
    have hg0 := hx1.lt
    have c0 : w1.cell? ⟨w.heap.size, 0, none⟩ = some (.int .i64 J) := by rw [← HJ.out]; exact hx1.cell 0
    have c1 : w1.cell? ⟨w.heap.size, 1, none⟩ = some (.int .i64 I) := by rw [← HI.out]; exact hx1.cell 1
    have c66 : w1.cell? ⟨w.heap.size, 66, none⟩ = some (.int .i64 K) := by rw [← HK.out]; exact (hx1.cell _).trans (entC_at HE.out A c 0)
    have c67 : w1.cell? ⟨w.heap.size, 67, none⟩ = some (.slice A e.ord.length c) := (hx1.cell _).trans (entC_at HE.out A c 1)
    have c68 : w1.cell? ⟨w.heap.size, 68, none⟩ = some (.int .i64 R) := by rw [← HR.out]; exact (hx1.cell _).trans (entC_at HE.out A c 2)
    clear hb1 hB0 hx0
    go_wp2_with fail
    go_at_call 23
    refine (HV1.out _).mono ?_
    rintro r w2 ⟨v2, rfl, hb2, ho2⟩
    have hG2 : Grows w1 V1 v2 w2 := ⟨hb2, ho2⟩
    have d1w2 := (hG2.1.cell (p := ⟨w.heap.size, 1, none⟩) hg0).trans c1
    go_wp2_with fail
    go_at_call 23
    refine (HV2.out _).mono ?_
    rintro r w3 ⟨v3, rfl, hb3, ho3⟩
    obtain ⟨A3, C3, rfl, p3, q3, r3, _⟩ := ho3.from
    have hG3 := hG2.up hb3
    have hx4 : True := trivial
    go_wp2_with (first | ((with_reducible apply st_grow (w0 := w1) (xs := V1) (ys := V2)); rfl; rfl; exact hG3; exact q3; exact r3; omega; intro v4 w4 hG4; clear hx4; have hx4 := hx1.below hG4.1 hg0) | ((with_reducible apply st_allArr); exact Try.underlying23; kernel_rfl; rfl) | ((with_reducible apply st_grow (w0 := w1) (xs := (V1 ++ V2)) (ys := e.h)); rfl; (rw [HE.out.h]; rfl); exact hG4; (intro h; cases h); exact (rd_h hx4 HE.out); (simp only [List.length_append]; omega); intro v5 w5 hG5; have hx5 := hx1.below hG5.1 hg0) | ((with_reducible apply st_grow (w0 := w1) (xs := (V1 ++ V2 ++ e.h)) (ys := e.s)); rfl; (rw [HE.out.s]; rfl); exact hG5; (intro h; cases h); exact (rd_s hx5 HE.out); (simp only [List.length_append]; omega); intro v6 w6 hG6; have d66w6 := (hG6.1.cell (p := ⟨w.heap.size, 66, none⟩) hg0).trans c66) | ((with_reducible apply st_grow (w0 := w1) (xs := (V1 ++ V2 ++ e.h ++ e.s)) (ys := [(K : Int)])); rfl; rfl; exact (hG6.alloc _); (intro h; cases h); exact (Rd.ofBlk (Blk.new' _ _ _ 5 _ rfl rfl)); (simp only [List.length_append, List.length_singleton]; omega); intro v7 w7 hG7; have d68w7 := (hG7.1.cell (p := ⟨w.heap.size, 68, none⟩) hg0).trans c68))
    go_at_call 23
    refine (HV3.out _).mono ?_
    rintro r w8 ⟨v8, rfl, hb8, ho8⟩
    obtain ⟨A8, C8, rfl, p8, q8, r8, _⟩ := ho8.from
    have hG8 := hG7.up hb8
    go_wp2_with (first | ((with_reducible apply st_grow (w0 := w1) (xs := (V1 ++ V2 ++ e.h ++ e.s ++ [(K : Int)])) (ys := V3)); rfl; rfl; exact hG8; exact q8; exact r8; (simp only [List.length_append, List.length_singleton]; omega); intro v9 w9 hG9; have d67w9 := (hG9.1.cell (p := ⟨w.heap.size, 67, none⟩) hg0).trans c67) | ((with_reducible apply st_grow (w0 := w1) (xs := (V1 ++ V2 ++ e.h ++ e.s ++ [(K : Int)] ++ V3)) (ys := [(e.ord.length : Int)])); rfl; rfl; exact (hG9.alloc _); (intro h; cases h); exact (Rd.ofBlk (Blk.new' _ _ _ 5 _ rfl rfl)); (simp only [List.length_append, List.length_singleton]; omega); intro v11 w11 hG11; have d67w11 := (hG11.1.cell (p := ⟨w.heap.size, 67, none⟩) hg0).trans c67))
    obtain ⟨X, hX⟩ : ∃ X, X = (V1 ++ V2 ++ e.h ++ e.s ++ [(K : Int)] ++ V3 ++ [(e.ord.length : Int)]) := ⟨_, rfl⟩
    have hXl : X.length ≤ 200 := by rw [hX]; simp only [List.length_append, List.length_singleton]; omega
    rw [← hX] at hG11
    have henc := HENC.out
    rw [← hX, ← HEE.out] at henc
    have HENC2 := Lib.hid henc
    clear hX henc
    go_loopw [5, 6] (fun v i wr => ∃ k : Nat, i = .int .i64 k ∧ k ≤ e.ord.length ∧ Grows w1 (X ++ e.ord.take k) v wr) (fun _ i _ => e.ord.length - (intOf i).toNat)
    case atStart => exact ⟨0, rfl, by omega, by rw [List.take_zero, List.append_nil]; exact hG11⟩
    case round =>
      clear hG11
      obtain ⟨k, rfl, hk, hG⟩ := hrel
      have d67r := (hG.1.cell (p := ⟨w.heap.size, 67, none⟩) hg0).trans c67
      by_cases hlt : k < e.ord.length
      · obtain ⟨g, o, rfl, hg, hc⟩ := HO.out.get (by omega)
        have cx : wr.cell? ⟨g, o + k, none⟩ = some (.int .i64 (ga e.ord k)) := ((hB1.trans (hG.1.mono hB1.size)).cell (p := ⟨g, o + k, none⟩) hg).trans (hc k hlt)
        have htk := take_at e.ord k hlt
        rw [← ga_eq] at htk
        have hxr := HORR.out (ga e.ord k) (by have : ga e.ord k = e.ord[k] := by simp [ga, hlt]
                                              rw [this]; exact List.getElem_mem _)
        have hkl : (e.ord.take k).length ≤ 64 := by rw [List.length_take]; omega
        obtain ⟨x, hx⟩ : ∃ x, x = ga e.ord k := ⟨_, rfl⟩
        rw [← hx] at cx htk hxr
        have HTK := Lib.hid htk
        clear hc htk hx
        go_wp2_with ((with_reducible apply st_grow (w0 := w1) (xs := X ++ e.ord.take k) (ys := [x])); rfl; rfl; exact (hG.alloc _); (intro h; cases h); exact (Rd.ofBlk (Blk.new' _ _ _ 5 _ rfl rfl)); (simp only [List.length_append, List.length_singleton]; omega); intro v2 w2 hG2)
        rw [List.append_assoc, ← HTK.out] at hG2
        go_roundw
        case rel => exact ⟨k + 1, by go_num, by omega, hG2⟩
        case measure => simp [intOf]; omega
      · have e9 : e.ord.take k = e.ord := List.take_of_length_le (by omega)
        rw [e9, ← HENC2.out] at hG
        clear e9
        go_wp2_with fail
        go_ret2
        exact ⟨_, rfl, hB1.trans (hG.1.mono hB1.size), hG.2.mono hB1.size⟩
  · have hc0 := HCHK.out
    rw [checkR_no e hok] at hc0
    rw [encR_no e hok]
    have HC0 := Lib.hid hc0
    clear hc0 hok
    go_enter Try.func10, Try.ntmps10
    go_wp2_with ((with_reducible apply st_load (n := 69) (cs := entC e A c) (T := 28)); rfl; exact hx0; exact Try.underlying28; rfl; exact entSize; (rw [entC_len HE.out]; decide); exact row_all _ _ (entC_len HE.out A c))
    go_at_call 16
    refine (HC0.out _ (HO.out.up hB0)).mono ?_
    rintro r w1 ⟨rfl, hb1⟩
    go_wp2_with fail
    go_ret2
    exact ⟨_, rfl, hB0.trans (hb1.mono hB0.size), Own.nil _ _⟩

end Go.Proofs.Ytepicdcmcagipaa
