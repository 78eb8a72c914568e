/- That inquestlaw20.EntryTexts returns true. No condition. -/
import Derived.Test.YtepicdcmcagipaaEntRD
import Derived.Test.YtepicdcmcagipaaEntS
import Derived.Test.YtepicdcmcagipaaEntC
import Derived.Test.YtepicdcmcagipaaEntL
import Derived.Test.YtepicdcmcagipaaGb
namespace Go.Proofs.Ytepicdcmcagipaa
open Go.RowKit

theorem cutE_cutE (e : Ent) : cutE (cutE e) = cutE e := by unfold cutE; simp [List.take_take]
theorem zeroE_B : EntB zeroE := ⟨Z32_len, Z32_len, U8.of fun x hx => by rw [(List.mem_replicate.1 hx).2]; omega, U8.of fun x hx => by rw [(List.mem_replicate.1 hx).2]; omega, b64_nat 0 (by omega), b64_nat 0 (by omega), b64_nat 0 (by omega), b64_nat 0 (by omega), fun x hx => by cases hx⟩
theorem decR_B {b : List Int} (u : U8 b) : EntB (decR b).1 ∧ (decR b).1.ord.length ≤ b.length := by
  cases hr : readR b with
  | none => rw [decR_none hr]; exact ⟨zeroE_B, Nat.zero_le _⟩
  | some e =>
    have h := read_EntB u hr
    by_cases h1 : OkE e
    · by_cases h2 : encL e = b
      · rw [decR_ok hr h1 h2]; exact h
      · rw [decR_other hr h2]; exact ⟨zeroE_B, Nat.zero_le _⟩
    · rw [decR_bad hr h1]; exact ⟨zeroE_B, Nat.zero_le _⟩
theorem encR_len (e : Ent) (h : EntB e) : (encR e).1.length ≤ 200 := by
  by_cases h1 : OkE e
  · rw [encR_yes e h1]; exact encL_len e h1 h.h h.s
  · rw [encR_no e h1]; exact Nat.zero_le _
theorem GrowI.nts {w w' : World} {l : List Int} {A : Option Addr} {c : Nat} (h : GrowI w l (.slice A l.length c) w') : Nts w' A c l := by
  obtain ⟨A2, c2, hv, hn⟩ := h.slot
  injection hv with h1 _ h3
  subst h1; subst h3; exact hn

/-- The order's own row, which the statement writes over. -/
def Mine (wa wb : World) (A : Option Addr) (n : Nat) (wi : World) : Prop := n = 0 ∨ ∃ g cur, A = some ⟨g, 0, none⟩ ∧ wa.heap.size ≤ g ∧ g < wb.heap.size ∧ Blk wi g cur 3 ∧ n ≤ cur.length
theorem Mine.up {wa wb wi wj : World} {A : Option Addr} {n : Nat} (h : Mine wa wb A n wi) (hb : Below wi.heap.size wi wj) : Mine wa wb A n wj := by
  rcases h with h | ⟨g, cur, h1, h2, h3, h4, h5⟩
  · exact .inl h
  · exact .inr ⟨g, cur, h1, h2, h3, h4.up hb, h5⟩
theorem mine_of {wa wb : World} {A : Option Addr} {c : Nat} {l : List Int} (h : OwnC wb wa.heap.size 3 (.slice A l.length c) (nums .i64 l)) (_hs : wa.heap.size ≤ wb.heap.size) : Mine wa wb A l.length wb := by
  obtain ⟨hl, h | ⟨g, cap, cur, hv, hg, hh, hn, hm, hsz, ht⟩⟩ := h
  · left; rw [← nums_length .i64 l]; exact h.2
  · right
    injection hv with h1
    refine ⟨g, cur.toList, h1, hg, (Array.getElem?_eq_some_iff.1 hh).1, by unfold Blk; simpa using hh, ?_⟩
    have := congrArg List.length ht
    rw [List.length_take, nums_length] at this
    omega

set_option maxRecDepth 100000 in
set_option maxHeartbeats 16000000 in
theorem lawtexts_any (w : World) (e0 : Ent) (A0 : Option Addr) (c0 : Nat) (he0 : EntB e0) (hn0 : Nts w A0 c0 e0.ord) (hl0 : e0.ord.length ≤ 9223372036854775807) (bs0 : List Int) (B : Option Addr) (d : Nat) (hr : Rd w B (nums .u8 bs0)) (hc : bs0.length ≤ d) (hB : B = none → d = 0) (hu : U8 bs0) :
    Calls Try.prog 3 #[.agg (entC e0 A0 c0).toArray, .slice B bs0.length d] w fun r w' => r = .returned (.bool true) ∧ Below w.heap.size w w' := by
  obtain ⟨bs, hbl, _, hK, HCUT⟩ := (Byt.mk hr hc hB hu).cut 300 300 rfl
  obtain ⟨e, he⟩ : ∃ e, e = cutE e0 := ⟨_, rfl⟩
  have heB : EntB e := by rw [he]; exact cutE_B he0
  have hel : e.ord.length ≤ 70 := by rw [he]; exact cutE_len e0
  have hee : cutE e = e := by rw [he]; exact cutE_cutE e0
  have k1 := fun W h => cut20_any W e0 he0 A0 c0 h hl0
  rw [← he] at k1
  have k2 := fun W A c h => cut20_any W e heB A c h (by omega)
  rw [hee] at k2
  have k3 := fun W A c h => encode_any W e heB A c h (by omega)
  have k4 := fun W A c h => refencode_any W e heB A c h (by omega)
  have hEl := encR_len e heB
  obtain ⟨E, f, hEf⟩ : ∃ E f, encR e = (E, f) := ⟨_, _, rfl⟩
  rw [hEf] at k3 k4 hEl
  have k5 := fun W A c h => decode_any W A c bs h (by omega)
  have k6 := fun W A c h => refdecode_any W A c bs h (by omega)
  obtain ⟨hdB, hdl⟩ := decR_B hK.u
  obtain ⟨y, g, hyg⟩ : ∃ y g, decR bs = (y, g) := ⟨_, _, rfl⟩
  unfold DecPost at k5 k6
  rw [hyg] at k5 k6 hdB hdl
  have k7 := fun W A B c d h1 h2 => same20_any W y y hdB hdB A B c d h1 h2 (by dsimp only at hdl; omega)
  have k8 := fun W A B c d h1 h2 => same20_any W e e heB heB A B c d h1 h2 (by omega)
  rw [decide_eq_true rfl] at k7 k8
  have k9 := fun W A c h => check_any W e heB A c h (by omega)
  have k10 := fun W A c h => refcheck_any W e heB A c h (by omega)
  obtain ⟨R, hR⟩ : ∃ R, R = checkR e := ⟨_, rfl⟩
  rw [← hR] at k9 k10
  dsimp only at hdB hdl
  have HK1 := Lib.hid k1
  have HK2 := Lib.hid k2
  have HK3 := Lib.hid k3
  have HK4 := Lib.hid k4
  have HK5 := Lib.hid k5
  have HK6 := Lib.hid k6
  have HK7 := Lib.hid k7
  have HK8 := Lib.hid k8
  have HK9 := Lib.hid k9
  have HK10 := Lib.hid k10
  have HEB := Lib.hid heB
  have HDB := Lib.hid hdB
  have HBY := Lib.hid hK
  have HN0 := Lib.hid hn0
  have hb0 : Below w.heap.size w (w.alloc (.cells (entC e0 A0 c0).toArray 28)) := (Below.refl _ _).alloc (Nat.le_refl _) _
  have hx : Blk (w.alloc (.cells (entC e0 A0 c0).toArray 28)) w.heap.size (entC e0 A0 c0) 28 := Blk.new' _ _ _ _ _ rfl rfl
  have hl0' := entC_len he0 A0 c0
  have ho0 := entC_one (e := e0) A0 c0
  obtain ⟨CS0, hCS0⟩ : ∃ CS, CS = entC e0 A0 c0 := ⟨_, rfl⟩
  rw [← hCS0] at hl0' ho0 hx hb0 ⊢
  have HL0 := Lib.hid hl0'
  have HO0 := Lib.hid ho0
  have HC0 := Lib.hid hCS0
  clear hl0' ho0 hCS0
  clear k1 k2 k3 k4 k5 k6 k7 k8 k9 k10 he hee hEf hyg hR hr hc hB hu hK hn0 he0 heB hdB
  go_enter Try.func3, Try.ntmps3
  go_wp2_with ((with_reducible apply st_load (n := 69) (cs := CS0) (T := 28)); rfl; exact hx; exact Try.underlying28; rfl; exact entSize; (rw [HL0.out]; decide); exact row_all _ _ HL0.out)
  go_at_call 6
  have hb0' := hb0
  rw [HC0.out] at hb0'
  have hcall := HK1.out _ (HN0.out.up hb0')
  rw [← HC0.out] at hcall
  refine hcall.mono ?_
  clear hcall
  rintro r w1 ⟨A1, c1, rfl, hg1⟩
  have hb1 := hg1.1
  have hx := hx.up hb1
  have hBB := hb0.trans (hb1.mono hb0.size)
  have hown : OwnC w1 (w.heap.size + 1) 3 (.slice A1 e.ord.length c1) (nums .i64 e.ord) := by have := hg1.2; simpa using this
  clear hg1 hb1 hb0 hb0'
  have hl1 := entC_len HEB.out A1 c1
  have ho1 := entC_one (e := e) A1 c1
  obtain ⟨CS1, hCS1⟩ : ∃ CS, CS = entC e A1 c1 := ⟨_, rfl⟩
  rw [← hCS1] at hl1 ho1 ⊢
  have HL1 := Lib.hid hl1
  have HO1 := Lib.hid ho1
  have HC1 := Lib.hid hCS1
  clear hl1 ho1 hCS1

  go_wp2_with fail
  go_at_call 7
  refine (HCUT.out _).mono ?_
  rintro r wz ⟨rfl, rfl⟩
  go_wp2_with (first | ((with_reducible apply st_storeW (off := 0) (vs := CS1) (cs := CS0) (T := 28)); rfl; rfl; exact hx; (rw [HL1.out]; exact entSize); (rw [HL1.out, HL0.out]; decide); exact HO1.out; intro w2 hd2 hw2; rw [laid_all _ _ (by rw [HL1.out, HL0.out])] at hd2; have hown := OwnC.farWrote hown hw2 (by omega); have hBB := Wrote.below hBB hw2 (Nat.le_refl _)) | ((with_reducible apply st_load (n := 69) (cs := CS1) (T := 28)); rfl; exact hd2; exact Try.underlying28; rfl; exact entSize; (rw [HL1.out]; decide); exact row_all _ _ HL1.out))
  clear hw2 hx
  have hE := hd2
  have nE : Nts w2 A1 c1 e.ord := by obtain ⟨A', c', hv, h1, h2, h3, _⟩ := OwnC.from hown; rw [nums_length] at hv h1; injection hv with v1 _ v3; subst v1; subst v3; exact ⟨h3, h1, h2⟩
  clear hown hd2
  go_at_call 6
  have hcall := HK2.out _ A1 c1 nE
  rw [← HC1.out] at hcall
  refine hcall.mono ?_
  clear hcall
  rintro r w3 ⟨A2, c2, rfl, hg2⟩
  have nX := hg2.nts
  have hE := hE.up (hg2.1)
  have nE := nE.up (hg2.1)
  have hBB := hBB.trans ((hg2.1).mono hBB.size)
  clear hg2
  have hl2 := entC_len HEB.out A2 c2
  have ho2 := entC_one (e := e) A2 c2
  obtain ⟨CS2, hCS2⟩ : ∃ CS, CS = entC e A2 c2 := ⟨_, rfl⟩
  rw [← hCS2] at hl2 ho2 ⊢
  have HL2 := Lib.hid hl2
  have HO2 := Lib.hid ho2
  have HC2 := Lib.hid hCS2
  clear hl2 ho2 hCS2

  go_wp2_with fail
  go_at_call 8
  refine (refcopy_any _ B d bs HBY.out.nn (HBY.out.up hBB).rd (by omega)).mono ?_
  rintro r w4 ⟨v4, rfl, hb4, ho4⟩
  have hE := hE.up (hb4)
  have nE := nE.up (hb4)
  have nX := nX.up (hb4)
  have hBB := hBB.trans ((hb4).mono hBB.size)
  obtain ⟨AM, cM, rfl, yM, _⟩ := ho4.byt HBY.out.u
  clear ho4 hb4
  go_wp2_with (first | (with_reducible apply st_allocE) | ((with_reducible apply st_storeW (off := 0) (vs := CS2) (cs := entZ) (T := 28)); rfl; rfl; exact Blk.new' _ _ _ _ _ rfl rfl; (rw [HL2.out]; exact entSize); (rw [HL2.out, entZ_len]; decide); exact HO2.out; intro w5 hd5 hw5; rw [laid_all _ _ (by rw [HL2.out, entZ_len])] at hd5; have hb5 := Wrote.below ((Below.refl _ _).alloc (Nat.le_refl _) _) hw5 (Nat.le_refl _)) | ((with_reducible apply st_load (n := 69) (cs := CS2) (T := 28)); rfl; exact hd5; exact Try.underlying28; rfl; exact entSize; (rw [HL2.out]; decide); exact row_all _ _ HL2.out))
  have hE := hE.up (hb5)
  have nE := nE.up (hb5)
  have nX := nX.up (hb5)
  have yM := yM.up (hb5)
  have hBB := hBB.trans ((hb5).mono hBB.size)
  have hX := hd5
  clear hd5 hw5 hb5
  go_at_call 9
  have hcall := HK3.out _ A2 c2 nX
  rw [← HC2.out] at hcall
  refine hcall.mono ?_
  clear hcall
  rintro r w6 ⟨v6, rfl, hb6, ho6⟩
  have hE := hE.up (hb6)
  have nE := nE.up (hb6)
  have nX := nX.up (hb6)
  have yM := yM.up (hb6)
  have hX := hX.up (hb6)
  have hBB := hBB.trans ((hb6).mono hBB.size)
  obtain ⟨AT, cT, rfl, lT, zT, rT, _⟩ := ho6.from
  clear ho6 hb6
  go_wp2_with ((with_reducible apply st_load (n := 69) (cs := CS1) (T := 28)); rfl; exact hE; exact Try.underlying28; rfl; exact entSize; (rw [HL1.out]; decide); exact row_all _ _ HL1.out)
  go_at_call 10
  have hcall := HK4.out _ A1 c1 nE
  rw [← HC1.out] at hcall
  refine hcall.mono ?_
  clear hcall
  rintro r w7 ⟨v7, rfl, hb7, ho7⟩
  have hE := hE.up (hb7)
  have nE := nE.up (hb7)
  have nX := nX.up (hb7)
  have yM := yM.up (hb7)
  have hX := hX.up (hb7)
  have rT := rT.up (hb7)
  have hBB := hBB.trans ((hb7).mono hBB.size)
  obtain ⟨AU, cU, rfl, lU, zU, rU, _⟩ := ho7.from
  clear ho7 hb7
  go_wp2_with fail
  go_at_call 11
  refine (HK5.out _ AM cM yM).mono ?_
  rintro r w8 ⟨A3, c3, rfl, hg8⟩
  have z7 := hX.lt
  have hE7 := hE
  have nE7 := nE
  have hX7 := hX
  have nX7 := nX
  have yM7 := yM
  have oY := hg8.2
  have mine : Mine w7 w8 A3 y.ord.length w8 := mine_of hg8.2 hg8.1.size
  have nY := hg8.nts
  have hE := hE.up (hg8.1)
  have nE := nE.up (hg8.1)
  have nX := nX.up (hg8.1)
  have yM := yM.up (hg8.1)
  have hX := hX.up (hg8.1)
  have rT := rT.up (hg8.1)
  have rU := rU.up (hg8.1)
  have hBB := hBB.trans ((hg8.1).mono hBB.size)
  have hq8 := hg8.1
  clear hg8
  have hl3 := entC_len HDB.out A3 c3
  have ho3 := entC_one (e := y) A3 c3
  obtain ⟨CS3, hCS3⟩ : ∃ CS, CS = entC y A3 c3 := ⟨_, rfl⟩
  rw [← hCS3] at hl3 ho3 ⊢
  have HL3 := Lib.hid hl3
  have HO3 := Lib.hid ho3
  have HC3 := Lib.hid hCS3
  clear hl3 ho3 hCS3

  go_wp2_with (first | (with_reducible apply st_allocE) | ((with_reducible apply st_storeW (off := 0) (vs := CS3) (cs := entZ) (T := 28)); rfl; rfl; exact Blk.new' _ _ _ _ _ rfl rfl; (rw [HL3.out]; exact entSize); (rw [HL3.out, entZ_len]; decide); exact HO3.out; intro w9 hd9 hw9; rw [laid_all _ _ (by rw [HL3.out, entZ_len])] at hd9; have hb9 := Wrote.below ((Below.refl _ _).alloc (Nat.le_refl _) _) hw9 (Nat.le_refl _)))
  have hE := hE.up (hb9)
  have nE := nE.up (hb9)
  have nX := nX.up (hb9)
  have yM := yM.up (hb9)
  have hX := hX.up (hb9)
  have rT := rT.up (hb9)
  have rU := rU.up (hb9)
  have nY := nY.up (hb9)
  have hBB := hBB.trans ((hb9).mono hBB.size)
  have oY := OwnC.kept oY hb9
  have mine := mine.up hb9
  have hq9 := hq8.trans (hb9.mono hq8.size)
  have hY := hd9
  have hYlt : w8.heap.size < w9.heap.size := hd9.lt
  clear hd9 hw9 hb9 hq8
  go_at_call 12
  refine (HK6.out _ B d (HBY.out.up hBB)).mono ?_
  rintro r w10 ⟨A4, c4, rfl, hg10⟩
  have nZ := hg10.nts
  have hE := hE.up (hg10.1)
  have nE := nE.up (hg10.1)
  have nX := nX.up (hg10.1)
  have yM := yM.up (hg10.1)
  have hX := hX.up (hg10.1)
  have rT := rT.up (hg10.1)
  have rU := rU.up (hg10.1)
  have nY := nY.up (hg10.1)
  have hY := hY.up (hg10.1)
  have hBB := hBB.trans ((hg10.1).mono hBB.size)
  have oY := OwnC.kept oY hg10.1
  have mine := mine.up hg10.1
  have hq10 := hq9.trans (hg10.1.mono hq9.size)
  clear hg10 hq9
  have hl4 := entC_len HDB.out A4 c4
  have ho4 := entC_one (e := y) A4 c4
  obtain ⟨CS4, hCS4⟩ : ∃ CS, CS = entC y A4 c4 := ⟨_, rfl⟩
  rw [← hCS4] at hl4 ho4 ⊢
  have HL4 := Lib.hid hl4
  have HO4 := Lib.hid ho4
  have HC4 := Lib.hid hCS4
  clear hl4 ho4 hCS4

  go_wp2_with (first | (with_reducible apply st_allocE) | ((with_reducible apply st_storeW (off := 0) (vs := CS4) (cs := entZ) (T := 28)); rfl; rfl; exact Blk.new' _ _ _ _ _ rfl rfl; (rw [HL4.out]; exact entSize); (rw [HL4.out, entZ_len]; decide); exact HO4.out; intro w11 hd11 hw11; rw [laid_all _ _ (by rw [HL4.out, entZ_len])] at hd11; have hb11 := Wrote.below ((Below.refl _ _).alloc (Nat.le_refl _) _) hw11 (Nat.le_refl _)))
  have hE := hE.up (hb11)
  have nE := nE.up (hb11)
  have nX := nX.up (hb11)
  have yM := yM.up (hb11)
  have hX := hX.up (hb11)
  have rT := rT.up (hb11)
  have rU := rU.up (hb11)
  have nY := nY.up (hb11)
  have hY := hY.up (hb11)
  have nZ := nZ.up (hb11)
  have hBB := hBB.trans ((hb11).mono hBB.size)
  have oY := OwnC.kept oY hb11
  have mine := mine.up hb11
  have hq11 := hq10.trans (hb11.mono hq10.size)
  have hZ := hd11
  clear hd11 hw11 hb11 hq10
  have lE := hE.lt
  have lX := hX.lt
  have lY := hY.lt
  have lZ := hZ.lt
  have e1 : (f != f) = false := by simp
  have e2 : (g != g) = false := by simp
  have e3 : (R != R) = false := by simp
  have hE0 := hE
  have hX0 := hX
  have hY0 := hY
  have hZ0 := hZ
  refine wp_region_C (Same [w.heap.size, w4.heap.size, w8.heap.size, w10.heap.size] w11) [2, 12, 22, 24] (by kernel_rfl) (by kernel_rfl) (by intro c a w h; first | (obtain ⟨_, h, _⟩ := h; cases h; done) | (obtain ⟨_, _, h, _⟩ := h; cases h; done) | (obtain ⟨_, _, _, h, _⟩ := h; cases h; done) | (obtain ⟨_, _, _, _, h, _⟩ := h; cases h; done) | (rcases h with ⟨_, ⟨_, _, _, _, h, _⟩ | ⟨_, _, _, _, h, _⟩⟩ <;> cases h; done)) (by intro a w h; first | (obtain ⟨h, _⟩ := h; cases h; done) | (obtain ⟨_, h, _⟩ := h; cases h; done) | (obtain ⟨_, _, h, _⟩ := h; cases h; done) | (obtain ⟨_, _, _, h, _⟩ := h; cases h; done) | (rcases h with ⟨_, _, _, _, h, _⟩ | ⟨_, _, _, _, h, _⟩ <;> cases h; done)) (Same.refl _ _) ?_
  repeat (refine wd_q (v := ?_) rfl rfl rfl rfl rfl rfl (fun w' hw' K hK => ?_) ?_; rotate_left; (skip; go_wp2; exact rfl); simp only [Act.put, List.setIfInBounds_toArray, List.set_cons_zero, List.set_cons_succ])
  refine wd_l rfl rfl (by intro a w h; first | (obtain ⟨h, _⟩ := h; cases h; done) | (obtain ⟨_, h, _⟩ := h; cases h; done) | (obtain ⟨_, _, h, _⟩ := h; cases h; done) | (obtain ⟨_, _, _, h, _⟩ := h; cases h; done) | (rcases h with ⟨_, _, _, _, h, _⟩ | ⟨_, _, _, _, h, _⟩ <;> cases h; done)) ?_
  go_wp2_with fail
  go_at_call 13
  have hcall := refsame_any w11.drew AT AU cT cU E E rT rU (by omega)
  rw [decide_eq_true rfl] at hcall
  refine hcall.mono ?_
  clear hcall
  rintro r w12 ⟨rfl, hb⟩
  have hb12 : Below w11.heap.size w11 w12 := (Below.refl _ _).drew.trans (hb.mono (Nat.le_refl _))
  clear hb
  have nE := nE.up (hb12)
  have nX := nX.up (hb12)
  have nY := nY.up (hb12)
  have nZ := nZ.up (hb12)
  have hBB := hBB.trans ((hb12).mono hBB.size)
  have hq12 := hq11.trans (hb12.mono hq11.size)
  have mine := mine.up hb12
  have hs12 : Same [w.heap.size, w4.heap.size, w8.heap.size, w10.heap.size] w11 w12 := fun gg hg => hb12.block gg (by simp at hg; omega)
  have z12 := hb12.size
  go_wp2_with fail
  refine ⟨.inr hs12, ?_⟩
  repeat (refine wd_q (v := ?_) rfl rfl rfl rfl rfl rfl (fun w' hw' K hK => ?_) ?_; rotate_left; (skip; go_wp2; exact rfl); simp only [Act.put, List.setIfInBounds_toArray, List.set_cons_zero, List.set_cons_succ])
  repeat (refine wd_wg (v := ?_) rfl rfl rfl rfl rfl rfl (fun w' hw' K hK => ?_) ?_; rotate_left; (skip; go_wp2_with (fail); exact rfl); simp only [Act.put, List.setIfInBounds_toArray, List.set_cons_zero, List.set_cons_succ])
  refine wd_pick (b := false) (v := .bool false) rfl rfl rfl rfl rfl ?_
  simp only [Act.put, List.setIfInBounds_toArray, List.set_cons_zero, List.set_cons_succ]
  repeat (refine wd_q (v := ?_) rfl rfl rfl rfl rfl rfl (fun w' hw' K hK => ?_) ?_; rotate_left; (skip; go_wp2; exact rfl); simp only [Act.put, List.setIfInBounds_toArray, List.set_cons_zero, List.set_cons_succ])
  repeat (refine wd_wg (v := ?_) rfl rfl rfl rfl rfl rfl (fun w' hw' K hK => ?_) ?_; rotate_left; (have q3 := hw'.blk hY0 (by simp); have q4 := hw'.blk hZ0 (by simp); go_wp2_with ((first | ((with_reducible apply st_load (n := 69) (cs := CS3) (T := 28)); rfl; exact q3; exact Try.underlying28; rfl; exact entSize; (rw [HL3.out]; decide); exact row_all _ _ HL3.out) | ((with_reducible apply st_load (n := 69) (cs := CS4) (T := 28)); rfl; exact q4; exact Try.underlying28; rfl; exact entSize; (rw [HL4.out]; decide); exact row_all _ _ HL4.out))); exact rfl); simp only [Act.put, List.setIfInBounds_toArray, List.set_cons_zero, List.set_cons_succ])
  refine wd_lg rfl rfl (by intro a w h; first | (obtain ⟨h, _⟩ := h; cases h; done) | (obtain ⟨_, h, _⟩ := h; cases h; done) | (obtain ⟨_, _, h, _⟩ := h; cases h; done) | (obtain ⟨_, _, _, h, _⟩ := h; cases h; done) | (rcases h with ⟨_, _, _, _, h, _⟩ | ⟨_, _, _, _, h, _⟩ <;> cases h; done)) ?_
  go_wp2_with fail
  go_at_call 14
  have hcall := HK7.out _ A3 A4 c3 c4 nY nZ
  rw [← HC3.out, ← HC4.out] at hcall
  refine hcall.mono ?_
  clear hcall
  rintro r w13 ⟨rfl, hb13⟩
  have nE := nE.up (hb13)
  have nX := nX.up (hb13)
  have nY := nY.up (hb13)
  have nZ := nZ.up (hb13)
  have hBB := hBB.trans ((hb13).mono hBB.size)
  have hq13 := hq12.trans (hb13.mono hq12.size)
  have mine := mine.up hb13
  have hs13 : Same [w.heap.size, w4.heap.size, w8.heap.size, w10.heap.size] w11 w13 := fun gg hg => (hb13.block gg (by simp at hg; omega)).trans (hs12 gg hg)
  have z13 := hb13.size
  go_wp2_with fail
  refine ⟨.inr hs13, ?_⟩
  repeat (refine wd_wg (v := ?_) rfl rfl rfl rfl rfl rfl (fun w' hw' K hK => ?_) ?_; rotate_left; (skip; go_wp2_with (fail); exact rfl); simp only [Act.put, List.setIfInBounds_toArray, List.set_cons_zero, List.set_cons_succ])
  refine wd_pick (b := false) (v := .bool false) rfl rfl rfl rfl rfl ?_
  simp only [Act.put, List.setIfInBounds_toArray, List.set_cons_zero, List.set_cons_succ]
  repeat (refine wd_q (v := ?_) rfl rfl rfl rfl rfl rfl (fun w' hw' K hK => ?_) ?_; rotate_left; (skip; go_wp2; exact rfl); simp only [Act.put, List.setIfInBounds_toArray, List.set_cons_zero, List.set_cons_succ])
  repeat (refine wd_wg (v := ?_) rfl rfl rfl rfl rfl rfl (fun w' hw' K hK => ?_) ?_; rotate_left; (skip; go_wp2_with (fail); exact rfl); simp only [Act.put, List.setIfInBounds_toArray, List.set_cons_zero, List.set_cons_succ])
  refine wd_pick (b := false) (v := .bool false) rfl rfl rfl rfl rfl ?_
  simp only [Act.put, List.setIfInBounds_toArray, List.set_cons_zero, List.set_cons_succ]
  repeat (refine wd_q (v := ?_) rfl rfl rfl rfl rfl rfl (fun w' hw' K hK => ?_) ?_; rotate_left; (skip; go_wp2; exact rfl); simp only [Act.put, List.setIfInBounds_toArray, List.set_cons_zero, List.set_cons_succ])
  repeat (refine wd_wg (v := ?_) rfl rfl rfl rfl rfl rfl (fun w' hw' K hK => ?_) ?_; rotate_left; (have q3 := hw'.blk hX0 (by simp); have q4 := hw'.blk hE0 (by simp); go_wp2_with ((first | ((with_reducible apply st_load (n := 69) (cs := CS2) (T := 28)); rfl; exact q3; exact Try.underlying28; rfl; exact entSize; (rw [HL2.out]; decide); exact row_all _ _ HL2.out) | ((with_reducible apply st_load (n := 69) (cs := CS1) (T := 28)); rfl; exact q4; exact Try.underlying28; rfl; exact entSize; (rw [HL1.out]; decide); exact row_all _ _ HL1.out))); exact rfl); simp only [Act.put, List.setIfInBounds_toArray, List.set_cons_zero, List.set_cons_succ])
  refine wd_lg rfl rfl (by intro a w h; first | (obtain ⟨h, _⟩ := h; cases h; done) | (obtain ⟨_, h, _⟩ := h; cases h; done) | (obtain ⟨_, _, h, _⟩ := h; cases h; done) | (obtain ⟨_, _, _, h, _⟩ := h; cases h; done) | (rcases h with ⟨_, _, _, _, h, _⟩ | ⟨_, _, _, _, h, _⟩ <;> cases h; done)) ?_
  go_wp2_with fail
  go_at_call 15
  have hcall := HK9.out _ A2 c2 nX
  rw [← HC2.out] at hcall
  refine hcall.mono ?_
  clear hcall
  rintro r w14 ⟨rfl, hb14⟩
  have nE := nE.up (hb14)
  have nX := nX.up (hb14)
  have hBB := hBB.trans ((hb14).mono hBB.size)
  have hq14 := hq13.trans (hb14.mono hq13.size)
  have mine := mine.up hb14
  have hs14 : Same [w.heap.size, w4.heap.size, w8.heap.size, w10.heap.size] w11 w14 := fun gg hg => (hb14.block gg (by simp at hg; omega)).trans (hs13 gg hg)
  have z14 := hb14.size
  go_wp2_with fail
  refine ⟨.inr hs14, ?_⟩
  repeat (refine wd_wg (v := ?_) rfl rfl rfl rfl rfl rfl (fun w' hw' K hK => ?_) ?_; rotate_left; (have q3 := hw'.blk hX0 (by simp); have q4 := hw'.blk hE0 (by simp); go_wp2_with ((first | ((with_reducible apply st_load (n := 69) (cs := CS2) (T := 28)); rfl; exact q3; exact Try.underlying28; rfl; exact entSize; (rw [HL2.out]; decide); exact row_all _ _ HL2.out) | ((with_reducible apply st_load (n := 69) (cs := CS1) (T := 28)); rfl; exact q4; exact Try.underlying28; rfl; exact entSize; (rw [HL1.out]; decide); exact row_all _ _ HL1.out))); exact rfl); simp only [Act.put, List.setIfInBounds_toArray, List.set_cons_zero, List.set_cons_succ])
  refine wd_lg rfl rfl (by intro a w h; first | (obtain ⟨h, _⟩ := h; cases h; done) | (obtain ⟨_, h, _⟩ := h; cases h; done) | (obtain ⟨_, _, h, _⟩ := h; cases h; done) | (obtain ⟨_, _, _, h, _⟩ := h; cases h; done) | (rcases h with ⟨_, _, _, _, h, _⟩ | ⟨_, _, _, _, h, _⟩ <;> cases h; done)) ?_
  go_wp2_with fail
  go_at_call 16
  have hcall := HK10.out _ A1 c1 nE
  rw [← HC1.out] at hcall
  refine hcall.mono ?_
  clear hcall
  rintro r w15 ⟨rfl, hb15⟩
  have hBB := hBB.trans (hb15.mono hBB.size)
  have hq15 := hq14.trans (hb15.mono hq14.size)
  have mine := mine.up hb15
  have hs15 : Same [w.heap.size, w4.heap.size, w8.heap.size, w10.heap.size] w11 w15 := fun gg hg => (hb15.block gg (by simp at hg; omega)).trans (hs14 gg hg)
  have hY := hs15.blk hY0 (by simp)
  have z15 := hb15.size
  go_wp2_with fail
  refine ⟨.inr hs15, ?_⟩
  repeat (refine wd_wg (v := ?_) rfl rfl rfl rfl rfl rfl (fun w' hw' K hK => ?_) ?_; rotate_left; (skip; go_wp2_with (fail); exact rfl); simp only [Act.put, List.setIfInBounds_toArray, List.set_cons_zero, List.set_cons_succ])
  refine wd_pick (b := false) (v := .bool false) rfl rfl rfl rfl rfl ?_
  simp only [Act.put, List.setIfInBounds_toArray, List.set_cons_zero, List.set_cons_succ]
  repeat (refine wd_q (v := ?_) rfl rfl rfl rfl rfl rfl (fun w' hw' K hK => ?_) ?_; rotate_left; (skip; go_wp2; exact rfl); simp only [Act.put, List.setIfInBounds_toArray, List.set_cons_zero, List.set_cons_succ])
  refine wd_nil ?_
  clear hq14 hq13 hq12 hq11 hs14 hs13 hs12 hs15 hb15 hb14 hb13 hb12 hE hX hZ hE0 hX0 hY0 hZ0 nE nX nY nZ oY yM rT rU z15 z14 z13 z12 lE lX lY lZ
  go_wp2_with fail
  go_loopw [15] (fun i wr => ∃ k : Nat, i = .int .i64 k ∧ k ≤ y.ord.length ∧ Below w.heap.size w wr ∧ Below w7.heap.size w7 wr ∧ Blk wr w8.heap.size CS3 28 ∧ Mine w7 w8 A3 y.ord.length wr) (fun i _ => y.ord.length - (intOf i).toNat)
  case atStart => exact ⟨0, rfl, by omega, hBB, hq15, hY, mine⟩
  case round =>
    clear hBB hq15 hY mine
    obtain ⟨k, rfl, hk, hBB, hq, hY, mine⟩ := hrel
    have c67 : wr.cell? ⟨w8.heap.size, 67, none⟩ = some (.slice A3 y.ord.length c3) := by rw [hY.cell, HC3.out]; exact entC_at HDB.out A3 c3 1
    by_cases hlt : k < y.ord.length
    · obtain ⟨g3, cur, rfl, m1, m2, m3, m4⟩ := mine.resolve_left (by omega)
      have ck : wr.cell? ⟨g3, k, none⟩ = some (cur[k]'(by omega)) := by rw [m3.cell, List.getElem?_eq_getElem (by omega)]
      have fk := m3.frozen k
      have z3 := hBB.size
      go_wp2_with fail
      go_roundw
      case rel => exact ⟨k + 1, by go_num, by omega, hBB.setCell (by have := hE7.lt; simp; omega) _, hq.setCell m1 _, hY.far _ _ (by simp; omega), .inr ⟨g3, _, rfl, m1, m2, m3.set k _, by simpa using m4⟩⟩
      case measure => simp [intOf]; omega
    · have hE := hE7.up hq
      have hX := hX7.up hq
      have nE := nE7.up hq
      have nX := nX7.up hq
      have yM := yM7.up hq
      clear hE7 hX7 nE7 nX7 yM7
      go_wp2_with (first | ((with_reducible apply st_load (n := 69) (cs := CS2) (T := 28)); rfl; exact hX; exact Try.underlying28; rfl; exact entSize; (rw [HL2.out]; decide); exact row_all _ _ HL2.out) | ((with_reducible apply st_load (n := 69) (cs := CS1) (T := 28)); rfl; exact hE; exact Try.underlying28; rfl; exact entSize; (rw [HL1.out]; decide); exact row_all _ _ HL1.out))
      go_at_call 14
      have hcall := HK8.out _ A2 A1 c2 c1 nX nE
      rw [← HC2.out, ← HC1.out] at hcall
      refine hcall.mono ?_
      clear hcall
      rintro r w16 ⟨rfl, hb16⟩
      have yM := yM.up hb16
      have hBB := hBB.trans (hb16.mono hBB.size)
      go_wp2_with fail
      go_at_call 13
      have hcall := refsame_any w16 AM B cM d bs bs yM.rd (HBY.out.up hBB).rd (by omega)
      rw [decide_eq_true rfl] at hcall
      refine hcall.mono ?_
      clear hcall
      rintro r w17 ⟨rfl, hb17⟩
      have hBB := hBB.trans (hb17.mono hBB.size)
      go_wp2_with fail
      go_at_call 17
      refine (lives20_any _).mono ?_
      rintro r w18 ⟨rfl, hb18⟩
      have hBB := hBB.trans (hb18.mono hBB.size)
      go_wp2_with fail
      go_ret
      exact ⟨rfl, hBB⟩

end Go.Proofs.Ytepicdcmcagipaa
