/- That inquestlaw20.EntryBack returns true. No condition. -/
import Derived.Test.YtepicdcmcagipaaLawTexts
namespace Go.Proofs.Ytepicdcmcagipaa
open Go.RowKit

theorem decR_cases (b : List Int) : decR b = (zeroE, 4) ∨ ∃ d, decR b = (d, 0) ∧ OkE d ∧ encL d = b := by
  cases hr : readR b with
  | none => exact .inl (decR_none hr)
  | some e =>
    by_cases h1 : OkE e
    · by_cases h2 : encL e = b
      · exact .inr ⟨e, decR_ok hr h1 h2, h1, h2⟩
      · exact .inl (decR_other hr h2)
    · exact .inl (decR_bad hr h1)

set_option maxRecDepth 100000 in
set_option maxHeartbeats 16000000 in
theorem lawback20_any (w : World) (e0 : Ent) (A0 : Option Addr) (c0 : Nat) (he0 : EntB e0) (hn0 : Nts w A0 c0 e0.ord) (hl0 : e0.ord.length ≤ 9223372036854775807) (bs0 : List Int) (B : Option Addr) (d : Nat) (hr : Rd w B (nums .u8 bs0)) (hc : bs0.length ≤ d) (hB : B = none → d = 0) (hu : U8 bs0) :
    Calls Try.prog 4 #[.agg (entC e0 A0 c0).toArray, .slice B bs0.length d] w fun r w' => r = .returned (.bool true) ∧ Below w.heap.size w w' := by
  obtain ⟨bs, hbl, _, hK, HCUT⟩ := (Byt.mk hr hc hB hu).cut 300 300 rfl
  obtain ⟨e, he⟩ : ∃ e, e = cutE e0 := ⟨_, rfl⟩
  have heB : EntB e := by rw [he]; exact cutE_B he0
  have hel : e.ord.length ≤ 70 := by rw [he]; exact cutE_len e0
  have k1 := fun W h => cut20_any W e0 he0 A0 c0 h hl0
  rw [← he] at k1
  have k3 := fun W A c h => encode_any W e heB A c h (by omega)
  have k5 := fun W A c h => decode_any W A c bs h (by omega)
  obtain ⟨hdB, hdl⟩ := decR_B hK.u
  have HK1 := Lib.hid k1
  have HEB := Lib.hid heB
  have HBY := Lib.hid hK
  have HN0 := Lib.hid hn0
  have hb0 : Below w.heap.size w (w.alloc (.cells (entC e0 A0 c0).toArray 28)) := (Below.refl _ _).alloc (Nat.le_refl _) _
  have hx : Blk (w.alloc (.cells (entC e0 A0 c0).toArray 28)) w.heap.size (entC e0 A0 c0) 28 := Blk.new' _ _ _ _ _ rfl rfl
  have hl0' := entC_len he0 A0 c0
  have ho0 := entC_one (e := e0) A0 c0
  obtain ⟨CS0, hCS0⟩ : ∃ CS, CS = entC e0 A0 c0 := ⟨_, rfl⟩
  rw [← hCS0] at hl0' ho0 hx hb0 ⊢
  have HL0 := Lib.hid hl0'
  have HO0 := Lib.hid ho0
  have HC0 := Lib.hid hCS0
  clear hl0' ho0 hCS0
  by_cases hok : OkE e
  · have hde := dec_enc e hok heB.h heB.s
    have hlen := encL_len e hok heB.h heB.s
    have heu := encL_u8 hok heB
    rw [encR_yes e hok] at k3
    obtain ⟨E, hEE⟩ : ∃ E, E = encL e := ⟨_, rfl⟩
    rw [← hEE] at k3 hde hlen heu
    have k4 := fun W A c h => decode_any W A c E h (by omega)
    unfold DecPost at k4
    rw [hde] at k4
    have k6 := fun W A B c d h1 h2 => same20_any W e e heB heB A B c d h1 h2 (by omega)
    rw [decide_eq_true rfl] at k6
    have HK3 := Lib.hid k3
    have HK4 := Lib.hid k4
    have HK6 := Lib.hid k6
    have HEU := Lib.hid heu
    clear k4 k6 hde heu hEE hok
    rcases decR_cases bs with hd | ⟨y, hd, hy1, hy2⟩
    · obtain ⟨y, hy⟩ : ∃ y, y = zeroE := ⟨_, rfl⟩
      unfold DecPost at k5
      rw [hd] at k5 hdB hdl
      dsimp only at hdB hdl
      have k7 := fun W A B c d h1 h2 => same20_any W zeroE zeroE zeroE_B zeroE_B A B c d h1 h2 (Nat.zero_le _)
      rw [decide_eq_true rfl] at k7
      rw [← hy] at k5 hdB hdl
      have k7 : ∀ W A B c d, Nts W A c y.ord → Nts W B d zeroE.ord → Calls Try.prog 14 #[.agg (entC y A c).toArray, .agg (entC zeroE B d).toArray] W fun r w' => r = .returned (.bool true) ∧ Below W.heap.size W w' := by rw [hy]; exact k7
      have HK5 := Lib.hid k5
      have HK7 := Lib.hid k7
      have HDB := Lib.hid hdB
      clear k7 hd hy
      clear k1 he hr hc hB hu hK hn0 he0 heB hdB k3 k5
      go_enter Try.func4, Try.ntmps4
      go_wp2_with ((with_reducible apply st_load (n := 69) (cs := CS0) (T := 28)); rfl; exact hx; exact Try.underlying28; rfl; exact entSize; (rw [HL0.out]; decide); exact row_all _ _ HL0.out)
      go_at_call 6
      have hb0' := hb0
      rw [HC0.out] at hb0'
      have hcall := HK1.out _ (HN0.out.up hb0')
      rw [← HC0.out] at hcall
      refine hcall.mono ?_
      clear hcall
      rintro r w1 ⟨A1, c1, rfl, hg1⟩
      have hb1 := hg1.1
      have hx := hx.up hb1
      have hBB := hb0.trans (hb1.mono hb0.size)
      have hown : OwnC w1 (w.heap.size + 1) 3 (.slice A1 e.ord.length c1) (nums .i64 e.ord) := by have := hg1.2; simpa using this
      clear hg1 hb1 hb0 hb0'
      have hl1 := entC_len HEB.out A1 c1
      have ho1 := entC_one (e := e) A1 c1
      obtain ⟨CS1, hCS1⟩ : ∃ CS, CS = entC e A1 c1 := ⟨_, rfl⟩
      rw [← hCS1] at hl1 ho1 ⊢
      have HL1 := Lib.hid hl1
      have HO1 := Lib.hid ho1
      have HC1 := Lib.hid hCS1
      clear hl1 ho1 hCS1

      go_wp2_with fail
      go_at_call 7
      refine (HCUT.out _).mono ?_
      rintro r wz ⟨rfl, rfl⟩
      go_wp2_with (first | ((with_reducible apply st_storeW (off := 0) (vs := CS1) (cs := CS0) (T := 28)); rfl; rfl; exact hx; (rw [HL1.out]; exact entSize); (rw [HL1.out, HL0.out]; decide); exact HO1.out; intro w2 hd2 hw2; rw [laid_all _ _ (by rw [HL1.out, HL0.out])] at hd2; have hown := OwnC.farWrote hown hw2 (by omega); have hBB := Wrote.below hBB hw2 (Nat.le_refl _)) | ((with_reducible apply st_load (n := 69) (cs := CS1) (T := 28)); rfl; exact hd2; exact Try.underlying28; rfl; exact entSize; (rw [HL1.out]; decide); exact row_all _ _ HL1.out))
      clear hw2 hx
      have hE := hd2
      have nE : Nts w2 A1 c1 e.ord := by obtain ⟨A', c', hv, h1, h2, h3, _⟩ := OwnC.from hown; rw [nums_length] at hv h1; injection hv with v1 _ v3; subst v1; subst v3; exact ⟨h3, h1, h2⟩
      clear hown hd2
      go_at_call 9
      have hcall := HK3.out _ A1 c1 nE
      rw [← HC1.out] at hcall
      refine hcall.mono ?_
      clear hcall
      rintro r w3 ⟨v3, rfl, hb3, ho3⟩
      have hE := hE.up (hb3)
      have nE := nE.up (hb3)
      have hBB := hBB.trans ((hb3).mono hBB.size)
      obtain ⟨AT, cT, rfl, yT, _⟩ := ho3.byt HEU.out
      clear ho3 hb3
      go_wp2_with fail
      go_at_call 11
      refine (HK4.out _ AT cT yT).mono ?_
      rintro r w4 ⟨A2, c2, rfl, hg4⟩
      have nY := hg4.nts
      have hE := hE.up (hg4.1)
      have nE := nE.up (hg4.1)
      have hBB := hBB.trans ((hg4.1).mono hBB.size)
      clear hg4
      have hl2 := entC_len HEB.out A2 c2
      have ho2 := entC_one (e := e) A2 c2
      obtain ⟨CS2, hCS2⟩ : ∃ CS, CS = entC e A2 c2 := ⟨_, rfl⟩
      rw [← hCS2] at hl2 ho2 ⊢
      have HL2 := Lib.hid hl2
      have HO2 := Lib.hid ho2
      have HC2 := Lib.hid hCS2
      clear hl2 ho2 hCS2

      go_wp2_with (first | ((with_reducible apply st_un); rfl) | (with_reducible apply st_allocE) | ((with_reducible apply st_storeW (off := 0) (vs := CS2) (cs := entZ) (T := 28)); rfl; rfl; exact Blk.new' _ _ _ _ _ rfl rfl; (rw [HL2.out]; exact entSize); (rw [HL2.out, entZ_len]; decide); exact HO2.out; intro w5 hd5 hw5; rw [laid_all _ _ (by rw [HL2.out, entZ_len])] at hd5; have hY := hd5; have hE := hE.up (Wrote.below ((Below.refl _ _).alloc (Nat.le_refl _) _) hw5 (Nat.le_refl _)); have hb5 := Wrote.below ((Below.refl _ _).alloc (Nat.le_refl _) _) hw5 (Nat.le_refl _)) | ((with_reducible apply st_load (n := 69) (cs := CS2) (T := 28)); rfl; exact hY; exact Try.underlying28; rfl; exact entSize; (rw [HL2.out]; decide); exact row_all _ _ HL2.out) | ((with_reducible apply st_load (n := 69) (cs := CS1) (T := 28)); rfl; exact hE; exact Try.underlying28; rfl; exact entSize; (rw [HL1.out]; decide); exact row_all _ _ HL1.out))
      have nE := nE.up (hb5)
      have nY := nY.up (hb5)
      have hBB := hBB.trans ((hb5).mono hBB.size)
      clear hw5 hb5 hd5
      go_at_call 14
      have hcall := HK6.out _ A2 A1 c2 c1 nY nE
      rw [← HC2.out, ← HC1.out] at hcall
      refine hcall.mono ?_
      clear hcall
      rintro r w6 ⟨rfl, hb6⟩
      have hBB := hBB.trans (hb6.mono hBB.size)
      clear hb6 nY nE hE hY
      go_wp2_with fail
      go_at_call 11
      refine (HK5.out _ B d (HBY.out.up hBB)).mono ?_
      rintro r w7 ⟨A3, c3, rfl, hg7⟩
      have nZ := hg7.nts
      have hBB := hBB.trans (hg7.1.mono hBB.size)
      clear hg7
      have hl3 := entC_len HDB.out A3 c3
      have ho3 := entC_one (e := y) A3 c3
      obtain ⟨CS3, hCS3⟩ : ∃ CS, CS = entC y A3 c3 := ⟨_, rfl⟩
      rw [← hCS3] at hl3 ho3 ⊢
      have HL3 := Lib.hid hl3
      have HO3 := Lib.hid ho3
      have HC3 := Lib.hid hCS3
      clear hl3 ho3 hCS3

      have zz : EntB zeroE := zeroE_B
      go_wp2_with (first | ((with_reducible apply st_un); rfl) | (with_reducible apply st_buildE) | (with_reducible apply st_allocE) | ((with_reducible apply st_storeW (off := 0) (vs := CS3) (cs := entZ) (T := 28)); rfl; rfl; exact Blk.new' _ _ _ _ _ rfl rfl; (rw [HL3.out]; exact entSize); (rw [HL3.out, entZ_len]; decide); exact HO3.out; intro w8 hd8 hw8; rw [laid_all _ _ (by rw [HL3.out, entZ_len])] at hd8; have hZ := hd8; have hb8 := Wrote.below ((Below.refl _ _).alloc (Nat.le_refl _) _) hw8 (Nat.le_refl _)) | ((with_reducible apply st_load (n := 69) (cs := CS3) (T := 28)); rfl; exact hZ; exact Try.underlying28; rfl; exact entSize; (rw [HL3.out]; decide); exact row_all _ _ HL3.out))
      have nZ := nZ.up (hb8)
      have hBB := hBB.trans ((hb8).mono hBB.size)
      clear hw8 hb8 hd8
      go_at_call 14
      have hcall := HK7.out _ A3 none c3 0 nZ ⟨Rd.nil _ _, Nat.le_refl _, fun _ => rfl⟩
      rw [← HC3.out, entC_zero] at hcall
      refine hcall.mono ?_
      clear hcall
      rintro r w9 ⟨rfl, hb9⟩
      have hBB := hBB.trans (hb9.mono hBB.size)
      go_wp2_with fail
      go_at_call 17
      refine (lives20_any _).mono ?_
      rintro r w10 ⟨rfl, hb10⟩
      have hBB := hBB.trans (hb10.mono hBB.size)
      go_wp2_with fail
      go_ret
      exact ⟨rfl, hBB⟩

    · unfold DecPost at k5
      rw [hd] at k5 hdB hdl
      dsimp only at hdB hdl
      have k7 := fun W A c h => encode_any W y hdB A c h (by omega)
      rw [encR_yes y hy1, hy2] at k7
      have HK5 := Lib.hid k5
      have HK7 := Lib.hid k7
      have HDB := Lib.hid hdB
      clear k7 hd hy1 hy2
      clear k1 he hr hc hB hu hK hn0 he0 heB hdB k3 k5
      go_enter Try.func4, Try.ntmps4
      go_wp2_with ((with_reducible apply st_load (n := 69) (cs := CS0) (T := 28)); rfl; exact hx; exact Try.underlying28; rfl; exact entSize; (rw [HL0.out]; decide); exact row_all _ _ HL0.out)
      go_at_call 6
      have hb0' := hb0
      rw [HC0.out] at hb0'
      have hcall := HK1.out _ (HN0.out.up hb0')
      rw [← HC0.out] at hcall
      refine hcall.mono ?_
      clear hcall
      rintro r w1 ⟨A1, c1, rfl, hg1⟩
      have hb1 := hg1.1
      have hx := hx.up hb1
      have hBB := hb0.trans (hb1.mono hb0.size)
      have hown : OwnC w1 (w.heap.size + 1) 3 (.slice A1 e.ord.length c1) (nums .i64 e.ord) := by have := hg1.2; simpa using this
      clear hg1 hb1 hb0 hb0'
      have hl1 := entC_len HEB.out A1 c1
      have ho1 := entC_one (e := e) A1 c1
      obtain ⟨CS1, hCS1⟩ : ∃ CS, CS = entC e A1 c1 := ⟨_, rfl⟩
      rw [← hCS1] at hl1 ho1 ⊢
      have HL1 := Lib.hid hl1
      have HO1 := Lib.hid ho1
      have HC1 := Lib.hid hCS1
      clear hl1 ho1 hCS1

      go_wp2_with fail
      go_at_call 7
      refine (HCUT.out _).mono ?_
      rintro r wz ⟨rfl, rfl⟩
      go_wp2_with (first | ((with_reducible apply st_storeW (off := 0) (vs := CS1) (cs := CS0) (T := 28)); rfl; rfl; exact hx; (rw [HL1.out]; exact entSize); (rw [HL1.out, HL0.out]; decide); exact HO1.out; intro w2 hd2 hw2; rw [laid_all _ _ (by rw [HL1.out, HL0.out])] at hd2; have hown := OwnC.farWrote hown hw2 (by omega); have hBB := Wrote.below hBB hw2 (Nat.le_refl _)) | ((with_reducible apply st_load (n := 69) (cs := CS1) (T := 28)); rfl; exact hd2; exact Try.underlying28; rfl; exact entSize; (rw [HL1.out]; decide); exact row_all _ _ HL1.out))
      clear hw2 hx
      have hE := hd2
      have nE : Nts w2 A1 c1 e.ord := by obtain ⟨A', c', hv, h1, h2, h3, _⟩ := OwnC.from hown; rw [nums_length] at hv h1; injection hv with v1 _ v3; subst v1; subst v3; exact ⟨h3, h1, h2⟩
      clear hown hd2
      go_at_call 9
      have hcall := HK3.out _ A1 c1 nE
      rw [← HC1.out] at hcall
      refine hcall.mono ?_
      clear hcall
      rintro r w3 ⟨v3, rfl, hb3, ho3⟩
      have hE := hE.up (hb3)
      have nE := nE.up (hb3)
      have hBB := hBB.trans ((hb3).mono hBB.size)
      obtain ⟨AT, cT, rfl, yT, _⟩ := ho3.byt HEU.out
      clear ho3 hb3
      go_wp2_with fail
      go_at_call 11
      refine (HK4.out _ AT cT yT).mono ?_
      rintro r w4 ⟨A2, c2, rfl, hg4⟩
      have nY := hg4.nts
      have hE := hE.up (hg4.1)
      have nE := nE.up (hg4.1)
      have hBB := hBB.trans ((hg4.1).mono hBB.size)
      clear hg4
      have hl2 := entC_len HEB.out A2 c2
      have ho2 := entC_one (e := e) A2 c2
      obtain ⟨CS2, hCS2⟩ : ∃ CS, CS = entC e A2 c2 := ⟨_, rfl⟩
      rw [← hCS2] at hl2 ho2 ⊢
      have HL2 := Lib.hid hl2
      have HO2 := Lib.hid ho2
      have HC2 := Lib.hid hCS2
      clear hl2 ho2 hCS2

      go_wp2_with (first | ((with_reducible apply st_un); rfl) | (with_reducible apply st_allocE) | ((with_reducible apply st_storeW (off := 0) (vs := CS2) (cs := entZ) (T := 28)); rfl; rfl; exact Blk.new' _ _ _ _ _ rfl rfl; (rw [HL2.out]; exact entSize); (rw [HL2.out, entZ_len]; decide); exact HO2.out; intro w5 hd5 hw5; rw [laid_all _ _ (by rw [HL2.out, entZ_len])] at hd5; have hY := hd5; have hE := hE.up (Wrote.below ((Below.refl _ _).alloc (Nat.le_refl _) _) hw5 (Nat.le_refl _)); have hb5 := Wrote.below ((Below.refl _ _).alloc (Nat.le_refl _) _) hw5 (Nat.le_refl _)) | ((with_reducible apply st_load (n := 69) (cs := CS2) (T := 28)); rfl; exact hY; exact Try.underlying28; rfl; exact entSize; (rw [HL2.out]; decide); exact row_all _ _ HL2.out) | ((with_reducible apply st_load (n := 69) (cs := CS1) (T := 28)); rfl; exact hE; exact Try.underlying28; rfl; exact entSize; (rw [HL1.out]; decide); exact row_all _ _ HL1.out))
      have nE := nE.up (hb5)
      have nY := nY.up (hb5)
      have hBB := hBB.trans ((hb5).mono hBB.size)
      clear hw5 hb5 hd5
      go_at_call 14
      have hcall := HK6.out _ A2 A1 c2 c1 nY nE
      rw [← HC2.out, ← HC1.out] at hcall
      refine hcall.mono ?_
      clear hcall
      rintro r w6 ⟨rfl, hb6⟩
      have hBB := hBB.trans (hb6.mono hBB.size)
      clear hb6 nY nE hE hY
      go_wp2_with fail
      go_at_call 11
      refine (HK5.out _ B d (HBY.out.up hBB)).mono ?_
      rintro r w7 ⟨A3, c3, rfl, hg7⟩
      have nZ := hg7.nts
      have hBB := hBB.trans (hg7.1.mono hBB.size)
      clear hg7
      have hl3 := entC_len HDB.out A3 c3
      have ho3 := entC_one (e := y) A3 c3
      obtain ⟨CS3, hCS3⟩ : ∃ CS, CS = entC y A3 c3 := ⟨_, rfl⟩
      rw [← hCS3] at hl3 ho3 ⊢
      have HL3 := Lib.hid hl3
      have HO3 := Lib.hid ho3
      have HC3 := Lib.hid hCS3
      clear hl3 ho3 hCS3

      go_wp2_with (first | (with_reducible apply st_allocE) | ((with_reducible apply st_storeW (off := 0) (vs := CS3) (cs := entZ) (T := 28)); rfl; rfl; exact Blk.new' _ _ _ _ _ rfl rfl; (rw [HL3.out]; exact entSize); (rw [HL3.out, entZ_len]; decide); exact HO3.out; intro w8 hd8 hw8; rw [laid_all _ _ (by rw [HL3.out, entZ_len])] at hd8; have hZ := hd8; have hb8 := Wrote.below ((Below.refl _ _).alloc (Nat.le_refl _) _) hw8 (Nat.le_refl _)) | ((with_reducible apply st_load (n := 69) (cs := CS3) (T := 28)); rfl; exact hZ; exact Try.underlying28; rfl; exact entSize; (rw [HL3.out]; decide); exact row_all _ _ HL3.out))
      have nZ := nZ.up (hb8)
      have hBB := hBB.trans ((hb8).mono hBB.size)
      clear hw8 hb8 hd8
      go_at_call 9
      have hcall := HK7.out _ A3 c3 nZ
      rw [← HC3.out] at hcall
      refine hcall.mono ?_
      clear hcall
      rintro r w9 ⟨v9, rfl, hb9, ho9⟩
      have hBB := hBB.trans (hb9.mono hBB.size)
      obtain ⟨AU, cU, rfl, lU, zU, rU, _⟩ := ho9.from
      go_wp2_with fail
      go_at_call 13
      have hcall := refsame_any w9 AU B cU d bs bs rU (HBY.out.up hBB).rd (by omega)
      rw [decide_eq_true rfl] at hcall
      refine hcall.mono ?_
      clear hcall
      rintro r w10 ⟨rfl, hb10⟩
      have hBB := hBB.trans (hb10.mono hBB.size)
      go_wp2_with fail
      go_at_call 17
      refine (lives20_any _).mono ?_
      rintro r w11 ⟨rfl, hb11⟩
      have hBB := hBB.trans (hb11.mono hBB.size)
      go_wp2_with fail
      go_ret
      exact ⟨rfl, hBB⟩


  · rw [encR_no e hok] at k3
    have HK3 := Lib.hid k3
    clear hok
    rcases decR_cases bs with hd | ⟨y, hd, hy1, hy2⟩
    · obtain ⟨y, hy⟩ : ∃ y, y = zeroE := ⟨_, rfl⟩
      unfold DecPost at k5
      rw [hd] at k5 hdB hdl
      dsimp only at hdB hdl
      have k7 := fun W A B c d h1 h2 => same20_any W zeroE zeroE zeroE_B zeroE_B A B c d h1 h2 (Nat.zero_le _)
      rw [decide_eq_true rfl] at k7
      rw [← hy] at k5 hdB hdl
      have k7 : ∀ W A B c d, Nts W A c y.ord → Nts W B d zeroE.ord → Calls Try.prog 14 #[.agg (entC y A c).toArray, .agg (entC zeroE B d).toArray] W fun r w' => r = .returned (.bool true) ∧ Below W.heap.size W w' := by rw [hy]; exact k7
      have HK5 := Lib.hid k5
      have HK7 := Lib.hid k7
      have HDB := Lib.hid hdB
      clear k7 hd hy
      clear k1 he hr hc hB hu hK hn0 he0 heB hdB k3 k5
      go_enter Try.func4, Try.ntmps4
      go_wp2_with ((with_reducible apply st_load (n := 69) (cs := CS0) (T := 28)); rfl; exact hx; exact Try.underlying28; rfl; exact entSize; (rw [HL0.out]; decide); exact row_all _ _ HL0.out)
      go_at_call 6
      have hb0' := hb0
      rw [HC0.out] at hb0'
      have hcall := HK1.out _ (HN0.out.up hb0')
      rw [← HC0.out] at hcall
      refine hcall.mono ?_
      clear hcall
      rintro r w1 ⟨A1, c1, rfl, hg1⟩
      have hb1 := hg1.1
      have hx := hx.up hb1
      have hBB := hb0.trans (hb1.mono hb0.size)
      have hown : OwnC w1 (w.heap.size + 1) 3 (.slice A1 e.ord.length c1) (nums .i64 e.ord) := by have := hg1.2; simpa using this
      clear hg1 hb1 hb0 hb0'
      have hl1 := entC_len HEB.out A1 c1
      have ho1 := entC_one (e := e) A1 c1
      obtain ⟨CS1, hCS1⟩ : ∃ CS, CS = entC e A1 c1 := ⟨_, rfl⟩
      rw [← hCS1] at hl1 ho1 ⊢
      have HL1 := Lib.hid hl1
      have HO1 := Lib.hid ho1
      have HC1 := Lib.hid hCS1
      clear hl1 ho1 hCS1

      go_wp2_with fail
      go_at_call 7
      refine (HCUT.out _).mono ?_
      rintro r wz ⟨rfl, rfl⟩
      go_wp2_with (first | ((with_reducible apply st_storeW (off := 0) (vs := CS1) (cs := CS0) (T := 28)); rfl; rfl; exact hx; (rw [HL1.out]; exact entSize); (rw [HL1.out, HL0.out]; decide); exact HO1.out; intro w2 hd2 hw2; rw [laid_all _ _ (by rw [HL1.out, HL0.out])] at hd2; have hown := OwnC.farWrote hown hw2 (by omega); have hBB := Wrote.below hBB hw2 (Nat.le_refl _)) | ((with_reducible apply st_load (n := 69) (cs := CS1) (T := 28)); rfl; exact hd2; exact Try.underlying28; rfl; exact entSize; (rw [HL1.out]; decide); exact row_all _ _ HL1.out))
      clear hw2 hx
      have hE := hd2
      have nE : Nts w2 A1 c1 e.ord := by obtain ⟨A', c', hv, h1, h2, h3, _⟩ := OwnC.from hown; rw [nums_length] at hv h1; injection hv with v1 _ v3; subst v1; subst v3; exact ⟨h3, h1, h2⟩
      clear hown hd2
      go_at_call 9
      have hcall := HK3.out _ A1 c1 nE
      rw [← HC1.out] at hcall
      refine hcall.mono ?_
      clear hcall
      rintro r w3 ⟨v3, rfl, hb3, ho3⟩
      have hE := hE.up (hb3)
      have nE := nE.up (hb3)
      have hBB := hBB.trans ((hb3).mono hBB.size)
      obtain ⟨AT, cT, rfl, _, _, _, _⟩ := ho3.from
      clear ho3 hb3
      go_wp2_with fail
      go_at_call 11
      refine (HK5.out _ B d (HBY.out.up hBB)).mono ?_
      rintro r w7 ⟨A3, c3, rfl, hg7⟩
      have nZ := hg7.nts
      have hBB := hBB.trans (hg7.1.mono hBB.size)
      clear hg7
      have hl3 := entC_len HDB.out A3 c3
      have ho3 := entC_one (e := y) A3 c3
      obtain ⟨CS3, hCS3⟩ : ∃ CS, CS = entC y A3 c3 := ⟨_, rfl⟩
      rw [← hCS3] at hl3 ho3 ⊢
      have HL3 := Lib.hid hl3
      have HO3 := Lib.hid ho3
      have HC3 := Lib.hid hCS3
      clear hl3 ho3 hCS3

      have zz : EntB zeroE := zeroE_B
      go_wp2_with (first | ((with_reducible apply st_un); rfl) | (with_reducible apply st_buildE) | (with_reducible apply st_allocE) | ((with_reducible apply st_storeW (off := 0) (vs := CS3) (cs := entZ) (T := 28)); rfl; rfl; exact Blk.new' _ _ _ _ _ rfl rfl; (rw [HL3.out]; exact entSize); (rw [HL3.out, entZ_len]; decide); exact HO3.out; intro w8 hd8 hw8; rw [laid_all _ _ (by rw [HL3.out, entZ_len])] at hd8; have hZ := hd8; have hb8 := Wrote.below ((Below.refl _ _).alloc (Nat.le_refl _) _) hw8 (Nat.le_refl _)) | ((with_reducible apply st_load (n := 69) (cs := CS3) (T := 28)); rfl; exact hZ; exact Try.underlying28; rfl; exact entSize; (rw [HL3.out]; decide); exact row_all _ _ HL3.out))
      have nZ := nZ.up (hb8)
      have hBB := hBB.trans ((hb8).mono hBB.size)
      clear hw8 hb8 hd8
      go_at_call 14
      have hcall := HK7.out _ A3 none c3 0 nZ ⟨Rd.nil _ _, Nat.le_refl _, fun _ => rfl⟩
      rw [← HC3.out, entC_zero] at hcall
      refine hcall.mono ?_
      clear hcall
      rintro r w9 ⟨rfl, hb9⟩
      have hBB := hBB.trans (hb9.mono hBB.size)
      go_wp2_with fail
      go_at_call 17
      refine (lives20_any _).mono ?_
      rintro r w10 ⟨rfl, hb10⟩
      have hBB := hBB.trans (hb10.mono hBB.size)
      go_wp2_with fail
      go_ret
      exact ⟨rfl, hBB⟩

    · unfold DecPost at k5
      rw [hd] at k5 hdB hdl
      dsimp only at hdB hdl
      have k7 := fun W A c h => encode_any W y hdB A c h (by omega)
      rw [encR_yes y hy1, hy2] at k7
      have HK5 := Lib.hid k5
      have HK7 := Lib.hid k7
      have HDB := Lib.hid hdB
      clear k7 hd hy1 hy2
      clear k1 he hr hc hB hu hK hn0 he0 heB hdB k3 k5
      go_enter Try.func4, Try.ntmps4
      go_wp2_with ((with_reducible apply st_load (n := 69) (cs := CS0) (T := 28)); rfl; exact hx; exact Try.underlying28; rfl; exact entSize; (rw [HL0.out]; decide); exact row_all _ _ HL0.out)
      go_at_call 6
      have hb0' := hb0
      rw [HC0.out] at hb0'
      have hcall := HK1.out _ (HN0.out.up hb0')
      rw [← HC0.out] at hcall
      refine hcall.mono ?_
      clear hcall
      rintro r w1 ⟨A1, c1, rfl, hg1⟩
      have hb1 := hg1.1
      have hx := hx.up hb1
      have hBB := hb0.trans (hb1.mono hb0.size)
      have hown : OwnC w1 (w.heap.size + 1) 3 (.slice A1 e.ord.length c1) (nums .i64 e.ord) := by have := hg1.2; simpa using this
      clear hg1 hb1 hb0 hb0'
      have hl1 := entC_len HEB.out A1 c1
      have ho1 := entC_one (e := e) A1 c1
      obtain ⟨CS1, hCS1⟩ : ∃ CS, CS = entC e A1 c1 := ⟨_, rfl⟩
      rw [← hCS1] at hl1 ho1 ⊢
      have HL1 := Lib.hid hl1
      have HO1 := Lib.hid ho1
      have HC1 := Lib.hid hCS1
      clear hl1 ho1 hCS1

      go_wp2_with fail
      go_at_call 7
      refine (HCUT.out _).mono ?_
      rintro r wz ⟨rfl, rfl⟩
      go_wp2_with (first | ((with_reducible apply st_storeW (off := 0) (vs := CS1) (cs := CS0) (T := 28)); rfl; rfl; exact hx; (rw [HL1.out]; exact entSize); (rw [HL1.out, HL0.out]; decide); exact HO1.out; intro w2 hd2 hw2; rw [laid_all _ _ (by rw [HL1.out, HL0.out])] at hd2; have hown := OwnC.farWrote hown hw2 (by omega); have hBB := Wrote.below hBB hw2 (Nat.le_refl _)) | ((with_reducible apply st_load (n := 69) (cs := CS1) (T := 28)); rfl; exact hd2; exact Try.underlying28; rfl; exact entSize; (rw [HL1.out]; decide); exact row_all _ _ HL1.out))
      clear hw2 hx
      have hE := hd2
      have nE : Nts w2 A1 c1 e.ord := by obtain ⟨A', c', hv, h1, h2, h3, _⟩ := OwnC.from hown; rw [nums_length] at hv h1; injection hv with v1 _ v3; subst v1; subst v3; exact ⟨h3, h1, h2⟩
      clear hown hd2
      go_at_call 9
      have hcall := HK3.out _ A1 c1 nE
      rw [← HC1.out] at hcall
      refine hcall.mono ?_
      clear hcall
      rintro r w3 ⟨v3, rfl, hb3, ho3⟩
      have hE := hE.up (hb3)
      have nE := nE.up (hb3)
      have hBB := hBB.trans ((hb3).mono hBB.size)
      obtain ⟨AT, cT, rfl, _, _, _, _⟩ := ho3.from
      clear ho3 hb3
      go_wp2_with fail
      go_at_call 11
      refine (HK5.out _ B d (HBY.out.up hBB)).mono ?_
      rintro r w7 ⟨A3, c3, rfl, hg7⟩
      have nZ := hg7.nts
      have hBB := hBB.trans (hg7.1.mono hBB.size)
      clear hg7
      have hl3 := entC_len HDB.out A3 c3
      have ho3 := entC_one (e := y) A3 c3
      obtain ⟨CS3, hCS3⟩ : ∃ CS, CS = entC y A3 c3 := ⟨_, rfl⟩
      rw [← hCS3] at hl3 ho3 ⊢
      have HL3 := Lib.hid hl3
      have HO3 := Lib.hid ho3
      have HC3 := Lib.hid hCS3
      clear hl3 ho3 hCS3

      go_wp2_with (first | (with_reducible apply st_allocE) | ((with_reducible apply st_storeW (off := 0) (vs := CS3) (cs := entZ) (T := 28)); rfl; rfl; exact Blk.new' _ _ _ _ _ rfl rfl; (rw [HL3.out]; exact entSize); (rw [HL3.out, entZ_len]; decide); exact HO3.out; intro w8 hd8 hw8; rw [laid_all _ _ (by rw [HL3.out, entZ_len])] at hd8; have hZ := hd8; have hb8 := Wrote.below ((Below.refl _ _).alloc (Nat.le_refl _) _) hw8 (Nat.le_refl _)) | ((with_reducible apply st_load (n := 69) (cs := CS3) (T := 28)); rfl; exact hZ; exact Try.underlying28; rfl; exact entSize; (rw [HL3.out]; decide); exact row_all _ _ HL3.out))
      have nZ := nZ.up (hb8)
      have hBB := hBB.trans ((hb8).mono hBB.size)
      clear hw8 hb8 hd8
      go_at_call 9
      have hcall := HK7.out _ A3 c3 nZ
      rw [← HC3.out] at hcall
      refine hcall.mono ?_
      clear hcall
      rintro r w9 ⟨v9, rfl, hb9, ho9⟩
      have hBB := hBB.trans (hb9.mono hBB.size)
      obtain ⟨AU, cU, rfl, lU, zU, rU, _⟩ := ho9.from
      go_wp2_with fail
      go_at_call 13
      have hcall := refsame_any w9 AU B cU d bs bs rU (HBY.out.up hBB).rd (by omega)
      rw [decide_eq_true rfl] at hcall
      refine hcall.mono ?_
      clear hcall
      rintro r w10 ⟨rfl, hb10⟩
      have hBB := hBB.trans (hb10.mono hBB.size)
      go_wp2_with fail
      go_at_call 17
      refine (lives20_any _).mono ?_
      rintro r w11 ⟨rfl, hb11⟩
      have hBB := hBB.trans (hb11.mono hBB.size)
      go_wp2_with fail
      go_ret
      exact ⟨rfl, hBB⟩

end Go.Proofs.Ytepicdcmcagipaa
