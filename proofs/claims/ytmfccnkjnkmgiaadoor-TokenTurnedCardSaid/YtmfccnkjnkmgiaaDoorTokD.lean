/- What the reference's ReadDec answers; where a text's points stand. No condition but a length up to 300. -/
import Derived.Test.YtmfccnkjnkmgiaaDoorTokQ
import Derived.Test.YtmfccnkjnkmgiaaDoorTokM
namespace Go.Proofs.YtmfccnkjnkmgiaaDoor
open Go.RowKit Go.Proofs.YtmfccnkjnkmgiaaDoor.Pure
open Go.Proofs.YtmfccnkjnkmgiaaDoorW.PrintWords (bt)

theorem index_bt {P : Program} {t : TypeId} (ht : P.underlying t = some .string) (s : ByteArray) (k : IntKind) (i : Int) (h0 : 0 ≤ i) (h1 : i < s.size) (w : World) : (Instr.index t (.string s) (.int k i)).run P w = .ok (.int .u8 (bt s i)) w := by
  rw [run_index_string w t s k i ht, dif_pos ⟨h0, h1⟩]
  unfold bt
  rw [dif_pos (by omega)]

def rdAt (s : ByteArray) (d k : Nat) (u : Int) : Int × Bool := if (lst s d k).all digB = true ∧ accV u (lst s d k) ≤ 9223372036854775807 then fin s (accV u (lst s d k)) else (0, false)
theorem rdAt_zero (s : ByteArray) (k : Nat) (u : Int) (h : u ≤ 9223372036854775807) : rdAt s 0 k u = fin s u := by
  unfold rdAt; rw [if_pos ⟨rfl, h⟩]; rfl
theorem rdAt_low (s : ByteArray) (d k : Nat) (u : Int) (h : ¬ (48 ≤ bt s k ∧ bt s k ≤ 57)) : rdAt s (d + 1) k u = (0, false) := by
  unfold rdAt
  have b1 : digB (bt s k) = false := by simp [digB]; omega
  rw [if_neg]; rintro ⟨h1, _⟩; simp only [lst, List.all_cons, b1, Bool.false_and] at h1; cases h1
theorem rdAt_big (s : ByteArray) (d k : Nat) (u : Int) (_ : 0 ≤ u) (_ : 48 ≤ bt s k ∧ bt s k ≤ 57) (h : 9223372036854775807 < 10 * u + (bt s k - 48)) : rdAt s (d + 1) k u = (0, false) := by
  unfold rdAt
  rw [if_neg]
  rintro ⟨h1, h2⟩
  simp only [lst, List.all_cons, Bool.and_eq_true, accV] at h1 h2
  have := accV_mono _ h1.2 (10 * u + (bt s k - 48)) (by omega)
  omega
theorem rdAt_step (s : ByteArray) (d k : Nat) (u : Int) (hc : 48 ≤ bt s k ∧ bt s k ≤ 57) : rdAt s (d + 1) k u = rdAt s d (k + 1) (10 * u + (bt s k - 48)) := by
  unfold rdAt
  have b1 : digB (bt s k) = true := by simp [digB]; omega
  simp only [lst, List.all_cons, b1, Bool.true_and, accV]

set_option maxHeartbeats 4000000 in
theorem refreaddec_any (w : World) (s : ByteArray) (hs : s.size ≤ 300) : Calls Tryd.prog 32 #[.string s] w fun e w' => e = .returned (.tuple #[.int .i64 (rdR s).1, .bool (rdR s).2]) ∧ Below w.heap.size w w' := by
  have hR : rdR s = rdAt s s.size 0 0 := rfl
  obtain ⟨⟨rn, rb⟩, hr⟩ : ∃ r, r = rdR s := ⟨_, rfl⟩
  rw [← hr] at hR ⊢
  have HR := Lib.hid hR
  clear hR hr
  go_enter Tryd.func32, Tryd.ntmps32
  go_wp2_with fail
  go_loopw [4, 5] (fun vu vi wr => wr = w ∧ ∃ (k d : Nat) (u : Int), vi = .int .i64 k ∧ vu = .int .i64 u ∧ k + d = s.size ∧ 0 ≤ u ∧ u ≤ 9223372036854775807 ∧ Hid ((rn, rb) = rdAt s d k u)) (fun _ vi _ => s.size - (intOf vi).toNat)
  case atStart => exact ⟨rfl, 0, s.size, 0, rfl, rfl, by omega, by omega, by omega, HR.out⟩
  case round =>
    clear HR
    obtain ⟨rfl, k, d, u, rfl, rfl, hkd, hu0, hu1, HE⟩ := hrel
    cases d with
    | succ d =>
      have hidx := index_bt (P := Tryd.prog) Tryd.underlying9 s .i64 (k : Int) (by omega) (by omega)
      have hbr := bt_range s k
      have hlow := rdAt_low s d k u
      have hbig := rdAt_big s d k u hu0
      have hstep := rdAt_step s d k u
      obtain ⟨x, hx⟩ : ∃ x, x = bt s k := ⟨_, rfl⟩
      rw [← hx] at hidx hbr hlow hbig hstep
      clear hx
      have he := HE.out
      by_cases h1 : 48 ≤ x
      · by_cases h2 : x ≤ 57
        · by_cases h3 : 9223372036854775807 < 10 * u + (x - 48)
          · rw [hbig ⟨h1, h2⟩ h3] at he
            injection he with e1 e2
            subst e1 e2
            have h4 : (9223372036854775807 - (x - 48)) / 10 < u := by omega
            have h5 : Int.tdiv (9223372036854775807 - (x - 48)) 10 = (9223372036854775807 - (x - 48)) / 10 := Int.tdiv_eq_ediv_of_nonneg (by omega)
            clear hlow hbig hstep HE
            go_wp2_with fail
            go_ret2
            exact ⟨rfl, Below.refl _ _⟩
          · rw [hstep ⟨h1, h2⟩] at he
            have HE2 := Lib.hid he
            have h4 : u ≤ (9223372036854775807 - (x - 48)) / 10 := by omega
            have h5 : Int.tdiv (9223372036854775807 - (x - 48)) 10 = (9223372036854775807 - (x - 48)) / 10 := Int.tdiv_eq_ediv_of_nonneg (by omega)
            clear he hlow hbig hstep HE
            go_wp2_with fail
            go_roundw
            case rel => exact ⟨trivial, k + 1, d, 10 * u + (x - 48), by go_num, by first | rfl | go_num, by omega, by omega, by omega, HE2.out⟩
            case measure => simp [intOf]; omega
        · rw [hlow (fun h => h2 h.2)] at he
          injection he with e1 e2
          subst e1 e2
          clear hlow hbig hstep HE
          go_wp2_with fail
          go_ret2
          exact ⟨rfl, Below.refl _ _⟩
      · rw [hlow (fun h => h1 h.1)] at he
        injection he with e1 e2
        subst e1 e2
        clear hlow hbig hstep HE
        go_wp2_with fail
        go_ret2
        exact ⟨rfl, Below.refl _ _⟩
    | zero =>
      have he := HE.out
      rw [rdAt_zero s k u hu1] at he
      have hdec := fun w => PTokenOpens.inquestref04_Dec.calls 60 u (strOfNums (decS u)) w (rdec_f u (by omega) hu1 60 (by omega))
      have hfin : fin s u = if s.toList = ([] : List UInt8) then (0, false) else (if (strOfNums (decS u)).toList = s.toList then (u, true) else (0, false)) := by unfold fin; rw [Lib.strOfNums_toList]
      rw [hfin] at he
      obtain ⟨D, hD⟩ : ∃ D, D = strOfNums (decS u) := ⟨_, rfl⟩
      rw [← hD] at hdec he
      have HDEC := Lib.hid hdec
      clear hdec hD hfin HE
      by_cases h0 : s.toList = ([] : List UInt8)
      · rw [if_pos h0] at he
        injection he with e1 e2
        subst e1 e2
        go_wp2_with fail
        go_ret2
        exact ⟨rfl, Below.refl _ _⟩
      · rw [if_neg h0] at he
        have hemp : s.toList.isEmpty = false := by simpa using h0
        by_cases h1 : D.toList = s.toList
        · rw [if_pos h1] at he
          injection he with e1 e2
          subst e1 e2
          have hq : (D.toList == s.toList) = true := by simp [h1]
          go_wp2_with fail
          go_at_call 29
          refine (HDEC.out _).mono ?_
          rintro e w1 ⟨rfl, hd1⟩
          have hB := drawn_below hd1
          clear hd1
          go_wp2_with fail
          go_ret2
          exact ⟨rfl, hB⟩
        · rw [if_neg h1] at he
          injection he with e1 e2
          subst e1 e2
          have hq : (D.toList == s.toList) = false := by simpa using h1
          go_wp2_with fail
          go_at_call 29
          refine (HDEC.out _).mono ?_
          rintro e w1 ⟨rfl, hd1⟩
          have hB := drawn_below hd1
          clear hd1
          go_wp2_with fail
          go_ret2
          exact ⟨rfl, hB⟩

/-- The first point from a place on; the end, where there is none. -/
theorem dot_spec (s : ByteArray) (d : Nat) : ∀ m : Nat, m + d = s.size → ∃ i, m ≤ i ∧ i ≤ s.size ∧ (∀ j : Nat, m ≤ j → j < i → bt s j ≠ 46) ∧ (i < s.size → bt s i = 46) := by
  induction d with
  | zero => intro m h; exact ⟨m, Nat.le_refl _, by omega, fun j h1 h2 => by omega, fun h => by omega⟩
  | succ d ih =>
    intro m h
    by_cases hm : bt s m = 46
    · exact ⟨m, Nat.le_refl _, by omega, fun j h1 h2 => by omega, fun _ => hm⟩
    · obtain ⟨i, h1, h2, h3, h4⟩ := ih (m + 1) (by omega)
      refine ⟨i, by omega, h2, fun j j1 j2 => ?_, h4⟩
      by_cases e : j = m
      · subst e; exact hm
      · exact h3 j (by omega) j2
theorem ext_free (s : ByteArray) (m i : Nat) (hi : i ≤ s.size) (h : ∀ j : Nat, m ≤ j → j < i → bt s j ≠ 46) : 46 ∉ strL (s.extract m i) := by
  rw [strL_ext]
  intro hm
  obtain ⟨j, hj, he⟩ := List.mem_iff_getElem.1 hm
  rw [List.length_take, List.length_drop, strL_len] at hj
  have h1 : (((strL s).drop m).take (i - m))[j]? = some 46 := by rw [List.getElem?_eq_getElem (by rw [List.length_take, List.length_drop, strL_len]; exact hj), he]
  rw [List.getElem?_take_of_lt (by omega), List.getElem?_drop, bt_strL s (m + j) (by omega)] at h1
  injection h1 with h1
  exact h (m + j) (by omega) (by omega) h1
theorem drop_split (s : ByteArray) (m k : Nat) (hmk : m ≤ k) (hk : k < s.size) (h : bt s k = 46) : (strL s).drop m = strL (s.extract m k) ++ 46 :: (strL s).drop (k + 1) := by
  have hl : k < (strL s).length := by rw [strL_len]; exact hk
  have hb := bt_strL s k hk
  rw [List.getElem?_eq_getElem hl, h] at hb
  injection hb with hb
  rw [strL_ext]
  have e1 : (strL s).drop m = ((strL s).drop m).take (k - m) ++ ((strL s).drop m).drop (k - m) := (List.take_append_drop _ _).symm
  rw [List.drop_drop, show m + (k - m) = k by omega, List.drop_eq_getElem_cons hl, hb] at e1
  exact e1
theorem ext_all (s : ByteArray) (m : Nat) : strL (s.extract m s.size) = (strL s).drop m := by
  rw [strL_ext, List.take_of_length_le (by rw [List.length_drop, strL_len]; exact Nat.le_refl _)]
theorem unhex_free (c : ByteArray) (h : (unhexR c).2 = true) : 46 ∉ strL c := by
  have h1 := hex_unhex c (unhexR c).1 (by rw [← h])
  have hf := (unhexR_fits c).2
  rw [← h1, strL_nums _ (hexF_range _ hf)]
  exact hexF_free _ hf
theorem readF_short (s : ByteArray) (h : (splitL (strL s)).length ≠ 3) : readF s = none := by
  have hsp := congrArg List.length (pieces_split s)
  rw [List.length_map] at hsp
  unfold readF
  generalize pieces s 46 s.size 0 0 = L at hsp
  match L, hsp with
  | [], _ => rfl
  | [_], _ => rfl
  | [_, _], _ => rfl
  | [_, _, _], hsp => exact absurd hsp.symm h
  | _ :: _ :: _ :: _ :: _, _ => rfl
theorem readF_split (s a b c : ByteArray) (h : splitL (strL s) = [strL a, strL b, strL c]) : readF s = if nameB a = true ∧ c.size = 64 ∧ (rdR b).2 = true ∧ (rdR b).1 ≤ 1099511627776 ∧ (unhexR c).2 = true then some (a, (rdR b).1, (unhexR c).1) else none := by
  have hsp := pieces_split s
  rw [h] at hsp
  unfold readF
  generalize pieces s 46 s.size 0 0 = L at hsp
  match L, hsp with
  | [x, y, z], hsp =>
    simp only [List.map_cons, List.map_nil, List.cons.injEq, and_true] at hsp
    obtain ⟨e1, e2, e3⟩ := hsp
    have e1 := strL_inj _ _ e1
    have e2 := strL_inj _ _ e2
    have e3 := strL_inj _ _ e3
    subst e1 e2 e3
    rfl
  | [], hsp => simp at hsp
  | [_], hsp => simp at hsp
  | [_, _], hsp => simp at hsp
  | _ :: _ :: _ :: _ :: _, hsp => simp at hsp
/-- No point, or one alone. -/
theorem claim_none0 (s : ByteArray) (i : Nat) (hi : i = s.size) (h : ∀ j : Nat, 0 ≤ j → j < i → bt s j ≠ 46) : claimR s = ((⟨#[]⟩, 0), 4) := by
  have hf := ext_free s 0 i (by omega) h
  rw [hi, ext_all, List.drop_zero] at hf
  unfold claimR
  rw [readF_short s (by rw [splitL_one _ hf]; simp)]
theorem claim_none1 (s : ByteArray) (i k : Nat) (hi : i < s.size) (h : ∀ j : Nat, 0 ≤ j → j < i → bt s j ≠ 46) (hd : bt s i = 46) (hk : k = s.size) (h2 : ∀ j : Nat, i + 1 ≤ j → j < k → bt s j ≠ 46) : claimR s = ((⟨#[]⟩, 0), 4) := by
  have hf := ext_free s 0 i (by omega) h
  have hg := ext_free s (i + 1) k (by omega) h2
  rw [hk, ext_all] at hg
  have hs := drop_split s 0 i (by omega) hi hd
  rw [List.drop_zero] at hs
  unfold claimR
  rw [readF_short s (by rw [hs, splitL_free _ _ hf, splitL_one _ hg]; simp)]
theorem claim_two (s : ByteArray) (i k : Nat) (h : ∀ j : Nat, 0 ≤ j → j < i → bt s j ≠ 46) (hd : bt s i = 46) (hik : i + 1 ≤ k) (hk : k < s.size) (h2 : ∀ j : Nat, i + 1 ≤ j → j < k → bt s j ≠ 46) (hd2 : bt s k = 46) :
    claimR s = if nameB (s.extract 0 i) = true ∧ s.size - k = 65 ∧ (rdR (s.extract (i + 1) k)).2 = true ∧ (rdR (s.extract (i + 1) k)).1 ≤ 1099511627776 ∧ (unhexR (s.extract (k + 1) s.size)).2 = true then ((s.extract 0 i, (rdR (s.extract (i + 1) k)).1), 0) else ((⟨#[]⟩, 0), 4) := by
  have hf := ext_free s 0 i (by omega) h
  have hg := ext_free s (i + 1) k (by omega) h2
  have hs := drop_split s 0 i (by omega) (by omega) hd
  rw [List.drop_zero, drop_split s (i + 1) k (by omega) hk hd2, ← ext_all s (k + 1)] at hs
  have hcs : (s.extract (k + 1) s.size).size = s.size - (k + 1) := by simp
  by_cases hfree : 46 ∉ strL (s.extract (k + 1) s.size)
  · have h3 := readF_split s _ _ _ ((splitL_three _ _ _ _).2 ⟨hs, hf, hg, hfree⟩)
    unfold claimR
    rw [h3, hcs]
    by_cases hc : nameB (s.extract 0 i) = true ∧ s.size - k = 65 ∧ (rdR (s.extract (i + 1) k)).2 = true ∧ (rdR (s.extract (i + 1) k)).1 ≤ 1099511627776 ∧ (unhexR (s.extract (k + 1) s.size)).2 = true
    · rw [if_pos hc, if_pos ⟨hc.1, by omega, hc.2.2⟩]
    · rw [if_neg hc, if_neg (fun h => hc ⟨h.1, by omega, h.2.2⟩)]
  · have hn : readF s = none := by
      apply readF_short
      rw [hs, splitL_free _ _ hf, splitL_free _ _ hg]
      intro hl
      obtain ⟨x, t, e⟩ := splitL_cons (strL (s.extract (k + 1) s.size))
      have ho := splitL_out _ _ _ e
      rw [e] at hl
      have ht : t = [] := List.eq_nil_of_length_eq_zero (by simpa using hl)
      subst ht
      rcases ho.2 with ⟨_, h5⟩ | ⟨r, _, h6⟩
      · rw [h5] at hfree; exact hfree ho.1
      · obtain ⟨y, u, e2⟩ := splitL_cons r; rw [e2] at h6; cases h6
    unfold claimR
    rw [hn, if_neg (fun h => hfree (unhex_free _ h.2.2.2.2))]

end Go.Proofs.YtmfccnkjnkmgiaaDoor
