/- The plain law of tokens: which texts are read, there and back. No condition but lengths up to 300. -/
import Derived.Test.YtmfccnkjnkmgiaaDoorTokP
namespace Go.Proofs.YtmfccnkjnkmgiaaDoor
open Go.RowKit Go.Proofs.YtmfccnkjnkmgiaaDoor.Pure
open Go.Proofs.YtmfccnkjnkmgiaaDoorW.PrintWords (bt)

theorem strL_dot : strL DOT = [46] := by decide +kernel
theorem tok_lists (a c : ByteArray) (n : Int) : strL (claimS a n ++ DOT ++ c) = strL a ++ 46 :: (strL (decB n) ++ 46 :: strL c) := by
  unfold claimS
  rw [strL_app, strL_app, strL_app, strL_app, strL_dot]
  simp
theorem readF_out (s a : ByteArray) (n : Int) (l : List Int) (h : readF s = some (a, n, l)) : s = claimS a n ++ DOT ++ strOfNums (hexF l) ∧ nameB a = true ∧ 0 ≤ n ∧ n ≤ 1099511627776 ∧ l.length = 32 ∧ U8 l := by
  have hsp := pieces_split s
  unfold readF at h
  generalize pieces s 46 s.size 0 0 = L at h hsp
  match L, h with
  | [x, b, c], h =>
    simp only at h
    by_cases hc : nameB x = true ∧ c.size = 64 ∧ (rdR b).2 = true ∧ (rdR b).1 ≤ 1099511627776 ∧ (unhexR c).2 = true
    · rw [if_pos hc] at h
      simp only [Option.some.injEq, Prod.mk.injEq] at h
      obtain ⟨rfl, rfl, rfl⟩ := h
      obtain ⟨h1, h2, h3, h4, h5⟩ := hc
      obtain ⟨r1, r2, r3⟩ := rdR_back b h3
      have hun := hex_unhex c (unhexR c).1 (by rw [← h5])
      have hfit := (unhexR_fits c).2
      have hlen : (unhexR c).1.length = 32 := by
        have := congrArg ByteArray.size hun
        rw [strOfNums_size, hexF_len, h2] at this; omega
      refine ⟨?_, h1, r1, h4, hlen, U8.of hfit⟩
      apply strL_inj
      rw [tok_lists, r3, hun]
      exact ((splitL_three _ _ _ _).1 hsp.symm).1
    · rw [if_neg hc] at h; cases h

theorem scan_all (s : ByteArray) (d : Nat) : ∀ i : Nat, scan s d (i : Int) = true → ∀ j : Nat, i ≤ j → j < i + d → okc (bt s (j : Int)) = true := by
  induction d with
  | zero => intro i _ j h1 h2; omega
  | succ d ih =>
    intro i h j h1 h2
    simp only [scan, Bool.and_eq_true] at h
    by_cases e : j = i
    · subst e; exact h.1
    · refine ih (i + 1) ?_ j (by omega) (by omega)
      rw [show ((i + 1 : Nat) : Int) = (i : Int) + 1 by omega]; exact h.2
theorem name_free (a : ByteArray) (h : nameB a = true) : 46 ∉ strL a := by
  unfold nameB at h
  simp only [Bool.and_eq_true] at h
  intro hm
  obtain ⟨i, hi, he⟩ := List.mem_iff_getElem.1 hm
  have hs : i < a.size := by rwa [strL_len] at hi
  have hb := bt_strL a i hs
  rw [List.getElem?_eq_getElem hi, he] at hb
  injection hb with hb
  have := scan_all a a.size 0 h.2 i (by omega) (by omega)
  rw [← hb] at this
  exact absurd this (by decide)
theorem dec_free (n : Int) (h0 : 0 ≤ n) (h2 : n ≤ 9223372036854775807) : strL (decB n) = decS n ∧ 46 ∉ decS n := by
  refine ⟨strL_nums _ (decS_bytes n (by omega) h2).1, fun hm => ?_⟩
  obtain ⟨m, rfl⟩ := Int.eq_ofNat_of_zero_le h0
  have := (decS_facts m (by omega)).1 46 hm
  omega
theorem hexd_free (n : Int) (h0 : 0 ≤ n) (h1 : n < 16) : hexd n ≠ 46 := by unfold hexd; split <;> omega
theorem hexF_free (l : List Int) (h : ∀ x ∈ l, 0 ≤ x ∧ x < 256) : 46 ∉ hexF l := by
  induction l with
  | nil => simp [hexF]
  | cons x l ih =>
    have hx := h x (by simp)
    have := ih (fun y hy => h y (by simp [hy]))
    simp only [hexF, List.mem_cons, not_or]
    exact ⟨(hexd_free _ (by omega) (by omega)).symm, (hexd_free _ (by omega) (by omega)).symm, this⟩
theorem u8_mem {l : List Int} (h : U8 l) : ∀ x ∈ l, 0 ≤ x ∧ x < 256 := by
  intro x hx
  obtain ⟨i, hi, rfl⟩ := List.mem_iff_getElem.1 hx
  have := h i
  unfold ga at this
  rwa [List.getD_eq_getElem?_getD, List.getElem?_eq_getElem hi] at this
theorem readF_in (a : ByteArray) (n : Int) (l : List Int) (ha : nameB a = true) (h0 : 0 ≤ n) (h2 : n ≤ 1099511627776) (hl : l.length = 32) (hu : U8 l) : readF (claimS a n ++ DOT ++ strOfNums (hexF l)) = some (a, n, l) := by
  have hum := u8_mem hu
  have hx := strL_nums (hexF l) (hexF_range l hum)
  obtain ⟨hd1, hd2⟩ := dec_free n h0 (by omega)
  have hsp := pieces_split (claimS a n ++ DOT ++ strOfNums (hexF l))
  have ht := tok_lists a (strOfNums (hexF l)) n
  rw [hx, hd1] at ht
  rw [(splitL_three _ _ _ _).2 ⟨ht, name_free a ha, hd2, hexF_free l hum⟩] at hsp
  unfold readF
  generalize pieces (claimS a n ++ DOT ++ strOfNums (hexF l)) 46 (claimS a n ++ DOT ++ strOfNums (hexF l)).size 0 0 = L at hsp
  match L, hsp with
  | [x, b, c], hsp =>
    simp only [List.map_cons, List.map_nil, List.cons.injEq, and_true] at hsp
    obtain ⟨e1, e2, e3⟩ := hsp
    have e1 := strL_inj _ _ e1
    have e2 := strL_inj _ _ (e2.trans hd1.symm)
    have e3 := strL_inj _ _ (e3.trans hx.symm)
    subst e1 e2 e3
    have hsz : (strOfNums (hexF l)).size = 64 := by rw [strOfNums_size, hexF_len, hl]
    have hr := rdR_dec n h0 (by omega)
    have hun := unhex_hex l hum
    simp only [hr, hun]
    rw [if_pos ⟨ha, hsz, trivial, h2, trivial⟩]
  | [], hsp => simp at hsp
  | [_], hsp => simp at hsp
  | [_, _], hsp => simp at hsp
  | _ :: _ :: _ :: _ :: _, hsp => simp at hsp
theorem hexF_inj (l m : List Int) (hl : U8 l) (hm : U8 m) (h : strOfNums (hexF l) = strOfNums (hexF m)) : l = m := by
  have h1 := unhex_hex l (u8_mem hl)
  rw [h, unhex_hex m (u8_mem hm)] at h1
  exact (Prod.mk.inj h1).1.symm
theorem app_cancel (a b c : ByteArray) (h : a ++ b = a ++ c) : b = c := by
  apply strL_inj
  have := congrArg strL h
  rw [strL_app, strL_app] at this
  exact List.append_cancel_left this
/-- A text that is read is the token of what it says, just if its sum is the one. -/
theorem tok_eq (key : List Int) (s a : ByteArray) (n : Int) (l : List Int) (h : readF s = some (a, n, l)) : tokS key a n = s ↔ macF key (strL (claimS a n)) = l := by
  obtain ⟨h1, _, _, _, h5, h6⟩ := readF_out s a n l h
  have hm : U8 (macF key (strL (claimS a n))) := sumF_range _
  unfold tokS
  rw [h1]
  constructor
  · intro e; exact hexF_inj _ _ hm h6 (app_cancel _ _ _ e)
  · intro e; rw [e]
def openR (key : List Int) (s : ByteArray) (now : Int) : (ByteArray × Int) × Int := match readF s with
  | none => ((⟨#[]⟩, 0), 4)
  | some (a, n, l) => if macF key (strL (claimS a n)) = l then (if n ≤ now then ((⟨#[]⟩, 0), 8) else ((a, n), 0)) else ((⟨#[]⟩, 0), 7)
def claimR (s : ByteArray) : (ByteArray × Int) × Int := match readF s with
  | none => ((⟨#[]⟩, 0), 4)
  | some (a, n, _) => ((a, n), 0)

end Go.Proofs.YtmfccnkjnkmgiaaDoor
