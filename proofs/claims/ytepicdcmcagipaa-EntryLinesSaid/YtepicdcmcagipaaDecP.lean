/- What text.Dec and the reference's Dec write, in lists alone. No condition but the kind's own bounds. -/
import Derived.Test.YtepicdcmcagipaaDecRef
import Derived.Lib.Bytes
import Derived.Lib.SmallJoins
namespace Go.Proofs.Ytepicdcmcagipaa
namespace DecP
open Go.RowKit Go.Proofs.Ytepicdcmcagipaa.PEntryLines Go.Proofs.YtepicdcmcagipaaW.PrintWords Go.Proofs.YtepicdcmcagipaaW.PrintLast Go.Proofs.YtepicdcmcagipaaW.PrintMore

theorem w1 {i : Int} (h0 : 0 ≤ i) (h : i < 9223372036854775807) : wrap64 (i + 1) = i + 1 := by
  unfold wrap64
  omega

theorem wid {i : Int} (h0 : -9223372036854775808 ≤ i) (h : i ≤ 9223372036854775807) : wrap64 i = i := by
  unfold wrap64
  omega

theorem pos {k d : Nat} (h : d < k) : ∃ m, k = m + 1 ∧ d ≤ m := ⟨k - 1, by omega, by omega⟩

theorem wu (n : Int) : IntKind.u64.wrap n = n % 18446744073709551616 := by
  simp [IntKind.wrap, IntKind.signed, IntKind.bits]

theorem toList_data (s : ByteArray) : s.toList = s.data.toList := by
  exact Go.ByteArray.toList_eq s


def revDigs : Nat → Nat → List Int
  | 0, _ => []
  | f + 1, u => if u = 0 then [] else (48 + ((u % 10 : Nat) : Int)) :: revDigs f (u / 10)

theorem revDigs_len (f : Nat) : ∀ u, (revDigs f u).length ≤ f := by
  induction f with
  | zero => intro u; simp [revDigs]
  | succ f ih => intro u; simp only [revDigs]; split <;> simp; exact ih _

theorem dec_l0 (a0 : Int) (r : Option ByteArray) (K : Nat) (f : Nat) : ∀ (u : Nat) (b : List Int) (k : Nat), u < 10 ^ f → u < 18446744073709551616 → b.length + f < 1000 →
    (∀ k', K ≤ k' → text_Dec.l0 (k' + 1) a0 0 (b ++ revDigs f u) = r) → K + f + 1 ≤ k → text_Dec.l0 k a0 u b = r := by
  induction f with
  | zero =>
    intro u b k hu _ _ h hk
    have : u = 0 := by simpa using hu
    subst this
    obtain ⟨k, rfl, hk'⟩ := pos (show K < k by omega)
    simpa [revDigs] using h k (by omega)
  | succ f ih =>
    intro u b k hu hu2 hb h hk
    obtain ⟨k, rfl, hk'⟩ := pos (show K < k by omega)
    by_cases h0 : u = 0
    · subst h0; simpa [revDigs] using h k (by omega)
    · simp only [text_Dec.l0]
      rw [if_pos (by omega), if_pos (by omega)]
      have e1 : IntKind.u64.wrap (Int.tdiv (u : Int) 10) = ((u / 10 : Nat) : Int) := by
        rw [Int.tdiv_eq_ediv_of_nonneg (by omega)]
        rw [wu]; omega
      have e2 : (IntKind.u64.wrap (48 + (Int.tmod (u : Int) 10))) % 256 = 48 + ((u % 10 : Nat) : Int) := by
        rw [Int.tmod_eq_emod_of_nonneg (by omega), wu]; omega
      rw [e1, e2]
      refine ih (u / 10) _ k ?_ (by omega) (by simp; omega) ?_ (by omega)
      · rw [Nat.pow_succ] at hu; omega
      · intro k' hk2
        have := h k' hk2
        simp only [revDigs, if_neg h0] at this
        simpa using this

theorem rd_mid (A M C : List Int) (m : Int) (i : Int) (h : i = A.length) : rd (A ++ (m :: M) ++ C) i = m := by
  subst h
  simp [rd]

theorem set_mid (A M C : List Int) (m x : Int) (i : Nat) (h : i = A.length) : (A ++ (m :: M) ++ C).set i x = A ++ (x :: M) ++ C := by
  subst h
  simp

theorem dec_l1 (n : Nat) : ∀ (M A C : List Int) (k : Nat), M.length = n → A.length = C.length → A.length + M.length + C.length < 1000 → n < k →
    text_Dec.l1 k (A ++ M ++ C) (A.length : Int) ((A.length + M.length : Nat) - 1 : Int) = some (strOfNums (A ++ M.reverse ++ C)) := by
  induction n using Nat.strongRecOn with
  | ind n ih =>
    intro M A C k hM hAC hb hk
    obtain ⟨k, rfl, hk'⟩ := pos hk
    match M, hM with
    | [], hM => simp only [text_Dec.l1]; rw [if_neg (by simp; omega)]; simp
    | [m], hM => simp only [text_Dec.l1]; rw [if_neg (by simp)]; simp
    | m :: m2 :: M2, hM =>
      obtain ⟨M', z, hz⟩ : ∃ M' z, m2 :: M2 = M' ++ [z] := ⟨(m2 :: M2).dropLast, (m2 :: M2).getLast (by simp), (List.dropLast_concat_getLast (by simp)).symm⟩
      rw [hz] at hM hb ⊢
      simp only [List.length_cons, List.length_append, List.length_nil] at hM hb
      simp only [text_Dec.l1, List.length_cons, List.length_append, List.length_nil]
      rw [if_pos (by omega), if_pos (by omega), if_pos (by omega), if_pos (by omega), if_pos (by omega)]
      have r1 : rd (A ++ m :: (M' ++ [z]) ++ C) (A.length : Int) = m := rd_mid _ _ _ _ _ rfl
      have r2 : rd (A ++ m :: (M' ++ [z]) ++ C) ((A.length + (M'.length + (0 + 1) + 1) : Nat) - 1 : Int) = z := by
        have := rd_mid (A ++ m :: M') [] C z ((A.length + (M'.length + (0 + 1) + 1) : Nat) - 1 : Int) (by simp; omega)
        simpa using this
      rw [r1, r2]
      have s1 : (A ++ m :: (M' ++ [z]) ++ C).set (A.length : Int).toNat z = A ++ z :: (M' ++ [z]) ++ C := set_mid _ _ _ _ _ _ (by simp)
      have s2 : (A ++ z :: (M' ++ [z]) ++ C).set (((A.length + (M'.length + (0 + 1) + 1) : Nat) - 1 : Int)).toNat m = (A ++ [z]) ++ M' ++ (m :: C) := by
        have := set_mid (A ++ z :: M') [] C z m (((A.length + (M'.length + (0 + 1) + 1) : Nat) - 1 : Int)).toNat (by simp; omega)
        simpa using this
      rw [s1, s2]
      have := ih M'.length (by omega) M' (A ++ [z]) (m :: C) k rfl (by simp; omega) (by simp; omega) (by omega)
      rw [w1 (by omega) (by omega), wid (by omega) (by omega)]
      have e1 : (((A ++ [z]).length : Nat) : Int) = (A.length : Int) + 1 := by simp
      have e2 : (((A ++ [z]).length + M'.length : Nat) : Int) - 1 = ((A.length + (M'.length + (0 + 1) + 1) : Nat) : Int) - 1 - 1 := by simp; omega
      rw [e1, e2] at this
      rw [this]
      simp

/-- What text.Dec writes. -/
def decS (n : Int) : List Int := if n = 0 then [48] else ((if n < 0 then [45] else []) ++ (revDigs 20 n.natAbs).reverse)

theorem dec_j2 (x : List Int) (hx : x.length < 900) (k : Nat) (hk : x.length + 1 < k) : text_Dec.j2 k x = some (strOfNums x.reverse) := by
  obtain ⟨k, rfl, hk'⟩ := pos hk
  have := dec_l1 x.length x [] [] k rfl rfl (by simp; omega) (by omega)
  simp only [text_Dec.j2]
  rw [wid (by omega) (by omega)]
  simpa using this

theorem dec_f (n : Int) (h1 : -9223372036854775808 ≤ n) (h2 : n ≤ 9223372036854775807) (k : Nat) (hk : 60 ≤ k) : text_Dec.f k n = some (strOfNums (decS n)) := by
  unfold text_Dec.f decS
  by_cases h0 : n = 0
  · rw [if_pos h0, if_pos h0]; rfl
  · rw [if_neg h0, if_neg h0]
    simp only [Option.bind_some]
    obtain ⟨k, rfl, hk'⟩ := pos (show 0 < k by omega)
    have hl := revDigs_len 20 n.natAbs
    by_cases hn : n < 0
    · rw [if_pos hn, if_pos hn]
      have e : IntKind.u64.wrap (-(IntKind.u64.wrap n)) = (n.natAbs : Int) := by rw [wu, wu]; omega
      rw [e]
      simp only [text_Dec.j0]
      refine dec_l0 n _ 30 20 n.natAbs [] k (by omega) (by omega) (by simp) ?_ (by omega)
      intro k' hk2
      simp only [text_Dec.l0]
      rw [if_neg (by omega), if_pos hn, if_pos (by simp; omega), dec_j2 _ (by simp; omega) _ (by simp; omega)]
      simp
    · rw [if_neg hn, if_neg hn]
      have e : IntKind.u64.wrap n = (n.natAbs : Int) := by rw [wu]; omega
      rw [e]
      simp only [text_Dec.j0]
      refine dec_l0 n _ 30 20 n.natAbs [] k (by omega) (by omega) (by simp) ?_ (by omega)
      intro k' hk2
      simp only [text_Dec.l0]
      rw [if_neg (by omega), if_neg hn, dec_j2 _ (by simp; omega) _ (by simp; omega)]
      simp


theorem revDigs_zero (f : Nat) : revDigs f 0 = [] := by cases f <;> simp [revDigs]

theorem revDigs_fuel (f : Nat) : ∀ g u : Nat, u < 10 ^ f → u < 10 ^ g → revDigs f u = revDigs g u := by
  induction f with
  | zero =>
    intro g u h _
    have : u = 0 := by simpa using h
    subst this
    rw [revDigs_zero, revDigs_zero]
  | succ f ih =>
    intro g u h hg
    match g, hg with
    | 0, hg =>
      have : u = 0 := by simpa using hg
      subst this
      rw [revDigs_zero, revDigs_zero]
    | g + 1, hg =>
      simp only [revDigs]
      split
      · rfl
      · rw [ih g (u / 10) (by rw [Nat.pow_succ] at h; omega) (by rw [Nat.pow_succ] at hg; omega)]

/-- The digits of a number from 1 on, the highest first. -/
def dg (m : Nat) : List Int := (revDigs 20 m).reverse
theorem dg_small (m : Nat) (h0 : 0 < m) (h : m < 10) : dg m = [48 + (m : Int)] := by
  unfold dg
  simp only [revDigs]
  rw [if_neg (by omega), if_pos (by omega), Nat.mod_eq_of_lt h]
  rfl
theorem dg_step (m : Nat) (h : 10 ≤ m) (hm : m ≤ 9223372036854775808) : dg m = dg (m / 10) ++ [48 + ((m % 10 : Nat) : Int)] := by
  unfold dg
  have : revDigs 20 m = (48 + ((m % 10 : Nat) : Int)) :: revDigs 19 (m / 10) := by
    show (if m = 0 then [] else (48 + ((m % 10 : Nat) : Int)) :: revDigs 19 (m / 10)) = _
    rw [if_neg (by omega)]
  rw [this, revDigs_fuel 19 20 (m / 10) (by omega) (by omega), List.reverse_cons]
theorem letter_f (d : Nat) (h : d < 10) : inquestref04_letter.f d = some (strOfNums [48 + (d : Int)]) := by
  have : ∀ d : Fin 10, inquestref04_letter.f ((d.val : Nat) : Int) = some (strOfNums [48 + ((d.val : Nat) : Int)]) := by decide +kernel
  exact this ⟨d, h⟩
theorem str_append (a b : List Int) : strOfNums a ++ strOfNums b = strOfNums (a ++ b) := by
  apply ByteArray.ext
  apply Array.ext'
  rw [ByteArray.data_append, Array.toList_append, strOfNums_data, strOfNums_data, strOfNums_data, List.map_append]
theorem str_len (a : List Int) : (strOfNums a).size = a.length := strOfNums_size a
theorem decS_neg (m : Nat) (h : 0 < m) : decS (-(m : Int)) = 45 :: dg m := by
  unfold decS dg
  rw [if_neg (by omega), if_pos (by omega)]
  simp
theorem decS_pos (m : Nat) (h : 0 < m) : decS (m : Int) = dg m := by
  unfold decS dg
  rw [if_neg (by omega), if_neg (by omega)]
  simp
theorem dg_len (m : Nat) : (dg m).length ≤ 20 := by unfold dg; rw [List.length_reverse]; exact revDigs_len 20 m

theorem rdec_neg (f : Nat) : ∀ (m k : Nat), 0 < m → m < 10 ^ f → m ≤ 9223372036854775808 → f ≤ k → inquestref04_Dec.f k (-(m : Int)) = some (strOfNums (45 :: dg m)) := by
  induction f with
  | zero => intro m k h0 h; simp at h; omega
  | succ f ih =>
    intro m k h0 h hm hk
    obtain ⟨k, rfl, hk'⟩ := pos (show f < k by omega)
    simp only [inquestref04_Dec.f]
    rw [if_pos (by omega)]
    by_cases h1 : m < 10
    · rw [if_pos (by omega), wid (by omega) (by omega), Int.neg_neg, letter_f m h1]
      simp only [Option.bind_some]
      rw [if_pos (by rw [str_len]; simp), dg_small m h0 h1]
      exact congrArg some (str_append [45] [48 + (m : Int)])
    · have e1 : Int.tdiv (-(m : Int)) 10 = -((m / 10 : Nat) : Int) := by rw [Int.neg_tdiv, Int.tdiv_eq_ediv_of_nonneg (by omega)]; omega
      have e2 : Int.tmod (-(m : Int)) 10 = -((m % 10 : Nat) : Int) := by rw [Int.neg_tmod, Int.tmod_eq_emod_of_nonneg (by omega)]; omega
      rw [if_neg (by omega), e1, e2, Int.neg_neg, wid (by omega) (by omega), wid (by omega) (by omega), ih (m / 10) k (by omega) (by rw [Nat.pow_succ] at h; omega) (by omega) hk', letter_f (m % 10) (by omega)]
      simp only [Option.bind_some]
      have := dg_len (m / 10)
      rw [if_pos (by rw [str_len, str_len]; simp; omega), str_append, dg_step m (by omega) hm]
      rfl
theorem rdec_pos (f : Nat) : ∀ (m k : Nat), m < 10 ^ (f + 1) → m ≤ 9223372036854775807 → f + 1 ≤ k → inquestref04_Dec.f k (m : Int) = some (strOfNums (decS m)) := by
  induction f with
  | zero =>
    intro m k h hm hk
    obtain ⟨k, rfl, hk'⟩ := pos (show 0 < k by omega)
    simp only [inquestref04_Dec.f]
    rw [if_neg (by omega), if_pos (by omega), letter_f m (by omega)]
    simp only [Option.bind_some]
    by_cases h0 : m = 0
    · subst h0; rfl
    · rw [decS_pos m (by omega), dg_small m (by omega) (by omega)]
  | succ f ih =>
    intro m k h hm hk
    obtain ⟨k, rfl, hk'⟩ := pos (show 0 < k by omega)
    simp only [inquestref04_Dec.f]
    rw [if_neg (by omega)]
    by_cases h1 : m < 10
    · rw [if_pos (by omega), letter_f m (by omega)]
      simp only [Option.bind_some]
      by_cases h0 : m = 0
      · subst h0; rfl
      · rw [decS_pos m (by omega), dg_small m (by omega) (by omega)]
    · have e1 : Int.tdiv (m : Int) 10 = ((m / 10 : Nat) : Int) := by rw [Int.tdiv_eq_ediv_of_nonneg (by omega)]; omega
      have e2 : Int.tmod (m : Int) 10 = ((m % 10 : Nat) : Int) := by rw [Int.tmod_eq_emod_of_nonneg (by omega)]; omega
      rw [if_neg (by omega), e1, e2, wid (by omega) (by omega), ih (m / 10) k (by rw [Nat.pow_succ] at h; omega) (by omega) (by omega), letter_f (m % 10) (by omega), decS_pos (m / 10) (by omega), decS_pos m (by omega)]
      simp only [Option.bind_some]
      have := dg_len (m / 10)
      rw [if_pos (by rw [str_len, str_len]; simp; omega), str_append, dg_step m (by omega) (by omega)]
theorem rdec_f (n : Int) (h1 : -9223372036854775808 ≤ n) (h2 : n ≤ 9223372036854775807) (k : Nat) (hk : 30 ≤ k) : inquestref04_Dec.f k n = some (strOfNums (decS n)) := by
  by_cases h : n < 0
  · obtain ⟨m, rfl⟩ : ∃ m : Nat, n = -(m : Int) := ⟨n.natAbs, by omega⟩
    rw [rdec_neg 20 m k (by omega) (by omega) (by omega) (by omega), decS_neg m (by omega)]
  · obtain ⟨m, rfl⟩ := Int.eq_ofNat_of_zero_le (by omega : 0 ≤ n)
    exact rdec_pos 19 m k (by omega) (by omega) (by omega)


end DecP

end Go.Proofs.Ytepicdcmcagipaa
