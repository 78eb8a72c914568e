/- What lives and the reference's Cut answer, in numbers and lists alone. Condition: the text that came in takes at most 2^47 - 4096 bytes (the row's own reach). -/
import Derived.Test.YtabhilifliekmaaPTextHexesx2
import Derived.Lib.Bytes
import Derived.Lib.SmallJoins
namespace Go.Proofs.Ytabhilifliekmaa.Pure
open Go.RowKit Go.Proofs.Ytabhilifliekmaa.PTextHexes Go.Proofs.YtabhilifliekmaaW.PrintWords Go.Proofs.YtabhilifliekmaaW.PrintLast

theorem w1 {i : Int} (h0 : 0 ≤ i) (h : i < 9223372036854775807) : wrap64 (i + 1) = i + 1 := by
  unfold wrap64
  omega

theorem wid {i : Int} (h0 : -9223372036854775808 ≤ i) (h : i ≤ 9223372036854775807) : wrap64 i = i := by
  unfold wrap64
  omega

theorem pos {k d : Nat} (h : d < k) : ∃ m, k = m + 1 ∧ d ≤ m := ⟨k - 1, by omega, by omega⟩

theorem wu (n : Int) : IntKind.u64.wrap n = n % 18446744073709551616 := by
  simp [IntKind.wrap, IntKind.signed, IntKind.bits]

theorem toList_data (s : ByteArray) : s.toList = s.data.toList := by
  exact Go.ByteArray.toList_eq s

/-- A byte that a name may have behind its first one. -/
def okc (c : Int) : Bool := (decide (97 ≤ c) && decide (c ≤ 122)) || (decide (48 ≤ c) && decide (c ≤ 57)) || decide (c = 45)

/-- The next d bytes from i on are such. -/
def scan (s : ByteArray) : Nat → Int → Bool
  | 0, _ => true
  | d + 1, i => okc (bt s i) && scan s d (i + 1)

theorem name_l0 (s : ByteArray) (hn : s.size ≤ 140737488351232) (d : Nat) : ∀ (k : Nat) (i : Int), 0 ≤ i → (s.size : Int) - i = d → d < k →
    text_Name.l0 k s (s.size : Int) i = some (scan s d i) := by
  induction d with
  | zero =>
    intro k i h0 hd hk
    obtain ⟨k, rfl, _⟩ := pos hk
    simp only [text_Name.l0]; rw [if_neg (by omega)]; rfl
  | succ d ih =>
    intro k i h0 hd hk
    obtain ⟨k, rfl, hk'⟩ := pos hk
    have hi := ih k (i + 1) (by omega) (by omega) (by omega)
    simp only [text_Name.l0]; rw [if_pos (by omega), if_pos h0, if_pos (by omega), w1 h0 (by omega), hi]
    simp only [scan, okc]
    generalize bt s i = c
    generalize scan s d (i + 1) = b
    by_cases h1 : c < 97 <;> by_cases h2 : c < 48 <;> by_cases h3 : c = 45 <;> by_cases h4 : c > 57 <;> by_cases h5 : c > 122 <;>
      simp [h1, h2, h3, h4, h5] <;> omega

/-- What text.Name tells. -/
def nameB (s : ByteArray) : Bool := decide (1 ≤ s.size) && decide (s.size ≤ 16) && decide (97 ≤ bt s 0) && decide (bt s 0 ≤ 122) && scan s s.size 0

theorem name_f (s : ByteArray) (hn : s.size ≤ 140737488351232) (k : Nat) (hk : s.size + 1 < k) : text_Name.f k s = some (nameB s) := by
  obtain ⟨k, rfl, hk'⟩ := pos hk
  have hl := name_l0 s hn s.size k 0 (by omega) (by omega) (by omega)
  have hz : (s.toList = ([] : List UInt8)) ↔ s.size = 0 := by
    rw [toList_data]
    constructor
    · intro h; have := congrArg List.length h; rw [Array.length_toList] at this; exact this
    · intro h; exact List.eq_nil_of_length_eq_zero (by rw [Array.length_toList]; exact h)
  unfold text_Name.f nameB
  by_cases h0 : s.size = 0
  · rw [if_pos (hz.2 h0)]; simp only [text_Name.j0, if_true, h0]; simp
  · rw [if_neg (fun h => h0 (hz.1 h))]
    by_cases h1 : (s.size : Int) > 16
    · rw [if_pos h1]; simp only [text_Name.j0, if_true]; have a2 : decide (s.size ≤ 16) = false := by first | exact decide_eq_true (by omega) | exact decide_eq_false (by omega)
      rw [a2]; simp
    · rw [if_neg h1, if_pos (by omega)]
      by_cases h2 : bt s 0 < 97
      · rw [if_pos h2]; simp only [text_Name.j0, if_true]; have a2 : decide (97 ≤ bt s 0) = false := by first | exact decide_eq_true (by omega) | exact decide_eq_false (by omega)
        rw [a2]; simp
      · rw [if_neg h2]
        by_cases h3 : bt s 0 > 122
        · have a2 : decide (bt s 0 ≤ 122) = false := by first | exact decide_eq_true (by omega) | exact decide_eq_false (by omega)
          simp only [text_Name.j0, h3, decide_true, if_true, a2]; simp
        · simp only [text_Name.j0, h3, decide_false, Bool.false_eq_true, if_false, hl]
          congr 1
          have a1 : decide (1 ≤ s.size) = true := by first | exact decide_eq_true (by omega) | exact decide_eq_false (by omega)
          have a2 : decide (s.size ≤ 16) = true := by first | exact decide_eq_true (by omega) | exact decide_eq_false (by omega)
          have a3 : decide (97 ≤ bt s 0) = true := by first | exact decide_eq_true (by omega) | exact decide_eq_false (by omega)
          have a4 : decide (bt s 0 ≤ 122) = true := by first | exact decide_eq_true (by omega) | exact decide_eq_false (by omega)
          rw [a1, a2, a3, a4]; simp

/-- The digits of a number, the last one first, as bytes; of 0 none. -/
def revDigs : Nat → Nat → List Int
  | 0, _ => []
  | f + 1, u => if u = 0 then [] else (48 + ((u % 10 : Nat) : Int)) :: revDigs f (u / 10)

theorem revDigs_len (f : Nat) : ∀ u, (revDigs f u).length ≤ f := by
  induction f with
  | zero => intro u; simp [revDigs]
  | succ f ih => intro u; simp only [revDigs]; split <;> simp; exact ih _

theorem dec_l0 (a0 : Int) (r : Option ByteArray) (K : Nat) (f : Nat) : ∀ (u : Nat) (b : List Int) (k : Nat), u < 10 ^ f → u < 18446744073709551616 → b.length + f < 1000 →
    (∀ k', K ≤ k' → text_Dec.l0 (k' + 1) a0 0 (b ++ revDigs f u) = r) → K + f + 1 ≤ k → text_Dec.l0 k a0 u b = r := by
  induction f with
  | zero =>
    intro u b k hu _ _ h hk
    have : u = 0 := by simpa using hu
    subst this
    obtain ⟨k, rfl, hk'⟩ := pos (show K < k by omega)
    simpa [revDigs] using h k (by omega)
  | succ f ih =>
    intro u b k hu hu2 hb h hk
    obtain ⟨k, rfl, hk'⟩ := pos (show K < k by omega)
    by_cases h0 : u = 0
    · subst h0; simpa [revDigs] using h k (by omega)
    · simp only [text_Dec.l0]
      rw [if_pos (by omega), if_pos (by omega)]
      have e1 : IntKind.u64.wrap (Int.tdiv (u : Int) 10) = ((u / 10 : Nat) : Int) := by
        rw [Int.tdiv_eq_ediv_of_nonneg (by omega)]
        rw [wu]; omega
      have e2 : (IntKind.u64.wrap (48 + (Int.tmod (u : Int) 10))) % 256 = 48 + ((u % 10 : Nat) : Int) := by
        rw [Int.tmod_eq_emod_of_nonneg (by omega), wu]; omega
      rw [e1, e2]
      refine ih (u / 10) _ k ?_ (by omega) (by simp; omega) ?_ (by omega)
      · rw [Nat.pow_succ] at hu; omega
      · intro k' hk2
        have := h k' hk2
        simp only [revDigs, if_neg h0] at this
        simpa using this

theorem rd_mid (A M C : List Int) (m : Int) (i : Int) (h : i = A.length) : rd (A ++ (m :: M) ++ C) i = m := by
  subst h
  simp [rd]

theorem set_mid (A M C : List Int) (m x : Int) (i : Nat) (h : i = A.length) : (A ++ (m :: M) ++ C).set i x = A ++ (x :: M) ++ C := by
  subst h
  simp

theorem dec_l1 (n : Nat) : ∀ (M A C : List Int) (k : Nat), M.length = n → A.length = C.length → A.length + M.length + C.length < 1000 → n < k →
    text_Dec.l1 k (A ++ M ++ C) (A.length : Int) ((A.length + M.length : Nat) - 1 : Int) = some (strOfNums (A ++ M.reverse ++ C)) := by
  induction n using Nat.strongRecOn with
  | ind n ih =>
    intro M A C k hM hAC hb hk
    obtain ⟨k, rfl, hk'⟩ := pos hk
    match M, hM with
    | [], hM => simp only [text_Dec.l1]; rw [if_neg (by simp; omega)]; simp
    | [m], hM => simp only [text_Dec.l1]; rw [if_neg (by simp)]; simp
    | m :: m2 :: M2, hM =>
      obtain ⟨M', z, hz⟩ : ∃ M' z, m2 :: M2 = M' ++ [z] := ⟨(m2 :: M2).dropLast, (m2 :: M2).getLast (by simp), (List.dropLast_concat_getLast (by simp)).symm⟩
      rw [hz] at hM hb ⊢
      simp only [List.length_cons, List.length_append, List.length_nil] at hM hb
      simp only [text_Dec.l1, List.length_cons, List.length_append, List.length_nil]
      rw [if_pos (by omega), if_pos (by omega), if_pos (by omega), if_pos (by omega), if_pos (by omega)]
      have r1 : rd (A ++ m :: (M' ++ [z]) ++ C) (A.length : Int) = m := rd_mid _ _ _ _ _ rfl
      have r2 : rd (A ++ m :: (M' ++ [z]) ++ C) ((A.length + (M'.length + (0 + 1) + 1) : Nat) - 1 : Int) = z := by
        have := rd_mid (A ++ m :: M') [] C z ((A.length + (M'.length + (0 + 1) + 1) : Nat) - 1 : Int) (by simp; omega)
        simpa using this
      rw [r1, r2]
      have s1 : (A ++ m :: (M' ++ [z]) ++ C).set (A.length : Int).toNat z = A ++ z :: (M' ++ [z]) ++ C := set_mid _ _ _ _ _ _ (by simp)
      have s2 : (A ++ z :: (M' ++ [z]) ++ C).set (((A.length + (M'.length + (0 + 1) + 1) : Nat) - 1 : Int)).toNat m = (A ++ [z]) ++ M' ++ (m :: C) := by
        have := set_mid (A ++ z :: M') [] C z m (((A.length + (M'.length + (0 + 1) + 1) : Nat) - 1 : Int)).toNat (by simp; omega)
        simpa using this
      rw [s1, s2]
      have := ih M'.length (by omega) M' (A ++ [z]) (m :: C) k rfl (by simp; omega) (by simp; omega) (by omega)
      rw [w1 (by omega) (by omega), wid (by omega) (by omega)]
      have e1 : (((A ++ [z]).length : Nat) : Int) = (A.length : Int) + 1 := by simp
      have e2 : (((A ++ [z]).length + M'.length : Nat) : Int) - 1 = ((A.length + (M'.length + (0 + 1) + 1) : Nat) : Int) - 1 - 1 := by simp; omega
      rw [e1, e2] at this
      rw [this]
      simp

/-- What text.Dec writes. -/
def decS (n : Int) : List Int := if n = 0 then [48] else ((if n < 0 then [45] else []) ++ (revDigs 20 n.natAbs).reverse)

theorem dec_j2 (x : List Int) (hx : x.length < 900) (k : Nat) (hk : x.length + 1 < k) : text_Dec.j2 k x = some (strOfNums x.reverse) := by
  obtain ⟨k, rfl, hk'⟩ := pos hk
  have := dec_l1 x.length x [] [] k rfl rfl (by simp; omega) (by omega)
  simp only [text_Dec.j2]
  rw [wid (by omega) (by omega)]
  simpa using this

theorem dec_f (n : Int) (h1 : -9223372036854775808 ≤ n) (h2 : n ≤ 9223372036854775807) (k : Nat) (hk : 60 ≤ k) : text_Dec.f k n = some (strOfNums (decS n)) := by
  unfold text_Dec.f decS
  by_cases h0 : n = 0
  · rw [if_pos h0, if_pos h0]; rfl
  · rw [if_neg h0, if_neg h0]
    simp only [Option.bind_some]
    obtain ⟨k, rfl, hk'⟩ := pos (show 0 < k by omega)
    have hl := revDigs_len 20 n.natAbs
    by_cases hn : n < 0
    · rw [if_pos hn, if_pos hn]
      have e : IntKind.u64.wrap (-(IntKind.u64.wrap n)) = (n.natAbs : Int) := by rw [wu, wu]; omega
      rw [e]
      simp only [text_Dec.j0]
      refine dec_l0 n _ 30 20 n.natAbs [] k (by omega) (by omega) (by simp) ?_ (by omega)
      intro k' hk2
      simp only [text_Dec.l0]
      rw [if_neg (by omega), if_pos hn, if_pos (by simp; omega), dec_j2 _ (by simp; omega) _ (by simp; omega)]
      simp
    · rw [if_neg hn, if_neg hn]
      have e : IntKind.u64.wrap n = (n.natAbs : Int) := by rw [wu]; omega
      rw [e]
      simp only [text_Dec.j0]
      refine dec_l0 n _ 30 20 n.natAbs [] k (by omega) (by omega) (by simp) ?_ (by omega)
      intro k' hk2
      simp only [text_Dec.l0]
      rw [if_neg (by omega), if_neg hn, dec_j2 _ (by simp; omega) _ (by simp; omega)]
      simp

theorem lives_f (k : Nat) (hk : 60 ≤ k) : inquestlaw04_lives.f k = some true := by
  unfold inquestlaw04_lives.f
  rw [dec_f 7 (by omega) (by omega) k hk]
  simp only [Option.bind_some]
  rw [if_pos (by decide +kernel), name_f _ (by decide +kernel) k (by have : (⟨#[97]⟩ : ByteArray).size = 1 := rfl; omega)]
  simp only [Option.bind_some]
  decide +kernel

theorem cut_f (s : ByteArray) : ∃ t, inquestref04_Cut.f s 300 = some t ∧ t.size ≤ 300 := by
  unfold inquestref04_Cut.f
  by_cases h : (s.size : Int) > 300
  · rw [if_pos h, if_pos (by omega), if_pos (by omega)]
    refine ⟨_, rfl, ?_⟩
    simp
    omega
  · rw [if_neg h]; exact ⟨s, rfl, by omega⟩


end Go.Proofs.Ytabhilifliekmaa.Pure
