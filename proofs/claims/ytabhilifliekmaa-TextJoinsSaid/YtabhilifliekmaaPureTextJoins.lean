/- The pieces that text.Fields answers, joined by the byte, are the text; none has the byte; and there are no more than most. Condition: the text that came in takes at most 2^47 - 4096 bytes (the row's own reach). -/
import Derived.Test.YtabhilifliekmaaPTextJoinsx3
import Derived.Lib.Bytes
import Derived.Lib.SmallJoins
namespace Go.Proofs.Ytabhilifliekmaa.Pure
open Go.RowKit Go.Proofs.Ytabhilifliekmaa.PTextJoins Go.Proofs.YtabhilifliekmaaW.PrintWords Go.Proofs.YtabhilifliekmaaW.PrintLast

theorem w1 {i : Int} (h0 : 0 ≤ i) (h : i < 9223372036854775807) : wrap64 (i + 1) = i + 1 := by
  unfold wrap64
  omega

theorem wid {i : Int} (h0 : -9223372036854775808 ≤ i) (h : i ≤ 9223372036854775807) : wrap64 i = i := by
  unfold wrap64
  omega

theorem pos {k d : Nat} (h : d < k) : ∃ m, k = m + 1 ∧ d ≤ m := ⟨k - 1, by omega, by omega⟩

theorem wu (n : Int) : IntKind.u64.wrap n = n % 18446744073709551616 := by
  simp [IntKind.wrap, IntKind.signed, IntKind.bits]

theorem toList_data (s : ByteArray) : s.toList = s.data.toList := by
  exact Go.ByteArray.toList_eq s

/-- A byte that a name may have behind its first one. -/
def okc (c : Int) : Bool := (decide (97 ≤ c) && decide (c ≤ 122)) || (decide (48 ≤ c) && decide (c ≤ 57)) || decide (c = 45)

/-- The next d bytes from i on are such. -/
def scan (s : ByteArray) : Nat → Int → Bool
  | 0, _ => true
  | d + 1, i => okc (bt s i) && scan s d (i + 1)

theorem name_l0 (s : ByteArray) (hn : s.size ≤ 140737488351232) (d : Nat) : ∀ (k : Nat) (i : Int), 0 ≤ i → (s.size : Int) - i = d → d < k →
    text_Name.l0 k s (s.size : Int) i = some (scan s d i) := by
  induction d with
  | zero =>
    intro k i h0 hd hk
    obtain ⟨k, rfl, _⟩ := pos hk
    simp only [text_Name.l0]; rw [if_neg (by omega)]; rfl
  | succ d ih =>
    intro k i h0 hd hk
    obtain ⟨k, rfl, hk'⟩ := pos hk
    have hi := ih k (i + 1) (by omega) (by omega) (by omega)
    simp only [text_Name.l0]; rw [if_pos (by omega), if_pos h0, if_pos (by omega), w1 h0 (by omega), hi]
    simp only [scan, okc]
    generalize bt s i = c
    generalize scan s d (i + 1) = b
    by_cases h1 : c < 97 <;> by_cases h2 : c < 48 <;> by_cases h3 : c = 45 <;> by_cases h4 : c > 57 <;> by_cases h5 : c > 122 <;>
      simp [h1, h2, h3, h4, h5] <;> omega

/-- What text.Name tells. -/
def nameB (s : ByteArray) : Bool := decide (1 ≤ s.size) && decide (s.size ≤ 16) && decide (97 ≤ bt s 0) && decide (bt s 0 ≤ 122) && scan s s.size 0

theorem name_f (s : ByteArray) (hn : s.size ≤ 140737488351232) (k : Nat) (hk : s.size + 1 < k) : text_Name.f k s = some (nameB s) := by
  obtain ⟨k, rfl, hk'⟩ := pos hk
  have hl := name_l0 s hn s.size k 0 (by omega) (by omega) (by omega)
  have hz : (s.toList = ([] : List UInt8)) ↔ s.size = 0 := by
    rw [toList_data]
    constructor
    · intro h; have := congrArg List.length h; rw [Array.length_toList] at this; exact this
    · intro h; exact List.eq_nil_of_length_eq_zero (by rw [Array.length_toList]; exact h)
  unfold text_Name.f nameB
  by_cases h0 : s.size = 0
  · rw [if_pos (hz.2 h0)]; simp only [text_Name.j0, if_true, h0]; simp
  · rw [if_neg (fun h => h0 (hz.1 h))]
    by_cases h1 : (s.size : Int) > 16
    · rw [if_pos h1]; simp only [text_Name.j0, if_true]; have a2 : decide (s.size ≤ 16) = false := by first | exact decide_eq_true (by omega) | exact decide_eq_false (by omega)
      rw [a2]; simp
    · rw [if_neg h1, if_pos (by omega)]
      by_cases h2 : bt s 0 < 97
      · rw [if_pos h2]; simp only [text_Name.j0, if_true]; have a2 : decide (97 ≤ bt s 0) = false := by first | exact decide_eq_true (by omega) | exact decide_eq_false (by omega)
        rw [a2]; simp
      · rw [if_neg h2]
        by_cases h3 : bt s 0 > 122
        · have a2 : decide (bt s 0 ≤ 122) = false := by first | exact decide_eq_true (by omega) | exact decide_eq_false (by omega)
          simp only [text_Name.j0, h3, decide_true, if_true, a2]; simp
        · simp only [text_Name.j0, h3, decide_false, Bool.false_eq_true, if_false, hl]
          congr 1
          have a1 : decide (1 ≤ s.size) = true := by first | exact decide_eq_true (by omega) | exact decide_eq_false (by omega)
          have a2 : decide (s.size ≤ 16) = true := by first | exact decide_eq_true (by omega) | exact decide_eq_false (by omega)
          have a3 : decide (97 ≤ bt s 0) = true := by first | exact decide_eq_true (by omega) | exact decide_eq_false (by omega)
          have a4 : decide (bt s 0 ≤ 122) = true := by first | exact decide_eq_true (by omega) | exact decide_eq_false (by omega)
          rw [a1, a2, a3, a4]; simp

/-- The digits of a number, the last one first, as bytes; of 0 none. -/
def revDigs : Nat → Nat → List Int
  | 0, _ => []
  | f + 1, u => if u = 0 then [] else (48 + ((u % 10 : Nat) : Int)) :: revDigs f (u / 10)

theorem revDigs_len (f : Nat) : ∀ u, (revDigs f u).length ≤ f := by
  induction f with
  | zero => intro u; simp [revDigs]
  | succ f ih => intro u; simp only [revDigs]; split <;> simp; exact ih _

theorem dec_l0 (a0 : Int) (r : Option ByteArray) (K : Nat) (f : Nat) : ∀ (u : Nat) (b : List Int) (k : Nat), u < 10 ^ f → u < 18446744073709551616 → b.length + f < 1000 →
    (∀ k', K ≤ k' → text_Dec.l0 (k' + 1) a0 0 (b ++ revDigs f u) = r) → K + f + 1 ≤ k → text_Dec.l0 k a0 u b = r := by
  induction f with
  | zero =>
    intro u b k hu _ _ h hk
    have : u = 0 := by simpa using hu
    subst this
    obtain ⟨k, rfl, hk'⟩ := pos (show K < k by omega)
    simpa [revDigs] using h k (by omega)
  | succ f ih =>
    intro u b k hu hu2 hb h hk
    obtain ⟨k, rfl, hk'⟩ := pos (show K < k by omega)
    by_cases h0 : u = 0
    · subst h0; simpa [revDigs] using h k (by omega)
    · simp only [text_Dec.l0]
      rw [if_pos (by omega), if_pos (by omega)]
      have e1 : IntKind.u64.wrap (Int.tdiv (u : Int) 10) = ((u / 10 : Nat) : Int) := by
        rw [Int.tdiv_eq_ediv_of_nonneg (by omega)]
        rw [wu]; omega
      have e2 : (IntKind.u64.wrap (48 + (Int.tmod (u : Int) 10))) % 256 = 48 + ((u % 10 : Nat) : Int) := by
        rw [Int.tmod_eq_emod_of_nonneg (by omega), wu]; omega
      rw [e1, e2]
      refine ih (u / 10) _ k ?_ (by omega) (by simp; omega) ?_ (by omega)
      · rw [Nat.pow_succ] at hu; omega
      · intro k' hk2
        have := h k' hk2
        simp only [revDigs, if_neg h0] at this
        simpa using this

theorem rd_mid (A M C : List Int) (m : Int) (i : Int) (h : i = A.length) : rd (A ++ (m :: M) ++ C) i = m := by
  subst h
  simp [rd]

theorem set_mid (A M C : List Int) (m x : Int) (i : Nat) (h : i = A.length) : (A ++ (m :: M) ++ C).set i x = A ++ (x :: M) ++ C := by
  subst h
  simp

theorem dec_l1 (n : Nat) : ∀ (M A C : List Int) (k : Nat), M.length = n → A.length = C.length → A.length + M.length + C.length < 1000 → n < k →
    text_Dec.l1 k (A ++ M ++ C) (A.length : Int) ((A.length + M.length : Nat) - 1 : Int) = some (strOfNums (A ++ M.reverse ++ C)) := by
  induction n using Nat.strongRecOn with
  | ind n ih =>
    intro M A C k hM hAC hb hk
    obtain ⟨k, rfl, hk'⟩ := pos hk
    match M, hM with
    | [], hM => simp only [text_Dec.l1]; rw [if_neg (by simp; omega)]; simp
    | [m], hM => simp only [text_Dec.l1]; rw [if_neg (by simp)]; simp
    | m :: m2 :: M2, hM =>
      obtain ⟨M', z, hz⟩ : ∃ M' z, m2 :: M2 = M' ++ [z] := ⟨(m2 :: M2).dropLast, (m2 :: M2).getLast (by simp), (List.dropLast_concat_getLast (by simp)).symm⟩
      rw [hz] at hM hb ⊢
      simp only [List.length_cons, List.length_append, List.length_nil] at hM hb
      simp only [text_Dec.l1, List.length_cons, List.length_append, List.length_nil]
      rw [if_pos (by omega), if_pos (by omega), if_pos (by omega), if_pos (by omega), if_pos (by omega)]
      have r1 : rd (A ++ m :: (M' ++ [z]) ++ C) (A.length : Int) = m := rd_mid _ _ _ _ _ rfl
      have r2 : rd (A ++ m :: (M' ++ [z]) ++ C) ((A.length + (M'.length + (0 + 1) + 1) : Nat) - 1 : Int) = z := by
        have := rd_mid (A ++ m :: M') [] C z ((A.length + (M'.length + (0 + 1) + 1) : Nat) - 1 : Int) (by simp; omega)
        simpa using this
      rw [r1, r2]
      have s1 : (A ++ m :: (M' ++ [z]) ++ C).set (A.length : Int).toNat z = A ++ z :: (M' ++ [z]) ++ C := set_mid _ _ _ _ _ _ (by simp)
      have s2 : (A ++ z :: (M' ++ [z]) ++ C).set (((A.length + (M'.length + (0 + 1) + 1) : Nat) - 1 : Int)).toNat m = (A ++ [z]) ++ M' ++ (m :: C) := by
        have := set_mid (A ++ z :: M') [] C z m (((A.length + (M'.length + (0 + 1) + 1) : Nat) - 1 : Int)).toNat (by simp; omega)
        simpa using this
      rw [s1, s2]
      have := ih M'.length (by omega) M' (A ++ [z]) (m :: C) k rfl (by simp; omega) (by simp; omega) (by omega)
      rw [w1 (by omega) (by omega), wid (by omega) (by omega)]
      have e1 : (((A ++ [z]).length : Nat) : Int) = (A.length : Int) + 1 := by simp
      have e2 : (((A ++ [z]).length + M'.length : Nat) : Int) - 1 = ((A.length + (M'.length + (0 + 1) + 1) : Nat) : Int) - 1 - 1 := by simp; omega
      rw [e1, e2] at this
      rw [this]
      simp

/-- What text.Dec writes. -/
def decS (n : Int) : List Int := if n = 0 then [48] else ((if n < 0 then [45] else []) ++ (revDigs 20 n.natAbs).reverse)

theorem dec_j2 (x : List Int) (hx : x.length < 900) (k : Nat) (hk : x.length + 1 < k) : text_Dec.j2 k x = some (strOfNums x.reverse) := by
  obtain ⟨k, rfl, hk'⟩ := pos hk
  have := dec_l1 x.length x [] [] k rfl rfl (by simp; omega) (by omega)
  simp only [text_Dec.j2]
  rw [wid (by omega) (by omega)]
  simpa using this

theorem dec_f (n : Int) (h1 : -9223372036854775808 ≤ n) (h2 : n ≤ 9223372036854775807) (k : Nat) (hk : 60 ≤ k) : text_Dec.f k n = some (strOfNums (decS n)) := by
  unfold text_Dec.f decS
  by_cases h0 : n = 0
  · rw [if_pos h0, if_pos h0]; rfl
  · rw [if_neg h0, if_neg h0]
    simp only [Option.bind_some]
    obtain ⟨k, rfl, hk'⟩ := pos (show 0 < k by omega)
    have hl := revDigs_len 20 n.natAbs
    by_cases hn : n < 0
    · rw [if_pos hn, if_pos hn]
      have e : IntKind.u64.wrap (-(IntKind.u64.wrap n)) = (n.natAbs : Int) := by rw [wu, wu]; omega
      rw [e]
      simp only [text_Dec.j0]
      refine dec_l0 n _ 30 20 n.natAbs [] k (by omega) (by omega) (by simp) ?_ (by omega)
      intro k' hk2
      simp only [text_Dec.l0]
      rw [if_neg (by omega), if_pos hn, if_pos (by simp; omega), dec_j2 _ (by simp; omega) _ (by simp; omega)]
      simp
    · rw [if_neg hn, if_neg hn]
      have e : IntKind.u64.wrap n = (n.natAbs : Int) := by rw [wu]; omega
      rw [e]
      simp only [text_Dec.j0]
      refine dec_l0 n _ 30 20 n.natAbs [] k (by omega) (by omega) (by simp) ?_ (by omega)
      intro k' hk2
      simp only [text_Dec.l0]
      rw [if_neg (by omega), if_neg hn, dec_j2 _ (by simp; omega) _ (by simp; omega)]
      simp

theorem lives_f (k : Nat) (hk : 60 ≤ k) : inquestlaw04_lives.f k = some true := by
  unfold inquestlaw04_lives.f
  rw [dec_f 7 (by omega) (by omega) k hk]
  simp only [Option.bind_some]
  rw [if_pos (by decide +kernel), name_f _ (by decide +kernel) k (by have : (⟨#[97]⟩ : ByteArray).size = 1 := rfl; omega)]
  simp only [Option.bind_some]
  decide +kernel

theorem cut_f (s : ByteArray) : ∃ t, inquestref04_Cut.f s 300 = some t ∧ t.size ≤ 300 := by
  unfold inquestref04_Cut.f
  by_cases h : (s.size : Int) > 300
  · rw [if_pos h, if_pos (by omega), if_pos (by omega)]
    refine ⟨_, rfl, ?_⟩
    simp
    omega
  · rw [if_neg h]; exact ⟨s, rfl, by omega⟩

/-- The pieces of the next d bytes, the first of which begins at from. -/
def pieces (s : ByteArray) (c : Int) : Nat → Nat → Nat → List ByteArray
  | 0, a, i => [s.extract a i]
  | d + 1, a, i => if bt s i = c then s.extract a i :: pieces s c d (i + 1) (i + 1) else pieces s c d a (i + 1)
theorem pieces_pos (s : ByteArray) (c : Int) (d : Nat) : ∀ a i, 1 ≤ (pieces s c d a i).length := by
  induction d with
  | zero => intro a i; simp [pieces]
  | succ d ih => intro a i; simp only [pieces]; split; simp; exact ih _ _
theorem pieces_le (s : ByteArray) (c : Int) (d : Nat) : ∀ a i, (pieces s c d a i).length ≤ d + 1 := by
  induction d with
  | zero => intro a i; simp [pieces]
  | succ d ih =>
    intro a i; simp only [pieces]; split
    · have := ih (i + 1) (i + 1); simp; omega
    · have := ih a (i + 1); omega

theorem fields_l0 (s : ByteArray) (hs : s.size ≤ 300) (c most : Int) (d : Nat) : ∀ (k a i : Nat) (out : List ByteArray), i + d = s.size → a ≤ i → out.length ≤ i → 2 * d + 4 < k →
    text_Fields.l0 k s c most out a i = some (if ((out.length + (pieces s c d a i).length : Nat) : Int) ≤ most then (out ++ pieces s c d a i, true) else ([], false)) := by
  induction d with
  | zero =>
    intro k a i out hd ha ho hk
    obtain ⟨k, rfl, hk'⟩ := pos (show 0 < k by omega)
    obtain ⟨k, rfl, hk''⟩ := pos (show 0 < k by omega)
    obtain ⟨k, rfl, hk'''⟩ := pos (show 0 < k by omega)
    simp only [text_Fields.l0]
    rw [if_pos (by omega), if_neg (by omega)]
    have e0 : pieces s c 0 a i = [s.extract a i] := rfl
    rw [e0]
    simp only [text_Fields.j1, Bool.false_eq_true, if_false]
    by_cases hm : (out.length : Int) ≥ most
    · rw [if_pos hm, if_neg (by simp; omega)]
    · rw [if_neg hm, if_pos (by omega), if_pos (by omega), if_pos (by omega), if_pos (by omega)]
      rw [w1 (by omega) (by omega)]
      simp only [text_Fields.l0]
      rw [if_neg (by omega), if_pos (by simp; omega)]
      simp
  | succ d ih =>
    intro k a i out hd ha ho hk
    obtain ⟨k, rfl, hk'⟩ := pos (show 0 < k by omega)
    obtain ⟨k, rfl, hk''⟩ := pos (show 0 < k by omega)
    simp only [text_Fields.l0]
    rw [if_pos (by omega), if_pos (by omega), if_pos (by omega)]
    simp only [text_Fields.j1]
    have e1 : ((i : Int) + 1) = ((i + 1 : Nat) : Int) := by omega
    by_cases hb : bt s i = c
    · have b1 : (bt s i != c) = false := by simp [hb]
      rw [b1]
      have e0 : pieces s c (d + 1) a i = s.extract a i :: pieces s c d (i + 1) (i + 1) := by simp only [pieces, if_pos hb]
      rw [e0]
      simp only [Bool.false_eq_true, if_false]
      have hp := pieces_pos s c d (i + 1) (i + 1)
      by_cases hm : (out.length : Int) ≥ most
      · rw [if_pos hm, if_neg (by simp; omega)]
      · rw [if_neg hm, if_pos (by omega), if_pos (by omega), if_pos (by omega), if_pos (by omega)]
        rw [w1 (by omega) (by omega), e1, ih k (i + 1) (i + 1) _ (by omega) (by omega) (by simp; omega) (by omega)]
        simp [Nat.add_assoc, Nat.add_comm]
    · have b1 : (bt s i != c) = true := by simp [hb]
      rw [b1]
      have e0 : pieces s c (d + 1) a i = pieces s c d a (i + 1) := by simp only [pieces, if_neg hb]
      rw [e0]
      simp only [if_true]
      rw [w1 (by omega) (by omega), e1, ih k a (i + 1) _ (by omega) (by omega) (by omega) (by omega)]

/-- What text.Fields answers. -/
def fieldsR (s : ByteArray) (c most : Int) : List ByteArray × Bool := if ((pieces s c s.size 0 0).length : Int) ≤ most then (pieces s c s.size 0 0, true) else ([], false)
theorem fields_f (s : ByteArray) (hs : s.size ≤ 300) (c most : Int) (k : Nat) (hk : 700 ≤ k) : text_Fields.f k s c most = some (fieldsR s c most) := by
  unfold text_Fields.f fieldsR
  have := fields_l0 s hs c most s.size k 0 0 [] (by omega) (by omega) (by simp) (by omega)
  simpa using this

def L (s : ByteArray) : List UInt8 := s.data.toList
theorem L_app (a b : ByteArray) : L (a ++ b) = L a ++ L b := by
  unfold L; rw [ByteArray.data_append, Array.toList_append]
theorem L_len (s : ByteArray) : (L s).length = s.size := by unfold L; rw [Array.length_toList]; rfl
theorem L_cut (s : ByteArray) (a b : Nat) : L (s.extract a b) = ((L s).drop a).take (b - a) := Lib.extract_data s a b
theorem bt_get (s : ByteArray) (i : Nat) (h : i < s.size) : bt s i = (((L s).getD i 0).toNat : Int) := by
  unfold bt L
  simp only [Int.toNat_natCast]
  rw [dif_pos h, List.getD_eq_getElem?_getD]
  have e : s.data.toList[i]? = some s[i] := by rw [Array.getElem?_toList]; exact Array.getElem?_eq_some_iff.2 ⟨h, rfl⟩
  rw [e]; rfl

/-- The bytes of pieces, each behind the byte. -/
def tails (c : UInt8) : List ByteArray → List UInt8
  | [] => []
  | p :: l => c :: L p ++ tails c l
def joined (c : UInt8) : List ByteArray → List UInt8
  | [] => []
  | p :: l => L p ++ tails c l
theorem pieces_cons (s : ByteArray) (c : Int) (d a i : Nat) : ∃ p l, pieces s c d a i = p :: l := by
  have := pieces_pos s c d a i
  match pieces s c d a i, this with
  | p :: l, _ => exact ⟨p, l, rfl⟩
theorem tails_cons (c : UInt8) (p : ByteArray) (l : List ByteArray) : tails c (p :: l) = c :: joined c (p :: l) := rfl

theorem cut_step (l : List UInt8) (a i n : Nat) (ha : a ≤ i) (hi : i < n) (hn : n = l.length) : (l.drop a).take (n - a) = (l.drop a).take (i - a) ++ (l.getD i 0 :: (l.drop (i + 1)).take (n - (i + 1))) := by
  subst hn
  rw [List.take_of_length_le (l := l.drop a) (by simp), List.take_of_length_le (l := l.drop (i + 1)) (by simp)]
  have e : l.getD i 0 :: l.drop (i + 1) = l.drop i := by
    rw [List.drop_eq_getElem_cons hi]; congr 1
    rw [List.getD_eq_getElem?_getD, List.getElem?_eq_getElem hi]; rfl
  rw [e]
  have := List.take_append_drop (i - a) (l.drop a)
  rw [List.drop_drop, show a + (i - a) = i by omega] at this
  exact this.symm

theorem pieces_join (s : ByteArray) (c : Int) (c8 : UInt8) (hc : (c8.toNat : Int) = c) (d : Nat) : ∀ a i, i + d = s.size → a ≤ i → joined c8 (pieces s c d a i) = ((L s).drop a).take (s.size - a) := by
  induction d with
  | zero =>
    intro a i hd ha
    simp only [pieces, joined, tails, List.append_nil]
    rw [L_cut]; congr 2
  | succ d ih =>
    intro a i hd ha
    simp only [pieces]
    have hlen := L_len s
    by_cases hb : bt s i = c
    · rw [if_pos hb]
      have h1 := ih (i + 1) (i + 1) (by omega) (by omega)
      obtain ⟨p, l, hpl⟩ := pieces_cons s c d (i + 1) (i + 1)
      rw [hpl] at h1 ⊢
      rw [joined, tails_cons, h1, L_cut, cut_step (L s) a i s.size ha (by omega) hlen.symm]
      congr 2
      rw [bt_get s i (by omega), ← hc] at hb
      exact (UInt8.toNat_inj.1 (by omega)).symm
    · rw [if_neg hb]; exact ih a (i + 1) (by omega) (by omega)

/-- No byte of a text is c. -/
def Free (c : Int) (p : ByteArray) : Prop := ∀ i, i < p.size → bt p i ≠ c
theorem pieces_free (s : ByteArray) (c : Int) (d : Nat) : ∀ a i, i + d = s.size → a ≤ i → (∀ j, a ≤ j → j < i → bt s j ≠ c) → ∀ p ∈ pieces s c d a i, Free c p := by
  have one : ∀ a i, a ≤ i → i ≤ s.size → (∀ j, a ≤ j → j < i → bt s j ≠ c) → Free c (s.extract a i) := by
    intro a i ha hi hf j hj
    have hz : (s.extract a i).size = i - a := by simp; omega
    rw [hz] at hj
    have := hf (a + j) (by omega) (by omega)
    rw [bt_get _ j (by omega), L_cut]
    rw [bt_get s (a + j) (by omega)] at this
    rwa [List.getD_eq_getElem?_getD, List.getElem?_take_of_lt hj, List.getElem?_drop, ← List.getD_eq_getElem?_getD]
  induction d with
  | zero =>
    intro a i hd ha hf p hp
    simp only [pieces, List.mem_singleton] at hp
    subst hp
    exact one a i ha (by omega) hf
  | succ d ih =>
    intro a i hd ha hf p hp
    simp only [pieces] at hp
    by_cases hb : bt s i = c
    · rw [if_pos hb] at hp
      rcases List.mem_cons.1 hp with hp | hp
      · subst hp; exact one a i ha (by omega) hf
      · exact ih (i + 1) (i + 1) (by omega) (by omega) (fun j h1 h2 => by omega) p hp
    · rw [if_neg hb] at hp
      refine ih a (i + 1) (by omega) (by omega) (fun j h1 h2 => ?_) p hp
      by_cases e : j = i
      · subst e; exact hb
      · exact hf j h1 (by omega)

theorem joins_l2 (s : ByteArray) (c : Int) (l : List ByteArray) (ok : Bool) (acc : ByteArray) (r : Option Bool) (K i : Nat) (p : ByteArray) (hi : i < l.length) (hp : rdOf ByteArray.empty l i = p) (hf : Free c p) (hz : p.size ≤ 300) (hil : i ≤ 400)
    (h : ∀ k, K ≤ k → inquestlaw04_TextJoins.l1 k s c l ok acc ((i + 1 : Nat) : Int) = r) (d : Nat) : ∀ (k j : Nat), j + d = p.size → K + d < k → inquestlaw04_TextJoins.l2 k s c l ok acc i j = r := by
  induction d with
  | zero =>
    intro k j hd hk
    obtain ⟨k, rfl, hk'⟩ := pos (show K < k by omega)
    simp only [inquestlaw04_TextJoins.l2]
    rw [hp, if_pos (by omega), if_pos (by omega), if_neg (by omega), w1 (by omega) (by omega)]
    exact h k (by omega)
  | succ d ih =>
    intro k j hd hk
    obtain ⟨k, rfl, hk'⟩ := pos (show K < k by omega)
    have e1 : ((j : Int) + 1) = ((j + 1 : Nat) : Int) := by omega
    simp only [inquestlaw04_TextJoins.l2]
    rw [hp, if_pos (by omega), if_pos (by omega), if_pos (by omega), if_pos (by omega), if_neg (hf j (by omega)), w1 (by omega) (by omega), e1]
    exact ih k (j + 1) (by omega) (by omega)

theorem tails_len (c : UInt8) (l : List ByteArray) (p : ByteArray) (hp : p ∈ l) : p.size + 1 ≤ (tails c l).length := by
  induction l with
  | nil => cases hp
  | cons q l ih =>
    simp only [tails, List.length_append, List.length_cons, L_len]
    rcases List.mem_cons.1 hp with hp | hp
    · subst hp; omega
    · have := ih hp; omega

theorem joins_l1 (s : ByteArray) (c : Int) (c8 : UInt8) (hc : (c8.toNat : Int) = c) (ok : Bool) (l : List ByteArray) (hl : l.length ≤ 301) (hf : ∀ p ∈ l, Free c p) (d : Nat) :
    ∀ (k i : Nat) (acc : ByteArray), i + d = l.length → (ok = true → L acc ++ (if i = 0 then joined c8 l else tails c8 (l.drop i)) = L s) → acc.size + (if i = 0 then joined c8 l else tails c8 (l.drop i)).length ≤ 300 → 400 * d + 80 ≤ k →
    inquestlaw04_TextJoins.l1 k s c l ok acc i = some true := by
  induction d with
  | zero =>
    intro k i acc hd hok hz hk
    obtain ⟨k, rfl, hk'⟩ := pos (show 79 < k by omega)
    simp only [inquestlaw04_TextJoins.l1]
    rw [if_neg (by omega), lives_f k (by omega)]
    cases ok with
    | false => simp
    | true =>
      have hok := hok rfl
      have e : acc.toList = s.toList := by
        rw [toList_data, toList_data]
        have : (if i = 0 then joined c8 l else tails c8 (l.drop i)) = [] := by
          have : l.drop i = [] := List.drop_of_length_le (by omega)
          rw [this]
          split
          · have : l = [] := List.eq_nil_of_length_eq_zero (by omega)
            subst this; rfl
          · rfl
        rw [this, List.append_nil] at hok
        exact hok
      rw [if_pos rfl, if_pos e]; simp
  | succ d ih =>
    intro k i acc hd hok hz hk
    obtain ⟨k, rfl, hk'⟩ := pos (show 79 < k by omega)
    obtain ⟨k, rfl, hk''⟩ := pos (show 0 < k by omega)
    have hil : i < l.length := by omega
    obtain ⟨p, hp⟩ : ∃ p, p = l[i] := ⟨_, rfl⟩
    have hpm : p ∈ l := by rw [hp]; exact List.getElem_mem hil
    have hrd : rdOf ByteArray.empty l i = p := by
      unfold rdOf; simp only [Int.toNat_natCast]; rw [List.getD_eq_getElem?_getD, List.getElem?_eq_getElem hil, hp]; rfl
    have hdr : l.drop i = p :: l.drop (i + 1) := by rw [List.drop_eq_getElem_cons hil, hp]
    have j3 : ∀ acc2 : ByteArray, L acc2 ++ (L p ++ tails c8 (l.drop (i + 1))) = L acc ++ (if i = 0 then joined c8 l else tails c8 (l.drop i)) → inquestlaw04_TextJoins.j3 (k + 1) s c l ok acc2 i = some true := by
      intro acc2 h2
      have hz2 := congrArg List.length h2
      simp only [List.length_append, L_len] at hz2
      simp only [inquestlaw04_TextJoins.j3]
      rw [if_pos (by omega), if_pos (by omega), hrd, if_pos (by omega)]
      refine joins_l2 s c l ok (acc2 ++ p) (some true) (400 * d + 80) i p hil hrd (hf p hpm) (by omega) (by omega) (fun k hk => ?_) p.size k 0 (by omega) (by omega)
      refine ih k (i + 1) (acc2 ++ p) (by omega) ?_ ?_ hk
      · intro ho
        rw [if_neg (by omega), L_app, List.append_assoc, h2]; exact hok ho
      · rw [if_neg (by omega)]
        have : (acc2 ++ p).size = acc2.size + p.size := by rw [← L_len, L_app, List.length_append, L_len, L_len]
        omega
    simp only [inquestlaw04_TextJoins.l1]
    rw [if_pos (by omega)]
    by_cases h0 : i = 0
    · subst h0
      rw [if_neg (by omega)]
      refine j3 acc ?_
      rw [if_pos rfl]
      rw [List.drop_zero] at hdr
      rw [hdr]; rfl
    · rw [if_pos (by omega)]
      have hb : strOfNums [c] = ⟨#[c8]⟩ := by
        unfold strOfNums
        congr 1
        have : UInt8.ofNat c.toNat = c8 := by rw [← hc, Int.toNat_natCast, UInt8.ofNat_toNat]
        simp [this]
      have hzb : (⟨#[c8]⟩ : ByteArray).size = 1 := rfl
      simp only [Option.bind_some]
      rw [hb, hzb, if_pos (by omega)]
      refine j3 _ ?_
      rw [if_neg h0, L_app, hdr, List.append_assoc]
      rfl

theorem joins_l0 (s : ByteArray) (hs : s.size ≤ 300) (c : Int) (c8 : UInt8) (hc : (c8.toNat : Int) = c) (most : Int) (P : Nat) (hP : (pieces s c s.size 0 0).length = P) (d : Nat) : ∀ (k i a : Nat) (n : Nat), i + d = s.size → n + (pieces s c d a i).length = P + 1 → n ≤ i + 1 → d + 130000 < k →
    inquestlaw04_TextJoins.l0 k s c most n i = some true := by
  induction d with
  | zero =>
    intro k i a n hd hn hni hk
    obtain ⟨k, rfl, hk'⟩ := pos (show 0 < k by omega)
    obtain ⟨k, rfl, hk''⟩ := pos (show 0 < k by omega)
    simp only [pieces, List.length_singleton] at hn
    have : n = P := by omega
    subst this
    have hle := pieces_le s c s.size 0 0
    simp only [inquestlaw04_TextJoins.l0]
    rw [if_neg (by omega), fields_f s hs c most _ (by omega)]
    unfold fieldsR
    simp only [Option.bind_some]
    rw [hP]
    by_cases hm : (n : Int) ≤ most
    · rw [if_pos hm]
      simp only [hm, decide_true, Bool.true_bne, Bool.not_true, Bool.false_eq_true, if_false, if_true, inquestlaw04_TextJoins.j1]
      have b1 : (((pieces s c s.size 0 0).length : Int) != (n : Int)) = false := by rw [hP]; simp
      rw [b1]
      simp only [Bool.false_eq_true, if_false]
      have hj := pieces_join s c c8 hc s.size 0 0 (by omega) (by omega)
      have hall : ((L s).drop 0).take (s.size - 0) = L s := by
        rw [List.drop_zero, List.take_of_length_le (by rw [L_len]; omega)]
      rw [hall] at hj
      have := joins_l1 s c c8 hc true (pieces s c s.size 0 0) (by omega) (pieces_free s c s.size 0 0 (by omega) (by omega) (fun j _ h => by omega)) (pieces s c s.size 0 0).length k 0 ⟨#[]⟩ (by omega)
        (fun _ => by rw [if_pos rfl, hj]; rfl) (by rw [if_pos rfl, hj, L_len]; have : (⟨#[]⟩ : ByteArray).size = 0 := rfl; omega) (by omega)
      exact this
    · rw [if_neg hm]
      simp only [hm, decide_false, Bool.bne_false, Bool.false_eq_true, if_false, inquestlaw04_TextJoins.j1, List.length_nil]
      rw [if_neg (by omega)]
      have := joins_l1 s c c8 hc false [] (by simp) (by simp) 0 k 0 ⟨#[]⟩ (by simp) (by simp) (by rw [if_pos rfl]; have : (⟨#[]⟩ : ByteArray).size = 0 := rfl; simp [joined, this]) (by omega)
      exact this
  | succ d ih =>
    intro k i a n hd hn hni hk
    obtain ⟨k, rfl, hk'⟩ := pos (show 0 < k by omega)
    have e1 : ((i : Int) + 1) = ((i + 1 : Nat) : Int) := by omega
    have e2 : ((n : Int) + 1) = ((n + 1 : Nat) : Int) := by omega
    simp only [inquestlaw04_TextJoins.l0]
    rw [if_pos (by omega), if_pos (by omega), w1 (i := (i : Int)) (by omega) (by omega), e1]
    simp only [pieces] at hn
    by_cases hb : bt s i = c
    · rw [if_pos hb] at hn ⊢
      rw [w1 (by omega) (by omega), e2, ih k (i + 1) (i + 1) (n + 1) (by omega) (by simp at hn; omega) (by omega) (by omega)]
    · rw [if_neg hb] at hn ⊢
      rw [ih k (i + 1) a n (by omega) hn (by omega) (by omega)]

theorem TextJoins : inquestlaw04_TextJoins.Pure := by
  intro s0 c most _ wc _
  simp [Lit.wf, IntKind.min, IntKind.max, IntKind.signed, IntKind.bits] at wc
  obtain ⟨s, hcut, hs⟩ := cut_f s0
  obtain ⟨K, hK⟩ : ∃ K : Nat, 140000 ≤ K := ⟨140000, Nat.le_refl _⟩
  refine ⟨K, ?_⟩
  unfold inquestlaw04_TextJoins.f
  rw [hcut]
  simp only [Option.bind_some]
  have hc : ((UInt8.ofNat c.toNat).toNat : Int) = c := by rw [UInt8.toNat_ofNat']; omega
  have := joins_l0 s hs c (UInt8.ofNat c.toNat) hc most _ rfl s.size K 0 0 1 (by omega) (by omega) (by omega) (by omega)
  simpa using this

end Go.Proofs.Ytabhilifliekmaa.Pure
