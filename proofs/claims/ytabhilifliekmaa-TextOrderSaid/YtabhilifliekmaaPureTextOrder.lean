/- Of two numbers from 0 on the lesser one is written by text.Dec with fewer digits, or with as many and ahead. Condition: the text that came in takes at most 2^47 - 4096 bytes (the row's own reach). -/
import Derived.Test.YtabhilifliekmaaPTextOrderx2
import Derived.Lib.Bytes
import Derived.Lib.SmallJoins
namespace Go.Proofs.Ytabhilifliekmaa.Pure
open Go.RowKit Go.Proofs.Ytabhilifliekmaa.PTextOrder Go.Proofs.YtabhilifliekmaaW.PrintWords Go.Proofs.YtabhilifliekmaaW.PrintLast

theorem w1 {i : Int} (h0 : 0 ≤ i) (h : i < 9223372036854775807) : wrap64 (i + 1) = i + 1 := by
  unfold wrap64
  omega

theorem wid {i : Int} (h0 : -9223372036854775808 ≤ i) (h : i ≤ 9223372036854775807) : wrap64 i = i := by
  unfold wrap64
  omega

theorem pos {k d : Nat} (h : d < k) : ∃ m, k = m + 1 ∧ d ≤ m := ⟨k - 1, by omega, by omega⟩

theorem wu (n : Int) : IntKind.u64.wrap n = n % 18446744073709551616 := by
  simp [IntKind.wrap, IntKind.signed, IntKind.bits]

theorem toList_data (s : ByteArray) : s.toList = s.data.toList := by
  exact Go.ByteArray.toList_eq s

/-- A byte that a name may have behind its first one. -/
def okc (c : Int) : Bool := (decide (97 ≤ c) && decide (c ≤ 122)) || (decide (48 ≤ c) && decide (c ≤ 57)) || decide (c = 45)

/-- The next d bytes from i on are such. -/
def scan (s : ByteArray) : Nat → Int → Bool
  | 0, _ => true
  | d + 1, i => okc (bt s i) && scan s d (i + 1)

theorem name_l0 (s : ByteArray) (hn : s.size ≤ 140737488351232) (d : Nat) : ∀ (k : Nat) (i : Int), 0 ≤ i → (s.size : Int) - i = d → d < k →
    text_Name.l0 k s (s.size : Int) i = some (scan s d i) := by
  induction d with
  | zero =>
    intro k i h0 hd hk
    obtain ⟨k, rfl, _⟩ := pos hk
    simp only [text_Name.l0]; rw [if_neg (by omega)]; rfl
  | succ d ih =>
    intro k i h0 hd hk
    obtain ⟨k, rfl, hk'⟩ := pos hk
    have hi := ih k (i + 1) (by omega) (by omega) (by omega)
    simp only [text_Name.l0]; rw [if_pos (by omega), if_pos h0, if_pos (by omega), w1 h0 (by omega), hi]
    simp only [scan, okc]
    generalize bt s i = c
    generalize scan s d (i + 1) = b
    by_cases h1 : c < 97 <;> by_cases h2 : c < 48 <;> by_cases h3 : c = 45 <;> by_cases h4 : c > 57 <;> by_cases h5 : c > 122 <;>
      simp [h1, h2, h3, h4, h5] <;> omega

/-- What text.Name tells. -/
def nameB (s : ByteArray) : Bool := decide (1 ≤ s.size) && decide (s.size ≤ 16) && decide (97 ≤ bt s 0) && decide (bt s 0 ≤ 122) && scan s s.size 0

theorem name_f (s : ByteArray) (hn : s.size ≤ 140737488351232) (k : Nat) (hk : s.size + 1 < k) : text_Name.f k s = some (nameB s) := by
  obtain ⟨k, rfl, hk'⟩ := pos hk
  have hl := name_l0 s hn s.size k 0 (by omega) (by omega) (by omega)
  have hz : (s.toList = ([] : List UInt8)) ↔ s.size = 0 := by
    rw [toList_data]
    constructor
    · intro h; have := congrArg List.length h; rw [Array.length_toList] at this; exact this
    · intro h; exact List.eq_nil_of_length_eq_zero (by rw [Array.length_toList]; exact h)
  unfold text_Name.f nameB
  by_cases h0 : s.size = 0
  · rw [if_pos (hz.2 h0)]; simp only [text_Name.j0, if_true, h0]; simp
  · rw [if_neg (fun h => h0 (hz.1 h))]
    by_cases h1 : (s.size : Int) > 16
    · rw [if_pos h1]; simp only [text_Name.j0, if_true]; have a2 : decide (s.size ≤ 16) = false := by first | exact decide_eq_true (by omega) | exact decide_eq_false (by omega)
      rw [a2]; simp
    · rw [if_neg h1, if_pos (by omega)]
      by_cases h2 : bt s 0 < 97
      · rw [if_pos h2]; simp only [text_Name.j0, if_true]; have a2 : decide (97 ≤ bt s 0) = false := by first | exact decide_eq_true (by omega) | exact decide_eq_false (by omega)
        rw [a2]; simp
      · rw [if_neg h2]
        by_cases h3 : bt s 0 > 122
        · have a2 : decide (bt s 0 ≤ 122) = false := by first | exact decide_eq_true (by omega) | exact decide_eq_false (by omega)
          simp only [text_Name.j0, h3, decide_true, if_true, a2]; simp
        · simp only [text_Name.j0, h3, decide_false, Bool.false_eq_true, if_false, hl]
          congr 1
          have a1 : decide (1 ≤ s.size) = true := by first | exact decide_eq_true (by omega) | exact decide_eq_false (by omega)
          have a2 : decide (s.size ≤ 16) = true := by first | exact decide_eq_true (by omega) | exact decide_eq_false (by omega)
          have a3 : decide (97 ≤ bt s 0) = true := by first | exact decide_eq_true (by omega) | exact decide_eq_false (by omega)
          have a4 : decide (bt s 0 ≤ 122) = true := by first | exact decide_eq_true (by omega) | exact decide_eq_false (by omega)
          rw [a1, a2, a3, a4]; simp

/-- The digits of a number, the last one first, as bytes; of 0 none. -/
def revDigs : Nat → Nat → List Int
  | 0, _ => []
  | f + 1, u => if u = 0 then [] else (48 + ((u % 10 : Nat) : Int)) :: revDigs f (u / 10)

theorem revDigs_len (f : Nat) : ∀ u, (revDigs f u).length ≤ f := by
  induction f with
  | zero => intro u; simp [revDigs]
  | succ f ih => intro u; simp only [revDigs]; split <;> simp; exact ih _

theorem dec_l0 (a0 : Int) (r : Option ByteArray) (K : Nat) (f : Nat) : ∀ (u : Nat) (b : List Int) (k : Nat), u < 10 ^ f → u < 18446744073709551616 → b.length + f < 1000 →
    (∀ k', K ≤ k' → text_Dec.l0 (k' + 1) a0 0 (b ++ revDigs f u) = r) → K + f + 1 ≤ k → text_Dec.l0 k a0 u b = r := by
  induction f with
  | zero =>
    intro u b k hu _ _ h hk
    have : u = 0 := by simpa using hu
    subst this
    obtain ⟨k, rfl, hk'⟩ := pos (show K < k by omega)
    simpa [revDigs] using h k (by omega)
  | succ f ih =>
    intro u b k hu hu2 hb h hk
    obtain ⟨k, rfl, hk'⟩ := pos (show K < k by omega)
    by_cases h0 : u = 0
    · subst h0; simpa [revDigs] using h k (by omega)
    · simp only [text_Dec.l0]
      rw [if_pos (by omega), if_pos (by omega)]
      have e1 : IntKind.u64.wrap (Int.tdiv (u : Int) 10) = ((u / 10 : Nat) : Int) := by
        rw [Int.tdiv_eq_ediv_of_nonneg (by omega)]
        rw [wu]; omega
      have e2 : (IntKind.u64.wrap (48 + (Int.tmod (u : Int) 10))) % 256 = 48 + ((u % 10 : Nat) : Int) := by
        rw [Int.tmod_eq_emod_of_nonneg (by omega), wu]; omega
      rw [e1, e2]
      refine ih (u / 10) _ k ?_ (by omega) (by simp; omega) ?_ (by omega)
      · rw [Nat.pow_succ] at hu; omega
      · intro k' hk2
        have := h k' hk2
        simp only [revDigs, if_neg h0] at this
        simpa using this

theorem rd_mid (A M C : List Int) (m : Int) (i : Int) (h : i = A.length) : rd (A ++ (m :: M) ++ C) i = m := by
  subst h
  simp [rd]

theorem set_mid (A M C : List Int) (m x : Int) (i : Nat) (h : i = A.length) : (A ++ (m :: M) ++ C).set i x = A ++ (x :: M) ++ C := by
  subst h
  simp

theorem dec_l1 (n : Nat) : ∀ (M A C : List Int) (k : Nat), M.length = n → A.length = C.length → A.length + M.length + C.length < 1000 → n < k →
    text_Dec.l1 k (A ++ M ++ C) (A.length : Int) ((A.length + M.length : Nat) - 1 : Int) = some (strOfNums (A ++ M.reverse ++ C)) := by
  induction n using Nat.strongRecOn with
  | ind n ih =>
    intro M A C k hM hAC hb hk
    obtain ⟨k, rfl, hk'⟩ := pos hk
    match M, hM with
    | [], hM => simp only [text_Dec.l1]; rw [if_neg (by simp; omega)]; simp
    | [m], hM => simp only [text_Dec.l1]; rw [if_neg (by simp)]; simp
    | m :: m2 :: M2, hM =>
      obtain ⟨M', z, hz⟩ : ∃ M' z, m2 :: M2 = M' ++ [z] := ⟨(m2 :: M2).dropLast, (m2 :: M2).getLast (by simp), (List.dropLast_concat_getLast (by simp)).symm⟩
      rw [hz] at hM hb ⊢
      simp only [List.length_cons, List.length_append, List.length_nil] at hM hb
      simp only [text_Dec.l1, List.length_cons, List.length_append, List.length_nil]
      rw [if_pos (by omega), if_pos (by omega), if_pos (by omega), if_pos (by omega), if_pos (by omega)]
      have r1 : rd (A ++ m :: (M' ++ [z]) ++ C) (A.length : Int) = m := rd_mid _ _ _ _ _ rfl
      have r2 : rd (A ++ m :: (M' ++ [z]) ++ C) ((A.length + (M'.length + (0 + 1) + 1) : Nat) - 1 : Int) = z := by
        have := rd_mid (A ++ m :: M') [] C z ((A.length + (M'.length + (0 + 1) + 1) : Nat) - 1 : Int) (by simp; omega)
        simpa using this
      rw [r1, r2]
      have s1 : (A ++ m :: (M' ++ [z]) ++ C).set (A.length : Int).toNat z = A ++ z :: (M' ++ [z]) ++ C := set_mid _ _ _ _ _ _ (by simp)
      have s2 : (A ++ z :: (M' ++ [z]) ++ C).set (((A.length + (M'.length + (0 + 1) + 1) : Nat) - 1 : Int)).toNat m = (A ++ [z]) ++ M' ++ (m :: C) := by
        have := set_mid (A ++ z :: M') [] C z m (((A.length + (M'.length + (0 + 1) + 1) : Nat) - 1 : Int)).toNat (by simp; omega)
        simpa using this
      rw [s1, s2]
      have := ih M'.length (by omega) M' (A ++ [z]) (m :: C) k rfl (by simp; omega) (by simp; omega) (by omega)
      rw [w1 (by omega) (by omega), wid (by omega) (by omega)]
      have e1 : (((A ++ [z]).length : Nat) : Int) = (A.length : Int) + 1 := by simp
      have e2 : (((A ++ [z]).length + M'.length : Nat) : Int) - 1 = ((A.length + (M'.length + (0 + 1) + 1) : Nat) : Int) - 1 - 1 := by simp; omega
      rw [e1, e2] at this
      rw [this]
      simp

/-- What text.Dec writes. -/
def decS (n : Int) : List Int := if n = 0 then [48] else ((if n < 0 then [45] else []) ++ (revDigs 20 n.natAbs).reverse)

theorem dec_j2 (x : List Int) (hx : x.length < 900) (k : Nat) (hk : x.length + 1 < k) : text_Dec.j2 k x = some (strOfNums x.reverse) := by
  obtain ⟨k, rfl, hk'⟩ := pos hk
  have := dec_l1 x.length x [] [] k rfl rfl (by simp; omega) (by omega)
  simp only [text_Dec.j2]
  rw [wid (by omega) (by omega)]
  simpa using this

theorem dec_f (n : Int) (h1 : -9223372036854775808 ≤ n) (h2 : n ≤ 9223372036854775807) (k : Nat) (hk : 60 ≤ k) : text_Dec.f k n = some (strOfNums (decS n)) := by
  unfold text_Dec.f decS
  by_cases h0 : n = 0
  · rw [if_pos h0, if_pos h0]; rfl
  · rw [if_neg h0, if_neg h0]
    simp only [Option.bind_some]
    obtain ⟨k, rfl, hk'⟩ := pos (show 0 < k by omega)
    have hl := revDigs_len 20 n.natAbs
    by_cases hn : n < 0
    · rw [if_pos hn, if_pos hn]
      have e : IntKind.u64.wrap (-(IntKind.u64.wrap n)) = (n.natAbs : Int) := by rw [wu, wu]; omega
      rw [e]
      simp only [text_Dec.j0]
      refine dec_l0 n _ 30 20 n.natAbs [] k (by omega) (by omega) (by simp) ?_ (by omega)
      intro k' hk2
      simp only [text_Dec.l0]
      rw [if_neg (by omega), if_pos hn, if_pos (by simp; omega), dec_j2 _ (by simp; omega) _ (by simp; omega)]
      simp
    · rw [if_neg hn, if_neg hn]
      have e : IntKind.u64.wrap n = (n.natAbs : Int) := by rw [wu]; omega
      rw [e]
      simp only [text_Dec.j0]
      refine dec_l0 n _ 30 20 n.natAbs [] k (by omega) (by omega) (by simp) ?_ (by omega)
      intro k' hk2
      simp only [text_Dec.l0]
      rw [if_neg (by omega), if_neg hn, dec_j2 _ (by simp; omega) _ (by simp; omega)]
      simp

theorem lives_f (k : Nat) (hk : 60 ≤ k) : inquestlaw04_lives.f k = some true := by
  unfold inquestlaw04_lives.f
  rw [dec_f 7 (by omega) (by omega) k hk]
  simp only [Option.bind_some]
  rw [if_pos (by decide +kernel), name_f _ (by decide +kernel) k (by have : (⟨#[97]⟩ : ByteArray).size = 1 := rfl; omega)]
  simp only [Option.bind_some]
  decide +kernel

/-- The number that digits are, the highest first. -/
def val : List Int → Int
  | [] => 0
  | c :: l => (c - 48) * 10 ^ l.length + val l
def Digs (l : List Int) : Prop := ∀ c ∈ l, 48 ≤ c ∧ c ≤ 57

theorem val_snoc (l : List Int) (c : Int) : val (l ++ [c]) = 10 * val l + (c - 48) := by
  induction l with
  | nil => simp [val]
  | cons x l ih =>
    simp only [List.cons_append, val, List.length_append, List.length_cons, List.length_nil, ih, Nat.zero_add, Int.pow_succ]
    rw [← Int.mul_assoc]
    generalize (x - 48) * 10 ^ l.length = q
    omega
theorem val_range (l : List Int) (h : Digs l) : 0 ≤ val l ∧ val l < 10 ^ l.length := by
  induction l with
  | nil => simp [val]
  | cons x l ih =>
    have hx := h x (by simp)
    have hl := ih (fun c hc => h c (by simp [hc]))
    simp only [val, List.length_cons, Int.pow_succ]
    have hp : (0 : Int) < 10 ^ l.length := Int.pow_pos (by decide)
    generalize (10 : Int) ^ l.length = p at hl hp ⊢
    have h1 : 0 ≤ (x - 48) * p := Int.mul_nonneg (by omega) (by omega)
    have h2 : (x - 48) * p ≤ 9 * p := Int.mul_le_mul_of_nonneg_right (by omega) (by omega)
    generalize (x - 48) * p = q at h1 h2 ⊢
    omega
theorem u8_lt (a b : Int) (ha : 48 ≤ a ∧ a ≤ 57) (hb : 48 ≤ b ∧ b ≤ 57) : (decide (UInt8.ofNat a.toNat < UInt8.ofNat b.toNat)) = decide (a < b) ∧ (UInt8.ofNat a.toNat == UInt8.ofNat b.toNat) = decide (a = b) := by
  have e : ∀ x : Int, 48 ≤ x ∧ x ≤ 57 → (UInt8.ofNat x.toNat).toNat = x.toNat := by
    intro x hx; rw [UInt8.toNat_ofNat']; omega
  constructor
  · rw [decide_eq_decide, UInt8.lt_iff_toNat_lt, e a ha, e b hb]; omega
  · rw [Bool.eq_iff_iff, beq_iff_eq, decide_eq_true_eq, ← UInt8.toNat_inj, e a ha, e b hb]; omega
theorem less_eq (a : List Int) : ∀ b : List Int, a.length = b.length → Digs a → Digs b →
    Op.bytesLess (Lib.bytesOf a) (Lib.bytesOf b) = decide (val a < val b) ∧ (Lib.bytesOf a == Lib.bytesOf b) = decide (val a = val b) := by
  induction a with
  | nil =>
    intro b h _ _
    have : b = [] := List.eq_nil_of_length_eq_zero (by simpa using h.symm)
    subst this
    exact ⟨rfl, rfl⟩
  | cons x a ih =>
    intro b h ha hb
    match b, h with
    | y :: b, h =>
      have hl : a.length = b.length := by simpa using h
      have hx := ha x (by simp)
      have hy := hb y (by simp)
      have ha' : Digs a := fun c hc => ha c (by simp [hc])
      have hb' : Digs b := fun c hc => hb c (by simp [hc])
      obtain ⟨i1, i2⟩ := ih b hl ha' hb'
      obtain ⟨u1, u2⟩ := u8_lt x y hx hy
      have ra := val_range a ha'
      have rb := val_range b hb'
      have v1 : val (x :: a) = (x - 48) * 10 ^ b.length + val a := by rw [← hl]; rfl
      have v2 : val (y :: b) = (y - 48) * 10 ^ b.length + val b := rfl
      rw [v1, v2]
      simp only [Lib.bytesOf, List.map_cons, Op.bytesLess]
      simp only [Lib.bytesOf] at i1 i2
      rw [List.cons_beq_cons, u2, i2, u1, i1]
      rw [hl] at ra
      have hp : (0 : Int) < 10 ^ b.length := Int.pow_pos (by decide)
      generalize (10 : Int) ^ b.length = p at ra rb hp ⊢
      generalize val a = m at ra ⊢
      generalize val b = n at rb ⊢
      rcases Int.lt_trichotomy x y with h1 | h1 | h1
      · have h2 : (x - 48 + 1) * p ≤ (y - 48) * p := Int.mul_le_mul_of_nonneg_right (by omega) (by omega)
        rw [Int.add_mul, Int.one_mul] at h2
        generalize (x - 48) * p = q at h2 ⊢
        generalize (y - 48) * p = r at h2 ⊢
        have e1 : decide (x < y) = true := decide_eq_true h1
        have e2 : decide (x = y) = false := decide_eq_false (by omega)
        rw [e1, e2]
        constructor
        · rw [Bool.true_or]; exact (decide_eq_true (by omega)).symm
        · rw [Bool.false_and]; exact (decide_eq_false (by omega)).symm
      · subst h1
        generalize (x - 48) * p = q
        have e1 : decide (x < x) = false := decide_eq_false (by omega)
        have e2 : decide (x = x) = true := decide_eq_true rfl
        rw [e1, e2]
        constructor
        · rw [Bool.false_or, Bool.true_and, decide_eq_decide]; omega
        · rw [Bool.true_and, decide_eq_decide]; omega
      · have h2 : (y - 48 + 1) * p ≤ (x - 48) * p := Int.mul_le_mul_of_nonneg_right (by omega) (by omega)
        rw [Int.add_mul, Int.one_mul] at h2
        generalize (x - 48) * p = q at h2 ⊢
        generalize (y - 48) * p = r at h2 ⊢
        have e1 : decide (x < y) = false := decide_eq_false (by omega)
        have e2 : decide (x = y) = false := decide_eq_false (by omega)
        rw [e1, e2]
        constructor
        · rw [Bool.false_or, Bool.false_and]; exact (decide_eq_false (by omega)).symm
        · rw [Bool.false_and]; exact (decide_eq_false (by omega)).symm

theorem revDigs_zero (f : Nat) : revDigs f 0 = [] := by cases f <;> simp [revDigs]
theorem revDigs_facts (f : Nat) : ∀ u : Nat, u < 10 ^ f → Digs (revDigs f u).reverse ∧ val (revDigs f u).reverse = u ∧ (0 < u → 1 ≤ (revDigs f u).length ∧ 10 ^ ((revDigs f u).length - 1) ≤ u) := by
  induction f with
  | zero =>
    intro u h
    have : u = 0 := by simpa using h
    subst this
    exact ⟨by simp [revDigs, Digs], by simp [revDigs, val], by omega⟩
  | succ f ih =>
    intro u h
    by_cases h0 : u = 0
    · subst h0; rw [revDigs_zero]; exact ⟨by simp [Digs], by simp [val], by omega⟩
    · have hu : u / 10 < 10 ^ f := by rw [Nat.pow_succ] at h; omega
      obtain ⟨i1, i2, i3⟩ := ih (u / 10) hu
      simp only [revDigs, if_neg h0, List.reverse_cons, List.length_cons]
      refine ⟨?_, ?_, fun _ => ⟨by omega, ?_⟩⟩
      · intro c hc
        rcases List.mem_append.1 hc with hc | hc
        · exact i1 c hc
        · simp only [List.mem_singleton] at hc; omega
      · rw [val_snoc, i2]; omega
      · by_cases h1 : u / 10 = 0
        · rw [h1, revDigs_zero]; simp; omega
        · obtain ⟨i4, i5⟩ := i3 (by omega)
          rw [Nat.add_sub_cancel]
          obtain ⟨n, hn⟩ : ∃ n, (revDigs f (u / 10)).length = n + 1 := ⟨_, (Nat.sub_add_cancel i4).symm⟩
          rw [hn] at i5 ⊢
          rw [Nat.add_sub_cancel] at i5
          rw [Nat.pow_succ]; omega

/-- What text.Dec writes of a number from 0 on. -/
theorem decS_facts (n : Nat) (h : n ≤ 9223372036854775807) : Digs (decS n) ∧ val (decS n) = n ∧ 1 ≤ (decS n).length ∧ (2 ≤ (decS n).length → 10 ^ ((decS n).length - 1) ≤ n) ∧ (decS n).length ≤ 20 := by
  unfold decS
  by_cases h0 : n = 0
  · subst h0
    rw [if_pos (by simp)]
    exact ⟨by simp [Digs], by simp [val], by simp, by simp, by simp⟩
  · rw [if_neg (by omega), if_neg (by omega), List.nil_append, Int.natAbs_natCast]
    obtain ⟨i1, i2, i3⟩ := revDigs_facts 20 n (by omega)
    obtain ⟨i4, i5⟩ := i3 (by omega)
    rw [List.length_reverse]
    exact ⟨i1, i2, i4, fun _ => i5, revDigs_len 20 n⟩

theorem str_size (l : List Int) : (strOfNums l).size = l.length := strOfNums_size l
theorem longer {a b : List Int} {m n : Nat} (hm : val a = m) (hn : (2 ≤ b.length → 10 ^ (b.length - 1) ≤ n)) (ha : Digs a) (h1 : 1 ≤ a.length) (h : a.length < b.length) : m < n := by
  have h2 := (val_range a ha).2
  have h3 := hn (by omega)
  have h4 : 10 ^ a.length ≤ 10 ^ (b.length - 1) := Nat.pow_le_pow_right (by decide) (by omega)
  rw [hm] at h2
  have h5 : m < 10 ^ a.length := by exact_mod_cast h2
  omega
theorem bytesOf_ne {a b : List Int} (h : a.length ≠ b.length) : (Lib.bytesOf a == Lib.bytesOf b) = false := by
  rw [beq_eq_false_iff_ne]
  intro e
  have := congrArg List.length e
  rw [Lib.bytesOf_length, Lib.bytesOf_length] at this
  exact h this

theorem TextOrder : inquestlaw04_TextOrder.Pure := by
  intro m0 n0 wm wn
  simp [Lit.wf, IntKind.min, IntKind.max, IntKind.signed, IntKind.bits] at wm wn
  refine ⟨100, ?_⟩
  unfold inquestlaw04_TextOrder.f
  obtain ⟨m, hm⟩ : ∃ m : Nat, mx m0 0 = m := ⟨(mx m0 0).toNat, by unfold mx; omega⟩
  obtain ⟨n, hn⟩ : ∃ n : Nat, mx n0 0 = n := ⟨(mx n0 0).toNat, by unfold mx; omega⟩
  have hm2 : m ≤ 9223372036854775807 := by have : mx m0 0 ≤ 9223372036854775807 := by { unfold mx; omega }; omega
  have hn2 : n ≤ 9223372036854775807 := by have : mx n0 0 ≤ 9223372036854775807 := by { unfold mx; omega }; omega
  rw [hm, hn, dec_f m (by omega) (by omega) 100 (by omega), dec_f n (by omega) (by omega) 100 (by omega), lives_f 100 (by omega)]
  simp only [Option.bind_some, str_size, Lib.strOfNums_toList]
  obtain ⟨a1, a2, a3, a4, _⟩ := decS_facts m hm2
  obtain ⟨b1, b2, b3, b4, _⟩ := decS_facts n hn2
  generalize decS m = a at a1 a2 a3 a4 ⊢
  generalize decS n = b at b1 b2 b3 b4 ⊢
  rcases Nat.lt_trichotomy a.length b.length with h | h | h
  · have hlt := longer a2 b4 a1 a3 h
    have e1 : (Lib.bytesOf a == Lib.bytesOf b) = false := bytesOf_ne (by omega)
    have e2 : ((m : Int) == (n : Int)) = false := by rw [beq_eq_false_iff_ne]; omega
    have e3 : decide ((m : Int) < (n : Int)) = true := decide_eq_true (by omega)
    rw [if_pos (by omega), e1, e2, e3]; simp
  · obtain ⟨e1, e2⟩ := less_eq a b h a1 b1
    have e3 : ((m : Int) == (n : Int)) = decide ((m : Int) = n) := by rw [Bool.eq_iff_iff]; simp
    rw [if_neg (by omega), if_pos (by omega), e1, e2, a2, b2, e3]; simp
  · have hlt := longer b2 a4 b1 b3 h
    have e1 : (Lib.bytesOf a == Lib.bytesOf b) = false := bytesOf_ne (by omega)
    have e2 : ((m : Int) == (n : Int)) = false := by rw [beq_eq_false_iff_ne]; omega
    have e3 : decide ((m : Int) < (n : Int)) = false := decide_eq_false (by omega)
    rw [if_neg (by omega), if_neg (by omega), e1, e2, e3]; simp

end Go.Proofs.Ytabhilifliekmaa.Pure
