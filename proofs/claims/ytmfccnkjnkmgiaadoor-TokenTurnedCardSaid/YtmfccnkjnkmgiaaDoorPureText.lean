/- What the functions of layer 4 answer, the program's and the reference's, in numbers and lists alone. Condition: texts of at most 300 bytes. -/
import Derived.Test.YtmfccnkjnkmgiaaDoorPTokenOpensx1
import Derived.Test.YtmfccnkjnkmgiaaDoorPTokenOpensx3
import Derived.Test.YtmfccnkjnkmgiaaDoorPTokenOpensx4
import Derived.Test.YtmfccnkjnkmgiaaDoorPTokenBackx4
import Derived.Lib.Bytes
import Derived.Lib.SmallJoins
namespace Go.Proofs.YtmfccnkjnkmgiaaDoor.Pure
open Go.RowKit Go.Proofs.YtmfccnkjnkmgiaaDoor.PTokenOpens Go.Proofs.YtmfccnkjnkmgiaaDoor.PTokenBack Go.Proofs.YtmfccnkjnkmgiaaDoorW.PrintWords Go.Proofs.YtmfccnkjnkmgiaaDoorW.PrintLast

theorem w1 {i : Int} (h0 : 0 ≤ i) (h : i < 9223372036854775807) : wrap64 (i + 1) = i + 1 := by
  unfold wrap64
  omega

theorem wid {i : Int} (h0 : -9223372036854775808 ≤ i) (h : i ≤ 9223372036854775807) : wrap64 i = i := by
  unfold wrap64
  omega

theorem pos {k d : Nat} (h : d < k) : ∃ m, k = m + 1 ∧ d ≤ m := ⟨k - 1, by omega, by omega⟩

theorem wu (n : Int) : IntKind.u64.wrap n = n % 18446744073709551616 := by
  simp [IntKind.wrap, IntKind.signed, IntKind.bits]

theorem toList_data (s : ByteArray) : s.toList = s.data.toList := by
  exact Go.ByteArray.toList_eq s

/-- A byte that a name may have behind its first one. -/
def okc (c : Int) : Bool := (decide (97 ≤ c) && decide (c ≤ 122)) || (decide (48 ≤ c) && decide (c ≤ 57)) || decide (c = 45)

/-- The next d bytes from i on are such. -/
def scan (s : ByteArray) : Nat → Int → Bool
  | 0, _ => true
  | d + 1, i => okc (bt s i) && scan s d (i + 1)

theorem name_l0 (s : ByteArray) (hn : s.size ≤ 140737488351232) (d : Nat) : ∀ (k : Nat) (i : Int), 0 ≤ i → (s.size : Int) - i = d → d < k →
    text_Name.l0 k s (s.size : Int) i = some (scan s d i) := by
  induction d with
  | zero =>
    intro k i h0 hd hk
    obtain ⟨k, rfl, _⟩ := pos hk
    simp only [text_Name.l0]; rw [if_neg (by omega)]; rfl
  | succ d ih =>
    intro k i h0 hd hk
    obtain ⟨k, rfl, hk'⟩ := pos hk
    have hi := ih k (i + 1) (by omega) (by omega) (by omega)
    simp only [text_Name.l0]; rw [if_pos (by omega), if_pos h0, if_pos (by omega), w1 h0 (by omega), hi]
    simp only [scan, okc]
    generalize bt s i = c
    generalize scan s d (i + 1) = b
    by_cases h1 : c < 97 <;> by_cases h2 : c < 48 <;> by_cases h3 : c = 45 <;> by_cases h4 : c > 57 <;> by_cases h5 : c > 122 <;>
      simp [h1, h2, h3, h4, h5] <;> omega

/-- What text.Name tells. -/
def nameB (s : ByteArray) : Bool := decide (1 ≤ s.size) && decide (s.size ≤ 16) && decide (97 ≤ bt s 0) && decide (bt s 0 ≤ 122) && scan s s.size 0

theorem name_f (s : ByteArray) (hn : s.size ≤ 140737488351232) (k : Nat) (hk : s.size + 1 < k) : text_Name.f k s = some (nameB s) := by
  obtain ⟨k, rfl, hk'⟩ := pos hk
  have hl := name_l0 s hn s.size k 0 (by omega) (by omega) (by omega)
  have hz : (s.toList = ([] : List UInt8)) ↔ s.size = 0 := by
    rw [toList_data]
    constructor
    · intro h; have := congrArg List.length h; rw [Array.length_toList] at this; exact this
    · intro h; exact List.eq_nil_of_length_eq_zero (by rw [Array.length_toList]; exact h)
  unfold text_Name.f nameB
  by_cases h0 : s.size = 0
  · rw [if_pos (hz.2 h0)]; simp only [text_Name.j0, if_true, h0]; simp
  · rw [if_neg (fun h => h0 (hz.1 h))]
    by_cases h1 : (s.size : Int) > 16
    · rw [if_pos h1]; simp only [text_Name.j0, if_true]; have a2 : decide (s.size ≤ 16) = false := by first | exact decide_eq_true (by omega) | exact decide_eq_false (by omega)
      rw [a2]; simp
    · rw [if_neg h1, if_pos (by omega)]
      by_cases h2 : bt s 0 < 97
      · rw [if_pos h2]; simp only [text_Name.j0, if_true]; have a2 : decide (97 ≤ bt s 0) = false := by first | exact decide_eq_true (by omega) | exact decide_eq_false (by omega)
        rw [a2]; simp
      · rw [if_neg h2]
        by_cases h3 : bt s 0 > 122
        · have a2 : decide (bt s 0 ≤ 122) = false := by first | exact decide_eq_true (by omega) | exact decide_eq_false (by omega)
          simp only [text_Name.j0, h3, decide_true, if_true, a2]; simp
        · simp only [text_Name.j0, h3, decide_false, Bool.false_eq_true, if_false, hl]
          congr 1
          have a1 : decide (1 ≤ s.size) = true := by first | exact decide_eq_true (by omega) | exact decide_eq_false (by omega)
          have a2 : decide (s.size ≤ 16) = true := by first | exact decide_eq_true (by omega) | exact decide_eq_false (by omega)
          have a3 : decide (97 ≤ bt s 0) = true := by first | exact decide_eq_true (by omega) | exact decide_eq_false (by omega)
          have a4 : decide (bt s 0 ≤ 122) = true := by first | exact decide_eq_true (by omega) | exact decide_eq_false (by omega)
          rw [a1, a2, a3, a4]; simp

/-- As the reference goes through the bytes: at 0 a small letter is wanted. -/
def rscan (s : ByteArray) : Nat → Int → Bool
  | 0, _ => true
  | d + 1, i => (okc (bt s i) && (decide (i ≠ 0) || (decide (97 ≤ bt s i) && decide (bt s i ≤ 122)))) && rscan s d (i + 1)

theorem rname_l0 (s : ByteArray) (hn : s.size ≤ 140737488351232) (d : Nat) : ∀ (k : Nat) (i : Int), 0 ≤ i → (s.size : Int) - i = d → d < k →
    inquestref04_Name.l0 k s i = some (rscan s d i && (decide (1 ≤ s.size) && decide (s.size ≤ 16))) := by
  induction d with
  | zero =>
    intro k i h0 hd hk
    obtain ⟨k, rfl, _⟩ := pos hk
    simp only [inquestref04_Name.l0]; rw [if_neg (by omega)]
    by_cases h : (s.size : Int) ≥ 1
    · rw [if_pos h]; have a1 : decide (1 ≤ s.size) = true := by first | exact decide_eq_true (by omega) | exact decide_eq_false (by omega)
      have a2 : decide ((s.size : Int) ≤ 16) = decide (s.size ≤ 16) := decide_eq_decide.2 (by omega)
      rw [a1, a2]; simp [rscan]
    · rw [if_neg h]; have a1 : decide (1 ≤ s.size) = false := by first | exact decide_eq_true (by omega) | exact decide_eq_false (by omega)
      rw [a1]; simp
  | succ d ih =>
    intro k i h0 hd hk
    obtain ⟨k, rfl, hk'⟩ := pos hk
    have hi := ih k (i + 1) (by omega) (by omega) (by omega)
    simp only [inquestref04_Name.l0]; rw [if_pos (by omega), if_pos h0, w1 h0 (by omega), hi]
    simp only [rscan, okc]
    generalize bt s i = c
    generalize (rscan s d (i + 1)) = b
    generalize (decide (1 ≤ s.size) && decide (s.size ≤ 16)) = b2
    by_cases h1 : c ≥ 97 <;> by_cases h2 : c < 48 <;> by_cases h3 : c = 45 <;> by_cases h4 : c > 57 <;> by_cases h5 : c ≤ 122 <;> by_cases h6 : i = 0 <;> cases b <;> cases b2 <;>
      simp [h1, h2, h3, h4, h5, h6] <;> omega

theorem rscan_tail (s : ByteArray) (d : Nat) : ∀ i : Int, 1 ≤ i → rscan s d i = scan s d i := by
  induction d with
  | zero => intro i _; rfl
  | succ d ih =>
    intro i h
    simp only [rscan, scan, ih (i + 1) (by omega)]
    have : decide (i ≠ 0) = true := by first | exact decide_eq_true (by omega) | exact decide_eq_false (by omega)
    rw [this]; simp



theorem rname_f (s : ByteArray) (hn : s.size ≤ 140737488351232) (k : Nat) (hk : s.size + 1 < k) : inquestref04_Name.f k s = some (nameB s) := by
  unfold inquestref04_Name.f
  rw [rname_l0 s hn s.size k 0 (by omega) (by omega) (by omega)]
  congr 1
  unfold nameB
  cases hs : s.size with
  | zero => simp
  | succ n =>
    simp only [rscan, scan, rscan_tail s n (0 + 1) (by omega)]
    generalize bt s 0 = c
    generalize scan s n (0 + 1) = b
    simp only [okc]
    by_cases h1 : 97 ≤ c <;> by_cases h2 : c ≤ 122 <;> by_cases h3 : n + 1 ≤ 16 <;> cases b <;> simp [h1, h2, h3] <;> omega

/-- The digits of a number, the last one first, as bytes; of 0 none. -/
def revDigs : Nat → Nat → List Int
  | 0, _ => []
  | f + 1, u => if u = 0 then [] else (48 + ((u % 10 : Nat) : Int)) :: revDigs f (u / 10)

theorem revDigs_len (f : Nat) : ∀ u, (revDigs f u).length ≤ f := by
  induction f with
  | zero => intro u; simp [revDigs]
  | succ f ih => intro u; simp only [revDigs]; split <;> simp; exact ih _

theorem rd_mid (A M C : List Int) (m : Int) (i : Int) (h : i = A.length) : rd (A ++ (m :: M) ++ C) i = m := by
  subst h
  simp [rd]

theorem set_mid (A M C : List Int) (m x : Int) (i : Nat) (h : i = A.length) : (A ++ (m :: M) ++ C).set i x = A ++ (x :: M) ++ C := by
  subst h
  simp

/-- What text.Dec writes. -/
def decS (n : Int) : List Int := if n = 0 then [48] else ((if n < 0 then [45] else []) ++ (revDigs 20 n.natAbs).reverse)


/-- The number that digits are, the highest first. -/
def val : List Int → Int
  | [] => 0
  | c :: l => (c - 48) * 10 ^ l.length + val l
def Digs (l : List Int) : Prop := ∀ c ∈ l, 48 ≤ c ∧ c ≤ 57

theorem val_snoc (l : List Int) (c : Int) : val (l ++ [c]) = 10 * val l + (c - 48) := by
  induction l with
  | nil => simp [val]
  | cons x l ih =>
    simp only [List.cons_append, val, List.length_append, List.length_cons, List.length_nil, ih, Nat.zero_add, Int.pow_succ]
    rw [← Int.mul_assoc]
    generalize (x - 48) * 10 ^ l.length = q
    omega
theorem val_range (l : List Int) (h : Digs l) : 0 ≤ val l ∧ val l < 10 ^ l.length := by
  induction l with
  | nil => simp [val]
  | cons x l ih =>
    have hx := h x (by simp)
    have hl := ih (fun c hc => h c (by simp [hc]))
    simp only [val, List.length_cons, Int.pow_succ]
    have hp : (0 : Int) < 10 ^ l.length := Int.pow_pos (by decide)
    generalize (10 : Int) ^ l.length = p at hl hp ⊢
    have h1 : 0 ≤ (x - 48) * p := Int.mul_nonneg (by omega) (by omega)
    have h2 : (x - 48) * p ≤ 9 * p := Int.mul_le_mul_of_nonneg_right (by omega) (by omega)
    generalize (x - 48) * p = q at h1 h2 ⊢
    omega
theorem u8_lt (a b : Int) (ha : 48 ≤ a ∧ a ≤ 57) (hb : 48 ≤ b ∧ b ≤ 57) : (decide (UInt8.ofNat a.toNat < UInt8.ofNat b.toNat)) = decide (a < b) ∧ (UInt8.ofNat a.toNat == UInt8.ofNat b.toNat) = decide (a = b) := by
  have e : ∀ x : Int, 48 ≤ x ∧ x ≤ 57 → (UInt8.ofNat x.toNat).toNat = x.toNat := by
    intro x hx; rw [UInt8.toNat_ofNat']; omega
  constructor
  · rw [decide_eq_decide, UInt8.lt_iff_toNat_lt, e a ha, e b hb]; omega
  · rw [Bool.eq_iff_iff, beq_iff_eq, decide_eq_true_eq, ← UInt8.toNat_inj, e a ha, e b hb]; omega
theorem less_eq (a : List Int) : ∀ b : List Int, a.length = b.length → Digs a → Digs b →
    Op.bytesLess (Lib.bytesOf a) (Lib.bytesOf b) = decide (val a < val b) ∧ (Lib.bytesOf a == Lib.bytesOf b) = decide (val a = val b) := by
  induction a with
  | nil =>
    intro b h _ _
    have : b = [] := List.eq_nil_of_length_eq_zero (by simpa using h.symm)
    subst this
    exact ⟨rfl, rfl⟩
  | cons x a ih =>
    intro b h ha hb
    match b, h with
    | y :: b, h =>
      have hl : a.length = b.length := by simpa using h
      have hx := ha x (by simp)
      have hy := hb y (by simp)
      have ha' : Digs a := fun c hc => ha c (by simp [hc])
      have hb' : Digs b := fun c hc => hb c (by simp [hc])
      obtain ⟨i1, i2⟩ := ih b hl ha' hb'
      obtain ⟨u1, u2⟩ := u8_lt x y hx hy
      have ra := val_range a ha'
      have rb := val_range b hb'
      have v1 : val (x :: a) = (x - 48) * 10 ^ b.length + val a := by rw [← hl]; rfl
      have v2 : val (y :: b) = (y - 48) * 10 ^ b.length + val b := rfl
      rw [v1, v2]
      simp only [Lib.bytesOf, List.map_cons, Op.bytesLess]
      simp only [Lib.bytesOf] at i1 i2
      rw [List.cons_beq_cons, u2, i2, u1, i1]
      rw [hl] at ra
      have hp : (0 : Int) < 10 ^ b.length := Int.pow_pos (by decide)
      generalize (10 : Int) ^ b.length = p at ra rb hp ⊢
      generalize val a = m at ra ⊢
      generalize val b = n at rb ⊢
      rcases Int.lt_trichotomy x y with h1 | h1 | h1
      · have h2 : (x - 48 + 1) * p ≤ (y - 48) * p := Int.mul_le_mul_of_nonneg_right (by omega) (by omega)
        rw [Int.add_mul, Int.one_mul] at h2
        generalize (x - 48) * p = q at h2 ⊢
        generalize (y - 48) * p = r at h2 ⊢
        have e1 : decide (x < y) = true := decide_eq_true h1
        have e2 : decide (x = y) = false := decide_eq_false (by omega)
        rw [e1, e2]
        constructor
        · rw [Bool.true_or]; exact (decide_eq_true (by omega)).symm
        · rw [Bool.false_and]; exact (decide_eq_false (by omega)).symm
      · subst h1
        generalize (x - 48) * p = q
        have e1 : decide (x < x) = false := decide_eq_false (by omega)
        have e2 : decide (x = x) = true := decide_eq_true rfl
        rw [e1, e2]
        constructor
        · rw [Bool.false_or, Bool.true_and, decide_eq_decide]; omega
        · rw [Bool.true_and, decide_eq_decide]; omega
      · have h2 : (y - 48 + 1) * p ≤ (x - 48) * p := Int.mul_le_mul_of_nonneg_right (by omega) (by omega)
        rw [Int.add_mul, Int.one_mul] at h2
        generalize (x - 48) * p = q at h2 ⊢
        generalize (y - 48) * p = r at h2 ⊢
        have e1 : decide (x < y) = false := decide_eq_false (by omega)
        have e2 : decide (x = y) = false := decide_eq_false (by omega)
        rw [e1, e2]
        constructor
        · rw [Bool.false_or, Bool.false_and]; exact (decide_eq_false (by omega)).symm
        · rw [Bool.false_and]; exact (decide_eq_false (by omega)).symm

theorem revDigs_zero (f : Nat) : revDigs f 0 = [] := by cases f <;> simp [revDigs]
theorem revDigs_facts (f : Nat) : ∀ u : Nat, u < 10 ^ f → Digs (revDigs f u).reverse ∧ val (revDigs f u).reverse = u ∧ (0 < u → 1 ≤ (revDigs f u).length ∧ 10 ^ ((revDigs f u).length - 1) ≤ u) := by
  induction f with
  | zero =>
    intro u h
    have : u = 0 := by simpa using h
    subst this
    exact ⟨by simp [revDigs, Digs], by simp [revDigs, val], by omega⟩
  | succ f ih =>
    intro u h
    by_cases h0 : u = 0
    · subst h0; rw [revDigs_zero]; exact ⟨by simp [Digs], by simp [val], by omega⟩
    · have hu : u / 10 < 10 ^ f := by rw [Nat.pow_succ] at h; omega
      obtain ⟨i1, i2, i3⟩ := ih (u / 10) hu
      simp only [revDigs, if_neg h0, List.reverse_cons, List.length_cons]
      refine ⟨?_, ?_, fun _ => ⟨by omega, ?_⟩⟩
      · intro c hc
        rcases List.mem_append.1 hc with hc | hc
        · exact i1 c hc
        · simp only [List.mem_singleton] at hc; omega
      · rw [val_snoc, i2]; omega
      · by_cases h1 : u / 10 = 0
        · rw [h1, revDigs_zero]; simp; omega
        · obtain ⟨i4, i5⟩ := i3 (by omega)
          rw [Nat.add_sub_cancel]
          obtain ⟨n, hn⟩ : ∃ n, (revDigs f (u / 10)).length = n + 1 := ⟨_, (Nat.sub_add_cancel i4).symm⟩
          rw [hn] at i5 ⊢
          rw [Nat.add_sub_cancel] at i5
          rw [Nat.pow_succ]; omega

/-- What text.Dec writes of a number from 0 on. -/
theorem decS_facts (n : Nat) (h : n ≤ 9223372036854775807) : Digs (decS n) ∧ val (decS n) = n ∧ 1 ≤ (decS n).length ∧ (2 ≤ (decS n).length → 10 ^ ((decS n).length - 1) ≤ n) ∧ (decS n).length ≤ 20 := by
  unfold decS
  by_cases h0 : n = 0
  · subst h0
    rw [if_pos (by simp)]
    exact ⟨by simp [Digs], by simp [val], by simp, by simp, by simp⟩
  · rw [if_neg (by omega), if_neg (by omega), List.nil_append, Int.natAbs_natCast]
    obtain ⟨i1, i2, i3⟩ := revDigs_facts 20 n (by omega)
    obtain ⟨i4, i5⟩ := i3 (by omega)
    rw [List.length_reverse]
    exact ⟨i1, i2, i4, fun _ => i5, revDigs_len 20 n⟩

theorem cut_f (s : ByteArray) : ∃ t, inquestref04_Cut.f s 300 = some t ∧ t.size ≤ 300 := by
  unfold inquestref04_Cut.f
  by_cases h : (s.size : Int) > 300
  · rw [if_pos h, if_pos (by omega), if_pos (by omega)]
    refine ⟨_, rfl, ?_⟩
    simp
    omega
  · rw [if_neg h]; exact ⟨s, rfl, by omega⟩


theorem revDigs_fuel (f : Nat) : ∀ g u : Nat, u < 10 ^ f → u < 10 ^ g → revDigs f u = revDigs g u := by
  induction f with
  | zero =>
    intro g u h _
    have : u = 0 := by simpa using h
    subst this
    rw [revDigs_zero, revDigs_zero]
  | succ f ih =>
    intro g u h hg
    match g, hg with
    | 0, hg =>
      have : u = 0 := by simpa using hg
      subst this
      rw [revDigs_zero, revDigs_zero]
    | g + 1, hg =>
      simp only [revDigs]
      split
      · rfl
      · rw [ih g (u / 10) (by rw [Nat.pow_succ] at h; omega) (by rw [Nat.pow_succ] at hg; omega)]

/-- The digits of a number from 1 on, the highest first. -/
def dg (m : Nat) : List Int := (revDigs 20 m).reverse
theorem dg_small (m : Nat) (h0 : 0 < m) (h : m < 10) : dg m = [48 + (m : Int)] := by
  unfold dg
  simp only [revDigs]
  rw [if_neg (by omega), if_pos (by omega), Nat.mod_eq_of_lt h]
  rfl
theorem dg_step (m : Nat) (h : 10 ≤ m) (hm : m ≤ 9223372036854775808) : dg m = dg (m / 10) ++ [48 + ((m % 10 : Nat) : Int)] := by
  unfold dg
  have : revDigs 20 m = (48 + ((m % 10 : Nat) : Int)) :: revDigs 19 (m / 10) := by
    show (if m = 0 then [] else (48 + ((m % 10 : Nat) : Int)) :: revDigs 19 (m / 10)) = _
    rw [if_neg (by omega)]
  rw [this, revDigs_fuel 19 20 (m / 10) (by omega) (by omega), List.reverse_cons]
theorem letter_f (d : Nat) (h : d < 10) : inquestref04_letter.f d = some (strOfNums [48 + (d : Int)]) := by
  have : ∀ d : Fin 10, inquestref04_letter.f ((d.val : Nat) : Int) = some (strOfNums [48 + ((d.val : Nat) : Int)]) := by decide +kernel
  exact this ⟨d, h⟩
theorem str_append (a b : List Int) : strOfNums a ++ strOfNums b = strOfNums (a ++ b) := by
  apply ByteArray.ext
  apply Array.ext'
  rw [ByteArray.data_append, Array.toList_append, strOfNums_data, strOfNums_data, strOfNums_data, List.map_append]
theorem str_len (a : List Int) : (strOfNums a).size = a.length := strOfNums_size a
theorem decS_neg (m : Nat) (h : 0 < m) : decS (-(m : Int)) = 45 :: dg m := by
  unfold decS dg
  rw [if_neg (by omega), if_pos (by omega)]
  simp
theorem decS_pos (m : Nat) (h : 0 < m) : decS (m : Int) = dg m := by
  unfold decS dg
  rw [if_neg (by omega), if_neg (by omega)]
  simp
theorem dg_len (m : Nat) : (dg m).length ≤ 20 := by unfold dg; rw [List.length_reverse]; exact revDigs_len 20 m

theorem rdec_neg (f : Nat) : ∀ (m k : Nat), 0 < m → m < 10 ^ f → m ≤ 9223372036854775808 → f ≤ k → inquestref04_Dec.f k (-(m : Int)) = some (strOfNums (45 :: dg m)) := by
  induction f with
  | zero => intro m k h0 h; simp at h; omega
  | succ f ih =>
    intro m k h0 h hm hk
    obtain ⟨k, rfl, hk'⟩ := pos (show f < k by omega)
    simp only [inquestref04_Dec.f]
    rw [if_pos (by omega)]
    by_cases h1 : m < 10
    · rw [if_pos (by omega), wid (by omega) (by omega), Int.neg_neg, letter_f m h1]
      simp only [Option.bind_some]
      rw [if_pos (by rw [str_len]; simp), dg_small m h0 h1]
      exact congrArg some (str_append [45] [48 + (m : Int)])
    · have e1 : Int.tdiv (-(m : Int)) 10 = -((m / 10 : Nat) : Int) := by rw [Int.neg_tdiv, Int.tdiv_eq_ediv_of_nonneg (by omega)]; omega
      have e2 : Int.tmod (-(m : Int)) 10 = -((m % 10 : Nat) : Int) := by rw [Int.neg_tmod, Int.tmod_eq_emod_of_nonneg (by omega)]; omega
      rw [if_neg (by omega), e1, e2, Int.neg_neg, wid (by omega) (by omega), wid (by omega) (by omega), ih (m / 10) k (by omega) (by rw [Nat.pow_succ] at h; omega) (by omega) hk', letter_f (m % 10) (by omega)]
      simp only [Option.bind_some]
      have := dg_len (m / 10)
      rw [if_pos (by rw [str_len, str_len]; simp; omega), str_append, dg_step m (by omega) hm]
      rfl
theorem rdec_pos (f : Nat) : ∀ (m k : Nat), m < 10 ^ (f + 1) → m ≤ 9223372036854775807 → f + 1 ≤ k → inquestref04_Dec.f k (m : Int) = some (strOfNums (decS m)) := by
  induction f with
  | zero =>
    intro m k h hm hk
    obtain ⟨k, rfl, hk'⟩ := pos (show 0 < k by omega)
    simp only [inquestref04_Dec.f]
    rw [if_neg (by omega), if_pos (by omega), letter_f m (by omega)]
    simp only [Option.bind_some]
    by_cases h0 : m = 0
    · subst h0; rfl
    · rw [decS_pos m (by omega), dg_small m (by omega) (by omega)]
  | succ f ih =>
    intro m k h hm hk
    obtain ⟨k, rfl, hk'⟩ := pos (show 0 < k by omega)
    simp only [inquestref04_Dec.f]
    rw [if_neg (by omega)]
    by_cases h1 : m < 10
    · rw [if_pos (by omega), letter_f m (by omega)]
      simp only [Option.bind_some]
      by_cases h0 : m = 0
      · subst h0; rfl
      · rw [decS_pos m (by omega), dg_small m (by omega) (by omega)]
    · have e1 : Int.tdiv (m : Int) 10 = ((m / 10 : Nat) : Int) := by rw [Int.tdiv_eq_ediv_of_nonneg (by omega)]; omega
      have e2 : Int.tmod (m : Int) 10 = ((m % 10 : Nat) : Int) := by rw [Int.tmod_eq_emod_of_nonneg (by omega)]; omega
      rw [if_neg (by omega), e1, e2, wid (by omega) (by omega), ih (m / 10) k (by rw [Nat.pow_succ] at h; omega) (by omega) (by omega), letter_f (m % 10) (by omega), decS_pos (m / 10) (by omega), decS_pos m (by omega)]
      simp only [Option.bind_some]
      have := dg_len (m / 10)
      rw [if_pos (by rw [str_len, str_len]; simp; omega), str_append, dg_step m (by omega) (by omega)]
theorem rdec_f (n : Int) (h1 : -9223372036854775808 ≤ n) (h2 : n ≤ 9223372036854775807) (k : Nat) (hk : 30 ≤ k) : inquestref04_Dec.f k n = some (strOfNums (decS n)) := by
  by_cases h : n < 0
  · obtain ⟨m, rfl⟩ : ∃ m : Nat, n = -(m : Int) := ⟨n.natAbs, by omega⟩
    rw [rdec_neg 20 m k (by omega) (by omega) (by omega) (by omega), decS_neg m (by omega)]
  · obtain ⟨m, rfl⟩ := Int.eq_ofNat_of_zero_le (by omega : 0 ≤ n)
    exact rdec_pos 19 m k (by omega) (by omega) (by omega)

/-- The next d bytes from i on. -/
def lst (s : ByteArray) : Nat → Nat → List Int
  | 0, _ => []
  | d + 1, i => bt s i :: lst s d (i + 1)
theorem lst_len (s : ByteArray) (d : Nat) : ∀ i, (lst s d i).length = d := by
  induction d with
  | zero => intro i; rfl
  | succ d ih => intro i; simp [lst, ih]
theorem bt_range (s : ByteArray) (i : Int) : 0 ≤ bt s i ∧ bt s i ≤ 255 := by
  unfold bt; split
  · have := (s[i.toNat]).toNat_lt; omega
  · omega
theorem lst_bytes (s : ByteArray) (d : Nat) : ∀ i, i + d = s.size → Lib.bytesOf (lst s d i) = s.data.toList.drop i := by
  induction d with
  | zero => intro i h; rw [List.drop_of_length_le (by rw [Array.length_toList]; show s.size ≤ i; omega)]; rfl
  | succ d ih =>
    intro i h
    have hi : i < s.data.toList.length := by rw [Array.length_toList]; show i < s.size; omega
    rw [List.drop_eq_getElem_cons hi, ← ih (i + 1) (by omega)]
    simp only [lst, Lib.bytesOf, List.map_cons]
    congr 1
    unfold bt
    have hs : i < s.size := by omega
    simp only [Int.toNat_natCast]
    rw [dif_pos hs, Int.toNat_natCast, UInt8.ofNat_toNat]
    rw [Array.getElem_toList]; rfl

def digB (c : Int) : Bool := decide (48 ≤ c) && decide (c ≤ 57)
def accV : Int → List Int → Int
  | u, [] => u
  | u, c :: r => accV (10 * u + (c - 48)) r
theorem accV_val (r : List Int) : ∀ u, accV u r = u * 10 ^ r.length + val r := by
  induction r with
  | nil => intro u; simp [accV, val]
  | cons c r ih =>
    intro u
    simp only [accV, ih, val, List.length_cons, Int.pow_succ]
    generalize (10 : Int) ^ r.length = p
    rw [Int.add_mul, ← Int.mul_assoc, show 10 * u * p = u * p * 10 by rw [Int.mul_assoc, Int.mul_comm 10]]
    generalize u * p = q
    generalize (c - 48) * p = t
    omega
theorem accV_mono (r : List Int) (h : r.all digB = true) : ∀ u, 0 ≤ u → u ≤ accV u r := by
  induction r with
  | nil => intro u _; exact Int.le_refl _
  | cons c r ih =>
    intro u hu
    rw [List.all_cons, Bool.and_eq_true] at h
    have hc := h.1
    simp [digB] at hc
    have := ih h.2 (10 * u + (c - 48)) (by omega)
    simp only [accV]; omega
theorem digs_of (r : List Int) : r.all digB = true ↔ Digs r := by
  simp [Digs, digB]

theorem rd_l0 (s : ByteArray) (d : Nat) : ∀ (k i : Nat) (u : Int), i + d = s.size → 0 ≤ u → u < 10 ^ i → s.size ≤ 19 → d < k →
    text_ReadDec.l0 k s u (s.size : Int) i = some (if (lst s d i).all digB = true then (if accV u (lst s d i) > 9223372036854775807 then (0, false) else (accV u (lst s d i), true)) else (0, false)) := by
  induction d with
  | zero =>
    intro k i u hd h0 hu hs hk
    obtain ⟨k, rfl, hk'⟩ := pos (show 0 < k by omega)
    simp only [text_ReadDec.l0, lst, accV, List.all_nil, if_true]
    rw [if_neg (by omega)]
    by_cases h : u > 9223372036854775807
    · rw [if_pos h, if_pos h]
    · rw [if_neg h, if_neg h, wid (by omega) (by omega)]
  | succ d ih =>
    intro k i u hd h0 hu hs hk
    obtain ⟨k, rfl, hk'⟩ := pos (show 0 < k by omega)
    have e1 : ((i : Int) + 1) = ((i + 1 : Nat) : Int) := by omega
    have hb := bt_range s i
    simp only [text_ReadDec.l0, lst, accV, List.all_cons]
    rw [if_pos (by omega), if_pos (by omega), if_pos (by omega), w1 (by omega) (by omega), e1]
    generalize bt s i = c at hb ⊢
    by_cases h1 : c < 48
    · have b1 : digB c = false := by simp [digB]; omega
      rw [if_pos h1, b1]; simp
    · rw [if_neg h1]
      by_cases h2 : c > 57
      · have b1 : digB c = false := by simp [digB]; omega
        rw [if_pos h2, b1]; simp
      · have b1 : digB c = true := by simp [digB]; omega
        rw [if_neg h2, b1, Bool.true_and]
        have hp : (10 : Int) ^ i ≤ 10 ^ 18 := by
          have : 10 ^ i ≤ 10 ^ 18 := Nat.pow_le_pow_right (by decide) (by omega)
          exact_mod_cast this
        have e2 : IntKind.u64.wrap (IntKind.u64.wrap (10 * u) + (c - 48) % 256) = 10 * u + (c - 48) := by
          rw [wu, wu]; omega
        rw [e2, ih k (i + 1) _ (by omega) (by omega) (by rw [Int.pow_succ]; omega) hs (by omega)]

/-- What the reference answers at the end. -/
def fin (s : ByteArray) (n : Int) : Int × Bool := if s.toList = ([] : List UInt8) then (0, false) else (if Lib.bytesOf (decS n) = s.toList then (n, true) else (0, false))
theorem val_inj (a b : List Int) (hl : a.length = b.length) (ha : Digs a) (hb : Digs b) (h : val a = val b) : Lib.bytesOf a = Lib.bytesOf b := by
  have := (less_eq a b hl ha hb).2
  rw [h, decide_eq_true rfl] at this
  exact eq_of_beq this

def ga0 : List Int → Int
  | [] => 0
  | c :: _ => c
/-- Digits without noughts ahead are what Dec writes. -/
theorem canon (l : List Int) (h : Digs l) (h1 : 1 ≤ l.length) (hm : val l ≤ 9223372036854775807) :
    (Lib.bytesOf (decS (val l)) = Lib.bytesOf l) ↔ (l.length ≤ 19 ∧ ¬ (ga0 l = 48 ∧ 1 < l.length)) := by
  obtain ⟨r0, r1⟩ := val_range l h
  obtain ⟨n, hn⟩ := Int.eq_ofNat_of_zero_le r0
  rw [hn] at hm r1 ⊢
  obtain ⟨d1, d2, d3, d4, _⟩ := decS_facts n (by omega)
  have r1' : n < 10 ^ l.length := by exact_mod_cast r1
  constructor
  · intro he
    have hl := congrArg List.length he
    rw [Lib.bytesOf_length, Lib.bytesOf_length] at hl
    rw [hl] at d4
    refine ⟨?_, ?_⟩
    · by_cases h2 : 2 ≤ l.length
      · have h3 := d4 h2
        have h4 : 10 ^ (l.length - 1) < 10 ^ 19 := by omega
        have := (Nat.pow_lt_pow_iff_right (by decide : 1 < 10)).1 h4
        omega
      · omega
    · rintro ⟨h2, h3⟩
      have h4 := d4 (by omega)
      match l, h1, h, hn, h2, h3, h4 with
      | c :: t, _, h, hn, h2, h3, h4 =>
        simp only [ga0] at h2
        have ht := (val_range t (fun x hx => h x (by simp [hx]))).2
        simp only [val, h2] at hn
        simp only [List.length_cons, Nat.add_sub_cancel] at h4
        have h5 : (10 : Int) ^ t.length ≤ n := by exact_mod_cast h4
        omega
  · rintro ⟨h2, h3⟩
    have hlen : (decS n).length = l.length := by
      rcases Nat.lt_trichotomy (decS n).length l.length with hh | hh | hh
      · exfalso
        have h4 := (val_range _ d1).2
        rw [d2] at h4
        have h4' : n < 10 ^ (decS n).length := by exact_mod_cast h4
        match l, h1, h, hn, hh, h3 with
        | c :: t, _, h, hn, hh, h3 =>
          simp only [ga0, List.length_cons] at h3 hh
          have hc := h c (by simp)
          have ht := (val_range t (fun x hx => h x (by simp [hx]))).1
          have h5 : 1 ≤ c - 48 := by
            by_cases e : c = 48
            · exact absurd ⟨e, by omega⟩ h3
            · omega
          simp only [val] at hn
          have h6 : (10 : Int) ^ t.length ≤ (c - 48) * 10 ^ t.length := by
            have hp : (0 : Int) < 10 ^ t.length := Int.pow_pos (by decide)
            have := Int.mul_le_mul_of_nonneg_right h5 (Int.le_of_lt hp)
            rwa [Int.one_mul] at this
          have h7 : 10 ^ (decS n).length ≤ 10 ^ t.length := Nat.pow_le_pow_right (by decide) (by omega)
          have h8 : ((10 ^ (decS n).length : Nat) : Int) ≤ ((10 ^ t.length : Nat) : Int) := by exact_mod_cast h7
          have h9 : ((10 ^ t.length : Nat) : Int) = (10 : Int) ^ t.length := by push_cast; rfl
          omega
      · exact hh
      · exfalso
        have h4 := d4 (by omega)
        have h5 : 10 ^ l.length ≤ 10 ^ ((decS n).length - 1) := Nat.pow_le_pow_right (by decide) (by omega)
        omega
    exact val_inj _ _ hlen d1 h (by rw [d2, hn])


theorem readdec_f (s : ByteArray) (hs : s.size ≤ 300) : text_ReadDec.f 500 s = some (if (lst s s.size 0).all digB = true ∧ accV 0 (lst s s.size 0) ≤ 9223372036854775807 then fin s (accV 0 (lst s s.size 0)) else (0, false)) := by
  have hby := lst_bytes s s.size 0 (by omega)
  rw [List.drop_zero, ← toList_data] at hby
  have hacc : accV 0 (lst s s.size 0) = val (lst s s.size 0) := by rw [accV_val]; simp
  have hlen := lst_len s s.size 0
  have hfirst : 0 < s.size → ga0 (lst s s.size 0) = bt s 0 := by
    intro h
    obtain ⟨m, hm⟩ : ∃ m, s.size = m + 1 := ⟨s.size - 1, by omega⟩
    rw [hm]; rfl
  have hnil : s.toList = ([] : List UInt8) ↔ s.size = 0 := by
    rw [← hby]
    constructor
    · intro h; have := congrArg List.length h; rw [Lib.bytesOf_length, hlen] at this; exact this
    · intro h; exact List.eq_nil_of_length_eq_zero (by rw [Lib.bytesOf_length, hlen, h])
  unfold fin
  rw [hacc]
  generalize hl : lst s s.size 0 = l at hby hacc hlen hfirst ⊢
  by_cases h0 : s.size = 0
  · have e : s.toList = ([] : List UInt8) := hnil.2 h0
    unfold text_ReadDec.f
    rw [if_pos e, if_pos e]
    simp only [text_ReadDec.j0, if_true]
    split <;> rfl
  · have e : ¬ s.toList = ([] : List UInt8) := fun h => h0 (hnil.1 h)
    unfold text_ReadDec.f
    rw [if_neg e, if_neg e, ← hby]
    have hc : Digs l → val l ≤ 9223372036854775807 → ((Lib.bytesOf (decS (val l)) = Lib.bytesOf l) ↔ (s.size ≤ 19 ∧ ¬ (bt s 0 = 48 ∧ 1 < s.size))) := by
      intro h1 h2
      have := canon l h1 (by omega) h2
      rw [hlen, hfirst (by omega)] at this
      exact this
    have out : ¬ (s.size ≤ 19 ∧ ¬ (bt s 0 = 48 ∧ 1 < s.size)) → (some (0, false) : Option (Int × Bool)) = some (if l.all digB = true ∧ val l ≤ 9223372036854775807 then (if Lib.bytesOf (decS (val l)) = Lib.bytesOf l then (val l, true) else (0, false)) else (0, false)) := by
      intro hn
      by_cases h1 : l.all digB = true ∧ val l ≤ 9223372036854775807
      · rw [if_pos h1, if_neg (fun h => hn ((hc ((digs_of l).1 h1.1) h1.2).1 h))]
      · rw [if_neg h1]
    have inn : s.size ≤ 19 ∧ ¬ (bt s 0 = 48 ∧ 1 < s.size) → text_ReadDec.j0 500 s false = some (if l.all digB = true ∧ val l ≤ 9223372036854775807 then (if Lib.bytesOf (decS (val l)) = Lib.bytesOf l then (val l, true) else (0, false)) else (0, false)) := by
      intro hy
      have h3 := rd_l0 s s.size 499 0 0 (by omega) (by omega) (by simp) hy.1 (by omega)
      rw [Int.natCast_zero, hl, hacc] at h3
      simp only [text_ReadDec.j0, Bool.false_eq_true, if_false]
      rw [h3]
      by_cases h1 : l.all digB = true
      · rw [if_pos h1]
        by_cases h2 : val l ≤ 9223372036854775807
        · rw [if_neg (by omega), if_pos ⟨h1, h2⟩, if_pos ((hc ((digs_of l).1 h1) h2).2 hy)]
        · rw [if_pos (by omega), if_neg (fun h => h2 h.2)]
      · rw [if_neg h1, if_neg (fun h => h1 h.1)]
    by_cases h1 : (s.size : Int) > 19
    · rw [if_pos h1, ← out (by omega)]; simp only [text_ReadDec.j0, if_true]
    · rw [if_neg h1, if_pos (by omega)]
      by_cases h2 : bt s 0 = 48
      · rw [if_pos h2]
        by_cases h3 : (s.size : Int) > 1
        · rw [decide_eq_true h3, ← out (fun h => h.2 ⟨h2, by omega⟩)]; simp only [text_ReadDec.j0, if_true]
        · rw [decide_eq_false h3]; exact inn ⟨by omega, fun h => by omega⟩
      · rw [if_neg h2]; exact inn ⟨by omega, fun h => h2 h.1⟩

theorem str_list (s : ByteArray) : Lib.bytesOf (lst s s.size 0) = s.toList := by
  have := lst_bytes s s.size 0 (by omega)
  rwa [List.drop_zero, ← toList_data] at this
/-- Digits are read back out of the text that they are. -/
theorem bytesOf_inj (a : List Int) : ∀ b : List Int, (∀ x ∈ a, 0 ≤ x ∧ x < 256) → (∀ x ∈ b, 0 ≤ x ∧ x < 256) → Lib.bytesOf a = Lib.bytesOf b → a = b := by
  induction a with
  | nil => intro b _ _ h; cases b with
    | nil => rfl
    | cons y b => simp [Lib.bytesOf] at h
  | cons x a ih =>
    intro b ha hb h
    cases b with
    | nil => simp [Lib.bytesOf] at h
    | cons y b =>
      simp only [Lib.bytesOf, List.map_cons, List.cons.injEq] at h
      have h1 := congrArg UInt8.toNat h.1
      rw [UInt8.toNat_ofNat', UInt8.toNat_ofNat'] at h1
      have hx := ha x (by simp)
      have hy := hb y (by simp)
      rw [ih b (fun z hz => ha z (by simp [hz])) (fun z hz => hb z (by simp [hz])) (by simpa [Lib.bytesOf] using h.2)]
      congr 1
      omega
theorem lst_range (s : ByteArray) (d : Nat) : ∀ i, ∀ x ∈ lst s d i, 0 ≤ x ∧ x < 256 := by
  induction d with
  | zero => intro i x hx; cases hx
  | succ d ih =>
    intro i x hx
    rcases List.mem_cons.1 hx with rfl | hx
    · have := bt_range s i; omega
    · exact ih _ _ hx
theorem lst_of_str (l : List Int) (h : ∀ x ∈ l, 0 ≤ x ∧ x < 256) : lst (strOfNums l) (strOfNums l).size 0 = l :=
  bytesOf_inj _ _ (lst_range _ _ _) h (by rw [str_list, Lib.strOfNums_toList])
theorem decS_bytes (n : Int) (h1 : -9223372036854775808 ≤ n) (h2 : n ≤ 9223372036854775807) : (∀ x ∈ decS n, 0 ≤ x ∧ x < 256) ∧ (decS n).length ≤ 21 := by
  have hd : ∀ m : Nat, m < 10 ^ 20 → Digs (revDigs 20 m).reverse := fun m hm => (revDigs_facts 20 m hm).1
  have hl := revDigs_len 20 n.natAbs
  have hD := hd n.natAbs (by omega)
  unfold decS
  split
  · exact ⟨by simp, by simp⟩
  · refine ⟨fun x hx => ?_, by simp; split <;> simp <;> omega⟩
    rcases List.mem_append.1 hx with hx | hx
    · split at hx
      · simp at hx; omega
      · cases hx
    · have := hD x hx; omega
/-- What is written is read. -/
theorem readdec_dec (n : Int) (h1 : -9223372036854775808 ≤ n) (h2 : n ≤ 9223372036854775807) : text_ReadDec.f 500 (strOfNums (decS n)) = some (if 0 ≤ n then (n, true) else (0, false)) := by
  obtain ⟨hb, hl⟩ := decS_bytes n h1 h2
  rw [readdec_f _ (by rw [strOfNums_size]; omega), lst_of_str _ hb]
  congr 1
  by_cases h0 : 0 ≤ n
  · obtain ⟨m, rfl⟩ := Int.eq_ofNat_of_zero_le h0
    obtain ⟨d1, d2, d3, d4, d5⟩ := decS_facts m (by omega)
    have hv : accV 0 (decS m) = m := by rw [accV_val, d2]; simp
    have hcond : (decS (m : Int)).all digB = true ∧ accV 0 (decS (m : Int)) ≤ 9223372036854775807 := ⟨(digs_of _).2 d1, by rw [hv]; omega⟩
    rw [if_pos hcond, if_pos h0, hv]
    unfold fin
    rw [if_neg, if_pos (by rw [Lib.strOfNums_toList])]
    rw [Lib.strOfNums_toList]
    intro h
    have := congrArg List.length h
    rw [Lib.bytesOf_length, List.length_nil] at this
    omega
  · rw [if_neg h0, if_neg]
    rintro ⟨h3, _⟩
    have e : decS n = 45 :: (revDigs 20 n.natAbs).reverse := by unfold decS; rw [if_neg (by omega), if_pos (by omega)]; rfl
    rw [e, List.all_cons, Bool.and_eq_true] at h3
    exact absurd h3.1 (by decide)
/-- What is read is written so. -/
theorem readdec_back (s : ByteArray) (hs : s.size ≤ 300) : ∃ r : Int × Bool, text_ReadDec.f 500 s = some r ∧ (r.2 = true → 0 ≤ r.1 ∧ r.1 ≤ 9223372036854775807 ∧ (strOfNums (decS r.1)).toList = s.toList) := by
  refine ⟨_, readdec_f s hs, ?_⟩
  split
  · rename_i h
    have hm := accV_mono _ h.1 0 (Int.le_refl _)
    unfold fin
    split
    · intro h; cases h
    · split
      · rename_i he
        intro _
        exact ⟨hm, h.2, by rw [Lib.strOfNums_toList]; exact he⟩
      · intro h; cases h
  · intro h; cases h

/-- The pieces of the next d bytes, the first of which begins at from. -/
def pieces (s : ByteArray) (c : Int) : Nat → Nat → Nat → List ByteArray
  | 0, a, i => [s.extract a i]
  | d + 1, a, i => if bt s i = c then s.extract a i :: pieces s c d (i + 1) (i + 1) else pieces s c d a (i + 1)
theorem pieces_pos (s : ByteArray) (c : Int) (d : Nat) : ∀ a i, 1 ≤ (pieces s c d a i).length := by
  induction d with
  | zero => intro a i; simp [pieces]
  | succ d ih => intro a i; simp only [pieces]; split; simp; exact ih _ _
theorem pieces_le (s : ByteArray) (c : Int) (d : Nat) : ∀ a i, (pieces s c d a i).length ≤ d + 1 := by
  induction d with
  | zero => intro a i; simp [pieces]
  | succ d ih =>
    intro a i; simp only [pieces]; split
    · have := ih (i + 1) (i + 1); simp; omega
    · have := ih a (i + 1); omega

theorem fields_l0 (s : ByteArray) (hs : s.size ≤ 300) (c most : Int) (d : Nat) : ∀ (k a i : Nat) (out : List ByteArray), i + d = s.size → a ≤ i → out.length ≤ i → 2 * d + 4 < k →
    text_Fields.l0 k s c most out a i = some (if ((out.length + (pieces s c d a i).length : Nat) : Int) ≤ most then (out ++ pieces s c d a i, true) else ([], false)) := by
  induction d with
  | zero =>
    intro k a i out hd ha ho hk
    obtain ⟨k, rfl, hk'⟩ := pos (show 0 < k by omega)
    obtain ⟨k, rfl, hk''⟩ := pos (show 0 < k by omega)
    obtain ⟨k, rfl, hk'''⟩ := pos (show 0 < k by omega)
    simp only [text_Fields.l0]
    rw [if_pos (by omega), if_neg (by omega)]
    have e0 : pieces s c 0 a i = [s.extract a i] := rfl
    rw [e0]
    simp only [text_Fields.j1, Bool.false_eq_true, if_false]
    by_cases hm : (out.length : Int) ≥ most
    · rw [if_pos hm, if_neg (by simp; omega)]
    · rw [if_neg hm, if_pos (by omega), if_pos (by omega), if_pos (by omega), if_pos (by omega)]
      rw [w1 (by omega) (by omega)]
      simp only [text_Fields.l0]
      rw [if_neg (by omega), if_pos (by simp; omega)]
      simp
  | succ d ih =>
    intro k a i out hd ha ho hk
    obtain ⟨k, rfl, hk'⟩ := pos (show 0 < k by omega)
    obtain ⟨k, rfl, hk''⟩ := pos (show 0 < k by omega)
    simp only [text_Fields.l0]
    rw [if_pos (by omega), if_pos (by omega), if_pos (by omega)]
    simp only [text_Fields.j1]
    have e1 : ((i : Int) + 1) = ((i + 1 : Nat) : Int) := by omega
    by_cases hb : bt s i = c
    · have b1 : (bt s i != c) = false := by simp [hb]
      rw [b1]
      have e0 : pieces s c (d + 1) a i = s.extract a i :: pieces s c d (i + 1) (i + 1) := by simp only [pieces, if_pos hb]
      rw [e0]
      simp only [Bool.false_eq_true, if_false]
      have hp := pieces_pos s c d (i + 1) (i + 1)
      by_cases hm : (out.length : Int) ≥ most
      · rw [if_pos hm, if_neg (by simp; omega)]
      · rw [if_neg hm, if_pos (by omega), if_pos (by omega), if_pos (by omega), if_pos (by omega)]
        rw [w1 (by omega) (by omega), e1, ih k (i + 1) (i + 1) _ (by omega) (by omega) (by simp; omega) (by omega)]
        simp [Nat.add_assoc, Nat.add_comm]
    · have b1 : (bt s i != c) = true := by simp [hb]
      rw [b1]
      have e0 : pieces s c (d + 1) a i = pieces s c d a (i + 1) := by simp only [pieces, if_neg hb]
      rw [e0]
      simp only [if_true]
      rw [w1 (by omega) (by omega), e1, ih k a (i + 1) _ (by omega) (by omega) (by omega) (by omega)]

/-- What text.Fields answers. -/
def fieldsR (s : ByteArray) (c most : Int) : List ByteArray × Bool := if ((pieces s c s.size 0 0).length : Int) ≤ most then (pieces s c s.size 0 0, true) else ([], false)
theorem fields_f (s : ByteArray) (hs : s.size ≤ 300) (c most : Int) (k : Nat) (hk : 700 ≤ k) : text_Fields.f k s c most = some (fieldsR s c most) := by
  unfold text_Fields.f fieldsR
  have := fields_l0 s hs c most s.size k 0 0 [] (by omega) (by omega) (by simp) (by omega)
  simpa using this

end Go.Proofs.YtmfccnkjnkmgiaaDoor.Pure
