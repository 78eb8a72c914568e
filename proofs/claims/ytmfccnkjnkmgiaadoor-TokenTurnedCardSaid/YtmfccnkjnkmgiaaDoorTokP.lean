/- Which text is a token's, in lists alone; what text.Fields, text.ReadDec answer, as facts. No condition but lengths up to 300. -/
import Derived.Test.YtmfccnkjnkmgiaaDoorTok
import Derived.Test.YtmfccnkjnkmgiaaDoorGi
namespace Go.Proofs.YtmfccnkjnkmgiaaDoor
open Go.RowKit Go.Proofs.YtmfccnkjnkmgiaaDoor.Pure
open Go.Proofs.YtmfccnkjnkmgiaaDoorW.PrintWords (bt)

/-- The pieces of a list, cut at 46. -/
def splitL : List Int → List (List Int)
  | [] => [[]]
  | x :: r => if x = 46 then [] :: splitL r else match splitL r with
    | [] => [[x]]
    | h :: t => (x :: h) :: t
theorem splitL_cons (l : List Int) : ∃ h t, splitL l = h :: t := by
  cases l with
  | nil => exact ⟨_, _, rfl⟩
  | cons x r =>
    simp only [splitL]
    split
    · exact ⟨_, _, rfl⟩
    · split <;> exact ⟨_, _, rfl⟩
theorem splitL_free (a r : List Int) (h : 46 ∉ a) : splitL (a ++ 46 :: r) = a :: splitL r := by
  induction a with
  | nil => simp [splitL]
  | cons x a ih =>
    have hx : x ≠ 46 := fun e => h (by simp [e])
    have := ih (fun e => h (by simp [e]))
    simp only [List.cons_append, splitL, if_neg hx, this]
theorem splitL_one (a : List Int) (h : 46 ∉ a) : splitL a = [a] := by
  induction a with
  | nil => rfl
  | cons x a ih =>
    have hx : x ≠ 46 := fun e => h (by simp [e])
    have := ih (fun e => h (by simp [e]))
    simp only [splitL, if_neg hx, this]
theorem splitL_out (l : List Int) : ∀ a t, splitL l = a :: t → 46 ∉ a ∧ ((t = [] ∧ l = a) ∨ ∃ r, l = a ++ 46 :: r ∧ t = splitL r) := by
  induction l with
  | nil => intro a t h; simp only [splitL, List.cons.injEq] at h; obtain ⟨rfl, rfl⟩ := h; exact ⟨by simp, .inl ⟨rfl, rfl⟩⟩
  | cons x r ih =>
    intro a t h
    simp only [splitL] at h
    by_cases hx : x = 46
    · rw [if_pos hx] at h
      simp only [List.cons.injEq] at h
      obtain ⟨rfl, rfl⟩ := h
      exact ⟨by simp, .inr ⟨r, by rw [hx]; rfl, rfl⟩⟩
    · rw [if_neg hx] at h
      obtain ⟨h0, t0, e⟩ := splitL_cons r
      rw [e] at h
      simp only [List.cons.injEq] at h
      obtain ⟨rfl, rfl⟩ := h
      obtain ⟨i1, i2⟩ := ih _ _ e
      refine ⟨by simp [i1, Ne.symm hx], ?_⟩
      rcases i2 with ⟨rfl, rfl⟩ | ⟨q, rfl, rfl⟩
      · exact .inl ⟨rfl, rfl⟩
      · exact .inr ⟨q, rfl, rfl⟩
theorem splitL_three (l a b c : List Int) : splitL l = [a, b, c] ↔ l = a ++ 46 :: (b ++ 46 :: c) ∧ 46 ∉ a ∧ 46 ∉ b ∧ 46 ∉ c := by
  constructor
  · intro h
    obtain ⟨h1, h2⟩ := splitL_out _ _ _ h
    rcases h2 with ⟨h2, _⟩ | ⟨r, rfl, h2⟩
    · cases h2
    · obtain ⟨h3, h4⟩ := splitL_out _ _ _ h2.symm
      rcases h4 with ⟨h4, _⟩ | ⟨q, rfl, h4⟩
      · cases h4
      · obtain ⟨h5, h6⟩ := splitL_out _ _ _ h4.symm
        rcases h6 with ⟨_, rfl⟩ | ⟨p, _, h6⟩
        · exact ⟨rfl, h1, h3, h5⟩
        · obtain ⟨x, y, e⟩ := splitL_cons p
          rw [e] at h6; cases h6
  · rintro ⟨rfl, h1, h2, h3⟩
    rw [splitL_free _ _ h1, splitL_free _ _ h2, splitL_one _ h3]

theorem strL_data (s : ByteArray) : strL s = s.data.toList.map fun b => (b.toNat : Int) := rfl
theorem strL_ext (s : ByteArray) (a b : Nat) : strL (s.extract a b) = ((strL s).drop a).take (b - a) := by
  rw [strL_data, Lib.extract_data s a b, List.map_take, List.map_drop]; rfl
theorem strL_app (a b : ByteArray) : strL (a ++ b) = strL a ++ strL b := by
  rw [strL_data, ByteArray.data_append, Array.toList_append, List.map_append]; rfl
theorem strL_inj (a b : ByteArray) (h : strL a = strL b) : a = b := by
  apply ByteArray.ext
  apply Array.ext'
  have hinj : ∀ x y : List UInt8, x.map (fun b => (b.toNat : Int)) = y.map (fun b => (b.toNat : Int)) → x = y := by
    intro x
    induction x with
    | nil => intro y h; cases y with
      | nil => rfl
      | cons _ _ => cases h
    | cons u x ih => intro y h; cases y with
      | nil => cases h
      | cons v y =>
        simp only [List.map_cons, List.cons.injEq] at h
        have hu : u = v := UInt8.toNat_inj.1 (by omega)
        rw [ih y h.2, hu]
  exact hinj _ _ h
theorem strL_nums (l : List Int) (h : ∀ x ∈ l, 0 ≤ x ∧ x < 256) : strL (strOfNums l) = l := by
  rw [strL_data, strOfNums_data, List.map_map]
  conv => rhs; rw [← List.map_id l]
  apply List.map_congr_left
  intro x hx
  have := h x hx
  simp only [Function.comp, id, UInt8.toNat_ofNat']
  omega
theorem bt_strL (s : ByteArray) (i : Nat) (h : i < s.size) : (strL s)[i]? = some (bt s (i : Int)) := by
  rw [strL_data, List.getElem?_map, List.getElem?_eq_getElem (by rw [Array.length_toList]; exact h)]
  unfold bt
  simp only [Int.toNat_natCast]
  rw [dif_pos h, Array.getElem_toList]; rfl
theorem pieces_map (s : ByteArray) (d : Nat) : ∀ a i, i + d = s.size → a ≤ i → ∃ h t, splitL ((strL s).drop i) = h :: t ∧ (pieces s 46 d a i).map strL = (strL (s.extract a i) ++ h) :: t := by
  induction d with
  | zero =>
    intro a i hd ha
    refine ⟨[], [], ?_, ?_⟩
    · rw [List.drop_of_length_le (by rw [strL_len]; omega)]; rfl
    · simp [pieces]
  | succ d ih =>
    intro a i hd ha
    have hi : i < (strL s).length := by rw [strL_len]; omega
    have hb := bt_strL s i (by omega)
    rw [List.getElem?_eq_getElem hi] at hb
    injection hb with hb
    have hdr : (strL s).drop i = bt s i :: (strL s).drop (i + 1) := by rw [List.drop_eq_getElem_cons hi, hb]
    simp only [pieces]
    by_cases hx : bt s i = 46
    · obtain ⟨h, t, e1, e2⟩ := ih (i + 1) (i + 1) (by omega) (by omega)
      refine ⟨[], h :: t, ?_, ?_⟩
      · rw [hdr]; simp only [splitL, if_pos hx, e1]
      · rw [if_pos hx, List.map_cons, e2, strL_ext s (i + 1) (i + 1)]; simp
    · obtain ⟨h, t, e1, e2⟩ := ih a (i + 1) (by omega) (by omega)
      refine ⟨bt s i :: h, t, ?_, ?_⟩
      · rw [hdr]; simp only [splitL, if_neg hx, e1]
      · rw [if_neg hx, e2, strL_ext, strL_ext]
        have : ((strL s).drop a).take (i + 1 - a) = ((strL s).drop a).take (i - a) ++ [bt s i] := by
          rw [show i + 1 - a = (i - a) + 1 by omega, List.take_add_one, List.getElem?_drop, show a + (i - a) = i by omega, List.getElem?_eq_getElem hi, hb]; rfl
        rw [this]; simp
theorem pieces_split (s : ByteArray) : (pieces s 46 s.size 0 0).map strL = splitL (strL s) := by
  obtain ⟨h, t, e1, e2⟩ := pieces_map s s.size 0 0 (by omega) (by omega)
  rw [List.drop_zero] at e1
  rw [e1, e2, strL_ext]; simp

/-- What text.ReadDec answers. -/
def rdR (s : ByteArray) : Int × Bool := if (lst s s.size 0).all digB = true ∧ accV 0 (lst s s.size 0) ≤ 9223372036854775807 then fin s (accV 0 (lst s s.size 0)) else (0, false)
theorem rdR_back (s : ByteArray) (h : (rdR s).2 = true) : 0 ≤ (rdR s).1 ∧ (rdR s).1 ≤ 9223372036854775807 ∧ decB (rdR s).1 = s := by
  unfold rdR at h ⊢
  split
  · rename_i h1
    rw [if_pos h1] at h
    have hm := accV_mono _ h1.1 0 (Int.le_refl _)
    unfold fin at h ⊢
    split
    · rename_i h2; rw [if_pos h2] at h; cases h
    · rename_i h2
      rw [if_neg h2] at h
      split
      · rename_i he
        refine ⟨hm, h1.2, strL_inj _ _ ?_⟩
        have : (strOfNums (decS (accV 0 (lst s s.size 0)))).toList = s.toList := by rw [Lib.strOfNums_toList]; exact he
        unfold decB
        rw [strL_data, strL_data, ← toList_data, ← toList_data, this]
      · rename_i he; rw [if_neg he] at h; cases h
  · rename_i h1; rw [if_neg h1] at h; cases h
theorem rdR_dec (n : Int) (h0 : 0 ≤ n) (h2 : n ≤ 9223372036854775807) : rdR (decB n) = (n, true) := by
  have h1 := readdec_dec n (by omega) h2
  rw [if_pos h0, readdec_f _ (by rw [strOfNums_size]; have := (decS_bytes n (by omega) h2).2; omega)] at h1
  exact Option.some.inj h1

/-- A text cut into a name, a time and a sum. -/
def readF (s : ByteArray) : Option (ByteArray × Int × List Int) :=
  match pieces s 46 s.size 0 0 with
  | [a, b, c] => if nameB a = true ∧ c.size = 64 ∧ (rdR b).2 = true ∧ (rdR b).1 ≤ 1099511627776 ∧ (unhexR c).2 = true then some (a, (rdR b).1, (unhexR c).1) else none
  | _ => none

end Go.Proofs.YtmfccnkjnkmgiaaDoor
