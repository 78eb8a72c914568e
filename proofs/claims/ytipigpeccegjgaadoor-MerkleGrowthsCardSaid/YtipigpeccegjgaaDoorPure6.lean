/- The way down to a place of a list and up again, growths: in plain Lean. No condition. -/
import Derived.Test.YtipigpeccegjgaaDoorPath
namespace Go.Proofs.YtipigpeccegjgaaDoor
open Go.RowKit

theorem kF_pow (n : Nat) (h : 2 ≤ n) : ∃ a, kF n = 2 ^ a ∧ 2 ^ a < n ∧ n ≤ 2 * 2 ^ a := by
  obtain ⟨a, h1, h2, h3⟩ := splitF_spec n (by omega)
  refine ⟨a, ?_, by omega, by omega⟩
  unfold kF; rw [h1]; omega
theorem kF_eq (n a : Nat) (h1 : 2 ^ a < n) (h2 : n ≤ 2 * 2 ^ a) : kF n = 2 ^ a := by
  unfold kF
  rw [splitF_eq n a (by omega) (by omega)]; omega

/-- The way down to a place: of each step whether it goes to the others. -/
def stepsF (n : Nat) (i : Int) : List Bool :=
  if _h : n < 2 then [] else if i < kF n then false :: stepsF (kF n) i else true :: stepsF (n - kF n) (i - kF n)
termination_by n
decreasing_by
  all_goals
    have := kF_spec n (by omega)
    omega
theorem stepsF_small (n : Nat) (i : Int) (h : n < 2) : stepsF n i = [] := by rw [stepsF, dif_pos h]
theorem stepsF_left (n : Nat) (i : Int) (h : 2 ≤ n) (hi : i < kF n) : stepsF n i = false :: stepsF (kF n) i := by rw [stepsF, dif_neg (by omega), if_pos hi]
theorem stepsF_right (n : Nat) (i : Int) (h : 2 ≤ n) (hi : ¬ i < kF n) : stepsF n i = true :: stepsF (n - kF n) (i - kF n) := by rw [stepsF, dif_neg (by omega), if_neg hi]
theorem stepsF_len (d : Nat) : ∀ (n : Nat) (i : Int), n ≤ 2 ^ d → (stepsF n i).length ≤ d := by
  induction d with
  | zero => intro n i h; rw [stepsF_small n i (by simp at h; omega)]; exact Nat.le_refl _
  | succ d ih =>
    intro n i h
    by_cases hn : n < 2
    · rw [stepsF_small n i hn]; simp
    · obtain ⟨a, h1, h2, h3⟩ := kF_pow n (by omega)
      have ha : a < d + 1 := (Nat.pow_lt_pow_iff_right (by decide : 1 < 2)).1 (Nat.lt_of_lt_of_le h2 h)
      have hk : kF n ≤ 2 ^ d := by rw [h1]; exact Nat.pow_le_pow_right (by decide) (by omega)
      by_cases hi : i < kF n
      · rw [stepsF_left n i (by omega) hi, List.length_cons]
        have := ih (kF n) i hk; omega
      · rw [stepsF_right n i (by omega) hi, List.length_cons]
        have := ih (n - kF n) (i - kF n) (by omega); omega

def nodeS (w : Int) (d : List Int) (x : Bool × List Int) : List Int := if x.1 then nodeF x.2 d w else nodeF d x.2 w
/-- Up again. -/
def upF (leaf : List Int) (s : List Bool) (p : List (List Int)) (w : Int) : List Int := (s.zip p).foldl (nodeS w) leaf
theorem upF_nil (leaf : List Int) (w : Int) : upF leaf [] [] w = leaf := rfl
theorem upF_one (leaf : List Int) (s : List Bool) (p : List (List Int)) (w : Int) (b : Bool) (q : List Int) (h : s.length = p.length) : upF leaf (s ++ [b]) (p ++ [q]) w = nodeS w (upF leaf s p w) (b, q) := by
  unfold upF
  rw [List.zip_append h, List.foldl_append]; rfl
theorem nodeS_ok (w : Int) (d : List Int) (x : Bool × List Int) : (nodeS w d x).length = 32 ∧ U8 (nodeS w d x) := by
  unfold nodeS
  split
  · exact ⟨nodeF_len _ _ _, nodeF_range _ _ _⟩
  · exact ⟨nodeF_len _ _ _, nodeF_range _ _ _⟩
theorem upF_ok (s : List Bool) (p : List (List Int)) (w : Int) : ∀ (leaf : List Int), leaf.length = 32 ∧ U8 leaf → (upF leaf s p w).length = 32 ∧ U8 (upF leaf s p w) := by
  unfold upF
  generalize s.zip p = l
  induction l with
  | nil => intro leaf h; exact h
  | cons x l ih => intro leaf h; rw [List.foldl_cons]; exact ih _ (nodeS_ok w leaf x)

theorem path_shown (n : Nat) : ∀ (ds : List (List Int)) (i : Nat) (w : Int), ds.length = n → i < n →
    (pathF ds i w).length = (stepsF n i).length ∧ upF (ds.getD i []) (stepsF n i).reverse (pathF ds i w) w = rootF ds w := by
  induction n using Nat.strongRecOn with
  | ind n ih =>
    intro ds i w hn hi
    subst hn
    by_cases h : 2 ≤ ds.length
    · have hk := kF_spec ds.length h
      have l1 : (ds.take (kF ds.length)).length = kF ds.length := by rw [List.length_take]; omega
      have l2 : (ds.drop (kF ds.length)).length = ds.length - kF ds.length := by rw [List.length_drop]
      by_cases hik : (i : Int) < kF ds.length
      · obtain ⟨h1, h2⟩ := ih (kF ds.length) (by omega) (ds.take (kF ds.length)) i w l1 (by omega)
        rw [pathF_left ds i w h hik, stepsF_left _ _ h hik, List.reverse_cons, rootF_big ds w h]
        refine ⟨by simp [h1], ?_⟩
        rw [upF_one _ _ _ _ _ _ (by simp [h1])]
        have e : ds.getD i [] = (ds.take (kF ds.length)).getD i [] := by
          rw [List.getD_eq_getElem?_getD, List.getD_eq_getElem?_getD, List.getElem?_take_of_lt (by omega)]
        rw [e, h2]; rfl
      · obtain ⟨h1, h2⟩ := ih (ds.length - kF ds.length) (by omega) (ds.drop (kF ds.length)) (i - kF ds.length) w l2 (by omega)
        rw [show ((i - kF ds.length : Nat) : Int) = (i : Int) - kF ds.length by omega] at h1 h2
        rw [pathF_right ds i w h hik, stepsF_right _ _ h hik, List.reverse_cons, rootF_big ds w h]
        refine ⟨by simp [h1], ?_⟩
        rw [upF_one _ _ _ _ _ _ (by simp [h1])]
        have e : ds.getD i [] = (ds.drop (kF ds.length)).getD (i - kF ds.length) [] := by
          rw [List.getD_eq_getElem?_getD, List.getD_eq_getElem?_getD, List.getElem?_drop, show kF ds.length + (i - kF ds.length) = i by omega]
        rw [e, h2]; rfl
    · match ds, h, hi with
      | [d], _, hi =>
        have : i = 0 := by simpa using hi
        subst this
        rw [pathF_small [d] _ w (by simp), stepsF_small _ _ (by simp), rootF_one]
        exact ⟨rfl, rfl⟩
      | [], _, hi => simp at hi
      | _ :: _ :: _, h, _ => simp at h

/-- The way down to where a first list of m ends. -/
def gstepsF (m n : Nat) : List Bool :=
  if _h : n ≤ m ∨ n < 2 then [] else if m ≤ kF n then false :: gstepsF m (kF n) else true :: gstepsF (m - kF n) (n - kF n)
termination_by n
decreasing_by
  all_goals
    have := kF_spec n (by omega)
    omega
theorem gstepsF_small (m n : Nat) (h : n ≤ m ∨ n < 2) : gstepsF m n = [] := by rw [gstepsF, dif_pos h]
theorem gstepsF_left (m n : Nat) (h : ¬ (n ≤ m ∨ n < 2)) (hi : m ≤ kF n) : gstepsF m n = false :: gstepsF m (kF n) := by rw [gstepsF, dif_neg h, if_pos hi]
theorem gstepsF_right (m n : Nat) (h : ¬ (n ≤ m ∨ n < 2)) (hi : ¬ m ≤ kF n) : gstepsF m n = true :: gstepsF (m - kF n) (n - kF n) := by rw [gstepsF, dif_neg h, if_neg hi]
theorem gstepsF_len (d : Nat) : ∀ (m n : Nat), n ≤ 2 ^ d → (gstepsF m n).length ≤ d := by
  induction d with
  | zero => intro m n h; rw [gstepsF_small m n (by simp at h; omega)]; exact Nat.le_refl _
  | succ d ih =>
    intro m n h
    by_cases hn : n ≤ m ∨ n < 2
    · rw [gstepsF_small m n hn]; simp
    · obtain ⟨a, h1, h2, h3⟩ := kF_pow n (by omega)
      have ha : a < d + 1 := (Nat.pow_lt_pow_iff_right (by decide : 1 < 2)).1 (Nat.lt_of_lt_of_le h2 h)
      have hk : kF n ≤ 2 ^ d := by rw [h1]; exact Nat.pow_le_pow_right (by decide) (by omega)
      by_cases hi : m ≤ kF n
      · rw [gstepsF_left m n hn hi, List.length_cons]
        have := ih m (kF n) hk; omega
      · rw [gstepsF_right m n hn hi, List.length_cons]
        have := ih (m - kF n) (n - kF n) (by omega); omega

def growthF (ds : List (List Int)) (m : Nat) (w : Int) (whole : Bool) : List (List Int) :=
  if _h : ds.length ≤ m ∨ ds.length < 2 then (if whole then [] else [rootF ds w])
  else if m ≤ kF ds.length then growthF (ds.take (kF ds.length)) m w whole ++ [rootF (ds.drop (kF ds.length)) w]
  else growthF (ds.drop (kF ds.length)) (m - kF ds.length) w false ++ [rootF (ds.take (kF ds.length)) w]
termination_by ds.length
decreasing_by
  all_goals
    have := kF_spec ds.length (by omega)
    simp only [List.length_take, List.length_drop]
    omega
theorem growthF_small (ds : List (List Int)) (m : Nat) (w : Int) (whole : Bool) (h : ds.length ≤ m ∨ ds.length < 2) : growthF ds m w whole = if whole then [] else [rootF ds w] := by rw [growthF, dif_pos h]
theorem growthF_left (ds : List (List Int)) (m : Nat) (w : Int) (whole : Bool) (h : ¬ (ds.length ≤ m ∨ ds.length < 2)) (hi : m ≤ kF ds.length) : growthF ds m w whole = growthF (ds.take (kF ds.length)) m w whole ++ [rootF (ds.drop (kF ds.length)) w] := by
  rw [growthF, dif_neg h, if_pos hi]
theorem growthF_right (ds : List (List Int)) (m : Nat) (w : Int) (whole : Bool) (h : ¬ (ds.length ≤ m ∨ ds.length < 2)) (hi : ¬ m ≤ kF ds.length) : growthF ds m w whole = growthF (ds.drop (kF ds.length)) (m - kF ds.length) w false ++ [rootF (ds.take (kF ds.length)) w] := by
  rw [growthF, dif_neg h, if_neg hi]
theorem growthF_ok (n : Nat) : ∀ (ds : List (List Int)) (m : Nat) (w : Int) (whole : Bool), ds.length = n → Dgs ds → Dgs (growthF ds m w whole) ∧ (growthF ds m w whole).length ≤ ds.length + 1 := by
  induction n using Nat.strongRecOn with
  | ind n ih =>
    intro ds m w whole hn hu
    subst hn
    by_cases h : ds.length ≤ m ∨ ds.length < 2
    · rw [growthF_small ds m w whole h]
      split
      · exact ⟨Dgs.nil, Nat.zero_le _⟩
      · have r := rootF_ok ds w hu
        exact ⟨Dgs.one r.1 r.2, by simp⟩
    · have hk := kF_spec ds.length (by omega)
      have r1 := rootF_ok (ds.take (kF ds.length)) w (hu.take _)
      have r2 := rootF_ok (ds.drop (kF ds.length)) w (hu.drop _)
      have l1 : (ds.take (kF ds.length)).length = kF ds.length := by rw [List.length_take]; omega
      have l2 : (ds.drop (kF ds.length)).length = ds.length - kF ds.length := by rw [List.length_drop]
      by_cases hi : m ≤ kF ds.length
      · have h1 := ih (kF ds.length) (by omega) (ds.take (kF ds.length)) m w whole l1 (hu.take _)
        rw [growthF_left ds m w whole h hi]
        exact ⟨h1.1.append (Dgs.one r2.1 r2.2), by rw [List.length_append, List.length_singleton]; omega⟩
      · have h1 := ih (ds.length - kF ds.length) (by omega) (ds.drop (kF ds.length)) (m - kF ds.length) w false l2 (hu.drop _)
        rw [growthF_right ds m w whole h hi]
        exact ⟨h1.1.append (Dgs.one r1.1 r1.2), by rw [List.length_append, List.length_singleton]; omega⟩

def nodeP (w : Int) (d : List Int × List Int) (x : Bool × List Int) : List Int × List Int := if x.1 then (nodeF x.2 d.1 w, nodeF x.2 d.2 w) else (d.1, nodeF d.2 x.2 w)
/-- Whether the first list is a whole piece of it, down this way. -/
def wholeF (whole : Bool) (s : List Bool) : Bool := whole && !s.any id
theorem wholeF_cons (whole : Bool) (b : Bool) (s : List Bool) : wholeF whole (b :: s) = wholeF (whole && !b) s := by
  unfold wholeF; cases whole <;> cases b <;> simp
/-- How many digests a growth has. -/
def needF (whole : Bool) (s : List Bool) : Nat := s.length + (if wholeF whole s then 0 else 1)
theorem needF_cons (whole : Bool) (b : Bool) (s : List Bool) : needF whole (b :: s) = needF (whole && !b) s + 1 := by
  unfold needF; rw [wholeF_cons, List.length_cons]; omega
/-- The two roots that a growth leads to. -/
def bothF (old : List Int) (s : List Bool) (whole : Bool) (p : List (List Int)) (w : Int) : List Int × List Int :=
  if wholeF whole s then (s.reverse.zip p).foldl (nodeP w) (old, old)
  else (s.reverse.zip (p.drop 1)).foldl (nodeP w) (p.headD [], p.headD [])
theorem bothF_one (old : List Int) (b : Bool) (s : List Bool) (whole : Bool) (p : List (List Int)) (q : List Int) (w : Int) (h : p.length = needF (whole && !b) s) :
    bothF old (b :: s) whole (p ++ [q]) w = nodeP w (bothF old s (whole && !b) p w) (b, q) := by
  unfold bothF
  rw [wholeF_cons]
  unfold needF at h
  split
  · rename_i hw
    rw [if_pos hw] at h
    rw [List.reverse_cons, List.zip_append (by simp; omega), List.foldl_append]; rfl
  · rename_i hw
    rw [if_neg hw] at h
    match p, h with
    | [], h => simp at h
    | p0 :: p, h =>
      simp only [List.cons_append, List.drop_succ_cons, List.drop_zero, List.headD_cons]
      rw [List.reverse_cons, List.zip_append (by simp at h ⊢; omega), List.foldl_append]; rfl

theorem growth_shown (n : Nat) : ∀ (ds : List (List Int)) (m : Nat) (w : Int) (whole : Bool) (old : List Int), ds.length = n → 1 ≤ m → m ≤ n → (wholeF whole (gstepsF m n) = true → old = rootF (ds.take m) w) →
    (growthF ds m w whole).length = needF whole (gstepsF m n) ∧ bothF old (gstepsF m n) whole (growthF ds m w whole) w = (rootF (ds.take m) w, rootF ds w) := by
  induction n using Nat.strongRecOn with
  | ind n ih =>
    intro ds m w whole old hn hm1 hm ho
    subst hn
    by_cases h : ds.length ≤ m ∨ ds.length < 2
    · have e : m = ds.length := by omega
      rw [growthF_small ds m w whole h]
      rw [gstepsF_small m _ h] at ho ⊢
      rw [e, List.take_length] at ho ⊢
      unfold needF bothF
      cases whole
      · exact ⟨rfl, rfl⟩
      · have := ho rfl
        subst this
        exact ⟨rfl, rfl⟩
    · have hk := kF_spec ds.length (by omega)
      have l1 : (ds.take (kF ds.length)).length = kF ds.length := by rw [List.length_take]; omega
      have l2 : (ds.drop (kF ds.length)).length = ds.length - kF ds.length := by rw [List.length_drop]
      by_cases hi : m ≤ kF ds.length
      · rw [gstepsF_left m _ h hi] at ho ⊢
        rw [wholeF_cons, Bool.not_false, Bool.and_true] at ho
        have et : (ds.take (kF ds.length)).take m = ds.take m := by rw [List.take_take, Nat.min_eq_left hi]
        obtain ⟨h1, h2⟩ := ih (kF ds.length) (by omega) (ds.take (kF ds.length)) m w whole old l1 hm1 hi (by rw [et]; exact ho)
        rw [growthF_left ds m w whole h hi, needF_cons, Bool.not_false, Bool.and_true]
        refine ⟨by rw [List.length_append, h1]; rfl, ?_⟩
        rw [bothF_one _ _ _ _ _ _ _ (by rw [Bool.not_false, Bool.and_true]; exact h1), Bool.not_false, Bool.and_true, h2, et, rootF_big ds w (by omega)]
        rfl
      · rw [gstepsF_right m _ h hi] at ho ⊢
        obtain ⟨a, a1, a2, a3⟩ := kF_pow ds.length (by omega)
        have km : kF m = kF ds.length := by rw [a1]; exact kF_eq m a (by omega) (by omega)
        obtain ⟨h1, h2⟩ := ih (ds.length - kF ds.length) (by omega) (ds.drop (kF ds.length)) (m - kF ds.length) w false old l2 (by omega) (by omega) (fun h => by simp [wholeF] at h)
        rw [growthF_right ds m w whole h hi, needF_cons, Bool.not_true, Bool.and_false]
        refine ⟨by rw [List.length_append, h1]; rfl, ?_⟩
        rw [bothF_one _ _ _ _ _ _ _ (by rw [Bool.not_true, Bool.and_false]; exact h1), Bool.not_true, Bool.and_false, h2, rootF_big ds w (by omega), rootF_big (ds.take m) w (by rw [List.length_take]; omega)]
        have em : (ds.take m).length = m := by rw [List.length_take]; omega
        rw [em, km, List.take_take, Nat.min_eq_left (by omega), List.drop_take]
        rfl
end Go.Proofs.YtipigpeccegjgaaDoor
