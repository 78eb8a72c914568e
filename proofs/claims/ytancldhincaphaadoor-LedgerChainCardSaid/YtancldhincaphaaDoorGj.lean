/- The path of a place of a list, in plain Lean; buildSlice of a digest. No condition. The way down to a place of a list and up again, growths: in plain Lean. No condition. What merkle.climb and merkle.CheckPath answer. Condition: the table of layer 2 reads as its text lays it. -/
import Derived.Test.YtancldhincaphaaDoorGh
import Derived.Test.YtancldhincaphaaDoorGi
import Derived.Great.BuildSlice
namespace Go.Proofs.YtancldhincaphaaDoor
set_option maxRecDepth 100000
section Path
open Go.RowKit

def pathF (ds : List (List Int)) (i : Int) (w : Int) : List (List Int) :=
  if _h : ds.length < 2 then []
  else if i < kF ds.length then pathF (ds.take (kF ds.length)) i w ++ [rootF (ds.drop (kF ds.length)) w]
  else pathF (ds.drop (kF ds.length)) (i - kF ds.length) w ++ [rootF (ds.take (kF ds.length)) w]
termination_by ds.length
decreasing_by
  all_goals
    have := kF_spec ds.length (by omega)
    simp only [List.length_take, List.length_drop]
    omega
theorem pathF_small (ds : List (List Int)) (i w : Int) (h : ds.length < 2) : pathF ds i w = [] := by rw [pathF, dif_pos h]
theorem pathF_left (ds : List (List Int)) (i w : Int) (h : 2 ≤ ds.length) (hi : i < kF ds.length) : pathF ds i w = pathF (ds.take (kF ds.length)) i w ++ [rootF (ds.drop (kF ds.length)) w] := by
  rw [pathF, dif_neg (by omega), if_pos hi]
theorem pathF_right (ds : List (List Int)) (i w : Int) (h : 2 ≤ ds.length) (hi : ¬ i < kF ds.length) : pathF ds i w = pathF (ds.drop (kF ds.length)) (i - kF ds.length) w ++ [rootF (ds.take (kF ds.length)) w] := by
  rw [pathF, dif_neg (by omega), if_neg hi]

theorem fold_zip (l : List Value) : ∀ (k : Nat) (cs : Array Value) (pre mid : List Value), cs.toList = pre ++ mid → pre.length = k → mid.length = l.length →
    ((l.zipIdx k).foldl (fun (cs : Array Value) (x : Value × Nat) => cs.setIfInBounds x.2 x.1) cs).toList = pre ++ l := by
  induction l with
  | nil => intro k cs pre mid h1 h2 h3; simp [List.eq_nil_of_length_eq_zero h3] at h1 ⊢; exact h1
  | cons v l ih =>
    intro k cs pre mid h1 h2 h3
    cases mid with
    | nil => cases h3
    | cons m mid =>
      rw [List.zipIdx_cons, List.foldl_cons]
      have := ih (k + 1) (cs.setIfInBounds k v) (pre ++ [v]) mid (by rw [Array.toList_setIfInBounds, h1, List.set_append_right _ _ (by omega), h2, Nat.sub_self, List.set_cons_zero]; simp) (by simp [h2]) (by simpa using h3)
      rw [this]; simp
theorem fill_one (cs : List Value) (z : Array Value) (hz : z.size = 32) (hc : cs.length = 32) : Instr.fill (fun i => some (i * 32, 32)) z [(0, .agg cs.toArray)] = some cs.toArray := by
  have h := fold_zip cs 0 z [] z.toList rfl rfl (by simp [hz, hc])
  have h2 : (cs.toArray.zipIdx.foldl (fun (a : Array Value) (x : Value × Nat) => a.setIfInBounds (0 + x.2) x.1) z) = cs.toArray := by
    apply Array.ext'
    simp only [Nat.zero_add]
    rw [← Array.foldl_toList]
    simpa using h
  simp [Instr.fill, Value.cells, hc, hz]
  simpa using h2

/-- []Digest{d}. -/
theorem st_buildD {ops : Array Oper} {rest : List Oper} {a : Act} {w : World} {Q : Exit → Act → World → Prop} {d' : Option Tmp} {tt : TypeId} {x : Operand} {pos : String} {after : Array Edge} {d : List Int}
    (hx : a.eval x = .agg (nums .u8 d).toArray) (hd : d.length = 32)
    (h : wpList Tryd.prog ops Q rest (a.put d' (.slice (some ⟨w.heap.size, 0, none⟩) 1 1)) (w.alloc (.cells (nums .u8 d).toArray 24))) :
    wpList Tryd.prog ops Q (⟨d', .buildSlice 66 1 #[(0, x)], tt, pos, after, none⟩ :: rest) a w := by
  obtain ⟨i0, hi, hz0, hz1, hz2⟩ := info_parts dinfo
  have hrun : (Instr.buildSlice 66 1 #[(0, .agg (nums .u8 d).toArray)]).run Tryd.prog w = .ok (.slice (some ⟨w.heap.size, 0, none⟩) 1 1) (w.alloc (.cells (nums .u8 d).toArray 24)) := by
    have hf := fill_one (nums .u8 d) ((Array.range 32).map fun j => (nums .u8 (List.replicate 32 0)).toArray[j % 32]!) (by simp) (by rw [nums_length, hd])
    have hzc : (Value.agg (nums .u8 (List.replicate 32 0)).toArray).cells = (nums .u8 (List.replicate 32 0)).toArray := rfl
    have hzs : (nums .u8 (List.replicate 32 0)).toArray.size = 32 := rfl
    have e1 : ¬ (1 * i0.size > 2 ^ 24) := by rw [hz1]; decide
    have e2 : ¬ (1 * i0.size = 0) := by rw [hz1]; decide
    have e3 : Instr.fill (fun i => some (i * i0.size, i0.size)) ((Array.range (1 * i0.size)).map ((Value.agg (nums .u8 (List.replicate 32 0)).toArray).cells[· % (Value.agg (nums .u8 (List.replicate 32 0)).toArray).cells.size]!)) (#[((0 : Nat), Value.agg (nums .u8 d).toArray)] : Array (Nat × Value)).toList = some (nums .u8 d).toArray := by
      rw [hz1]; exact hf
    exact run_buildSlice w _ _ 1 _ _ i0 _ Tryd.underlying66 hi hz0 e1 e2 e3
  refine wpList_plain rfl fun K hK => ?_
  unfold Oper.wp execOp
  simp only [Sem.run_bind]
  rw [show ((#[(0, x)] : Array (Nat × Operand)).map fun y => match y with | (i, x) => (i, a.eval x)) = #[(0, .agg (nums .u8 d).toArray)] by simp [hx], hrun]
  exact hK _ _ h
end Path
section Pure6
open Go.RowKit

theorem kF_pow (n : Nat) (h : 2 ≤ n) : ∃ a, kF n = 2 ^ a ∧ 2 ^ a < n ∧ n ≤ 2 * 2 ^ a := by
  obtain ⟨a, h1, h2, h3⟩ := splitF_spec n (by omega)
  refine ⟨a, ?_, by omega, by omega⟩
  unfold kF; rw [h1]; omega
theorem kF_eq (n a : Nat) (h1 : 2 ^ a < n) (h2 : n ≤ 2 * 2 ^ a) : kF n = 2 ^ a := by
  unfold kF
  rw [splitF_eq n a (by omega) (by omega)]; omega

/-- The way down to a place: of each step whether it goes to the others. -/
def stepsF (n : Nat) (i : Int) : List Bool :=
  if _h : n < 2 then [] else if i < kF n then false :: stepsF (kF n) i else true :: stepsF (n - kF n) (i - kF n)
termination_by n
decreasing_by
  all_goals
    have := kF_spec n (by omega)
    omega
theorem stepsF_small (n : Nat) (i : Int) (h : n < 2) : stepsF n i = [] := by rw [stepsF, dif_pos h]
theorem stepsF_left (n : Nat) (i : Int) (h : 2 ≤ n) (hi : i < kF n) : stepsF n i = false :: stepsF (kF n) i := by rw [stepsF, dif_neg (by omega), if_pos hi]
theorem stepsF_right (n : Nat) (i : Int) (h : 2 ≤ n) (hi : ¬ i < kF n) : stepsF n i = true :: stepsF (n - kF n) (i - kF n) := by rw [stepsF, dif_neg (by omega), if_neg hi]
theorem stepsF_len (d : Nat) : ∀ (n : Nat) (i : Int), n ≤ 2 ^ d → (stepsF n i).length ≤ d := by
  induction d with
  | zero => intro n i h; rw [stepsF_small n i (by simp at h; omega)]; exact Nat.le_refl _
  | succ d ih =>
    intro n i h
    by_cases hn : n < 2
    · rw [stepsF_small n i hn]; simp
    · obtain ⟨a, h1, h2, h3⟩ := kF_pow n (by omega)
      have ha : a < d + 1 := (Nat.pow_lt_pow_iff_right (by decide : 1 < 2)).1 (Nat.lt_of_lt_of_le h2 h)
      have hk : kF n ≤ 2 ^ d := by rw [h1]; exact Nat.pow_le_pow_right (by decide) (by omega)
      by_cases hi : i < kF n
      · rw [stepsF_left n i (by omega) hi, List.length_cons]
        have := ih (kF n) i hk; omega
      · rw [stepsF_right n i (by omega) hi, List.length_cons]
        have := ih (n - kF n) (i - kF n) (by omega); omega

def nodeS (w : Int) (d : List Int) (x : Bool × List Int) : List Int := if x.1 then nodeF x.2 d w else nodeF d x.2 w
/-- Up again. -/
def upF (leaf : List Int) (s : List Bool) (p : List (List Int)) (w : Int) : List Int := (s.zip p).foldl (nodeS w) leaf
theorem upF_nil (leaf : List Int) (w : Int) : upF leaf [] [] w = leaf := rfl
theorem upF_one (leaf : List Int) (s : List Bool) (p : List (List Int)) (w : Int) (b : Bool) (q : List Int) (h : s.length = p.length) : upF leaf (s ++ [b]) (p ++ [q]) w = nodeS w (upF leaf s p w) (b, q) := by
  unfold upF
  rw [List.zip_append h, List.foldl_append]; rfl
theorem nodeS_ok (w : Int) (d : List Int) (x : Bool × List Int) : (nodeS w d x).length = 32 ∧ U8 (nodeS w d x) := by
  unfold nodeS
  split
  · exact ⟨nodeF_len _ _ _, nodeF_range _ _ _⟩
  · exact ⟨nodeF_len _ _ _, nodeF_range _ _ _⟩
theorem upF_ok (s : List Bool) (p : List (List Int)) (w : Int) : ∀ (leaf : List Int), leaf.length = 32 ∧ U8 leaf → (upF leaf s p w).length = 32 ∧ U8 (upF leaf s p w) := by
  unfold upF
  generalize s.zip p = l
  induction l with
  | nil => intro leaf h; exact h
  | cons x l ih => intro leaf h; rw [List.foldl_cons]; exact ih _ (nodeS_ok w leaf x)

theorem path_shown (n : Nat) : ∀ (ds : List (List Int)) (i : Nat) (w : Int), ds.length = n → i < n →
    (pathF ds i w).length = (stepsF n i).length ∧ upF (ds.getD i []) (stepsF n i).reverse (pathF ds i w) w = rootF ds w := by
  induction n using Nat.strongRecOn with
  | ind n ih =>
    intro ds i w hn hi
    subst hn
    by_cases h : 2 ≤ ds.length
    · have hk := kF_spec ds.length h
      have l1 : (ds.take (kF ds.length)).length = kF ds.length := by rw [List.length_take]; omega
      have l2 : (ds.drop (kF ds.length)).length = ds.length - kF ds.length := by rw [List.length_drop]
      by_cases hik : (i : Int) < kF ds.length
      · obtain ⟨h1, h2⟩ := ih (kF ds.length) (by omega) (ds.take (kF ds.length)) i w l1 (by omega)
        rw [pathF_left ds i w h hik, stepsF_left _ _ h hik, List.reverse_cons, rootF_big ds w h]
        refine ⟨by simp [h1], ?_⟩
        rw [upF_one _ _ _ _ _ _ (by simp [h1])]
        have e : ds.getD i [] = (ds.take (kF ds.length)).getD i [] := by
          rw [List.getD_eq_getElem?_getD, List.getD_eq_getElem?_getD, List.getElem?_take_of_lt (by omega)]
        rw [e, h2]; rfl
      · obtain ⟨h1, h2⟩ := ih (ds.length - kF ds.length) (by omega) (ds.drop (kF ds.length)) (i - kF ds.length) w l2 (by omega)
        rw [show ((i - kF ds.length : Nat) : Int) = (i : Int) - kF ds.length by omega] at h1 h2
        rw [pathF_right ds i w h hik, stepsF_right _ _ h hik, List.reverse_cons, rootF_big ds w h]
        refine ⟨by simp [h1], ?_⟩
        rw [upF_one _ _ _ _ _ _ (by simp [h1])]
        have e : ds.getD i [] = (ds.drop (kF ds.length)).getD (i - kF ds.length) [] := by
          rw [List.getD_eq_getElem?_getD, List.getD_eq_getElem?_getD, List.getElem?_drop, show kF ds.length + (i - kF ds.length) = i by omega]
        rw [e, h2]; rfl
    · match ds, h, hi with
      | [d], _, hi =>
        have : i = 0 := by simpa using hi
        subst this
        rw [pathF_small [d] _ w (by simp), stepsF_small _ _ (by simp), rootF_one]
        exact ⟨rfl, rfl⟩
      | [], _, hi => simp at hi
      | _ :: _ :: _, h, _ => simp at h

/-- The way down to where a first list of m ends. -/
def gstepsF (m n : Nat) : List Bool :=
  if _h : n ≤ m ∨ n < 2 then [] else if m ≤ kF n then false :: gstepsF m (kF n) else true :: gstepsF (m - kF n) (n - kF n)
termination_by n
decreasing_by
  all_goals
    have := kF_spec n (by omega)
    omega
theorem gstepsF_small (m n : Nat) (h : n ≤ m ∨ n < 2) : gstepsF m n = [] := by rw [gstepsF, dif_pos h]
theorem gstepsF_left (m n : Nat) (h : ¬ (n ≤ m ∨ n < 2)) (hi : m ≤ kF n) : gstepsF m n = false :: gstepsF m (kF n) := by rw [gstepsF, dif_neg h, if_pos hi]
theorem gstepsF_right (m n : Nat) (h : ¬ (n ≤ m ∨ n < 2)) (hi : ¬ m ≤ kF n) : gstepsF m n = true :: gstepsF (m - kF n) (n - kF n) := by rw [gstepsF, dif_neg h, if_neg hi]
theorem gstepsF_len (d : Nat) : ∀ (m n : Nat), n ≤ 2 ^ d → (gstepsF m n).length ≤ d := by
  induction d with
  | zero => intro m n h; rw [gstepsF_small m n (by simp at h; omega)]; exact Nat.le_refl _
  | succ d ih =>
    intro m n h
    by_cases hn : n ≤ m ∨ n < 2
    · rw [gstepsF_small m n hn]; simp
    · obtain ⟨a, h1, h2, h3⟩ := kF_pow n (by omega)
      have ha : a < d + 1 := (Nat.pow_lt_pow_iff_right (by decide : 1 < 2)).1 (Nat.lt_of_lt_of_le h2 h)
      have hk : kF n ≤ 2 ^ d := by rw [h1]; exact Nat.pow_le_pow_right (by decide) (by omega)
      by_cases hi : m ≤ kF n
      · rw [gstepsF_left m n hn hi, List.length_cons]
        have := ih m (kF n) hk; omega
      · rw [gstepsF_right m n hn hi, List.length_cons]
        have := ih (m - kF n) (n - kF n) (by omega); omega

def growthF (ds : List (List Int)) (m : Nat) (w : Int) (whole : Bool) : List (List Int) :=
  if _h : ds.length ≤ m ∨ ds.length < 2 then (if whole then [] else [rootF ds w])
  else if m ≤ kF ds.length then growthF (ds.take (kF ds.length)) m w whole ++ [rootF (ds.drop (kF ds.length)) w]
  else growthF (ds.drop (kF ds.length)) (m - kF ds.length) w false ++ [rootF (ds.take (kF ds.length)) w]
termination_by ds.length
decreasing_by
  all_goals
    have := kF_spec ds.length (by omega)
    simp only [List.length_take, List.length_drop]
    omega
theorem growthF_small (ds : List (List Int)) (m : Nat) (w : Int) (whole : Bool) (h : ds.length ≤ m ∨ ds.length < 2) : growthF ds m w whole = if whole then [] else [rootF ds w] := by rw [growthF, dif_pos h]
theorem growthF_left (ds : List (List Int)) (m : Nat) (w : Int) (whole : Bool) (h : ¬ (ds.length ≤ m ∨ ds.length < 2)) (hi : m ≤ kF ds.length) : growthF ds m w whole = growthF (ds.take (kF ds.length)) m w whole ++ [rootF (ds.drop (kF ds.length)) w] := by
  rw [growthF, dif_neg h, if_pos hi]
theorem growthF_right (ds : List (List Int)) (m : Nat) (w : Int) (whole : Bool) (h : ¬ (ds.length ≤ m ∨ ds.length < 2)) (hi : ¬ m ≤ kF ds.length) : growthF ds m w whole = growthF (ds.drop (kF ds.length)) (m - kF ds.length) w false ++ [rootF (ds.take (kF ds.length)) w] := by
  rw [growthF, dif_neg h, if_neg hi]
theorem growthF_ok (n : Nat) : ∀ (ds : List (List Int)) (m : Nat) (w : Int) (whole : Bool), ds.length = n → Dgs ds → Dgs (growthF ds m w whole) ∧ (growthF ds m w whole).length ≤ ds.length + 1 := by
  induction n using Nat.strongRecOn with
  | ind n ih =>
    intro ds m w whole hn hu
    subst hn
    by_cases h : ds.length ≤ m ∨ ds.length < 2
    · rw [growthF_small ds m w whole h]
      split
      · exact ⟨Dgs.nil, Nat.zero_le _⟩
      · have r := rootF_ok ds w hu
        exact ⟨Dgs.one r.1 r.2, by simp⟩
    · have hk := kF_spec ds.length (by omega)
      have r1 := rootF_ok (ds.take (kF ds.length)) w (hu.take _)
      have r2 := rootF_ok (ds.drop (kF ds.length)) w (hu.drop _)
      have l1 : (ds.take (kF ds.length)).length = kF ds.length := by rw [List.length_take]; omega
      have l2 : (ds.drop (kF ds.length)).length = ds.length - kF ds.length := by rw [List.length_drop]
      by_cases hi : m ≤ kF ds.length
      · have h1 := ih (kF ds.length) (by omega) (ds.take (kF ds.length)) m w whole l1 (hu.take _)
        rw [growthF_left ds m w whole h hi]
        exact ⟨h1.1.append (Dgs.one r2.1 r2.2), by rw [List.length_append, List.length_singleton]; omega⟩
      · have h1 := ih (ds.length - kF ds.length) (by omega) (ds.drop (kF ds.length)) (m - kF ds.length) w false l2 (hu.drop _)
        rw [growthF_right ds m w whole h hi]
        exact ⟨h1.1.append (Dgs.one r1.1 r1.2), by rw [List.length_append, List.length_singleton]; omega⟩

def nodeP (w : Int) (d : List Int × List Int) (x : Bool × List Int) : List Int × List Int := if x.1 then (nodeF x.2 d.1 w, nodeF x.2 d.2 w) else (d.1, nodeF d.2 x.2 w)
/-- Whether the first list is a whole piece of it, down this way. -/
def wholeF (whole : Bool) (s : List Bool) : Bool := whole && !s.any id
theorem wholeF_cons (whole : Bool) (b : Bool) (s : List Bool) : wholeF whole (b :: s) = wholeF (whole && !b) s := by
  unfold wholeF; cases whole <;> cases b <;> simp
/-- How many digests a growth has. -/
def needF (whole : Bool) (s : List Bool) : Nat := s.length + (if wholeF whole s then 0 else 1)
theorem needF_cons (whole : Bool) (b : Bool) (s : List Bool) : needF whole (b :: s) = needF (whole && !b) s + 1 := by
  unfold needF; rw [wholeF_cons, List.length_cons]; omega
/-- The two roots that a growth leads to. -/
def bothF (old : List Int) (s : List Bool) (whole : Bool) (p : List (List Int)) (w : Int) : List Int × List Int :=
  if wholeF whole s then (s.reverse.zip p).foldl (nodeP w) (old, old)
  else (s.reverse.zip (p.drop 1)).foldl (nodeP w) (p.headD [], p.headD [])
theorem bothF_one (old : List Int) (b : Bool) (s : List Bool) (whole : Bool) (p : List (List Int)) (q : List Int) (w : Int) (h : p.length = needF (whole && !b) s) :
    bothF old (b :: s) whole (p ++ [q]) w = nodeP w (bothF old s (whole && !b) p w) (b, q) := by
  unfold bothF
  rw [wholeF_cons]
  unfold needF at h
  split
  · rename_i hw
    rw [if_pos hw] at h
    rw [List.reverse_cons, List.zip_append (by simp; omega), List.foldl_append]; rfl
  · rename_i hw
    rw [if_neg hw] at h
    match p, h with
    | [], h => simp at h
    | p0 :: p, h =>
      simp only [List.cons_append, List.drop_succ_cons, List.drop_zero, List.headD_cons]
      rw [List.reverse_cons, List.zip_append (by simp at h ⊢; omega), List.foldl_append]; rfl

theorem growth_shown (n : Nat) : ∀ (ds : List (List Int)) (m : Nat) (w : Int) (whole : Bool) (old : List Int), ds.length = n → 1 ≤ m → m ≤ n → (wholeF whole (gstepsF m n) = true → old = rootF (ds.take m) w) →
    (growthF ds m w whole).length = needF whole (gstepsF m n) ∧ bothF old (gstepsF m n) whole (growthF ds m w whole) w = (rootF (ds.take m) w, rootF ds w) := by
  induction n using Nat.strongRecOn with
  | ind n ih =>
    intro ds m w whole old hn hm1 hm ho
    subst hn
    by_cases h : ds.length ≤ m ∨ ds.length < 2
    · have e : m = ds.length := by omega
      rw [growthF_small ds m w whole h]
      rw [gstepsF_small m _ h] at ho ⊢
      rw [e, List.take_length] at ho ⊢
      unfold needF bothF
      cases whole
      · exact ⟨rfl, rfl⟩
      · have := ho rfl
        subst this
        exact ⟨rfl, rfl⟩
    · have hk := kF_spec ds.length (by omega)
      have l1 : (ds.take (kF ds.length)).length = kF ds.length := by rw [List.length_take]; omega
      have l2 : (ds.drop (kF ds.length)).length = ds.length - kF ds.length := by rw [List.length_drop]
      by_cases hi : m ≤ kF ds.length
      · rw [gstepsF_left m _ h hi] at ho ⊢
        rw [wholeF_cons, Bool.not_false, Bool.and_true] at ho
        have et : (ds.take (kF ds.length)).take m = ds.take m := by rw [List.take_take, Nat.min_eq_left hi]
        obtain ⟨h1, h2⟩ := ih (kF ds.length) (by omega) (ds.take (kF ds.length)) m w whole old l1 hm1 hi (by rw [et]; exact ho)
        rw [growthF_left ds m w whole h hi, needF_cons, Bool.not_false, Bool.and_true]
        refine ⟨by rw [List.length_append, h1]; rfl, ?_⟩
        rw [bothF_one _ _ _ _ _ _ _ (by rw [Bool.not_false, Bool.and_true]; exact h1), Bool.not_false, Bool.and_true, h2, et, rootF_big ds w (by omega)]
        rfl
      · rw [gstepsF_right m _ h hi] at ho ⊢
        obtain ⟨a, a1, a2, a3⟩ := kF_pow ds.length (by omega)
        have km : kF m = kF ds.length := by rw [a1]; exact kF_eq m a (by omega) (by omega)
        obtain ⟨h1, h2⟩ := ih (ds.length - kF ds.length) (by omega) (ds.drop (kF ds.length)) (m - kF ds.length) w false old l2 (by omega) (by omega) (fun h => by simp [wholeF] at h)
        rw [growthF_right ds m w whole h hi, needF_cons, Bool.not_true, Bool.and_false]
        refine ⟨by rw [List.length_append, h1]; rfl, ?_⟩
        rw [bothF_one _ _ _ _ _ _ _ (by rw [Bool.not_true, Bool.and_false]; exact h1), Bool.not_true, Bool.and_false, h2, rootF_big ds w (by omega), rootF_big (ds.take m) w (by rw [List.length_take]; omega)]
        have em : (ds.take m).length = m := by rw [List.length_take]; omega
        rw [em, km, List.take_take, Nat.min_eq_left (by omega), List.drop_take]
        rfl
theorem pathF_ok (n : Nat) : ∀ (ds : List (List Int)) (i w : Int), ds.length = n → Dgs ds → Dgs (pathF ds i w) ∧ (pathF ds i w).length ≤ ds.length := by
  induction n using Nat.strongRecOn with
  | ind n ih =>
    intro ds i w hn hu
    subst hn
    by_cases h : 2 ≤ ds.length
    · have hk := kF_spec ds.length h
      have r1 := rootF_ok (ds.take (kF ds.length)) w (hu.take _)
      have r2 := rootF_ok (ds.drop (kF ds.length)) w (hu.drop _)
      have l1 : (ds.take (kF ds.length)).length = kF ds.length := by rw [List.length_take]; omega
      have l2 : (ds.drop (kF ds.length)).length = ds.length - kF ds.length := by rw [List.length_drop]
      by_cases hi : i < kF ds.length
      · have h1 := ih (kF ds.length) (by omega) (ds.take (kF ds.length)) i w l1 (hu.take _)
        rw [pathF_left ds i w h hi]
        exact ⟨h1.1.append (Dgs.one r2.1 r2.2), by rw [List.length_append, List.length_singleton]; omega⟩
      · have h1 := ih (ds.length - kF ds.length) (by omega) (ds.drop (kF ds.length)) (i - kF ds.length) w l2 (hu.drop _)
        rw [pathF_right ds i w h hi]
        exact ⟨h1.1.append (Dgs.one r1.1 r1.2), by rw [List.length_append, List.length_singleton]; omega⟩
    · rw [pathF_small ds i w (by omega)]; exact ⟨Dgs.nil, Nat.zero_le _⟩
end Pure6
section Climb
open Go.RowKit

theorem Same.alloc {S : List Nat} {w w' : World} (h : Same S w w') (hS : ∀ g, g ∈ S → g < w'.heap.size) (o : Obj) : Same S w (w'.alloc o) := fun g hg => (Below.heap_alloc w' o g (hS g hg)).trans (h g hg)
theorem spot_none {g off : Nat} : ∀ ad, some (⟨g, off, none⟩ : Addr) = some ad → ad.spot = none := fun ad he => by obtain rfl := Option.some.inj he; rfl
theorem nn_some {a : Addr} {c : Nat} : some a = none → c = 0 := fun h => by cases h
theorem Same.drewR {S : List Nat} {w w' : World} (h : Same S w w') : Same S w w'.drew := h
theorem Same.wrote {S : List Nat} {w w' w'' : World} {g : Nat} (h : Same S w w') (hw : Wrote w' w'' g) (hg : g ∉ S) : Same S w w'' := fun k hk => (hw.far k (fun e => hg (e ▸ hk))).trans (h k hk)
def GivesC (n : Nat) (i : Int) (leaf : List Int) (ps : List (List Int)) (z : Int) (w : World) (e : Ending) (w' : World) : Prop :=
  ∃ (d : List Int) (b : Bool), e = .returned (.tuple #[.agg (nums .u8 d).toArray, .bool b]) ∧ d.length = 32 ∧ U8 d ∧ Hid (b = decide (ps.length = (stepsF n i).length)) ∧ Hid (ps.length = (stepsF n i).length → d = upF leaf (stepsF n i).reverse ps z) ∧ Below w.heap.size w w'
theorem climb_left {n : Nat} {i z : Int} {leaf d last : List Int} {rest : List (List Int)} {b : Bool} (h : 2 ≤ n) (hi : i < kF n) (hb : b = decide (rest.length = (stepsF (kF n) i).length)) (hd : rest.length = (stepsF (kF n) i).length → d = upF leaf (stepsF (kF n) i).reverse rest z) :
    b = decide ((rest ++ [last]).length = (stepsF n i).length) ∧ ((rest ++ [last]).length = (stepsF n i).length → nodeF d last z = upF leaf (stepsF n i).reverse (rest ++ [last]) z) := by
  rw [stepsF_left n i h hi]
  constructor
  · rw [hb]; simp
  · intro hl
    have hl : rest.length = (stepsF (kF n) i).length := by simpa using hl
    rw [List.reverse_cons, upF_one _ _ _ _ _ _ (by simp [hl]), ← hd hl]; rfl
theorem climb_right {n : Nat} {i z : Int} {leaf d last : List Int} {rest : List (List Int)} {b : Bool} (h : 2 ≤ n) (hi : ¬ i < kF n) (hb : b = decide (rest.length = (stepsF (n - kF n) (i - kF n)).length)) (hd : rest.length = (stepsF (n - kF n) (i - kF n)).length → d = upF leaf (stepsF (n - kF n) (i - kF n)).reverse rest z) :
    b = decide ((rest ++ [last]).length = (stepsF n i).length) ∧ ((rest ++ [last]).length = (stepsF n i).length → nodeF last d z = upF leaf (stepsF n i).reverse (rest ++ [last]) z) := by
  rw [stepsF_right n i h hi]
  constructor
  · rw [hb]; simp
  · intro hl
    have hl : rest.length = (stepsF (n - kF n) (i - kF n)).length := by simpa using hl
    rw [List.reverse_cons, upF_one _ _ _ _ _ _ (by simp [hl]), ← hd hl]; rfl

/-- Digest{}. -/
theorem st_zeroD {ops : Array Oper} {rest : List Oper} {a : Act} {w : World} {Q : Exit → Act → World → Prop} {d' : Option Tmp} {tt : TypeId} {pos : String} {after : Array Edge}
    (h : ∀ Z : List Int, Hid (Z = List.replicate 32 0) → Z.length = 32 → wpList Tryd.prog ops Q rest (a.put d' (.agg (nums .u8 Z).toArray)) w) :
    wpList Tryd.prog ops Q (⟨d', .build 24 #[], tt, pos, after, none⟩ :: rest) a w :=
  wpList_plain rfl fun K hK => by
    unfold Oper.wp execOp
    simp only [Sem.run_bind, List.map_toArray, List.map_nil]
    rw [run_build w _ _ (nums .u8 (List.replicate 32 0)).toArray (by kernel_rfl)]
    exact hK _ _ (h _ rfl List.length_replicate)

def climb0 (w : World) (leaf : List Int) : World := (w.alloc (.cells (nums .u8 leaf).toArray 24)).alloc (.cells (nums .u8 (List.replicate 32 0)).toArray 24)
theorem climb0_x (w : World) (leaf : List Int) : Blk ((w.alloc (.cells (nums .u8 leaf).toArray 24)).alloc (.cells (nums .u8 (List.replicate 32 0)).toArray 24)) w.heap.size (nums .u8 leaf) 24 := (Blk.new' _ _ _ _ _ rfl rfl).alloc _
theorem climb0_r (w : World) (leaf : List Int) : Blk ((w.alloc (.cells (nums .u8 leaf).toArray 24)).alloc (.cells (nums .u8 (List.replicate 32 0)).toArray 24)) (w.heap.size + 1) (nums .u8 (List.replicate 32 0)) 24 := Blk.new' _ _ _ _ _ rfl (by simp)
theorem climb0_B (w : World) (leaf : List Int) : Below w.heap.size w ((w.alloc (.cells (nums .u8 leaf).toArray 24)).alloc (.cells (nums .u8 (List.replicate 32 0)).toArray 24)) := ((Below.refl _ _).alloc (Nat.le_refl _) _).alloc (by simp) _

set_option maxRecDepth 100000 in
set_option maxHeartbeats 1000000 in
theorem climb_one (w : World) (i : Int) (leaf : List Int) (ps : List (List Int)) (A : Option Addr) (c : Nat) (hlf : leaf.length = 32) (ulf : U8 leaf) (z : Int) :
    Calls Tryd.prog 64 #[.int .i64 1, .int .i64 i, .agg (nums .u8 leaf).toArray, .slice A ps.length c, .int .i64 z] w (GivesC 1 i leaf ps z w) := by
  have HLF := Lib.hid hlf
  have hx0 := climb0_x w leaf
  have hr0 := climb0_r w leaf
  have hB := climb0_B w leaf
  have hs := stepsF_small 1 i (by decide)
  have hb : ((ps.length : Int) == 0) = decide (ps.length = (stepsF 1 i).length) := by rw [hs, Bool.eq_iff_iff]; simp
  have hdd : ps.length = (stepsF 1 i).length → leaf = upF leaf (stepsF 1 i).reverse ps z := by
    rw [hs]; intro h
    rw [List.eq_nil_of_length_eq_zero h]; rfl
  have HBB := Lib.hid hb
  have HDD := Lib.hid hdd
  clear hs hb hdd
  go_enter Tryd.func64, Tryd.ntmps64
  go_wp2_with (first | ((with_reducible apply st_load (n := 32) (cs := nums .u8 (leaf)) (T := 24)); rfl; exact hx0; exact Tryd.underlying24; rfl; kernel_rfl; (rw [nums_length, HLF.out]; exact Nat.le_refl _); (exact row_all _ _ (by rw [nums_length, HLF.out]))) | ((with_reducible apply st_storeW (off := 0) (vs := nums .u8 (leaf)) (cs := nums .u8 (List.replicate 32 0)) (T := 24)); rfl; rfl; exact hr0; (rw [nums_length, HLF.out]; kernel_rfl); (rw [nums_length, HLF.out]; decide); exact nums_one _ _; intro w1 hd1 hw1; rw [laid_all _ _ (by rw [nums_length, HLF.out]; rfl)] at hd1))
  refine bodyPost_ret (ret_row_tmp rfl _ _ _ (nums .u8 (leaf)) 24 _ rfl hd1 Tryd.underlying24 rfl (by rw [nums_length, HLF.out]; kernel_rfl)) rfl (⟨leaf, _, rfl, HLF.out, ulf, HBB.out, HDD.out, Wrote.below hB hw1 (by omega)⟩)

set_option maxRecDepth 100000 in
set_option maxHeartbeats 1000000 in
theorem climb_nil (n : Nat) (w : World) (i : Int) (leaf : List Int) (A : Option Addr) (c : Nat) (z : Int) (hn : 2 ≤ n) (hmax : n ≤ 9223372036854775807) :
    Calls Tryd.prog 64 #[.int .i64 n, .int .i64 i, .agg (nums .u8 leaf).toArray, .slice A 0 c, .int .i64 z] w (GivesC n i leaf [] z w) := by
  have hr0 := climb0_r w leaf
  have hB := climb0_B w leaf
  have hb : false = decide (([] : List (List Int)).length = (stepsF n i).length) := by
    symm; apply decide_eq_false
    by_cases hik : i < kF n
    · rw [stepsF_left n i (by omega) hik]; simp
    · rw [stepsF_right n i (by omega) hik]; simp
  have hdd : ([] : List (List Int)).length = (stepsF n i).length → List.replicate 32 0 = upF leaf (stepsF n i).reverse [] z := fun h => by
    rw [decide_eq_true h] at hb; cases hb
  have hzu : U8 (List.replicate 32 0) := U8.of fun x hx => by rw [(List.mem_replicate.1 hx).2]; omega
  have HBB := Lib.hid hb
  have HDD := Lib.hid hdd
  clear hb hdd
  go_enter Tryd.func64, Tryd.ntmps64
  go_wp2_with (first | (apply st_zeroD; intro Z HZ hzl; have HZL := Lib.hid hzl; clear hzl) | ((with_reducible apply st_storeW (off := 0) (vs := nums .u8 (Z)) (cs := nums .u8 (List.replicate 32 0)) (T := 24)); rfl; rfl; exact hr0; (rw [nums_length, HZL.out]; kernel_rfl); (rw [nums_length, HZL.out]; decide); exact nums_one _ _; intro w1 hd1 hw1; rw [laid_all _ _ (by rw [nums_length, HZL.out]; rfl)] at hd1))
  refine bodyPost_ret (ret_row_tmp rfl _ _ _ (nums .u8 (Z)) 24 _ rfl hd1 Tryd.underlying24 rfl (by rw [nums_length, HZL.out]; kernel_rfl)) rfl (⟨Z, _, rfl, HZL.out, by rw [HZ.out]; exact hzu, HBB.out, by rw [HZ.out]; exact HDD.out, Wrote.below hB hw1 (by omega)⟩)
end Climb
end Go.Proofs.YtancldhincaphaaDoor
