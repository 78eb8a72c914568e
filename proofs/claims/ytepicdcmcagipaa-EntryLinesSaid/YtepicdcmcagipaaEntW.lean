/- The words of a verdict and the numbers in them: what entry.Word, text.Dec, strings.Join and the reference's Word and Dec answer, in lists. No condition but the kind's own bounds. -/
import Derived.Test.YtepicdcmcagipaaDecP
import Derived.Test.YtepicdcmcagipaaJoin
import Derived.Test.YtepicdcmcagipaaEntC
namespace Go.Proofs.Ytepicdcmcagipaa
open Go.RowKit Go.Proofs.Ytepicdcmcagipaa.DecP

def wordL (k : Int) : List Int := if k = 1 then [102, 105, 116, 115] else if k = 2 then [102, 105, 116, 115, 45, 110, 111, 116] else if k = 3 then [111, 117, 116, 45, 111, 102, 45, 102, 117, 101, 108] else if k = 4 then [111, 117, 116, 45, 111, 102, 45, 116, 114, 105, 101, 115] else []
theorem wordL_len (k : Int) : (wordL k).length ≤ 20 := by unfold wordL; (repeat' split) <;> simp
theorem word_f (k : Int) : PEntryLines.entry_Word.f k = some (strOfNums (wordL k)) := by
  unfold PEntryLines.entry_Word.f wordL
  (repeat' split) <;> rfl
theorem refword_f (k : Int) : PEntryLines.inquestref20_Word.f k = some (strOfNums (wordL k)) := by
  by_cases h0 : k < 0
  · unfold PEntryLines.inquestref20_Word.f wordL
    simp only [Option.bind_some]
    rw [if_pos h0, if_neg (by omega), if_neg (by omega), if_neg (by omega), if_neg (by omega)]; rfl
  · by_cases h4 : k > 4
    · unfold PEntryLines.inquestref20_Word.f wordL
      simp only [Option.bind_some]
      rw [if_neg h0, if_pos h4, if_neg (by omega), if_neg (by omega), if_neg (by omega), if_neg (by omega)]; rfl
    · have h : k = 0 ∨ k = 1 ∨ k = 2 ∨ k = 3 ∨ k = 4 := by omega
      rcases h with rfl | rfl | rfl | rfl | rfl <;> rfl
theorem word_any (w : World) (k : Int) : Calls Try.prog 20 #[.int .i64 k] w fun e w' => e = .returned (.string (strOfNums (wordL k))) ∧ Below w.heap.size w w' :=
  (PEntryLines.entry_Word.calls k _ w (word_f k)).mono fun _ _ h => ⟨h.1, by have := h.2; exact this.below⟩
theorem refword_any (w : World) (k : Int) : Calls Try.prog 21 #[.int .i64 k] w fun e w' => e = .returned (.string (strOfNums (wordL k))) ∧ Below w.heap.size w w' :=
  PEntryLines.inquestref20_Word.calls k _ w (refword_f k)
theorem dec_any (w : World) (n : Int) (h : B64 n) : Calls Try.prog 29 #[.int .i64 n] w fun e w' => e = .returned (.string (strOfNums (decS n))) ∧ Below w.heap.size w w' :=
  PEntryLines.text_Dec.calls 60 n _ w (dec_f n h.1 h.2 60 (Nat.le_refl _))
theorem refdec_any (w : World) (n : Int) (h : B64 n) : Calls Try.prog 31 #[.int .i64 n] w fun e w' => e = .returned (.string (strOfNums (decS n))) ∧ Below w.heap.size w w' :=
  (PEntryLines.inquestref04_Dec.calls 30 n _ w (rdec_f n h.1 h.2 30 (Nat.le_refl _))).mono fun _ _ h => ⟨h.1, h.2.below⟩
theorem decS_len (n : Int) : (decS n).length ≤ 21 ∧ 1 ≤ (decS n).length := by
  unfold decS
  by_cases h : n = 0
  · rw [if_pos h]; simp
  · rw [if_neg h]
    have h1 := revDigs_len 20 n.natAbs
    have h2 : 1 ≤ (revDigs 20 n.natAbs).length := by
      unfold revDigs
      rw [if_neg (by omega)]
      simp
    rw [List.length_append, List.length_reverse]
    split <;> simp only [List.length_cons, List.length_nil] <;> omega

/-- Numbers with commas between. -/
def joinD : List Int → List Int
  | [] => []
  | x :: r => decS x ++ (r.map fun y => 44 :: decS y).flatten
theorem joinD_snoc (l : List Int) (x : Int) (h : l ≠ []) : joinD (l ++ [x]) = joinD l ++ [44] ++ decS x := by
  cases l with
  | nil => exact absurd rfl h
  | cons a r => simp [joinD]
theorem joinD_one (x : Int) : joinD ([] ++ [x]) = decS x := by simp [joinD]
theorem joinD_len (l : List Int) : (joinD l).length ≤ 22 * l.length := by
  cases l with
  | nil => simp [joinD]
  | cons a r =>
    have h1 := decS_len a
    have h2 : (r.map fun y => 44 :: decS y).flatten.length ≤ 22 * r.length := by
      induction r with
      | nil => simp
      | cons b r ih => have := decS_len b; simp only [List.map_cons, List.flatten_cons, List.length_append, List.length_cons] at ih ⊢; omega
    simp only [joinD, List.length_append, List.length_cons]; omega
theorem joinD_pos (l : List Int) (h : l ≠ []) : 1 ≤ (joinD l).length := by
  cases l with
  | nil => exact absurd rfl h
  | cons a r => have := decS_len a; simp only [joinD, List.length_append]; omega
def strs (l : List Int) : List Value := l.map fun n => .string (strOfNums (decS n))
theorem strs_length (l : List Int) : (strs l).length = l.length := List.length_map _
theorem strs_snoc (l : List Int) (x : Int) : strs (l ++ [x]) = strs l ++ [.string (strOfNums (decS x))] := by simp [strs]
theorem join_str (l : List Int) : (⟨(Lib.join ((l.map fun n => strOfNums (decS n)).map (·.data.toList)) (⟨#[44]⟩ : ByteArray).data.toList).toArray⟩ : ByteArray) = strOfNums (joinD l) := by
  apply ByteArray.ext
  apply Array.ext'
  rw [strOfNums_data]
  cases l with
  | nil => rfl
  | cons a r =>
    rw [List.map_cons, List.map_cons, Lib.join_cons, strOfNums_data]
    simp only [joinD, List.map_append, Lib.joinTail, List.map_map]
    congr 1
    induction r with
    | nil => rfl
    | cons b r ih => simp only [List.map_cons, List.flatten_cons, List.map_append, Function.comp] at ih ⊢; rw [ih]; rfl
theorem join_len (l : List Int) : (Lib.join ((l.map fun n => strOfNums (decS n)).map (·.data.toList)) (⟨#[44]⟩ : ByteArray).data.toList).length = (joinD l).length := by
  have h := congrArg ByteArray.size (join_str l)
  rw [strOfNums_size] at h
  exact h
theorem join_any (w : World) (A : Option Addr) (c : Nat) (l : List Int) (hr : Rd w A (strs l)) (hc : l.length ≤ c) (hl : l.length ≤ 1000) :
    Calls Try.prog 30 #[.slice A l.length c, .string ⟨#[44]⟩] w fun e w' => e = .returned (.string (strOfNums (joinD l))) ∧ Below w.heap.size w w' := by
  by_cases h : l = []
  · subst h
    refine (strings_Join_none A c ⟨#[44]⟩ w).mono fun e w' h => ?_
    obtain ⟨rfl, rfl⟩ := h
    exact ⟨rfl, Below.refl _ _⟩
  · have hpos : 0 < l.length := List.length_pos_iff.2 h
    obtain ⟨g, o, rfl, hc0⟩ := hr.get (by rw [strs_length]; omega)
    have hcells : ∀ (j : Nat) x, (l.map fun n => strOfNums (decS n))[j]? = some x → w.cell? ⟨g, o + j, none⟩ = some (.string x) := by
      intro j x hx
      refine hc0 j _ ?_
      rw [List.getElem?_map] at hx
      unfold strs
      rw [List.getElem?_map]
      cases hj : l[j]? with
      | none => rw [hj] at hx; cases hx
      | some y => rw [hj] at hx; simp only [Option.map_some, Option.some.injEq] at hx ⊢; rw [hx]
    have hg : g < w.heap.size := by
      obtain ⟨y, r, rfl⟩ := List.exists_cons_of_ne_nil h
      exact World.block_lt_of_cell? (h := hcells 0 _ rfl)
    have k := strings_Join g o c (l.map fun n => strOfNums (decS n)) ⟨#[44]⟩ w hcells hg (by rw [List.length_map]; omega) (by rw [List.length_map]; exact hc) (by rw [join_len]; have := joinD_len l; omega)
    rw [List.length_map, join_str] at k
    exact k

def restL (l : List Int) : List Int := if l = [] then [45] else joinD l
def lineL (e : Ent) : List Int := wordL e.kind ++ [32] ++ decS e.tries ++ [32] ++ restL e.ord
theorem str_app (a b : List Int) : strOfNums a ++ strOfNums b = strOfNums (a ++ b) := by
  apply ByteArray.ext
  apply Array.ext'
  rw [ByteArray.data_append, Array.toList_append, strOfNums_data, strOfNums_data, strOfNums_data, List.map_append]
theorem strInfo : (Try.prog.info? 9).map (fun i => (i.zero, i.size, i.bytes)) = some (some (.string .empty), 1, 16) := by kernel_rfl
/-- append(x, s) of a string, from block base on. -/
theorem st_appendS {ops : Array Oper} {rest : List Oper} {a : Act} {w : World} {Q : Exit → Act → World → Prop} {d' : Option Tmp} {tt : TypeId} {s x : Operand} {pos : String} {after : Array Edge} {base : Nat} {v : Value} {g c : Nat} {l : List Int} {n : Int}
    (hs : a.eval s = v) (hx : a.eval x = .slice (some ⟨g, 0, none⟩) 1 c) (hown : OwnC w base 9 v (strs l)) (hr : w.cell? ⟨g, 0, none⟩ = some (.string (strOfNums (decS n)))) (hl : l.length ≤ 1099511627775) (hbase : base ≤ w.heap.size)
    (h : ∀ v' w', OwnC w' base 9 v' (strs (l ++ [n])) → Below base w w' → wpList Try.prog ops Q rest (a.put d' v') w') :
    wpList Try.prog ops Q (⟨d', .call ⟨.builtin .append, #[s, x], #[59, 59]⟩, tt, pos, after, none⟩ :: rest) a w := by
  obtain ⟨i0, hi, hz0, hz1, hz2⟩ := info_parts strInfo
  refine wpList_append_own_at (w := w) rfl s x 59 rfl base 9 i0 (.string .empty) 1 16 Try.underlying59 hi hz0 hz1 hz2 rfl (by decide) v (strs l).length (strs l) hs hown ⟨g, 0, none⟩ 1 c [.string (strOfNums (decS n))] hx rfl ?_ (fun u hu => by rw [List.mem_singleton.1 hu]; rfl) (by rw [strs_length]; unfold maxLen; omega) (by rw [strs_length]; omega) hbase ?_
  · intro j u hu
    cases j with
    | zero =>
      have : (⟨g, 0, none⟩ : Addr).add 0 = ⟨g, 0, none⟩ := by simp [Addr.add]
      rw [this]; simp at hu; rw [hr, hu]
    | succ j => simp at hu
  · intro v' w' ho hgr _ hat
    refine h v' w' ?_ ((Below.refl base w).grown hgr hbase (fun k hk => by have := World.ownsRow.lt hown k hk; omega))
    unfold OwnC
    rw [strs_snoc, List.length_append]
    exact ho

end Go.Proofs.Ytepicdcmcagipaa
