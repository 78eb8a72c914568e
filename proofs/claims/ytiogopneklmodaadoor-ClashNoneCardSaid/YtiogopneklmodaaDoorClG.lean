/- How a growth that shows another beginning is gone down, pair by pair: in plain Lean. No condition. -/
import Derived.Test.YtiogopneklmodaaDoorClQ
import Derived.Test.YtiogopneklmodaaDoorGj
namespace Go.Proofs.YtiogopneklmodaaDoor
open Go.RowKit

theorem bothF_left {m n : Nat} {old last : List Int} {rest : List (List Int)} {z : Int} {whole : Bool} (h1 : 1 ≤ m) (h : m < n) (hi : m ≤ kF n) (hl : rest.length = needF whole (gstepsF m (kF n))) :
    bothF old (gstepsF m n) whole (rest ++ [last]) z = ((bothF old (gstepsF m (kF n)) whole rest z).1, nodeF (bothF old (gstepsF m (kF n)) whole rest z).2 last z) := by
  have hp : BothPost m (kF n) old rest z whole (bothF old (gstepsF m (kF n)) whole rest z).1 (bothF old (gstepsF m (kF n)) whole rest z).2 (decide (rest.length = needF whole (gstepsF m (kF n)))) := ⟨rfl, fun _ => rfl⟩
  refine ((both_left (last := last) h1 h hi hp).eq ?_).symm
  rw [gstepsF_left m n (by omega) hi, needF_cons]; simp [hl]
theorem bothF_right {m n : Nat} {old last : List Int} {rest : List (List Int)} {z : Int} {whole : Bool} (h1 : 1 ≤ m) (h : m < n) (hi : ¬ m ≤ kF n) (hl : rest.length = needF false (gstepsF (m - kF n) (n - kF n))) :
    bothF old (gstepsF m n) whole (rest ++ [last]) z = (nodeF last (bothF old (gstepsF (m - kF n) (n - kF n)) false rest z).1 z, nodeF last (bothF old (gstepsF (m - kF n) (n - kF n)) false rest z).2 z) := by
  have hp : BothPost (m - kF n) (n - kF n) old rest z false (bothF old (gstepsF (m - kF n) (n - kF n)) false rest z).1 (bothF old (gstepsF (m - kF n) (n - kF n)) false rest z).2 (decide (rest.length = needF false (gstepsF (m - kF n) (n - kF n)))) := ⟨rfl, fun _ => rfl⟩
  refine ((both_right (whole := whole) (last := last) h1 h hi hp).eq ?_).symm
  rw [gstepsF_right m n (by omega) hi, needF_cons]; simp [hl]
/-- The root of all that a growth leads to. -/
def secF (old : List Int) (m n : Nat) (ps : List (List Int)) (whole : Bool) (z : Int) : List Int := (bothF old (gstepsF m n) whole ps z).2
theorem secF_ok (n : Nat) : ∀ (old : List Int) (m : Nat) (ps : List (List Int)) (whole : Bool) (z : Int), old.length = 32 ∧ U8 old → Dgs ps → 1 ≤ m → m ≤ n → ps.length = needF whole (gstepsF m n) → (secF old m n ps whole z).length = 32 ∧ U8 (secF old m n ps whole z) := by
  intro old m ps whole z ho hp h1 hmn hl
  by_cases hlt : m < n
  · by_cases hp0 : ps.length = 0
    · exfalso
      rw [hp0] at hl
      by_cases hi : m ≤ kF n
      · rw [gstepsF_left m n (by omega) hi, needF_cons] at hl; omega
      · rw [gstepsF_right m n (by omega) hi, needF_cons] at hl; omega
    · obtain ⟨rest, last, rfl⟩ := last_of ps (by omega)
      unfold secF
      by_cases hi : m ≤ kF n
      · rw [bothF_left h1 hlt hi (by rw [gstepsF_left m n (by omega) hi, needF_cons] at hl; simp at hl; omega)]
        exact ⟨nodeF_len _ _ _, nodeF_range _ _ _⟩
      · rw [bothF_right h1 hlt hi (by rw [gstepsF_right m n (by omega) hi, needF_cons] at hl; simp at hl; omega)]
        exact ⟨nodeF_len _ _ _, nodeF_range _ _ _⟩
  · have hs := gstepsF_small m n (.inl (by omega))
    rw [hs] at hl
    unfold secF
    rw [hs]
    cases whole with
    | true => exact ho
    | false =>
      obtain ⟨p0, rfl⟩ := List.length_eq_one_iff.1 (show ps.length = 1 from hl)
      exact hp p0 (by simp)

/-- On the way down: of the row cur another beginning of m is shown. -/
structure GSt (cur : List (List Int)) (m : Nat) (whole : Bool) (ps : List (List Int)) (old : List Int) (z : Int) : Prop where
  lo : 1 ≤ m
  hi : m ≤ cur.length
  len : ps.length = needF whole (gstepsF m cur.length)
  root : (bothF old (gstepsF m cur.length) whole ps z).2 = rootF cur z
  ne : (bothF old (gstepsF m cur.length) whole ps z).1 ≠ rootF (cur.take m) z
  u : Dgs cur
theorem GSt.lt {cur : List (List Int)} {m : Nat} {whole : Bool} {ps : List (List Int)} {old : List Int} {z : Int} (h : GSt cur m whole ps old z) : m < cur.length := by
  have h1 := h.hi
  by_cases hlt : m < cur.length
  · exact hlt
  · exfalso
    have hr := h.root
    have hn := h.ne
    rw [gstepsF_small m cur.length (.inl (by omega))] at hr hn
    rw [List.take_of_length_le (by omega)] at hn
    apply hn
    rw [← hr]
    unfold bothF
    split <;> simp
theorem GSt.pos {cur : List (List Int)} {m : Nat} {whole : Bool} {ps : List (List Int)} {old : List Int} {z : Int} (h : GSt cur m whole ps old z) : ¬ ps.length = 0 := by
  rw [h.len]
  have := h.lt
  have := h.lo
  by_cases hi : m ≤ kF cur.length
  · rw [gstepsF_left m cur.length (by omega) hi, needF_cons]; omega
  · rw [gstepsF_right m cur.length (by omega) hi, needF_cons]; omega
theorem GSt.left {cur : List (List Int)} {m : Nat} {whole : Bool} {rest : List (List Int)} {last old : List Int} {z : Int} (h : GSt cur m whole (rest ++ [last]) old z) (ho : old.length = 32 ∧ U8 old) (hd : Dgs rest) (hi : m ≤ kF cur.length) :
    rest.length = needF whole (gstepsF m (kF cur.length)) ∧
    (¬ (secF old m (kF cur.length) rest whole z = rootF (cur.take (kF cur.length)) z ∧ last = rootF (cur.drop (kF cur.length)) z) →
      IsF (nodeT (secF old m (kF cur.length) rest whole z) last) (nodeT (rootF (cur.take (kF cur.length)) z) (rootF (cur.drop (kF cur.length)) z)) z) ∧
    (secF old m (kF cur.length) rest whole z = rootF (cur.take (kF cur.length)) z → last = rootF (cur.drop (kF cur.length)) z → GSt (cur.take (kF cur.length)) m whole rest old z) := by
  have hlt := h.lt
  have hlo := h.lo
  have hks := kF_spec cur.length (by omega)
  have hs := h.len
  rw [gstepsF_left m cur.length (by omega) hi, needF_cons] at hs
  have hs2 : rest.length = needF whole (gstepsF m (kF cur.length)) := by simp at hs; omega
  have hr := h.root
  have hn := h.ne
  rw [bothF_left hlo hlt hi hs2] at hr hn
  rw [rootF_big cur z (by omega)] at hr
  have hx := secF_ok (kF cur.length) old m rest whole z ho hd hlo hi hs2
  have hl := rootF_ok (cur.take (kF cur.length)) z (h.u.take _)
  refine ⟨hs2, fun hne => clash_node hx.1 hl.1 hr hne (fun a b => node_def a b z), fun he _ => ?_⟩
  have htl : (cur.take (kF cur.length)).length = kF cur.length := by rw [List.length_take]; omega
  refine ⟨hlo, by rw [htl]; exact hi, by rw [htl]; exact hs2, by rw [htl]; exact he, ?_, h.u.take _⟩
  rw [htl, List.take_take, Nat.min_eq_left hi]; exact hn
theorem GSt.right {cur : List (List Int)} {m : Nat} {whole : Bool} {rest : List (List Int)} {last old : List Int} {z : Int} (h : GSt cur m whole (rest ++ [last]) old z) (hll : last.length = 32) (hi : ¬ m ≤ kF cur.length) :
    rest.length = needF false (gstepsF (m - kF cur.length) (cur.length - kF cur.length)) ∧
    (¬ (last = rootF (cur.take (kF cur.length)) z ∧ secF old (m - kF cur.length) (cur.length - kF cur.length) rest false z = rootF (cur.drop (kF cur.length)) z) →
      IsF (nodeT last (secF old (m - kF cur.length) (cur.length - kF cur.length) rest false z)) (nodeT (rootF (cur.take (kF cur.length)) z) (rootF (cur.drop (kF cur.length)) z)) z) ∧
    (last = rootF (cur.take (kF cur.length)) z → secF old (m - kF cur.length) (cur.length - kF cur.length) rest false z = rootF (cur.drop (kF cur.length)) z → GSt (cur.drop (kF cur.length)) (m - kF cur.length) false rest old z) := by
  have hlt := h.lt
  have hlo := h.lo
  have hhi := h.hi
  have hks := kF_spec cur.length (by omega)
  have hs := h.len
  rw [gstepsF_right m cur.length (by omega) hi, needF_cons] at hs
  have hs2 : rest.length = needF false (gstepsF (m - kF cur.length) (cur.length - kF cur.length)) := by simp at hs; omega
  have hr := h.root
  have hn := h.ne
  rw [bothF_right hlo hlt hi hs2] at hr hn
  rw [rootF_big cur z (by omega)] at hr
  have hl := rootF_ok (cur.take (kF cur.length)) z (h.u.take _)
  refine ⟨hs2, fun hne => clash_node hll hl.1 hr hne (fun a b => node_def a b z), fun he he2 => ?_⟩
  have hdl : (cur.drop (kF cur.length)).length = cur.length - kF cur.length := List.length_drop
  refine ⟨by omega, by rw [hdl]; omega, by rw [hdl]; exact hs2, by rw [hdl]; exact he2, ?_, h.u.drop _⟩
  rw [hdl]
  intro e
  apply hn
  have hkm : kF m = kF cur.length := by
    obtain ⟨a, h1, h2, h3⟩ := kF_pow cur.length (by omega)
    rw [h1]; rw [h1] at hi
    exact kF_eq m a (by omega) (by omega)
  have htm : (cur.take m).length = m := by rw [List.length_take]; omega
  rw [rootF_big (cur.take m) z (by rw [htm]; omega), htm, hkm, List.take_take, Nat.min_eq_left (by omega), List.drop_take, ← he]
  simp only
  rw [e]
theorem GSt.start {cur : List (List Int)} {m : Nat} {ps : List (List Int)} {old : List Int} {z : Int} (hu : Dgs cur) (h : checkGF old m (rootF cur z) cur.length ps z = true) (hne : ¬ old = rootF (cur.take m) z) : GSt cur m true ps old z := by
  unfold checkGF at h
  have h := of_decide_eq_true h
  rw [Int.toNat_natCast, Int.toNat_natCast] at h
  obtain ⟨h1, h2, h3, h4⟩ := h
  exact ⟨by omega, by omega, h3, by rw [h4], by rw [h4]; exact hne, hu⟩
/-- Whether a growth shows another beginning. -/
def growMust (l : List (List Int)) (m : Int) (old : List Int) (ps : List (List Int)) (z : Int) : Bool :=
  decide (1 ≤ m ∧ m ≤ l.length) && (!decide (old = rootF ((leavesF l z).take m.toNat) z) && checkGF old m (rootF (leavesF l z) z) l.length ps z)
theorem growMust_out (l : List (List Int)) (m : Int) (old : List Int) (ps : List (List Int)) (z : Int) (h : ¬ (1 ≤ m ∧ m ≤ l.length)) : growMust l m old ps z = false := by
  unfold growMust; rw [decide_eq_false h, Bool.false_and]
theorem growMust_in (l : List (List Int)) (m : Nat) (old : List Int) (ps : List (List Int)) (z : Int) (h1 : 1 ≤ m) (h : m ≤ l.length) : growMust l m old ps z = (!decide (old = rootF ((leavesF l z).take m) z) && checkGF old m (rootF (leavesF l z) z) l.length ps z) := by
  unfold growMust; rw [decide_eq_true ⟨by omega, by omega⟩, Bool.true_and, Int.toNat_natCast]

end Go.Proofs.YtiogopneklmodaaDoor
