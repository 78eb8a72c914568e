/- Two heads compared by ==. No condition. -/
import Derived.Test.YtancldhincaphaaDoorLedT
import Derived.Test.YtancldhincaphaaDoorGe
import Derived.Laws.StructEq
namespace Go.Proofs.YtancldhincaphaaDoor
open Go.RowKit
set_option maxRecDepth 100000

theorem run_equalIn_numsD {P : Program} {t e : TypeId} {k : IntKind} {n : Nat} (d : Nat) (ht : P.underlying t = some (.array n e)) (he : P.underlying e = some (.int k)) (hi : (P.info? e).map (·.size) = some 1) (hc : P.cellsOf e = 1) (xs ys : List Int) (hx : xs.length = n) (hy : ys.length = n) (w : World) :
    (Op.equalIn (d + 1 + 1) t (.agg (nums k xs).toArray) (.agg (nums k ys).toArray)).run P w = .ok (decide (xs = ys)) w := by
  cases hq : P.info? e with
  | none => simp [hq] at hi
  | some info =>
    rw [run_equalIn_array (w := w) (d + 1) _ _ ht hq, hc]
    rw [run_eqItems_num he d xs ys w _ (fun i hi => by rw [List.mem_range] at hi; omega), all_range_eq xs ys hx hy]
theorem part_row {t : TypeId} {n : Nat} (off : Nat) (cs v : List Value) (hu : ∃ e, Tryd.prog.underlying t = some (.array n e)) (hs : (Tryd.prog.info? t).map (·.size) = some n) (h : (cs.drop off).take n = v) (w : World) : (part t cs.toArray off).run Tryd.prog w = .ok (.agg v.toArray) w := by
  obtain ⟨e, he⟩ := hu
  have hagg : (isAgg t).run Tryd.prog w = .ok true w := by
    unfold isAgg
    rw [Sem.run_bind, run_underlying he w]
    rfl
  cases hq : Tryd.prog.info? t with
  | none => simp [hq] at hs
  | some i =>
    have hz : i.size = n := by simpa [hq] using hs
    simp [part, Sem.run_bind, hagg, sizeOf, typeInfo, hq, hz]
    exact h
theorem headC_parts (n : Int) {r c s : List Int} (hr : r.length = 32) (hc : c.length = 32) (hs : s.length = 32) :
    ((headC n r c s).drop 1).take 32 = nums .u8 r ∧ ((headC n r c s).drop 33).take 32 = nums .u8 c ∧ ((headC n r c s).drop 65).take 32 = nums .u8 s := by
  have h1 : (nums .u8 r).length = 32 := by rw [nums_length, hr]
  have h2 : (nums .u8 c).length = 32 := by rw [nums_length, hc]
  have h3 : (nums .u8 s).length = 32 := by rw [nums_length, hs]
  unfold headC
  refine ⟨?_, ?_, ?_⟩
  · rw [show (1 : Nat) = 0 + 1 from rfl, List.drop_succ_cons, List.drop_zero, List.take_append_of_le_length (by omega), List.take_of_length_le (by omega)]
  · rw [show (33 : Nat) = 32 + 1 from rfl, List.drop_succ_cons, List.drop_append, List.drop_eq_nil_of_le (by omega), List.nil_append, h1, Nat.sub_self, List.drop_zero, List.take_append_of_le_length (by omega), List.take_of_length_le (by omega)]
  · rw [show (65 : Nat) = 64 + 1 from rfl, List.drop_succ_cons, ← List.append_assoc, List.drop_append, List.drop_eq_nil_of_le (by rw [List.length_append]; omega), List.nil_append, List.length_append, h1, h2, Nat.sub_self, List.drop_zero, List.take_of_length_le (by omega)]
theorem headFields : ∃ f0 f1 f2 f3 : Field, (Tryd.prog.fieldsOf 26).toList = [f0, f1, f2, f3] ∧ (f0.name ≠ "_" ∧ f0.type = 3 ∧ f0.offset = 0) ∧ (f1.name ≠ "_" ∧ f1.type = 24 ∧ f1.offset = 1) ∧ (f2.name ≠ "_" ∧ f2.type = 24 ∧ f2.offset = 33) ∧ (f3.name ≠ "_" ∧ f3.type = 24 ∧ f3.offset = 65) := by
  refine ⟨_, _, _, _, rfl, ⟨?_, rfl, rfl⟩, ⟨?_, rfl, rfl⟩, ⟨?_, rfl, rfl⟩, ⟨?_, rfl, rfl⟩⟩ <;> decide
theorem eqFields_cons {P : Program} {d off : Nat} {xs ys : Array Value} {f : Field} {l : List Field} {t : TypeId} {u v : Value} {b c : Bool} {w : World} (hn : f.name ≠ "_") (ht : f.type = t) (ho : f.offset = off)
    (hu : (part t xs off).run P w = .ok u w) (hv : (part t ys off).run P w = .ok v w) (hb : (Op.equalIn d t u v).run P w = .ok b w) (hc : (Op.eqFields d xs ys l).run P w = .ok c w) : (Op.eqFields d xs ys (f :: l)).run P w = .ok (b && c) w := by
  subst ht; subst ho
  simp only [Op.eqFields, hn, ne_eq, not_false_eq_true, if_true, Sem.run_bind, hu, hv, hb, Result.andThen_ok]
  cases b
  · rfl
  · simp [hc]
theorem run_equalIn_head (d : Nat) (n n' : Int) (r c s r' c' s' : List Int) (hr : r.length = 32) (hc : c.length = 32) (hs : s.length = 32) (hr' : r'.length = 32) (hc' : c'.length = 32) (hs' : s'.length = 32) (w : World) :
    (Op.equalIn (d + 1 + 1 + 1) 26 (.agg (headC n r c s).toArray) (.agg (headC n' r' c' s').toArray)).run Tryd.prog w = .ok ((n == n') && (decide (r = r') && (decide (c = c') && (decide (s = s') && true)))) w := by
  have h1 : Tryd.prog.underlying 26 = some (.struct (Tryd.prog.fieldsOf 26)) := by kernel_rfl
  have h2 : Tryd.prog.stoodInHeld 26 = false := by kernel_rfl
  have hi : Tryd.prog.underlying 3 = some (.int .i64) := by kernel_rfl
  have hD : ∃ e, Tryd.prog.underlying 24 = some (.array 32 e) := ⟨_, Tryd.underlying24⟩
  have hsz : (Tryd.prog.info? 24).map (·.size) = some 32 := by kernel_rfl
  have k1 : (Tryd.prog.info? 5).map (·.size) = some 1 := by kernel_rfl
  have k2 : Tryd.prog.cellsOf 5 = 1 := by kernel_rfl
  rw [run_equalIn_struct (w := w) (d + 1 + 1) _ _ _ h1 h2]
  obtain ⟨f0, f1, f2, f3, hfs, ⟨a0, a1, a2⟩, ⟨b0, b1, b2⟩, ⟨c0, c1, c2⟩, ⟨d0, d1, d2⟩⟩ := headFields
  have q0 := run_equalIn_int (w := w) (d + 1) _ .i64 .i64 n n' hi
  have q1 := fun x y hx hy => run_equalIn_numsD (P := Tryd.prog) d Tryd.underlying24 Tryd.underlying5 k1 k2 x y hx hy w
  have p0 : ∀ n r c s, (part 3 (headC n r c s).toArray 0).run Tryd.prog w = .ok (.int .i64 n) w := fun n r c s => run_part_num hi _ 0 _ rfl w
  have p1 := fun v h => part_row 1 (headC n r c s) v hD hsz h w
  rw [hfs]
  exact eqFields_cons a0 a1 a2 (p0 n r c s) (p0 n' r' c' s') q0
    (eqFields_cons b0 b1 b2 (part_row 1 _ _ hD hsz (headC_parts n hr hc hs).1 w) (part_row 1 _ _ hD hsz (headC_parts n' hr' hc' hs').1 w) (q1 r r' hr hr')
      (eqFields_cons c0 c1 c2 (part_row 33 _ _ hD hsz (headC_parts n hr hc hs).2.1 w) (part_row 33 _ _ hD hsz (headC_parts n' hr' hc' hs').2.1 w) (q1 c c' hc hc')
        (eqFields_cons d0 d1 d2 (part_row 65 _ _ hD hsz (headC_parts n hr hc hs).2.2 w) (part_row 65 _ _ hD hsz (headC_parts n' hr' hc' hs').2.2 w) (q1 s s' hs hs') rfl)))
theorem run_equal_head (n n' : Int) (r c s r' c' s' : List Int) (hr : r.length = 32) (hc : c.length = 32) (hs : s.length = 32) (hr' : r'.length = 32) (hc' : c'.length = 32) (hs' : s'.length = 32) (w : World) :
    (Op.equal 26 (.agg (headC n r c s).toArray) (.agg (headC n' r' c' s').toArray)).run Tryd.prog w = .ok ((n == n') && (decide (r = r') && (decide (c = c') && (decide (s = s') && true)))) w :=
  run_equalIn_head 9997 n n' r c s r' c' s' hr hc hs hr' hc' hs' w

end Go.Proofs.YtancldhincaphaaDoor
