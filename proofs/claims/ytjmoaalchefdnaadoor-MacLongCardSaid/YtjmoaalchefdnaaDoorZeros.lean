/- append(x, make([]byte, n)...), x a row of the call's own: the builtin is handed the number n. A law of no program but for the types' numbers. -/
import Derived.Test.YtjmoaalchefdnaaDoorMacL
import Derived.Lib.AppendZeros
namespace Go.Proofs.YtjmoaalchefdnaaDoor
open Go.RowKit

theorem zeroCells_one (v : Value) (n : Nat) : Builtin.zeroCells #[v] n = (List.replicate n v).toArray := by
  apply Array.ext
  · simp [Builtin.zeroCells]
  · intro i h1 h2
    simp [Builtin.zeroCells, Nat.mod_one]

section
variable {P : Program}
theorem run_zeros_room (w : World) (t tn ty e : TypeId) (i : TypeInfo) (k : IntKind) (ht : P.underlying t = some (.slice e)) (htn : P.underlying tn = some (.int .i64)) (hi : P.info? e = some i) (hz : i.zero = some (.int .u8 0))
    (hs : i.size = 1) (hb : i.bytes = 1) (g sLen sCap n : Nat) (cur : Array Value) (hg : w.heap[g]? = some (.cells cur e (0, 0))) (hn : n ≤ 1099511627776) (hroom : sLen + n ≤ sCap) (hfit : sLen + n ≤ cur.size) :
    (Builtin.append_ #[t, tn] ty #[.slice (some ⟨g, 0, none⟩) sLen sCap, .int k n]).run P w =
      .ok (.slice (some ⟨g, 0, none⟩) (sLen + n) sCap) (w.setRow g (cur.toList.take sLen ++ List.replicate n (Value.int .u8 0) ++ cur.toList.drop (sLen + n)).toArray) := by
  have hw : IntKind.i64.wrap (n : Int) = n := by rw [IntKind.wrap_i64]; omega
  have h48i : ¬ (281474976710656 < (n : Int)) := by omega
  have hneg : ¬ ((n : Int) < 0) := by omega
  have hst := run_storeCells_at P g sLen e (List.replicate n (.int .u8 0)) 0 cur w hg (by simpa using hfit) (by intro v hv; rw [List.eq_of_mem_replicate hv]; rfl)
  simp only [Nat.add_zero, List.length_replicate] at hst
  by_cases h0 : n = 0
  · subst h0
    have hw0 : IntKind.i64.wrap (0 : Int) = 0 := by decide
    have hroom0 : sLen ≤ sCap := by omega
    simp only [List.replicate_zero, Nat.add_zero, List.append_nil] at hst
    simp [Builtin.append_, run_underlying ht, run_underlying htn, sizeOf, typeInfo, zeroValue, hi, hz, hs, hb, asInt, asIntOf, hw0, hroom0, Addr.add_lit, hst]
  · simp [Builtin.append_, run_underlying ht, run_underlying htn, sizeOf, typeInfo, zeroValue, hi, hz, hs, hb, asInt, asIntOf, hw, hneg, h48i, hroom, Addr.add_lit, hst, h0, zeroCells_one, Value.cells]

theorem run_zeros_grow (w : World) (t tn ty e : TypeId) (i : TypeInfo) (k : IntKind) (ht : P.underlying t = some (.slice e)) (htn : P.underlying tn = some (.int .i64)) (hi : P.info? e = some i) (hz : i.zero = some (.int .u8 0))
    (hs : i.size = 1) (hb : i.bytes = 1) (b : Addr) (sLen sCap n : Nat) (olds : List Value) (hlo : olds.length = sLen) (holds : ∀ j v, olds[j]? = some v → w.cell? (b.add j) = some v)
    (hn : sLen + n ≤ 1099511627776) (hg : sCap < sLen + n) (h0 : n ≠ 0) :
    (Builtin.append_ #[t, tn] ty #[.slice (some b) sLen sCap, .int k n]).run P w =
      .ok (.slice (some ⟨w.heap.size, 0, none⟩) (sLen + n) (grownCap w (sLen + n) sCap e))
        (w.drew.alloc (.cells (olds.toArray ++ (List.replicate n (Value.int .u8 0)).toArray ++ Builtin.zeroCells #[.int .u8 0] (grownCap w (sLen + n) sCap e - (sLen + n))) e)) := by
  have hw : IntKind.i64.wrap (n : Int) = n := by rw [IntKind.wrap_i64]; omega
  have h48i : ¬ (281474976710656 < (n : Int)) := by omega
  have hneg : ¬ ((n : Int) < 0) := by omega
  have hnr : ¬ (sLen + n ≤ sCap) := by omega
  have h63' : ¬ (9223372036854775807 < ((sLen : Int) + (n : Int))) := by omega
  have h48' := growslice_fits (bytes := 1) hg (by omega)
  rw [Nat.mul_one] at h48'
  have h48'' : ¬ (281474976710656 < Builtin.nextslicecap (sLen + n) sCap) := by omega
  have hfo := run_firstCells_some (P := P) w.drew i.size sLen b sLen sCap olds (by rw [hs, Nat.mul_one]; exact hlo) (by simpa using holds)
  rw [hs] at hfo
  simp [Builtin.append_, run_underlying ht, run_underlying htn, sizeOf, typeInfo, zeroValue, hi, hz, hs, hb, asInt, asIntOf, hw, hneg, h48i, hnr, h63', h48'', Question.forced, hfo, newRow, grownCap, h0, zeroCells_one, Value.cells]
end

/-- append(x, make([]byte, n)...), x the call's own. -/
theorem st_zeros {ops : Array Oper} {rest : List Oper} {a : Act} {w : World} {Q : Exit → Act → World → Prop} {d' : Option Tmp} {tt : TypeId} {s x : Operand} {pos : String} {after : Array Edge} {base : Nat} {v : Value} {xs : List Int} {n : Nat}
    (hs : a.eval s = v) (hx : a.eval x = .int .i64 n) (hown : Own w base v xs) (hl : xs.length + n ≤ 1099511627776) (hbase : base ≤ w.heap.size)
    (h : ∀ v' w', Own w' base v' (xs ++ List.replicate n 0) → w.grownBy w' v.ownBlock → wpList Tryd.prog ops Q rest (a.put d' v') w') :
    wpList Tryd.prog ops Q (⟨d', .call ⟨.builtin .append, #[s, x], #[22, 3]⟩, tt, pos, after, none⟩ :: rest) a w := by
  obtain ⟨i0, hi, hz0, hz1, hz2⟩ := info_parts u8info
  have hcells : nums .u8 (xs ++ List.replicate n 0) = nums .u8 xs ++ List.replicate n (Value.int .u8 0) := by simp [nums]
  have hlen : (xs ++ List.replicate n (0 : Int)).length = xs.length + n := by simp
  obtain ⟨hxl, hv | ⟨g, cap, cur, rfl, hbg, hg, hnc, hcm, hcs, htake⟩⟩ := hown
  · obtain ⟨rfl, h0⟩ := hv
    have hx0 : xs = [] := List.eq_nil_of_length_eq_zero h0
    subst hx0
    by_cases hn : n = 0
    · subst hn
      refine Lib.wpList_append_run w rfl s x 22 3 rfl _ _ hs hx (.slice none 0 0) w ?_ (h _ w (Own.nil _ _) ⟨rfl, rfl, rfl, Nat.le_refl _, fun _ _ _ => rfl⟩)
      have hw0 : IntKind.i64.wrap (0 : Int) = 0 := by decide
      simp [Builtin.append_, run_underlying (P := Tryd.prog) Tryd.underlying22, run_underlying (P := Tryd.prog) Tryd.underlying3, sizeOf, typeInfo, hi, hz2, asInt, asIntOf, hw0]
    · have hr := Lib.run_append_nil_zeros (P := Tryd.prog) w 22 3 tt 5 i0 (.int .u8 0) .i64 .i64 Tryd.underlying22 Tryd.underlying3 hi hz0 n (by omega) (by rw [hz1]; decide) (by have := hl; simp at this; omega) (by rw [hz2]; have := hl; simp at this; omega)
      refine Lib.wpList_append_run w rfl s x 22 3 rfl _ _ hs hx _ _ hr (h _ _ ⟨by rw [hlen, nums_length]; simp, .inr ⟨w.heap.size, _, _, ?_, hbase, heap_alloc_new w.drew _, ?_, grownCap_le_maxLen w n 0 5 (by have := hl; unfold maxLen; simp at this; omega), ?_, ?_⟩⟩ ⟨rfl, rfl, rfl, by simp, fun k hk _ => heap_alloc_old w.drew _ hk⟩)
      · rw [hlen]; simp
      · rw [hlen]; simpa using grownCap_ge w n 0 5
      · have := grownCap_ge w n 0 5
        show _ = _
        have e1 : (Value.int IntKind.u8 0).cells = #[.int .u8 0] := rfl
        rw [e1, zeroCells_one, zeroCells_one]; simp; omega
      · have e1 : (Value.int IntKind.u8 0).cells = #[.int .u8 0] := rfl
        rw [e1, zeroCells_one, zeroCells_one, hlen]; simp [nums]
  · have hxl2 : xs.length = (nums .u8 xs).length := (nums_length _ _).symm
    by_cases hroom : xs.length + n ≤ cap
    · have hr := run_zeros_room (P := Tryd.prog) w 22 3 tt 5 i0 .i64 Tryd.underlying22 Tryd.underlying3 hi hz0 hz1 hz2 g xs.length cap n cur hg (by omega) hroom (by rw [hcs]; omega)
      refine Lib.wpList_append_run w rfl s x 22 3 rfl _ _ hs hx _ _ hr (h _ _ ⟨by rw [hlen, nums_length]; simp, .inr ⟨g, cap, _, by rw [hlen], hbg, setRow_heap w g cur _ _ _ hg, by rw [hlen]; exact hroom, hcm, ?_, ?_⟩⟩ ⟨rfl, rfl, rfl, by simp, fun k _ hk => setRow_other w g k _ (fun e => hk (by simp [Value.ownBlock, e]))⟩)
      · simp only [List.size_toArray, List.length_append, List.length_take, List.length_drop, Array.length_toList, List.length_replicate]
        omega
      · rw [Nat.mul_one] at htake
        rw [htake, hlen, hcells, Nat.mul_one]
        exact List.take_left' (by rw [List.length_append, nums_length, List.length_replicate])
    · have hn0 : n ≠ 0 := by omega
      have holds : ∀ j u, (nums .u8 xs)[j]? = some u → w.cell? ((⟨g, 0, none⟩ : Addr).add j) = some u :=
        World.ownsRow.cells (v := .slice (some ⟨g, 0, none⟩) xs.length cap) (base := base) (e := 5) (size := 1) (n := xs.length) ⟨hxl, .inr ⟨g, cap, cur, rfl, hbg, hg, hnc, hcm, hcs, htake⟩⟩ rfl
      have hr := run_zeros_grow (P := Tryd.prog) w 22 3 tt 5 i0 .i64 Tryd.underlying22 Tryd.underlying3 hi hz0 hz1 hz2 ⟨g, 0, none⟩ xs.length cap n (nums .u8 xs) (nums_length _ _) holds hl (by omega) hn0
      have hge := grownCap_ge w (xs.length + n) cap 5
      refine Lib.wpList_append_run w rfl s x 22 3 rfl _ _ hs hx _ _ hr (h _ _ ⟨by rw [hlen, nums_length]; simp, .inr ⟨w.heap.size, _, _, by rw [hlen], hbase, heap_alloc_new w.drew _, by rw [hlen]; exact hge, grownCap_le_maxLen w (xs.length + n) cap 5 (by unfold maxLen; omega), ?_, ?_⟩⟩ ⟨rfl, rfl, rfl, by simp, fun k hk _ => heap_alloc_old w.drew _ hk⟩)
      · rw [zeroCells_one]; simp [nums_length]; omega
      · rw [zeroCells_one, hlen, hcells]
        simp only [Array.toList_append, Nat.mul_one]
        exact List.take_left' (by simp [nums_length])
end Go.Proofs.YtjmoaalchefdnaaDoor
