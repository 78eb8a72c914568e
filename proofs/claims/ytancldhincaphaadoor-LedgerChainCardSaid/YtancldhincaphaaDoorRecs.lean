/- Slices of records (structs of a fixed number of cells) in memory of the call's own: built, grown by append, read. No condition. -/
import Derived.Test.YtancldhincaphaaDoorLedP
import Derived.Test.YtancldhincaphaaDoorGj
namespace Go.Proofs.YtancldhincaphaaDoor
open Go.RowKit
set_option maxRecDepth 100000

theorem flat_at {α : Type} (sz : Nat) : ∀ (css : List (List α)), (∀ c ∈ css, c.length = sz) → ∀ (i j : Nat) (h : i < css.length), j < sz → css.flatten[i * sz + j]? = (css[i])[j]?
  | [], _, i, _, h, _ => by simp at h
  | c :: css, hs, 0, j, _, hj => by
    have hc := hs c (by simp)
    rw [List.flatten_cons, List.getElem?_append_left (by omega), Nat.zero_mul, Nat.zero_add]; rfl
  | c :: css, hs, i + 1, j, h, hj => by
    have hc := hs c (by simp)
    rw [List.flatten_cons, List.getElem?_append_right (by rw [hc, Nat.add_mul]; omega), hc, show (i + 1) * sz + j - sz = i * sz + j by rw [Nat.add_mul]; omega]
    exact flat_at sz css (fun c hc => hs c (by simp [hc])) i j (by simpa using h) hj
theorem flat_len {α : Type} (sz : Nat) : ∀ (css : List (List α)), (∀ c ∈ css, c.length = sz) → css.flatten.length = css.length * sz
  | [], _ => by simp
  | c :: css, hs => by
    rw [List.flatten_cons, List.length_append, hs c (by simp), flat_len sz css (fun c hc => hs c (by simp [hc])), List.length_cons, Nat.add_mul]; omega

/-- Records in memory of the call's own, from block base on. -/
def OwnR (w : World) (base : Nat) (e : TypeId) (sz : Nat) (v : Value) (css : List (List Value)) : Prop := w.ownsRow base e sz v css.length css.flatten ∧ ∀ c ∈ css, c.length = sz
theorem OwnR.nil (w : World) (base : Nat) (e : TypeId) (sz : Nat) : OwnR w base e sz (.slice none 0 0) [] := ⟨World.ownsRow_nil w base _ _, fun c hc => by cases hc⟩
theorem OwnR.lt {w : World} {base sz : Nat} {e : TypeId} {v : Value} {css : List (List Value)} (h : OwnR w base e sz v css) (k : Nat) (hk : v.ownBlock = some k) : base ≤ k ∧ k < w.heap.size := World.ownsRow.lt h.1 k hk
theorem OwnR.ch {X : Nat → Prop} {w w' : World} {base sz : Nat} {e : TypeId} {v : Value} {css : List (List Value)} (h : OwnR w base e sz v css) (hc : Ch X w w') (hx : ∀ k, v.ownBlock = some k → ¬ X k) : OwnR w' base e sz v css := ⟨ownsRow_ch h.1 hc hx, h.2⟩
theorem OwnR.kept {w w' : World} {base sz : Nat} {e : TypeId} {v : Value} {css : List (List Value)} (h : OwnR w base e sz v css) (hb : Below w.heap.size w w') : OwnR w' base e sz v css := h.ch (Ch.of (X := fun _ => False) hb) (fun _ _ h => h)
theorem OwnR.form {w : World} {base sz : Nat} {e : TypeId} {v : Value} {css : List (List Value)} (h : OwnR w base e sz v css) : ∃ A c, v = .slice A css.length c ∧ css.length ≤ c ∧ (A = none → c = 0) ∧ (∀ a, A = some a → a.off = 0 ∧ a.spot = none ∧ base ≤ a.block ∧ a.block < w.heap.size) := by
  rcases h.1.2 with ⟨rfl, h0⟩ | ⟨g, cap, cur, rfl, hg, hh, hn, _⟩
  · exact ⟨none, 0, by rw [h0], by omega, fun _ => rfl, fun a ha => by cases ha⟩
  · exact ⟨some ⟨g, 0, none⟩, cap, rfl, hn, fun h => (by cases h), fun a ha => by injection ha with ha; subst ha; exact ⟨rfl, rfl, hg, (Array.getElem?_eq_some_iff.1 hh).1⟩⟩
theorem OwnR.get {w : World} {base sz n c : Nat} {e : TypeId} {A : Option Addr} {css : List (List Value)} (h : OwnR w base e sz (.slice A n c) css) (hl : 0 < css.length) : ∃ g, A = some ⟨g, 0, none⟩ ∧ n = css.length ∧ g < w.heap.size ∧ ∀ i (hi : i < css.length) j v, (css[i])[j]? = some v → w.cell? ⟨g, i * sz + j, none⟩ = some v := by
  rcases h.1.2 with ⟨_, h0⟩ | ⟨g, cap, cur, hv, hg, hh, hn, hm, hsz, ht⟩
  · omega
  · injection hv with e1 e2 e3
    refine ⟨g, e1, e2, (Array.getElem?_eq_some_iff.1 hh).1, fun i hi j v hv => ?_⟩
    have hci := h.2 _ (List.getElem_mem hi)
    have hj : j < sz := by rw [← hci]; exact (List.getElem?_eq_some_iff.1 hv).1
    rw [← flat_at sz css h.2 i j hi hj, ← ht, List.getElem?_take] at hv
    split at hv
    · simp only [World.cell?, hh]
      simpa using hv
    · cases hv
theorem fill_oneR (sz : Nat) (cs : List Value) (z : Array Value) (hz : z.size = sz) (hc : cs.length = sz) : Instr.fill (fun i => some (i * sz, sz)) z [(0, .agg cs.toArray)] = some cs.toArray := by
  have h := fold_zip cs 0 z [] z.toList rfl rfl (by simp [hz, hc])
  have h2 : (cs.toArray.zipIdx.foldl (fun (a : Array Value) (x : Value × Nat) => a.setIfInBounds (0 + x.2) x.1) z) = cs.toArray := by
    apply Array.ext'
    simp only [Nat.zero_add]
    rw [← Array.foldl_toList]
    simpa using h
  simp [Instr.fill, Value.cells, hc, hz]
  simpa using h2
/-- []T{x} of one record. -/
theorem st_buildR {ops : Array Oper} {rest : List Oper} {a : Act} {w : World} {Q : Exit → Act → World → Prop} {d' : Option Tmp} {tt t e : TypeId} {x : Operand} {pos : String} {after : Array Edge} {cs : List Value} {z : Value} {sz b : Nat}
    (ht : Tryd.prog.underlying t = some (.slice e)) (hi : (Tryd.prog.info? e).map (fun i => (i.zero, i.size, i.bytes)) = some (some z, sz, b)) (hz : z.cells.size = sz) (h0 : 0 < sz) (h24 : sz ≤ 1000000) (hx : a.eval x = .agg cs.toArray) (hc : cs.length = sz)
    (h : wpList Tryd.prog ops Q rest (a.put d' (.slice (some ⟨w.heap.size, 0, none⟩) 1 1)) (w.alloc (.cells cs.toArray e))) :
    wpList Tryd.prog ops Q (⟨d', .buildSlice t 1 #[(0, x)], tt, pos, after, none⟩ :: rest) a w := by
  obtain ⟨i0, hi, hz0, hz1, hz2⟩ := info_parts hi
  have hrun : (Instr.buildSlice t 1 #[(0, .agg cs.toArray)]).run Tryd.prog w = .ok (.slice (some ⟨w.heap.size, 0, none⟩) 1 1) (w.alloc (.cells cs.toArray e)) := by
    have hf := fill_oneR sz cs ((Array.range sz).map fun j => z.cells[j % sz]!) (by simp) hc
    have e1 : ¬ (1 * i0.size > 2 ^ 24) := by rw [hz1]; omega
    have e2 : ¬ (1 * i0.size = 0) := by rw [hz1]; omega
    have e3 : Instr.fill (fun i => some (i * i0.size, i0.size)) ((Array.range (1 * i0.size)).map (z.cells[· % z.cells.size]!)) (#[((0 : Nat), Value.agg cs.toArray)] : Array (Nat × Value)).toList = some cs.toArray := by
      rw [hz1, hz, Nat.one_mul]; exact hf
    exact run_buildSlice w _ _ 1 _ _ i0 _ ht hi hz0 e1 e2 e3
  refine wpList_plain rfl fun K hK => ?_
  unfold Oper.wp execOp
  simp only [Sem.run_bind]
  rw [show ((#[(0, x)] : Array (Nat × Operand)).map fun y => match y with | (i, x) => (i, a.eval x)) = #[(0, .agg cs.toArray)] by simp [hx], hrun]
  exact hK _ _ h
/-- append(x, y) of one record, x the call's own. -/
theorem st_appendR {ops : Array Oper} {rest : List Oper} {a : Act} {w : World} {Q : Exit → Act → World → Prop} {d' : Option Tmp} {tt t e : TypeId} {s x : Operand} {pos : String} {after : Array Edge} {base g2 sz b : Nat} {v z : Value} {cs : List Value} {css : List (List Value)}
    (ht : Tryd.prog.underlying t = some (.slice e)) (hi : (Tryd.prog.info? e).map (fun i => (i.zero, i.size, i.bytes)) = some (some z, sz, b)) (hz : z.cells.size = sz) (h0 : 0 < sz) (hb : b ≤ 100000)
    (hs : a.eval s = v) (hx : a.eval x = .slice (some ⟨g2, 0, none⟩) 1 1) (ho : OwnR w base e sz v css) (hr : Blk w g2 cs e) (hc : cs.length = sz) (h1 : ∀ u ∈ cs, u.oneCell' = true) (hl : css.length ≤ 1000000) (hbase : base ≤ w.heap.size)
    (h : ∀ v' w', OwnR w' base e sz v' (css ++ [cs]) → w.grownBy w' v.ownBlock → (v'.ownBlock = v.ownBlock ∨ v'.ownBlock = some w.heap.size) → wpList Tryd.prog ops Q rest (a.put d' v') w') :
    wpList Tryd.prog ops Q (⟨d', .call ⟨.builtin .append, #[s, x], #[t, t]⟩, tt, pos, after, none⟩ :: rest) a w := by
  obtain ⟨i0, hi, hz0, hz1, hz2⟩ := info_parts hi
  refine wpList_append_own_at (w := w) rfl s x t rfl base e i0 z sz b ht hi hz0 hz1 hz2 hz h0 v css.length css.flatten hs ho.1 ⟨g2, 0, none⟩ 1 1 cs hx (by omega) (fun j u hu => ?_) h1 (by unfold maxLen; omega) ?_ hbase ?_
  · have := hr.cell j
    rw [hu] at this
    have e : (⟨g2, 0, none⟩ : Addr).add j = ⟨g2, j, none⟩ := by unfold Addr.add; split <;> simp_all
    rw [e]; exact this
  · have := Nat.mul_le_mul (show css.length + 1 ≤ 1000001 by omega) hb; omega
  · intro v' w' ho' hgr _ hat
    refine h v' w' ⟨?_, fun c hcm => ?_⟩ hgr hat
    · rw [List.length_append, List.flatten_append, List.flatten_cons, List.flatten_nil, List.append_nil]
      exact ho'
    · rcases List.mem_append.1 hcm with h | h
      · exact ho.2 c h
      · rw [List.mem_singleton.1 h]; exact hc

end Go.Proofs.YtancldhincaphaaDoor
