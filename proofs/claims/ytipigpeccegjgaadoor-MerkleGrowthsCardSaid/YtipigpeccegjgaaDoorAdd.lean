/- What (*sha.Hash).Add does. Condition: the package's table k reads as its text lays it; texts of fewer than 2^40 bytes. -/
import Derived.Test.YtipigpeccegjgaaDoorHash
namespace Go.Proofs.YtipigpeccegjgaaDoor
open Go.RowKit

theorem laid_mid (A X B V : List Value) (q n : Nat) (hA : A.length = n) (h : q + V.length ≤ X.length) : laid (A ++ X ++ B) (n + q) V = A ++ laid X q V ++ B := by
  subst hA
  unfold laid
  rw [List.append_assoc A X B, List.take_append, List.drop_append]
  rw [List.take_of_length_le (by omega), List.drop_of_length_le (by omega)]
  rw [show A.length + q - A.length = q by omega, show A.length + q + V.length - A.length = q + V.length by omega]
  rw [List.take_append_of_le_length (by omega), List.drop_append_of_le_length h]
  simp
theorem nums_partTo (part new : List Int) (q : Nat) : nums .u8 (partTo part q new) = laid (nums .u8 part) q (nums .u8 new) := by
  simp [partTo, laid, nums, List.map_take, List.map_drop]
theorem nums_drop (k : IntKind) (xs : List Int) (n : Nat) : nums k (xs.drop n) = (nums k xs).drop n := by simp [nums, List.map_drop]
theorem hash_part (s part new : List Int) (n : Int) (q : Nat) (hs : s.length = 8) (hp : part.length = 64) (h : q + new.length ≤ 64) : laid (hashCells s part n) (9 + q) (nums .u8 new) = hashCells s (partTo part q new) n := by
  unfold hashCells
  rw [← List.cons_append, ← List.cons_append, laid_mid _ _ _ _ _ 9 (by simp [nums_length, hs]) (by rw [nums_length, nums_length, hp]; exact h), nums_partTo]
  rfl
theorem hash_s (s s' part : List Int) (n : Int) (hs : s.length = 8) (hs' : s'.length = 8) : laid (hashCells s part n) 1 (nums .u32 s') = hashCells s' part n := by
  unfold hashCells
  have := laid_mid [.bool true] (nums .u32 s) (nums .u8 part ++ [.int .i64 n]) (nums .u32 s') 0 1 rfl (by rw [nums_length, nums_length, hs, hs']; omega)
  rw [laid_all _ _ (by rw [nums_length, nums_length, hs, hs'])] at this
  simpa using this
theorem hash_n (s part : List Int) (n n' : Int) (hs : s.length = 8) (hp : part.length = 64) : (hashCells s part n).set 73 (.int .i64 n') = hashCells s part n' := by
  unfold hashCells
  rw [← List.cons_append, ← List.cons_append, List.set_append_right _ _ (by simp [nums_length, hs, hp])]
  simp [nums_length, hs, hp]

theorem hash_get_s (s part : List Int) (n : Int) (hs : s.length = 8) : (((hashCells s part n).drop 1).take 8).toArray = (nums .u32 s).toArray := by
  unfold hashCells
  rw [List.drop_succ_cons, List.drop_zero, List.append_assoc, List.take_append_of_le_length (by rw [nums_length, hs]; omega), List.take_of_length_le (by rw [nums_length, hs]; omega)]
theorem hash_get_part (s part : List Int) (n : Int) (hs : s.length = 8) (hp : part.length = 64) : (((hashCells s part n).drop 9).take 64).toArray = (nums .u8 part).toArray := by
  unfold hashCells
  rw [show (9 : Nat) = 8 + 1 from rfl, List.drop_succ_cons, List.append_assoc, List.drop_append_of_le_length (by rw [nums_length, hs]; omega), List.drop_of_length_le (by rw [nums_length, hs]; omega), List.nil_append,
    List.take_append_of_le_length (by rw [nums_length, hp]; omega), List.take_of_length_le (by rw [nums_length, hp]; omega)]
theorem hash_len (s part : List Int) (n : Int) (hs : s.length = 8) (hp : part.length = 64) : (hashCells s part n).length = 74 := by
  simp [hashCells, nums_length, hs, hp]

/-- One row was written, nothing else. -/
structure Wrote (w w' : World) (g : Nat) : Prop where
  os : w'.os = w.os
  tape : w'.tape = w.tape
  output : w'.output = w.output
  size : w'.heap.size = w.heap.size
  far : ∀ k, k ≠ g → w'.heap[k]? = w.heap[k]?
theorem Wrote.row (w : World) (g : Nat) (r : Array Value) : Wrote w (w.setRow g r) g := ⟨rfl, rfl, rfl, by simp, fun k hk => setRow_other w g k r hk⟩
theorem Wrote.blk {w w' : World} {g k : Nat} {cs : List Value} {T : TypeId} (h : Wrote w w' g) (hb : Blk w k cs T) (hne : k ≠ g) : Blk w' k cs T := by
  unfold Blk at hb ⊢; rw [h.far k hne]; exact hb
theorem Wrote.cell {w w' : World} {g k j : Nat} (h : Wrote w w' g) (hne : k ≠ g) : w'.cell? ⟨k, j, none⟩ = w.cell? ⟨k, j, none⟩ := World.cell?_of_block (w := w) (h.far k hne)
theorem But.wrote {g B : Nat} {w w' w'' : World} (h : But g B w w') (hw : Wrote w' w'' g) : But g B w w'' :=
  ⟨hw.os.trans h.os, hw.tape.trans h.tape, hw.output.trans h.output, by rw [hw.size]; exact h.size, fun k hk hg => by rw [hw.far k hg]; exact h.block k hk hg⟩
theorem Wrote.below {B g : Nat} {w w' w'' : World} (h : Below B w w') (hw : Wrote w' w'' g) (hB : B ≤ g) : Below B w w'' :=
  h.trans ⟨hw.os, hw.tape, hw.output, by rw [hw.size]; exact Nat.le_refl _, fun k hk => hw.far k (by omega)⟩

section
variable {P : Program} {ops : Array Oper} {Q : Exit → Act → World → Prop} {rest : List Oper} {a : Act} {w : World}
/-- A copy of bytes into a row; the world behind it by a name. -/
theorem st_copyW {d' : Option Tmp} {tt dT sT elem : TypeId} {d s : Operand} {pos : String} {after : Array Edge} {g off dLen dCap g2 off2 sLen sCap m : Nat} {cur cs : List Value} {T : TypeId}
    (hu : P.underlying dT = some (.slice elem)) (hsz : (P.info? elem).map (·.size) = some 1)
    (hd : a.eval d = .slice (some ⟨g, off, none⟩) dLen dCap) (hs : a.eval s = .slice (some ⟨g2, off2, none⟩) sLen sCap) (hg : Blk w g cur T) (hm : cs.length = m) (hn : m = Nat.min sLen dLen)
    (hsrc : ∀ j v, cs[j]? = some v → w.cell? ⟨g2, off2 + j, none⟩ = some v) (hfit : off + m ≤ cur.length) (h1 : ∀ v ∈ cs, v.oneCell' = true)
    (h : ∀ w', Blk w' g (laid cur off cs) T → Wrote w w' g → wpList P ops Q rest (a.put d' (.int .i64 m)) w') : wpList P ops Q (⟨d', .call ⟨.builtin .copy, #[d, s], #[dT, sT]⟩, tt, pos, after, none⟩ :: rest) a w := by
  subst hm
  exact st_copy hu hsz hd hs hg hn hsrc hfit h1 (h _ (hg.row _) (Wrote.row _ _ _))
theorem st_storeW {ty tt : TypeId} {x y : Operand} {pos : String} {after : Array Edge} {g off : Nat} {vs cs : List Value} {T : TypeId}
    (hx : a.eval x = .pointer (some ⟨g, off, none⟩)) (hy : a.eval y = .agg vs.toArray) (hg : Blk w g cs T)
    (hi : (P.info? ty).map (·.size) = some vs.length) (hle : off + vs.length ≤ cs.length) (h1 : ∀ v ∈ vs, v.oneCell' = true)
    (h : ∀ w', Blk w' g (laid cs off vs) T → Wrote w w' g → wpList P ops Q rest a w') : wpList P ops Q (⟨none, .store ty x y, tt, pos, after, none⟩ :: rest) a w :=
  st_store hx hy hg hi hle h1 (h _ (hg.row _) (Wrote.row _ _ _))

/-- x[i:] of a slice of elements of one cell. -/
theorem st_from {d' : Option Tmp} {tt t e : TypeId} {x lo : Operand} {pos : String} {after : Array Edge} {A : Option Addr} {n c i : Nat} {k : IntKind}
    (hu : P.underlying t = some (.slice e)) (hsz : (P.info? e).map (·.size) = some 1) (hx : a.eval x = .slice A n c) (hlo : a.eval lo = .int k i) (hi : i ≤ n)
    (h : ∀ A2, A2 = (if c = i then A else A.map (·.add i)) → wpList P ops Q rest (a.put d' (.slice A2 (n - i) (c - i))) w) :
    wpList P ops Q (⟨d', .slice t x (some lo) none none, tt, pos, after, none⟩ :: rest) a w :=
  wpList_plain rfl fun K hK => by
    have hrun : (Instr.sliceAt t (.slice A n c) (some (.int k i)) none none).run P w = .ok (.slice (if c = i then A else A.map (·.add i)) (n - i) (c - i)) w := by
      cases hq : P.info? e with
      | none => simp [hq] at hsz
      | some info =>
        have hs : info.size = 1 := by simpa [hq] using hsz
        simp [Instr.sliceAt, run_underlying hu, Instr.slice, Instr.sliceBounds, Instr.sliceBound, asIntOf, sizeOf, typeInfo, hq, hs, hi]
    unfold Oper.wp execOp
    simp only [Sem.run_bind, hx, Option.map_some, Option.map_none, hlo, hrun]
    exact hK _ _ (h _ rfl)
/-- x[i:] of an array of elements of one cell, in memory. -/
theorem st_fromArr {d' : Option Tmp} {tt t e : TypeId} {x lo : Operand} {pos : String} {after : Array Edge} {g off n i : Nat} {k : IntKind} {z : Int}
    (hu : P.underlying t = some (.array n e)) (hsz : (P.info? e).map (·.size) = some 1) (hx : a.eval x = .pointer (some ⟨g, off, none⟩)) (hlo : a.eval lo = .int k z) (hz : z = i) (hi : i < n)
    (h : wpList P ops Q rest (a.put d' (.slice (some ⟨g, off + i, none⟩) (n - i) (n - i))) w) :
    wpList P ops Q (⟨d', .slice t x (some lo) none none, tt, pos, after, none⟩ :: rest) a w :=
  wpList_plain rfl fun K hK => by
    subst hz
    have hrun : (Instr.sliceAt t (.pointer (some ⟨g, off, none⟩)) (some (.int k i)) none none).run P w = .ok (.slice (some ⟨g, off + i, none⟩) (n - i) (n - i)) w := by
      cases hq : P.info? e with
      | none => simp [hq] at hsz
      | some info =>
        have hs : info.size = 1 := by simpa [hq] using hsz
        have hi' : i ≤ n := by omega
        have hne : ¬ n = i := by omega
        have hadd : (⟨g, off, none⟩ : Addr).add i = ⟨g, off + i, none⟩ := by unfold Addr.add; split <;> simp_all
        simp [Instr.sliceAt, run_underlying hu, Instr.sureAddr, Instr.sliceBounds, Instr.sliceBound, asIntOf, sizeOf, typeInfo, hq, hs, hi', hne, hadd]
    unfold Oper.wp execOp
    simp only [Sem.run_bind, hx, Option.map_some, Option.map_none, hlo, hrun]
    exact hK _ _ h
end

theorem Rd.from {w : World} {A : Option Addr} {cs : List Value} {c i : Nat} (h : Rd w A cs) (hc : cs.length ≤ c) : Rd w (if c = i then A else A.map (·.add i)) (cs.drop i) := by
  by_cases e : c = i
  · rw [if_pos e, List.drop_of_length_le (by omega)]; exact Rd.nil _ _
  · rw [if_neg e]
    rcases h with h | ⟨g, off, rfl, hr⟩
    · subst h; rw [List.drop_nil]; exact Rd.nil _ _
    · refine .inr ⟨g, off + i, ?_, fun j v hv => ?_⟩
      · simp only [Option.map_some, Option.some.injEq]; unfold Addr.add; split <;> simp_all
      · rw [List.getElem?_drop] at hv
        have := hr (i + j) v hv
        rwa [← Nat.add_assoc] at this

set_option maxHeartbeats 2000000 in
set_option maxRecDepth 100000 in
theorem add_any (w : World) (g : Nat) (all bs : List Int) (A : Option Addr) (c : Nat) (h : IsHash w g all) (hr : Rd w A (nums .u8 bs)) (hc : bs.length ≤ c) (hA : A = none → c = 0)
    (hne : 0 < bs.length → ∀ a, A = some a → a.block ≠ g) (hl : all.length + bs.length ≤ 1099511627776) (hk : KV w) :
    Calls Tryd.prog 38 #[.pointer (some ⟨g, 0, none⟩), .slice A bs.length c] w fun e w' => e = .returned (.int .i64 0) ∧ But g w.heap.size w w' ∧ IsHash w' g (all ++ bs) := by
  have hgk : g ≠ 0 := by
    rintro rfl
    obtain ⟨s, part, hb, _⟩ := h
    have h1 := hk 0 (by decide)
    rw [hb.cell] at h1
    simp [hashCells] at h1
  have c0 : w.cell? ⟨g, 0, none⟩ = some (.bool true) := by
    obtain ⟨s, part, hb, _⟩ := h
    rw [hb.cell]; rfl
  have HIH := Lib.hid h
  have hglt := h.lt
  have HR := Lib.hid hr
  have HK := Lib.hid hk
  have HNE := Lib.hid hne
  have HC := Lib.hid hA
  clear h hr hk hne hA
  go_enter Tryd.func38, Tryd.ntmps38
  go_wp2
  go_loopw [1] (fun b wr => ∃ (j : Nat) (A' : Option Addr) (c' : Nat), b = .slice A' (bs.length - j) c' ∧ j ≤ bs.length ∧ bs.length - j ≤ c' ∧ Hid (A' = none → c' = 0) ∧ Hid (Rd w A' (nums .u8 (bs.drop j))) ∧ Hid (0 < bs.length → ∀ a, A' = some a → a.block ≠ g) ∧ But g w.heap.size w wr ∧ IsHash wr g (all ++ bs.take j)) (fun b _ => lenV b)
  case atStart => exact ⟨0, A, c, rfl, by omega, by omega, HC, by rw [List.drop_zero]; exact HR, HNE, But.refl _ _ _, by rw [List.take_zero, List.append_nil]; exact HIH.out⟩
  case round =>
    obtain ⟨j, A', c', rfl, hj, hc', HC', HR', HNE', hB, hH⟩ := hrel
    by_cases hlt : j < bs.length
    · have HR2 := HR'.out
      obtain ⟨g2, off2, rfl, hsrc⟩ := HR2.get (by rw [nums_length, List.length_drop]; omega)
      clear HR2
      have hg2 : g2 ≠ g := HNE'.out (by omega) _ rfl
      have hg2lt : g2 < w.heap.size := World.block_lt_of_cell? (h := hsrc 0 _ (nums_at .u8 (bs.drop j) 0 (by simp; omega)))
      have hsrc' : ∀ i v, (nums .u8 (bs.drop j))[i]? = some v → wr.cell? ⟨g2, off2 + i, none⟩ = some v := fun i v hv => by rw [hB.cell g2 _ hg2lt hg2]; exact hsrc i v hv
      have HSRC := Lib.hid hsrc'
      clear hsrc hsrc'
      obtain ⟨s, part, hb, hh⟩ := hH
      have hsl := hh.len
      have hpl := hh.size
      obtain ⟨n0, hn0⟩ : ∃ n0, n0 = (all ++ bs.take j).length := ⟨_, rfl⟩
      have hn0' : n0 = all.length + j := by rw [hn0]; simp; omega
      rw [← hn0] at hb
      obtain ⟨q, hq⟩ : ∃ q, n0 % 64 = q := ⟨_, rfl⟩
      have hq63 : q < 64 := by omega
      have hqi : (n0 : Int) % 64 = (q : Int) := by omega
      obtain ⟨m, hm⟩ : ∃ m, m = min (bs.length - j) (64 - q) := ⟨_, rfl⟩
      have hm1 : m ≤ bs.length - j := by omega
      have hm2 : q + m ≤ 64 := by omega
      have hm0 : 0 < m := by omega
      have c73 : wr.cell? ⟨g, 73, none⟩ = some (.int .i64 n0) := by
        rw [hb.cell]; simp [hashCells, nums_length, hsl, hpl]
      have hnl : ((bs.drop j).take m).length = m := by simp; omega
      have e1 : q < 64 := hq63
      have hn0b : n0 + m ≤ 1099511627776 := by omega
      have HN0 := Lib.hid hn0
      have HM := Lib.hid hm
      have HQ := Lib.hid hq
      have HNL := Lib.hid hnl
      have HSL := Lib.hid hsl
      have HPL := Lib.hid hpl
      have HH := Lib.hid hh
      clear hn0 hn0' hm hq hnl hsl hpl hh
      obtain ⟨part2, hp2⟩ : ∃ p, p = partTo part q ((bs.drop j).take m) := ⟨_, rfl⟩
      have hpl2 : part2.length = 64 := by rw [hp2, partTo_len part q _ (by rw [HNL.out, HPL.out]; exact hm2), HPL.out]
      have HP := Lib.hid hp2
      have HPL2 := Lib.hid hpl2
      clear hp2 hpl2
      by_cases h64 : q + m = 64
      · have b64 : ((q : Int) + (m : Int) == 64) = true := by simp; omega
        go_wp2_with (first
          | (apply st_fromArr (i := q); exact Tryd.underlying67; kernel_rfl; rfl; rfl; exact hqi; exact hq63)
          | (apply st_copyW (m := m) (cs := nums .u8 ((bs.drop j).take m)) (cur := hashCells s part n0) (T := 71); exact Tryd.underlying32; kernel_rfl; rfl; rfl; exact hb; (rw [nums_length, HNL.out]); exact HM.out; (intro i v hv; refine HSRC.out i v ?_; rw [show nums .u8 ((bs.drop j).take m) = (nums .u8 (bs.drop j)).take m by simp [nums, List.map_take], List.getElem?_take] at hv; split at hv; exact hv; cases hv); (rw [hash_len _ _ _ HSL.out HPL.out]; omega); exact nums_one _ _;
              intro w2 hb2 hw2; rw [hash_part s part _ n0 q HSL.out HPL.out (by rw [HNL.out]; exact hm2), ← HP.out] at hb2;
              have d73 : w2.cell? ⟨g, 73, none⟩ = some (.int .i64 n0) := (by rw [hb2.cell]; simp [hashCells, nums_length, HSL.out, HPL2.out]); have f73 := hb2.frozen 73)
          | (apply st_from (i := m); exact Tryd.underlying32; kernel_rfl; rfl; rfl; exact hm1; intro A2 hA2; have HA2 := Lib.hid hA2; clear hA2))
        have hb3 : Blk (w2.setCell ⟨g, 73, none⟩ (.int .i64 (n0 + m))) g (hashCells s part2 (n0 + m)) 71 := by
          rw [← hash_n s part2 n0 _ HSL.out HPL2.out]; exact hb2.set 73 _
        have hB3 : But g w.heap.size w (w2.setCell ⟨g, 73, none⟩ (.int .i64 (n0 + m))) := (hB.wrote hw2).set 73 _
        have hK3 : KV (w2.setCell ⟨g, 73, none⟩ (.int .i64 (n0 + m))) := fun i hi => by rw [hB3.cell _ i HK.out.lt (Ne.symm hgk)]; exact HK.out i hi
        obtain ⟨w3, hw3⟩ : ∃ w3, w3 = w2.setCell ⟨g, 73, none⟩ (.int .i64 (n0 + m)) := ⟨_, rfl⟩
        rw [← hw3] at hb3 hB3 hK3 ⊢
        clear hw3 hw2 hb2 d73 f73
        have HB3 := Lib.hid hb3
        have HK3 := Lib.hid hK3
        clear hK3
        refine wp_region_C (Same [g] w3) [9, 12] (by kernel_rfl) (by kernel_rfl) (by intro c a w h; first | (obtain ⟨_, h, _⟩ := h; cases h; done) | (obtain ⟨_, _, h, _⟩ := h; cases h; done)) (by intro a w h; first | (obtain ⟨h, _⟩ := h; cases h; done) | (obtain ⟨_, h, _⟩ := h; cases h; done)) (Same.refl _ _) ?_
        repeat (refine wd_w (v := ?_) rfl rfl rfl rfl rfl rfl (fun w' hw' K hK => ?_) ?_; rotate_left; (have e1 := hw'.blk HB3.out (by simp); go_wp2_with ((first | (apply st_load (n := 8) (cs := hashCells s part2 (n0 + m)) (T := 71); rfl; exact e1; exact Tryd.underlying65; rfl; kernel_rfl; (rw [hash_len _ _ _ HSL.out HPL2.out]; omega); exact hash_get_s _ _ _ HSL.out) | (apply st_load (n := 64) (cs := hashCells s part2 (n0 + m)) (T := 71); rfl; exact e1; exact Tryd.underlying67; rfl; kernel_rfl; (rw [hash_len _ _ _ HSL.out HPL2.out]; omega); exact hash_get_part _ _ _ HSL.out HPL2.out))); exact rfl); simp only [Act.put, List.setIfInBounds_toArray, List.set_cons_zero, List.set_cons_succ])
        refine wd_l rfl rfl (by intro a w h; first | (obtain ⟨h, _⟩ := h; cases h; done) | (obtain ⟨_, h, _⟩ := h; cases h; done)) ?_
        go_wp2_with (go_at_call 51; refine (block_any _ s part2 HSL.out HPL2.out ?_).mono ?_; exact HK3.out; rintro e w4 ⟨rfl, hb4⟩)
        replace hb4 : Below w3.heap.size w3 w4 := ⟨hb4.os, hb4.tape, hb4.output, hb4.size, hb4.block⟩
        refine ⟨.inr ((Same.refl _ _).below hb4 (by simp; exact hb3.lt)), ?_⟩
        repeat (refine wd_q (v := ?_) rfl rfl rfl rfl rfl rfl (fun w' hw' K hK => ?_) ?_; rotate_left; (go_wp2; exact rfl); simp only [Act.put, List.setIfInBounds_toArray, List.set_cons_zero, List.set_cons_succ])
        have hb5 : Blk w4 g (hashCells s part2 (n0 + m)) 71 := hb3.up hb4
        refine wd_last rfl (by kernel_rfl) rfl (by intro a w h; first | (obtain ⟨h, _⟩ := h; cases h; done) | (obtain ⟨_, h, _⟩ := h; cases h; done)) ?_
        go_wp2_with (apply st_storeW (off := 1) (vs := nums .u32 (blockF s part2)) (cs := hashCells s part2 (n0 + m)) (T := 71); rfl; rfl; exact hb5; (rw [nums_length, blockF_len _ _ HSL.out]; kernel_rfl); (rw [nums_length, blockF_len _ _ HSL.out, hash_len _ _ _ HSL.out HPL2.out]; omega); exact nums_one _ _; intro w5 hb6 hw5)
        rw [hash_s _ _ _ _ HSL.out (blockF_len _ _ HSL.out)] at hb6
        go_roundw
        case rel =>
          refine ⟨j + m, A2, c' - m, by rw [Nat.sub_sub], by omega, by omega, ?_, ?_, ?_, (hB3.up hb4 (Nat.le_refl _)).wrote hw5, ?_⟩
          · intro h0; rw [HA2.out] at h0; split at h0 <;> cases h0
          · have := Rd.from (i := m) HR'.out (c := c') (by rw [nums_length, List.length_drop]; exact hc')
            rw [← nums_drop, List.drop_drop] at this
            rw [HA2.out]
            exact this
          · intro _ a ha
            rw [HA2.out] at ha
            split at ha
            · injection ha with ha; rw [← ha]; exact hg2
            · simp only [Option.map_some, Option.some.injEq] at ha
              rw [← ha]; unfold Addr.add; split <;> exact hg2
          · refine ⟨blockF s part2, part2, ?_, ?_⟩
            · have e3 : ((all ++ bs.take (j + m)).length : Int) = (n0 : Int) + (m : Int) := by
                rw [List.length_append, List.length_take]; have := HN0.out; rw [List.length_append, List.length_take] at this; omega
              rw [e3]
              exact hb6
            · rw [show all ++ bs.take (j + m) = (all ++ bs.take j) ++ (bs.drop j).take m by rw [List.append_assoc, ← List.take_add]]
              have := HH.out.full (new := (bs.drop j).take m) (by rw [HNL.out, ← HN0.out, HQ.out]; exact h64)
              rw [← HN0.out, HQ.out, ← HP.out] at this
              exact this
        case measure => simp [lenV]; omega
      · have b64 : ((q : Int) + (m : Int) == 64) = false := by simp; omega
        go_wp2_with (first
          | (apply st_fromArr (i := q); exact Tryd.underlying67; kernel_rfl; rfl; rfl; exact hqi; exact hq63)
          | (apply st_copyW (m := m) (cs := nums .u8 ((bs.drop j).take m)) (cur := hashCells s part n0) (T := 71); exact Tryd.underlying32; kernel_rfl; rfl; rfl; exact hb; (rw [nums_length, HNL.out]); exact HM.out; (intro i v hv; refine HSRC.out i v ?_; rw [show nums .u8 ((bs.drop j).take m) = (nums .u8 (bs.drop j)).take m by simp [nums, List.map_take], List.getElem?_take] at hv; split at hv; exact hv; cases hv); (rw [hash_len _ _ _ HSL.out HPL.out]; omega); exact nums_one _ _;
              intro w2 hb2 hw2; rw [hash_part s part _ n0 q HSL.out HPL.out (by rw [HNL.out]; exact hm2), ← HP.out] at hb2;
              have d73 : w2.cell? ⟨g, 73, none⟩ = some (.int .i64 n0) := (by rw [hb2.cell]; simp [hashCells, nums_length, HSL.out, HPL2.out]); have f73 := hb2.frozen 73)
          | (apply st_from (i := m); exact Tryd.underlying32; kernel_rfl; rfl; rfl; exact hm1; intro A2 hA2; have HA2 := Lib.hid hA2; clear hA2))
        go_roundw
        case rel =>
          refine ⟨j + m, A2, c' - m, by rw [Nat.sub_sub], by omega, by omega, ?_, ?_, ?_, (hB.wrote hw2).set 73 _, ?_⟩
          · intro h0; rw [HA2.out] at h0; split at h0 <;> cases h0
          · have := Rd.from (i := m) HR'.out (c := c') (by rw [nums_length, List.length_drop]; exact hc')
            rw [← nums_drop, List.drop_drop] at this
            rw [HA2.out]
            exact this
          · intro _ a ha
            rw [HA2.out] at ha
            split at ha
            · injection ha with ha; rw [← ha]; exact hg2
            · simp only [Option.map_some, Option.some.injEq] at ha
              rw [← ha]; unfold Addr.add; split <;> exact hg2
          · refine ⟨s, part2, ?_, ?_⟩
            · have e3 : ((all ++ bs.take (j + m)).length : Int) = (n0 : Int) + (m : Int) := by
                rw [List.length_append, List.length_take]; have := HN0.out; rw [List.length_append, List.length_take] at this; omega
              rw [e3]
              rw [← hash_n s part2 n0 _ HSL.out HPL2.out]; exact hb2.set 73 _
            · rw [show all ++ bs.take (j + m) = (all ++ bs.take j) ++ (bs.drop j).take m by rw [List.append_assoc, ← List.take_add]]
              have := HH.out.short (new := (bs.drop j).take m) (by rw [HNL.out, ← HN0.out, HQ.out]; omega)
              rw [← HN0.out, HQ.out, ← HP.out] at this
              exact this
        case measure => simp [lenV]; omega
    · have e : bs.length - j = 0 := by omega
      have e2 : j = bs.length := by omega
      rw [e2, List.take_length] at hH
      clear e2
      go_wp2
      go_ret
      exact ⟨rfl, hB, hH⟩
end Go.Proofs.YtipigpeccegjgaaDoor
