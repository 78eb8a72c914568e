/- What the reference's Block answers (inquestref02). Condition: the eight numbers are of 32 bits, the 64 bytes bytes. What the reference's Sum answers (inquestref02). Condition: bytes; texts of fewer than 2^39 bytes. Two arrays of numbers compared by ==. No condition but the tables' own. Words and small laws more: what stays behind a call, an append, a store. Rows of rows of bytes. No condition. Two rules more for a region whose order is open: a guarded operation that may turn the world; a pick. No condition. Laws more: arrays cut whole or up to a place, strings of bytes in a row, the bytes of eight numbers by fours. No condition. Bytes that came in, as one fact; cut at most so long. No condition. -/
import Derived.Test.YtancldhincaphaaDoorGd
import Derived.Test.YtancldhincaphaaDoorGc
import Derived.Test.YtancldhincaphaaDoorGa
import Derived.ChangeKeysEq
import Derived.Laws.BytesArg
namespace Go.Proofs.YtancldhincaphaaDoor
set_option maxRecDepth 100000
section RefB
open Go.RowKit

/-- Numbers of 32 bits; bytes. -/
def U32 (l : List Int) : Prop := ∀ i, 0 ≤ ga l i ∧ ga l i < 4294967296
def U8 (l : List Int) : Prop := ∀ i, 0 ≤ ga l i ∧ ga l i < 256
theorem bits_u32_range (op : BinOp) (a b : Int) : 0 ≤ bits op .u32 a b ∧ bits op .u32 a b < 4294967296 := by
  unfold bits
  rw [IntKind.wrap_u32]
  omega
theorem ga_append_left (l m : List Int) (i : Nat) (h : i < l.length) : ga (l ++ m) i = ga l i := by
  unfold ga; rw [List.getD_eq_getElem?_getD, List.getD_eq_getElem?_getD, List.getElem?_append_left h]
theorem ga_out (l : List Int) (i : Nat) (h : l.length ≤ i) : ga l i = 0 := by
  unfold ga; rw [List.getD_eq_getElem?_getD, List.getElem?_eq_none h]; rfl
theorem U32.snoc {l : List Int} (h : U32 l) (x : Int) (h0 : 0 ≤ x) (h1 : x < 4294967296) : U32 (l ++ [x]) := by
  intro i
  by_cases hi : i < l.length
  · rw [ga_append_left _ _ _ hi]; exact h i
  · by_cases e : i = l.length
    · subst e
      have : ga (l ++ [x]) l.length = x := by unfold ga; simp
      rw [this]; exact ⟨h0, h1⟩
    · rw [ga_out _ _ (by simp; omega)]; omega
theorem nextW_range (bs l : List Int) : 0 ≤ nextW bs l ∧ nextW bs l < 4294967296 := by
  unfold nextW
  split
  · exact bits_u32_range _ _ _
  · unfold nextZ; omega
theorem wordsW_range (bs : List Int) (k : Nat) : U32 (wordsW bs k) := by
  induction k with
  | zero => intro i; rw [wordsW, ga_out _ _ (by simp)]; omega
  | succ k ih => exact ih.snoc _ (nextW_range _ _).1 (nextW_range _ _).2
theorem rnd_range (k w : Int) (v : List Int) (h : U32 v) : U32 (rnd k w v) := by
  intro i
  have h0 := h 0
  have h1 := h 1
  have h2 := h 2
  have h4 := h 4
  have h5 := h 5
  have h6 := h 6
  match i with
  | 0 => show 0 ≤ (rndT k w v + rndU v) % 4294967296 ∧ _ % 4294967296 < 4294967296; omega
  | 1 => exact h0
  | 2 => exact h1
  | 3 => exact h2
  | 4 => show 0 ≤ (ga v 3 + rndT k w v) % 4294967296 ∧ _ % 4294967296 < 4294967296; omega
  | 5 => exact h4
  | 6 => exact h5
  | 7 => exact h6
  | n + 8 => rw [ga_out _ _ (by simp [rnd])]; omega
theorem rounds_range (ws ss : List Int) (h : U32 ss) (k : Nat) : U32 (rounds ws ss k) := by
  induction k with
  | zero => exact h
  | succ k ih => exact rnd_range _ _ _ ih
theorem be4_sum (a b c d : Int) (ha : 0 ≤ a ∧ a < 256) (hb : 0 ≤ b ∧ b < 256) (hc : 0 ≤ c ∧ c < 256) (hd : 0 ≤ d ∧ d < 256) : be4 a b c d = 16777216 * a + 65536 * b + 256 * c + d := by
  unfold be4
  have e1 : a % 4294967296 * 16777216 % 4294967296 = 16777216 * a := by omega
  have e2 : b % 4294967296 * 65536 % 4294967296 = 65536 * b := by omega
  have e3 : c % 4294967296 * 256 % 4294967296 = 256 * c := by omega
  have e4 : d % 4294967296 = d := by omega
  rw [e1, e2, e3, e4]
  rw [bits_join .u32 32 (by decide) wraps_u32 24 (16777216 * a) (65536 * b) (by omega) (by omega) (by omega) (by omega) (by omega) (by omega)]
  rw [bits_join .u32 32 (by decide) wraps_u32 16 (16777216 * a + 65536 * b) (256 * c) (by omega) (by omega) (by omega) (by omega) (by omega) (by omega)]
  rw [bits_join .u32 32 (by decide) wraps_u32 8 (16777216 * a + 65536 * b + 256 * c) d (by omega) (by omega) (by omega) (by omega) (by omega) (by omega)]
theorem getTo4 (bs : List Int) (h : U8 bs) (hl : bs.length = 4) : getTo bs bs.length = be4 (ga bs 0) (ga bs 1) (ga bs 2) (ga bs 3) := by
  have h0 := h 0
  have h1 := h 1
  have h2 := h 2
  have h3 := h 3
  rw [hl, be4_sum _ _ _ _ h0 h1 h2 h3]
  simp only [getTo]
  omega

theorem u32info : (Tryd.prog.info? 90).map (fun i => (i.zero, i.size, i.bytes)) = some (some (.int .u32 0), 1, 4) := by kernel_rfl
/-- A slice of numbers of 32 bits in memory of the call's own. -/
def Grows32 (w : World) (xs : List Int) (v : Value) (w' : World) : Prop := Below w.heap.size w w' ∧ w'.ownsRow w.heap.size 90 1 v xs.length (nums .u32 xs)
theorem Grows32.nil (w : World) : Grows32 w [] (.slice none 0 0) w := ⟨Below.refl _ _, World.ownsRow_nil w _ _ _⟩
theorem Grows32.up {w w' w'' : World} {xs : List Int} {v : Value} (h : Grows32 w xs v w') (hb : Below w'.heap.size w' w'') : Grows32 w xs v w'' :=
  ⟨h.1.trans (hb.mono h.1.size), World.ownsRow.kept (row := none) h.2 ⟨hb.os, hb.tape, hb.output, hb.size, fun k hk _ => hb.block k hk⟩ (by cases hv : v.ownBlock <;> simp)⟩
theorem Grows32.alloc {w w' : World} {xs : List Int} {v : Value} (h : Grows32 w xs v w') (o : Obj) : Grows32 w xs v (w'.alloc o) := h.up ((Below.refl _ _).alloc (Nat.le_refl _) _)
theorem Grows32.drew {w w' : World} {xs : List Int} {v : Value} (h : Grows32 w xs v w') : Grows32 w xs v w'.drew := h.up (Below.refl _ _).drew
theorem Grows32.rd {w w' : World} {xs : List Int} {v : Value} (h : Grows32 w xs v w') (hl : 0 < xs.length) : ∃ g c, v = .slice (some ⟨g, 0, none⟩) xs.length c ∧ w.heap.size ≤ g ∧ g < w'.heap.size ∧ ∀ j, j < xs.length → w'.cell? ⟨g, j, none⟩ = some (.int .u32 (ga xs j)) := by
  obtain ⟨_, h2⟩ := h
  obtain ⟨_, h2 | ⟨g, cap, cur, hv, hg, hh, hn, hm, hsz, ht⟩⟩ := h2
  · omega
  · refine ⟨g, cap, hv, hg, (Array.getElem?_eq_some_iff.1 hh).1, fun j hj => ?_⟩
    have := nums_at .u32 xs j hj
    simp only [World.cell?, hh]
    rw [← ht, List.getElem?_take] at this
    split at this
    · simpa [ga] using this
    · cases this

theorem st_grow32 {ops : Array Oper} {rest : List Oper} {a : Act} {w w0 : World} {Q : Exit → Act → World → Prop} {d' : Option Tmp} {tt : TypeId} {s x : Operand} {pos : String} {after : Array Edge} {v : Value} {g c : Nat} {xs ys : List Int} {T : TypeId}
    (hs : a.eval s = v) (hx : a.eval x = .slice (some ⟨g, 0, none⟩) ys.length c) (hg : Grows32 w0 xs v w) (hr : Blk w g (nums .u32 ys) T) (hl : xs.length + ys.length ≤ 1099511627776)
    (h : ∀ v' w', Grows32 w0 (xs ++ ys) v' w' → wpList Tryd.prog ops Q rest (a.put d' v') w') :
    wpList Tryd.prog ops Q (⟨d', .call ⟨.builtin .append, #[s, x], #[113, 113]⟩, tt, pos, after, none⟩ :: rest) a w := by
  obtain ⟨i0, hi, hz0, hz1, hz2⟩ := info_parts u32info
  refine wpList_append_own (w := w) rfl s x 113 rfl w0.heap.size 90 i0 (.int .u32 0) 1 4 Tryd.underlying113 hi hz0 hz1 hz2 rfl (by decide) v xs.length (nums .u32 xs) hs hg.2 ⟨g, 0, none⟩ ys.length c (nums .u32 ys) hx (by rw [nums_length, Nat.mul_one]) ?_ (nums_one _ _) (by unfold maxLen; omega) (by omega) hg.1.size ?_
  · intro j u hu
    have : (⟨g, 0, none⟩ : Addr).add j = ⟨g, j, none⟩ := by unfold Addr.add; split <;> simp_all
    rw [this, hr.cell]; exact hu
  · intro v' w' ho hgr _
    refine h v' w' ⟨hg.1.grown hgr (by have := hg.1.size; omega) (fun k hk => by have := World.ownsRow.lt hg.2 k hk; omega), ?_⟩
    rw [List.length_append, show nums .u32 (xs ++ ys) = nums .u32 xs ++ nums .u32 ys by simp [nums]]
    exact ho

/-- x[lo:hi] of an array of elements of one cell, in memory. -/
theorem st_cutArr {P : Program} {ops : Array Oper} {Q : Exit → Act → World → Prop} {rest : List Oper} {a : Act} {w : World} {d' : Option Tmp} {tt t e : TypeId} {x lo hi : Operand} {pos : String} {after : Array Edge} {g off n i j : Nat} {k k2 : IntKind} {z y : Int}
    (hu : P.underlying t = some (.array n e)) (hsz : (P.info? e).map (·.size) = some 1) (hx : a.eval x = .pointer (some ⟨g, off, none⟩)) (hlo : a.eval lo = .int k z) (hhi : a.eval hi = .int k2 y) (hz : z = i) (hy : y = j) (hi1 : i < n) (hi2 : i ≤ j) (hi3 : j ≤ n)
    (h : wpList P ops Q rest (a.put d' (.slice (some ⟨g, off + i, none⟩) (j - i) (n - i))) w) :
    wpList P ops Q (⟨d', .slice t x (some lo) (some hi) none, tt, pos, after, none⟩ :: rest) a w :=
  wpList_plain rfl fun K hK => by
    subst hz hy
    have hrun : (Instr.sliceAt t (.pointer (some ⟨g, off, none⟩)) (some (.int k i)) (some (.int k2 j)) none).run P w = .ok (.slice (some ⟨g, off + i, none⟩) (j - i) (n - i)) w := by
      cases hq : P.info? e with
      | none => simp [hq] at hsz
      | some info =>
        have hs : info.size = 1 := by simpa [hq] using hsz
        have hne : ¬ n = i := by omega
        have hadd : (⟨g, off, none⟩ : Addr).add i = ⟨g, off + i, none⟩ := by unfold Addr.add; split <;> simp_all
        simp [Instr.sliceAt, run_underlying hu, Instr.sureAddr, Instr.sliceBounds, Instr.sliceBound, asIntOf, sizeOf, typeInfo, hq, hs, hi2, hi3, hne, hadd]
    unfold Oper.wp execOp
    simp only [Sem.run_bind, hx, Option.map_some, Option.map_none, hlo, hhi, hrun]
    exact hK _ _ h
theorem ga_take (l : List Int) (n i : Nat) (h : i < n) : ga (l.take n) i = ga l i := by
  unfold ga; rw [List.getD_eq_getElem?_getD, List.getD_eq_getElem?_getD, List.getElem?_take_of_lt h]
theorem ga_drop (l : List Int) (n i : Nat) : ga (l.drop n) i = ga l (n + i) := by
  unfold ga; rw [List.getD_eq_getElem?_getD, List.getD_eq_getElem?_getD, List.getElem?_drop]
theorem U8.part {l : List Int} (h : U8 l) (n m : Nat) : U8 ((l.drop n).take m) := by
  intro i
  by_cases hi : i < m
  · rw [ga_take _ _ _ hi, ga_drop]; exact h _
  · rw [ga_out _ _ (by simp; omega)]; omega

def sums8 (s v : List Int) : List Int := [(ga s 0 + ga v 0) % 4294967296, (ga s 1 + ga v 1) % 4294967296, (ga s 2 + ga v 2) % 4294967296, (ga s 3 + ga v 3) % 4294967296, (ga s 4 + ga v 4) % 4294967296, (ga s 5 + ga v 5) % 4294967296, (ga s 6 + ga v 6) % 4294967296, (ga s 7 + ga v 7) % 4294967296]
theorem sums8_len (s v : List Int) : (nums .u32 (sums8 s v)).length = 8 := rfl
theorem sums8_eq (s v : List Int) (h : v.length = 8) : sumTo v s 8 = sums8 s v := by
  match v, h with
  | [a, b, c, d, e, f, g, i], _ =>
    simp [sumTo, sums8, ga, Int.add_comm]

theorem named_world {P : Program} {c : Code} {Q : Exit → Act → World → Prop} {a : Act} {w0 : World} (h : ∀ w', w' = w0 → c.wp P Q a w') : c.wp P Q a w0 := h _ rfl

set_option maxRecDepth 100000 in
set_option maxHeartbeats 4000000 in
set_option maxRecDepth 100000 in
theorem refblock_any (w : World) (ss bs : List Int) (hs : ss.length = 8) (hb : bs.length = 64) (us : U32 ss) (ub : U8 bs) :
    Calls Tryd.prog 56 #[.agg (nums .u32 ss).toArray, .agg (nums .u8 bs).toArray] w fun e w' => e = .returned (.agg (nums .u32 (blockF ss bs)).toArray) ∧ Below w.heap.size w w' := by
  have HS := Lib.hid hs
  have HN := Lib.hid hb
  have HUS := Lib.hid us
  have HUB := Lib.hid ub
  clear hs hb us ub
  go_enter Tryd.func56, Tryd.ntmps56
  go_wp2
  refine named_world ?_
  intro w0 hw0
  have hbs : Blk w0 w.heap.size (nums .u32 ss) 91 := by rw [hw0]; exact ((Blk.new' _ _ _ _ _ rfl rfl).alloc _).alloc _
  have hbi : Blk w0 (w.heap.size + 1) (nums .u8 bs) 93 := by rw [hw0]; exact (Blk.new' _ _ _ _ _ rfl (by simp)).alloc _
  have hbr : Blk w0 (w.heap.size + 1 + 1) (nums .u32 (List.replicate 8 0)) 91 := by rw [hw0]; exact Blk.new' _ _ _ _ _ rfl (by simp)
  have hB0 : Below w.heap.size w w0 := by rw [hw0]; exact (((Below.refl _ _).alloc (Nat.le_refl _) _).alloc (by simp) _).alloc (by simp; omega) _
  have hz0 : w0.heap.size = w.heap.size + 3 := by rw [hw0]; simp
  clear hw0
  go_loopw [5, 6] (fun v i wr => ∃ k : Nat, i = .int .i64 k ∧ k ≤ 16 ∧ Grows32 w0 (wordsW bs k) v wr) (fun _ i _ => 16 - (intOf i).toNat)
  case atStart => exact ⟨0, rfl, by omega, Grows32.nil _⟩
  case round =>
    obtain ⟨k, rfl, hk, hG⟩ := hrel
    by_cases hlt : k < 16
    · have hbi2 := hbi.up hG.1
      have hl4 : ((bs.drop (4 * k)).take 4).length = 4 := by have := HN.out; simp; omega
      have hget : getTo ((bs.drop (4 * k)).take 4) ((bs.drop (4 * k)).take 4).length = nextW bs (wordsW bs k) := by
        rw [getTo4 _ (HUB.out.part _ _) hl4, nextW, wordsW_len, if_pos hlt]
        simp only [ga_take _ _ _ (by omega : 0 < 4), ga_take _ _ _ (by omega : 1 < 4), ga_take _ _ _ (by omega : 2 < 4), ga_take _ _ _ (by omega : 3 < 4), ga_drop, Nat.add_zero]
      have hrd : Rd wr (some ⟨w.heap.size + 1, 4 * k, none⟩) (nums .u8 ((bs.drop (4 * k)).take 4)) := by
        refine .inr ⟨_, _, rfl, fun j v hv => ?_⟩
        rw [hbi2.cell]
        rw [show nums .u8 ((bs.drop (4 * k)).take 4) = ((nums .u8 bs).drop (4 * k)).take 4 by simp [nums, List.map_take, List.map_drop], List.getElem?_take] at hv
        split at hv
        · rwa [List.getElem?_drop] at hv
        · cases hv
      have hcall := refget_any wr (some ⟨w.heap.size + 1, 4 * k, none⟩) (64 - 4 * k) _ hrd (by omega) (by omega)
      rw [hget, hl4] at hcall
      have HC := Lib.hid hcall
      have hnr := nextW_range bs (wordsW bs k)
      obtain ⟨y, hy⟩ : ∃ y, y = nextW bs (wordsW bs k) := ⟨_, rfl⟩
      rw [← hy] at hnr HC
      have HY := Lib.hid hy
      have HL4 := Lib.hid hl4
      clear hcall hget hrd hy hl4
      go_wp2_with (first
        | (apply st_cutArr (i := 4 * k) (j := 4 * k + 4); exact Tryd.underlying93; kernel_rfl; rfl; rfl; rfl; omega; omega; omega; omega; omega; rw [show 4 * k + 4 - 4 * k = 4 by omega])
        | (go_at_call 77; refine HC.out.mono ?_; rintro e w' ⟨rfl, rfl⟩)
        | (apply st_grow32 (w0 := w0) (xs := wordsW bs k) (ys := [y]) (T := 90); rfl; rfl; exact hG.alloc _; exact Blk.new' _ _ _ _ _ rfl rfl; (rw [wordsW_len]; simp; omega); intro v2 w2 hG2))
      go_roundw
      case rel =>
        refine ⟨k + 1, by go_num, by omega, ?_⟩
        rw [wordsW, ← HY.out]
        exact hG2
      case measure => simp [intOf]; omega
    · have e16 : k = 16 := by omega
      rw [e16] at hG
      clear e16
      go_wp2
      go_loopw [5, 9] (fun v i wr => ∃ k : Nat, i = .int .i64 k ∧ 16 ≤ k ∧ k ≤ 64 ∧ Grows32 w0 (wordsW bs k) v wr) (fun _ i _ => 64 - (intOf i).toNat)
      case atStart => exact ⟨16, rfl, by omega, by omega, hG⟩
      case round =>
        clear hG hk hlt
        obtain ⟨k1, hk1⟩ : ∃ k1 : Int, k1 = (k : Int) := ⟨_, rfl⟩
        rw [← hk1]
        clear hk1
        obtain ⟨k, rfl, hk0, hk, hG⟩ := hrel
        by_cases hlt : k < 64
        · obtain ⟨g, c, rfl, hg0, hg1, hrd⟩ := hG.rd (by rw [wordsW_len]; omega)
          rw [wordsW_len] at hrd
          have hr15 := wordsW_range bs k (k - 15)
          have hr2 := wordsW_range bs k (k - 2)
          have c15 := hrd (k - 15) (by omega)
          have c2 := hrd (k - 2) (by omega)
          have c16 := hrd (k - 16) (by omega)
          have c7 := hrd (k - 7) (by omega)
          clear hrd
          have hl := wordsW_len bs k
          rw [hl] at hG ⊢
          have HL := Lib.hid hl
          clear hl
          go_wp2
          refine wp_region_C (Same [g] wr) [5, 11] (by kernel_rfl) (by kernel_rfl) (by intro c a w h; first | (obtain ⟨_, h, _⟩ := h; cases h; done) | (obtain ⟨_, _, h, _⟩ := h; cases h; done) | (obtain ⟨_, _, _, h, _⟩ := h; cases h; done) | (obtain ⟨_, _, _, _, h, _⟩ := h; cases h; done) | (rcases h with ⟨_, ⟨_, _, _, _, h, _⟩ | ⟨_, _, _, _, h, _⟩⟩ <;> cases h; done)) (by intro a w h; first | (obtain ⟨h, _⟩ := h; cases h; done) | (obtain ⟨_, h, _⟩ := h; cases h; done) | (obtain ⟨_, _, h, _⟩ := h; cases h; done) | (obtain ⟨_, _, _, h, _⟩ := h; cases h; done) | (rcases h with ⟨_, _, _, _, h, _⟩ | ⟨_, _, _, _, h, _⟩ <;> cases h; done)) (Same.refl _ _) ?_
          repeat (refine wd_q (v := ?_) rfl rfl rfl rfl rfl rfl (fun w' hw' K hK => ?_) ?_; rotate_left; (have e1 := hw'.cell g (by simp); go_wp2; exact rfl); simp only [Act.put, List.setIfInBounds_toArray, List.set_cons_zero, List.set_cons_succ])
          refine wd_l rfl rfl (by intro a w h; first | (obtain ⟨h, _⟩ := h; cases h; done) | (obtain ⟨_, h, _⟩ := h; cases h; done) | (obtain ⟨_, _, h, _⟩ := h; cases h; done) | (obtain ⟨_, _, _, h, _⟩ := h; cases h; done) | (rcases h with ⟨_, _, _, _, h, _⟩ | ⟨_, _, _, _, h, _⟩ <;> cases h; done)) ?_
          go_wp2_with (go_at_call 78; refine (refturn_any _ _ _ (by omega) (by omega) (by omega) (by omega)).mono ?_; rintro e w' ⟨rfl, rfl⟩)
          refine ⟨.inr (Same.refl _ _), ?_⟩
          repeat (refine wd_q (v := ?_) rfl rfl rfl rfl rfl rfl (fun w' hw' K hK => ?_) ?_; rotate_left; (have e1 := hw'.cell g (by simp); go_wp2; exact rfl); simp only [Act.put, List.setIfInBounds_toArray, List.set_cons_zero, List.set_cons_succ])
          refine wd_l rfl rfl (by intro a w h; first | (obtain ⟨h, _⟩ := h; cases h; done) | (obtain ⟨_, h, _⟩ := h; cases h; done) | (obtain ⟨_, _, h, _⟩ := h; cases h; done) | (obtain ⟨_, _, _, h, _⟩ := h; cases h; done) | (rcases h with ⟨_, _, _, _, h, _⟩ | ⟨_, _, _, _, h, _⟩ <;> cases h; done)) ?_
          go_wp2_with (go_at_call 78; refine (refturn_any _ _ _ (by omega) (by omega) (by omega) (by omega)).mono ?_; rintro e w' ⟨rfl, rfl⟩)
          refine ⟨.inr (Same.refl _ _), ?_⟩
          repeat (refine wd_q (v := ?_) rfl rfl rfl rfl rfl rfl (fun w' hw' K hK => ?_) ?_; rotate_left; (have e1 := hw'.cell g (by simp); go_wp2; exact rfl); simp only [Act.put, List.setIfInBounds_toArray, List.set_cons_zero, List.set_cons_succ])
          refine wd_nil ?_
          go_wp2
          refine wp_region_C (Same [g] wr) [5, 11] (by kernel_rfl) (by kernel_rfl) (by intro c a w h; first | (obtain ⟨_, h, _⟩ := h; cases h; done) | (obtain ⟨_, _, h, _⟩ := h; cases h; done) | (obtain ⟨_, _, _, h, _⟩ := h; cases h; done) | (obtain ⟨_, _, _, _, h, _⟩ := h; cases h; done) | (rcases h with ⟨_, ⟨_, _, _, _, h, _⟩ | ⟨_, _, _, _, h, _⟩⟩ <;> cases h; done)) (by intro a w h; first | (obtain ⟨h, _⟩ := h; cases h; done) | (obtain ⟨_, h, _⟩ := h; cases h; done) | (obtain ⟨_, _, h, _⟩ := h; cases h; done) | (obtain ⟨_, _, _, h, _⟩ := h; cases h; done) | (rcases h with ⟨_, _, _, _, h, _⟩ | ⟨_, _, _, _, h, _⟩ <;> cases h; done)) (Same.refl _ _) ?_
          repeat (refine wd_q (v := ?_) rfl rfl rfl rfl rfl rfl (fun w' hw' K hK => ?_) ?_; rotate_left; (have e1 := hw'.cell g (by simp); go_wp2; exact rfl); simp only [Act.put, List.setIfInBounds_toArray, List.set_cons_zero, List.set_cons_succ])
          refine wd_l rfl rfl (by intro a w h; first | (obtain ⟨h, _⟩ := h; cases h; done) | (obtain ⟨_, h, _⟩ := h; cases h; done) | (obtain ⟨_, _, h, _⟩ := h; cases h; done) | (obtain ⟨_, _, _, h, _⟩ := h; cases h; done) | (rcases h with ⟨_, _, _, _, h, _⟩ | ⟨_, _, _, _, h, _⟩ <;> cases h; done)) ?_
          go_wp2_with (go_at_call 78; refine (refturn_any _ _ _ (by omega) (by omega) (by omega) (by omega)).mono ?_; rintro e w' ⟨rfl, rfl⟩)
          refine ⟨.inr (Same.refl _ _), ?_⟩
          repeat (refine wd_q (v := ?_) rfl rfl rfl rfl rfl rfl (fun w' hw' K hK => ?_) ?_; rotate_left; (have e1 := hw'.cell g (by simp); go_wp2; exact rfl); simp only [Act.put, List.setIfInBounds_toArray, List.set_cons_zero, List.set_cons_succ])
          refine wd_l rfl rfl (by intro a w h; first | (obtain ⟨h, _⟩ := h; cases h; done) | (obtain ⟨_, h, _⟩ := h; cases h; done) | (obtain ⟨_, _, h, _⟩ := h; cases h; done) | (obtain ⟨_, _, _, h, _⟩ := h; cases h; done) | (rcases h with ⟨_, _, _, _, h, _⟩ | ⟨_, _, _, _, h, _⟩ <;> cases h; done)) ?_
          go_wp2_with (go_at_call 78; refine (refturn_any _ _ _ (by omega) (by omega) (by omega) (by omega)).mono ?_; rintro e w' ⟨rfl, rfl⟩)
          refine ⟨.inr (Same.refl _ _), ?_⟩
          repeat (refine wd_q (v := ?_) rfl rfl rfl rfl rfl rfl (fun w' hw' K hK => ?_) ?_; rotate_left; (have e1 := hw'.cell g (by simp); go_wp2; exact rfl); simp only [Act.put, List.setIfInBounds_toArray, List.set_cons_zero, List.set_cons_succ])
          refine wd_nil ?_
          go_wp2
          refine wp_region_CF (Same [g] wr) [16, 17] [18] (by kernel_rfl) (by kernel_rfl) (by intro c a w h; first | (obtain ⟨_, h, _⟩ := h; cases h; done) | (obtain ⟨_, _, h, _⟩ := h; cases h; done) | (obtain ⟨_, _, _, h, _⟩ := h; cases h; done) | (obtain ⟨_, _, _, _, h, _⟩ := h; cases h; done) | (rcases h with ⟨_, ⟨_, _, _, _, h, _⟩ | ⟨_, _, _, _, h, _⟩⟩ <;> cases h; done)) (by intro a w h; first | (obtain ⟨h, _⟩ := h; cases h; done) | (obtain ⟨_, h, _⟩ := h; cases h; done) | (obtain ⟨_, _, h, _⟩ := h; cases h; done) | (obtain ⟨_, _, _, h, _⟩ := h; cases h; done) | (rcases h with ⟨_, _, _, _, h, _⟩ | ⟨_, _, _, _, h, _⟩ <;> cases h; done)) (Same.refl _ _) ?_
          repeat (refine wd_q (v := ?_) rfl rfl rfl rfl rfl rfl (fun w' hw' K hK => ?_) ?_; rotate_left; (have e1 := hw'.cell g (by simp); go_wp2; exact rfl); simp only [Act.put, List.setIfInBounds_toArray, List.set_cons_zero, List.set_cons_succ])
          refine wd_l rfl rfl (by intro a w h; first | (obtain ⟨h, _⟩ := h; cases h; done) | (obtain ⟨_, h, _⟩ := h; cases h; done) | (obtain ⟨_, _, h, _⟩ := h; cases h; done) | (obtain ⟨_, _, _, h, _⟩ := h; cases h; done) | (rcases h with ⟨_, _, _, _, h, _⟩ | ⟨_, _, _, _, h, _⟩ <;> cases h; done)) ?_
          go_wp2
          refine ⟨.inr ((Same.refl _ _).below ((Below.refl _ _).alloc (Nat.le_refl _) _).drew.drew.drew (by simp; exact hg1)), ?_⟩
          refine wd_late rfl (by kernel_rfl) rfl rfl (by intro a w h; first | (obtain ⟨h, _⟩ := h; cases h; done) | (obtain ⟨_, h, _⟩ := h; cases h; done) | (obtain ⟨_, _, h, _⟩ := h; cases h; done) | (obtain ⟨_, _, _, h, _⟩ := h; cases h; done) | (rcases h with ⟨_, _, _, _, h, _⟩ | ⟨_, _, _, _, h, _⟩ <;> cases h; done)) ?_
          go_wp2_with (apply st_grow32 (w0 := w0) (xs := wordsW bs k) (ys := [nextZ (ga (wordsW bs k) (k - 16)) (ga (wordsW bs k) (k - 15)) (ga (wordsW bs k) (k - 7)) (ga (wordsW bs k) (k - 2))]) (T := 90); rfl; rfl; exact (hG.alloc _).drew.drew.drew; exact (Blk.new' wr _ _ _ _ rfl rfl).drew.drew.drew; (rw [HL.out]; simp; omega); intro v2 w2 hG2)
          refine wd_assign (v := v2) rfl rfl rfl rfl (wd_nil ?_)
          simp only [Act.put, List.setIfInBounds_toArray, List.set_cons_zero, List.set_cons_succ]
          go_wp2
          go_roundw
          case rel =>
            refine ⟨k + 1, by go_num, by omega, by omega, ?_⟩
            rw [wordsW, nextW, HL.out, if_neg (by omega)]
            exact hG2
          case measure => simp [intOf]; omega
        · have e64 : k = 64 := by omega
          rw [e64] at hG
          clear e64
          have hbs2 := hbs.up hG.1
          have hbr2 := hbr.up hG.1
          have s0 := hbs2.num 0 (by rw [HS.out]; omega)
          have s1 := hbs2.num 1 (by rw [HS.out]; omega)
          have s2 := hbs2.num 2 (by rw [HS.out]; omega)
          have s3 := hbs2.num 3 (by rw [HS.out]; omega)
          have s4 := hbs2.num 4 (by rw [HS.out]; omega)
          have s5 := hbs2.num 5 (by rw [HS.out]; omega)
          have s6 := hbs2.num 6 (by rw [HS.out]; omega)
          have s7 := hbs2.num 7 (by rw [HS.out]; omega)
          obtain ⟨g, c, rfl, hg0, hg1, hrd⟩ := hG.rd (by rw [wordsW_len]; omega)
          have hG2 := hG
          rw [wordsW_len] at hrd hG2 ⊢
          have HRD := Lib.hid hrd
          clear hrd hG
          go_wp2
          refine wp_region_C (Same [w.heap.size] wr) [] (by kernel_rfl) (by kernel_rfl) (by intro c a w h; first | (obtain ⟨_, h, _⟩ := h; cases h; done) | (obtain ⟨_, _, h, _⟩ := h; cases h; done) | (obtain ⟨_, _, _, h, _⟩ := h; cases h; done) | (obtain ⟨_, _, _, _, h, _⟩ := h; cases h; done) | (rcases h with ⟨_, ⟨_, _, _, _, h, _⟩ | ⟨_, _, _, _, h, _⟩⟩ <;> cases h; done)) (by intro a w h; first | (obtain ⟨h, _⟩ := h; cases h; done) | (obtain ⟨_, h, _⟩ := h; cases h; done) | (obtain ⟨_, _, h, _⟩ := h; cases h; done) | (obtain ⟨_, _, _, h, _⟩ := h; cases h; done) | (rcases h with ⟨_, _, _, _, h, _⟩ | ⟨_, _, _, _, h, _⟩ <;> cases h; done)) (Same.refl _ _) ?_
          repeat (refine wd_q (v := ?_) rfl rfl rfl rfl rfl rfl (fun w' hw' K hK => ?_) ?_; rotate_left; (have e1 := hw'.cell w.heap.size (by simp); go_wp2; exact rfl); simp only [Act.put, List.setIfInBounds_toArray, List.set_cons_zero, List.set_cons_succ])
          refine wd_nil ?_
          go_wp2
          clear s0 s1 s2 s3 s4 s5 s6 s7
          rename World => wq
          go_loopw [12, 13, 14, 15, 16, 17, 18, 19, 20] (fun a b d e f h i j n wr' => ∃ (k : Nat) (v : List Int), n = .int .i64 k ∧ k ≤ 64 ∧ Hid (v = rounds (wordsW bs 64) ss k) ∧ a = .int .u32 (ga v 0) ∧ b = .int .u32 (ga v 1) ∧ d = .int .u32 (ga v 2) ∧ e = .int .u32 (ga v 3) ∧ f = .int .u32 (ga v 4) ∧ h = .int .u32 (ga v 5) ∧ i = .int .u32 (ga v 6) ∧ j = .int .u32 (ga v 7) ∧
              Below wq.heap.size wq wr') (fun _ _ _ _ _ _ _ _ n _ => 64 - (intOf n).toNat)
          case atStart => exact ⟨0, ss, rfl, by omega, Lib.hid rfl, rfl, rfl, rfl, rfl, rfl, rfl, rfl, rfl, (Below.refl _ _).drew⟩
          case round =>
            obtain ⟨k2, hk2⟩ : ∃ k2 : Int, k2 = (k : Int) := ⟨_, rfl⟩
            rw [← hk2]
            clear hk2 hk0 hk hlt
            obtain ⟨k, v, rfl, hk, HV, rfl, rfl, rfl, rfl, rfl, rfl, rfl, rfl, hB3⟩ := hrel
            by_cases hlt : k < 64
            · have uv := rounds_range (wordsW bs 64) ss HUS.out k
              rw [← HV.out] at uv
              have u4 := uv 4
              have u0 := uv 0
              have cw : ∀ w5, Below wq.heap.size wq w5 → w5.cell? ⟨g, k, none⟩ = some (.int .u32 (ga (wordsW bs 64) k)) := fun w5 h5 => by
                rw [h5.cell (p := ⟨g, k, none⟩) hg1]; exact HRD.out k hlt
              have UV := Lib.hid uv
              clear uv
              go_wp2
              have c1 : wr.cell? ⟨g, k, none⟩ = some (.int .u32 (ga (wordsW bs 64) k)) := cw _ hB3
              refine wp_region_C (Same [g] wr) [2, 14] (by kernel_rfl) (by kernel_rfl) (by intro c a w h; first | (obtain ⟨_, h, _⟩ := h; cases h; done) | (obtain ⟨_, _, h, _⟩ := h; cases h; done) | (obtain ⟨_, _, _, h, _⟩ := h; cases h; done) | (obtain ⟨_, _, _, _, h, _⟩ := h; cases h; done) | (rcases h with ⟨_, ⟨_, _, _, _, h, _⟩ | ⟨_, _, _, _, h, _⟩⟩ <;> cases h; done)) (by intro a w h; first | (obtain ⟨h, _⟩ := h; cases h; done) | (obtain ⟨_, h, _⟩ := h; cases h; done) | (obtain ⟨_, _, h, _⟩ := h; cases h; done) | (obtain ⟨_, _, _, h, _⟩ := h; cases h; done) | (rcases h with ⟨_, _, _, _, h, _⟩ | ⟨_, _, _, _, h, _⟩ <;> cases h; done)) (Same.refl _ _) ?_
              repeat (refine wd_q (v := ?_) rfl rfl rfl rfl rfl rfl (fun w' hw' K hK => ?_) ?_; rotate_left; (have e1 := hw'.cell g (by simp); go_wp2; exact rfl); simp only [Act.put, List.setIfInBounds_toArray, List.set_cons_zero, List.set_cons_succ])
              refine wd_l rfl rfl (by intro a w h; first | (obtain ⟨h, _⟩ := h; cases h; done) | (obtain ⟨_, h, _⟩ := h; cases h; done) | (obtain ⟨_, _, h, _⟩ := h; cases h; done) | (obtain ⟨_, _, _, h, _⟩ := h; cases h; done) | (rcases h with ⟨_, _, _, _, h, _⟩ | ⟨_, _, _, _, h, _⟩ <;> cases h; done)) ?_
              go_wp2_with (go_at_call 79; refine (refthree_any _ _ _ _ _ u4.1 u4.2 (by omega) (by omega) (by omega) (by omega) (by omega) (by omega)).mono ?_; rintro e w' ⟨rfl, rfl⟩)
              refine ⟨.inr (Same.refl _ _), ?_⟩
              repeat (refine wd_q (v := ?_) rfl rfl rfl rfl rfl rfl (fun w' hw' K hK => ?_) ?_; rotate_left; (have e1 := hw'.cell g (by simp); go_wp2; exact rfl); simp only [Act.put, List.setIfInBounds_toArray, List.set_cons_zero, List.set_cons_succ])
              refine wd_l rfl rfl (by intro a w h; first | (obtain ⟨h, _⟩ := h; cases h; done) | (obtain ⟨_, h, _⟩ := h; cases h; done) | (obtain ⟨_, _, h, _⟩ := h; cases h; done) | (obtain ⟨_, _, _, h, _⟩ := h; cases h; done) | (rcases h with ⟨_, _, _, _, h, _⟩ | ⟨_, _, _, _, h, _⟩ <;> cases h; done)) ?_
              go_wp2_with (go_at_call 80; refine (refkey_any _ k hlt).mono ?_; rintro e w5 ⟨rfl, hb5⟩)
              replace hb5 : Below wr.heap.size wr w5 := ⟨hb5.os, hb5.tape, hb5.output, hb5.size, hb5.block⟩
              refine ⟨.inr ((Same.refl _ _).below hb5 (by have := hB3.size; simp; omega)), ?_⟩
              repeat (refine wd_q (v := ?_) rfl rfl rfl rfl rfl rfl (fun w' hw' K hK => ?_) ?_; rotate_left; (have e1 := hw'.cell g (by simp); go_wp2; exact rfl); simp only [Act.put, List.setIfInBounds_toArray, List.set_cons_zero, List.set_cons_succ])
              refine wd_nil ?_
              go_wp2_with (go_at_call 79; refine (refthree_any _ _ _ _ _ u0.1 u0.2 (by omega) (by omega) (by omega) (by omega) (by omega) (by omega)).mono ?_; rintro e w' ⟨rfl, rfl⟩)
              go_roundw
              case rel =>
                refine ⟨k + 1, rnd (ga KS k) (ga (wordsW bs 64) k) v, by go_num, by omega, Lib.hid (by rw [rounds, ← HV.out]), ?_, rfl, rfl, rfl, ?_, rfl, rfl, rfl, ?_⟩
                · show _ = Value.int .u32 ((rndT (ga KS k) (ga (wordsW bs 64) k) v + rndU v) % 4294967296)
                  unfold rndT rndU
                  congr 1
                  omega
                · show _ = Value.int .u32 ((ga v 3 + rndT (ga KS k) (ga (wordsW bs 64) k) v) % 4294967296)
                  unfold rndT
                  congr 1
                  omega
                · exact hB3.trans (hb5.mono hB3.size)
              case measure => simp [intOf]; omega
            · have e64 : k = 64 := by omega
              rw [e64] at HV
              clear e64
              have hbs3 := hbs2.up hB3
              have hbr3 := hbr2.up hB3
              have s0 := hbs3.num 0 (by rw [HS.out]; omega)
              have s1 := hbs3.num 1 (by rw [HS.out]; omega)
              have s2 := hbs3.num 2 (by rw [HS.out]; omega)
              have s3 := hbs3.num 3 (by rw [HS.out]; omega)
              have s4 := hbs3.num 4 (by rw [HS.out]; omega)
              have s5 := hbs3.num 5 (by rw [HS.out]; omega)
              have s6 := hbs3.num 6 (by rw [HS.out]; omega)
              have s7 := hbs3.num 7 (by rw [HS.out]; omega)
              have hvl : v.length = 8 := by rw [HV.out]; exact rounds_len _ _ HS.out _
              have HVL := Lib.hid hvl
              clear hvl
              go_wp2_with (apply st_storeW (off := 0) (vs := nums .u32 (sums8 ss v)) (cs := nums .u32 (List.replicate 8 0)) (T := 91); rfl; rfl; exact hbr3; (rw [sums8_len]; kernel_rfl); (rw [sums8_len]; exact Nat.le_refl _); exact nums_one _ _; intro w9 hb9 hw9; rw [laid_all _ _ (sums8_len _ _)] at hb9)
              refine bodyPost_ret (ret_row rfl _ _ _ (nums .u32 (sums8 ss v)) 91 _ rfl hb9 Tryd.underlying91 rfl (by rw [sums8_len]; kernel_rfl)) rfl ⟨?_, ?_⟩
              · rw [blockF, ← HV.out, sums8_eq _ _ HVL.out]
              · exact Wrote.below (hB0.trans ((hG2.1.mono (by omega)).trans (hB3.mono (by have := hG2.1.size; omega)))) hw9 (by omega)
end RefB
section RefS
open Go.RowKit

theorem U8.append {l m : List Int} (h : U8 l) (h2 : U8 m) : U8 (l ++ m) := by
  intro i
  by_cases hi : i < l.length
  · rw [ga_append_left _ _ _ hi]; exact h i
  · have : ga (l ++ m) i = ga m (i - l.length) := by
      unfold ga; rw [List.getD_eq_getElem?_getD, List.getD_eq_getElem?_getD, List.getElem?_append_right (by omega)]
    rw [this]; exact h2 _
theorem U8.of {l : List Int} (h : ∀ x ∈ l, 0 ≤ x ∧ x < 256) : U8 l := by
  intro i
  by_cases hi : i < l.length
  · have : ga l i = l[i] := by unfold ga; simp [hi]
    rw [this]; exact h _ (List.getElem_mem hi)
  · rw [ga_out _ _ (by omega)]; omega
theorem putF_range (x : Int) (n : Nat) : U8 (putF x n) := U8.of fun y hy => by
  simp only [putF, putTo, List.mem_map, List.mem_range] at hy
  obtain ⟨j, hj, rfl⟩ := hy
  rw [if_pos (by omega)]
  omega
theorem padF_range (n : Int) : U8 (padF n) := by
  unfold padF
  refine U8.append (U8.of fun y hy => ?_) (putF_range _ _)
  simp only [List.mem_cons, List.mem_replicate] at hy
  rcases hy with rfl | ⟨_, rfl⟩ <;> omega
theorem sums8_range (s v : List Int) : U32 (sums8 s v) := by
  intro i
  match i with
  | 0 => show 0 ≤ (_ : Int) % 4294967296 ∧ _ % 4294967296 < 4294967296; omega
  | 1 => show 0 ≤ (_ : Int) % 4294967296 ∧ _ % 4294967296 < 4294967296; omega
  | 2 => show 0 ≤ (_ : Int) % 4294967296 ∧ _ % 4294967296 < 4294967296; omega
  | 3 => show 0 ≤ (_ : Int) % 4294967296 ∧ _ % 4294967296 < 4294967296; omega
  | 4 => show 0 ≤ (_ : Int) % 4294967296 ∧ _ % 4294967296 < 4294967296; omega
  | 5 => show 0 ≤ (_ : Int) % 4294967296 ∧ _ % 4294967296 < 4294967296; omega
  | 6 => show 0 ≤ (_ : Int) % 4294967296 ∧ _ % 4294967296 < 4294967296; omega
  | 7 => show 0 ≤ (_ : Int) % 4294967296 ∧ _ % 4294967296 < 4294967296; omega
  | n + 8 => rw [ga_out _ _ (by simp [sums8])]; omega
theorem blockF_range (ss bs : List Int) (h : ss.length = 8) : U32 (blockF ss bs) := by
  rw [blockF, sums8_eq _ _ (rounds_len _ _ h _)]; exact sums8_range _ _
theorem FIRST_range : U32 FIRST := by
  intro i
  match i with
  | 0 | 1 | 2 | 3 | 4 | 5 | 6 | 7 => decide
  | n + 8 => rw [ga_out _ _ (by simp [FIRST])]; omega
theorem chainF_range (all : List Int) (k : Nat) : U32 (chainF all k) := by
  cases k with
  | zero => exact FIRST_range
  | succ k => exact blockF_range _ _ (chainF_len _ _)

/-- A row when so many of p are laid behind A. -/
def fillTo (A p : List Int) (n k : Nat) : List Int := A ++ p.take k ++ List.replicate (n - A.length - k) 0
theorem fillTo_len (A p : List Int) (n k : Nat) (h : A.length + k ≤ n) (hk : k ≤ p.length) : (fillTo A p n k).length = n := by
  simp [fillTo]; omega
theorem fillTo_set (A p : List Int) (n k a : Nat) (ha : A.length = a) (hk : k < p.length) (h : a + k < n) : (fillTo A p n k).set (a + k) (ga p k) = fillTo A p n (k + 1) := by
  subst ha
  have e1 : p.take (k + 1) = p.take k ++ [ga p k] := by
    rw [List.take_add_one, List.getElem?_eq_getElem hk]
    simp [ga, hk]
  have e2 : n - A.length - k = n - A.length - (k + 1) + 1 := by omega
  have e3 : (p.take k).length = k := by simp; omega
  unfold fillTo
  rw [e1, e2, List.replicate_succ, ← List.append_assoc, List.set_append_right _ _ (by simp; omega)]
  simp [e3]
theorem fillTo_bytes (s : List Int) (k : Nat) (hs : s.length = 8) (hk : k ≤ 8) : fillTo (bytesF (s.take k)) (putF (ga s k) 4) 32 0 = bytesTo s k := by
  unfold fillTo bytesTo
  rw [bytesF_len, List.length_take, hs, Nat.min_eq_left hk]
  simp
theorem fillTo_bytes2 (s : List Int) (k : Nat) (hs : s.length = 8) (hk : k < 8) : fillTo (bytesF (s.take k)) (putF (ga s k) 4) 32 4 = bytesTo s (k + 1) := by
  have e1 : s.take (k + 1) = s.take k ++ [ga s k] := by
    rw [List.take_add_one, List.getElem?_eq_getElem (by omega)]
    simp [ga, hs, hk]
  unfold fillTo bytesTo
  rw [bytesF_len, List.length_take, hs, Nat.min_eq_left (by omega), e1, bytesF_append, List.take_of_length_le (l := putF (ga s k) 4) (by rw [putF_len]; exact Nat.le_refl _)]
  simp [bytesF, show 32 - 4 * k - 4 = 32 - 4 * (k + 1) by omega]

theorem padded_len (n : Nat) : (n + (noughts n + 9)) % 64 = 0 := by
  unfold noughts; omega

set_option maxRecDepth 100000 in
set_option maxHeartbeats 4000000 in
set_option maxRecDepth 100000 in
theorem refsum_any (w : World) (bs : List Int) (A : Option Addr) (c : Nat) (hr : Rd w A (nums .u8 bs)) (hA : A = none → c = 0) (hl : bs.length ≤ 549755813888) (ub : U8 bs) :
    Calls Tryd.prog 27 #[.slice A bs.length c] w fun e w' => e = .returned (.agg (nums .u8 (sumF bs)).toArray) ∧ Below w.heap.size w w' := by
  have hn63 : noughts bs.length < 64 := by unfold noughts; omega
  have HR := Lib.hid hr
  have HL := Lib.hid hl
  have HC := Lib.hid hA
  have HU := Lib.hid ub
  clear hr hl hA ub
  have hB0 : Below w.heap.size w (w.alloc (.cells (nums .u8 (List.replicate 32 0)).toArray 24)) := (Below.refl _ _).alloc (Nat.le_refl _) _
  have hr0 : Blk (w.alloc (.cells (nums .u8 (List.replicate 32 0)).toArray 24)) w.heap.size (nums .u8 (List.replicate 32 0)) 24 := Blk.new' _ _ _ _ _ rfl rfl
  have hrd0 : Rd (w.alloc (.cells (nums .u8 (List.replicate 32 0)).toArray 24)) A (nums .u8 bs) := HR.out.up ((Below.refl _ _).alloc (Nat.le_refl _) _)
  go_enter Tryd.func27, Tryd.ntmps27
  go_wp2_with (first
    | (go_at_call 28; refine (refcopy_any _ A c bs HC.out hrd0 HL.out).mono ?_; rintro e w1 ⟨v1, rfl, hb1, ho1⟩;
       have hG1 : Grows _ bs v1 w1 := ⟨hb1, ho1⟩; clear hb1 ho1)
    | (rw [wpad _ HL.out]; go_at_call 54; refine (refpad_any _ bs.length).mono ?_; rintro e w2 ⟨v2, rfl, hb2, ho2⟩;
       obtain ⟨A2, c2, rfl, h2, hA2, hR2, hx2⟩ := ho2.from)
    | (apply st_grow (xs := bs) (ys := padF bs.length); rfl; rfl; exact hG1.up hb2; exact hA2; exact hR2; (rw [padF_len]; have := HL.out; omega); intro v3 w3 hG3;
       have hr3 := hr0.up hG3.1; have hB3 := hB0.trans (hG3.1.mono (by rw [World.size_alloc]; omega));
       obtain ⟨A3, c3, rfl, h3, hA3, hR3, hx3⟩ := hG3.2.from)
    | (go_at_call 55; refine (reffirst_any _).mono ?_; rintro e w4 ⟨rfl, hb4⟩)
    | (apply st_storeW (off := 0) (vs := nums .u32 FIRST) (cs := nums .u32 (List.replicate 8 0)) (T := 91); rfl; rfl; exact Blk.new' _ _ _ _ _ rfl rfl; kernel_rfl; exact Nat.le_refl _; exact nums_one _ _;
       intro w5 hs5 hw5; rw [laid_all _ _ (by rfl)] at hs5))
  have hz5 : w5.heap.size = w4.heap.size + 1 := by rw [hw5.size, World.size_alloc]
  have h34 := hb4.size
  have h03 := hG3.1.size
  rw [World.size_alloc] at h03
  obtain ⟨all, hall⟩ : ∃ all, all = bs ++ padF bs.length := ⟨_, rfl⟩
  have hal : all.length = bs.length + (noughts bs.length + 9) := by rw [hall, List.length_append, padF_len]
  have h64 := padded_len bs.length
  rw [← hal] at h64
  obtain ⟨n, hn⟩ : ∃ n, all.length = 64 * n := ⟨all.length / 64, by omega⟩
  have hU : U8 all := by rw [hall]; exact HU.out.append (padF_range _)
  rw [← hall] at hR3 h3
  have hlen : bs.length + (padF bs.length).length = 64 * n := by rw [← hn, hall, List.length_append]
  have hsum : sumF bs = bytesF (chainF all n) := by
    rw [sumF, ← hall, ← hal, hn, Nat.mul_div_cancel_left _ (by decide)]
  rw [hn] at h3
  rw [hlen]
  obtain ⟨g, o, rfl, hrd⟩ := hR3.get (by rw [nums_length, hal]; omega)
  have hg3 : g < w3.heap.size := World.block_lt_of_cell? (h := hrd 0 _ (nums_at .u8 all 0 (by omega)))
  have hB5 : Below w.heap.size w w5 := Wrote.below ((hB3.trans (hb4.mono hB3.size)).alloc (by omega) _) hw5 (by omega)
  have hb35 : Below w3.heap.size w3 w5 := Wrote.below (hb4.alloc hb4.size _) hw5 (by omega)
  have hr5 : Blk w5 w.heap.size (nums .u8 (List.replicate 32 0)) 24 := hr3.up hb35
  have hrd5 : ∀ j, j < 64 * n → w5.cell? ⟨g, o + j, none⟩ = some (.int .u8 (ga all j)) := fun j hj => by
    rw [hb35.cell (p := ⟨g, o + j, none⟩) hg3]; exact hrd j _ (nums_at .u8 all j (by omega))
  have hnb : 64 * n ≤ 549755814000 := by have := HL.out; omega
  obtain ⟨s, hse⟩ : ∃ s, s = chainF all n := ⟨_, rfl⟩
  rw [← hse] at hsum
  have hsl : s.length = 8 := by rw [hse]; exact chainF_len _ _
  have HSE := Lib.hid hse
  have HSL := Lib.hid hsl
  have HSUM := Lib.hid hsum
  clear hse hsl
  have HUA := Lib.hid hU
  have HRD := Lib.hid hrd5
  have HN := Lib.hid hn
  clear hsum hU hrd5 hrd hR3 hb35 hn hall hal h64 hlen hG3 hG1 hr3 hB3 hb2 ho2 h2 hA2 hR2 hx2 hA3 hx3 hw5 hb4 hr0 hB0 hrd0
  go_loopw [5] (fun i wr => ∃ k : Nat, i = .int .i64 (64 * k) ∧ k ≤ n ∧ But w4.heap.size w5.heap.size w5 wr ∧ Blk wr w4.heap.size (nums .u32 (chainF all k)) 91) (fun i _ => 64 * n - (intOf i).toNat)
  case atStart => exact ⟨0, rfl, by omega, But.refl _ _ _, hs5⟩
  case round =>
    clear hs5
    obtain ⟨k, rfl, hk, hBt, hs⟩ := hrel
    by_cases hlt : k < n
    · rename World => wq
      have hp64 : ((all.drop (64 * k)).take 64).length = 64 := by have := HN.out; simp; omega
      have HP := Lib.hid hp64
      clear hp64
      go_wp2
      go_loopw [7] (fun i wr => ∃ m : Nat, i = .int .i64 m ∧ m ≤ 64 ∧ Below wq.heap.size wq wr ∧ Blk wr wq.heap.size (nums .u8 (fillTo [] ((all.drop (64 * k)).take 64) 64 m)) 93) (fun i _ => 64 - (intOf i).toNat)
      case atStart => exact ⟨0, rfl, by omega, (Below.refl _ _).alloc (Nat.le_refl _) _, Blk.new' _ _ _ _ _ (by simp [fillTo, nums]) rfl⟩
      case round =>
        obtain ⟨m, rfl, hm, hB, hb⟩ := hrel
        by_cases hm2 : m < 64
        · have c1 : wr.cell? ⟨g, o + (64 * k + m), none⟩ = some (.int .u8 (ga all (64 * k + m))) := by
            rw [hB.cell (p := ⟨g, _, none⟩) (by show g < wq.heap.size; have := hBt.size; omega), hBt.cell g _ (by omega) (by omega)]; exact HRD.out _ (by omega)
          have cb := hb.num m (by rw [fillTo_len _ _ _ _ (by simp; omega) (by rw [HP.out]; omega)]; omega)
          have fb := hb.frozen m
          go_wp2
          go_roundw
          case rel =>
            refine ⟨m + 1, by go_num, by omega, hB.setCell (by simp) _, ?_⟩
            have := hb.setNum m (ga all (64 * k + m))
            rw [← fillTo_set [] _ 64 m 0 rfl (by rw [HP.out]; exact hm2) (by omega), Nat.zero_add, ga_take _ _ _ hm2, ga_drop]
            exact this
          case measure => simp [intOf]; omega
        · have e64 : m = 64 := by omega
          have e1 : fillTo [] ((all.drop (64 * k)).take 64) 64 64 = (all.drop (64 * k)).take 64 := by
            unfold fillTo; rw [List.take_of_length_le (by rw [HP.out]; exact Nat.le_refl _)]; simp
          rw [e64, e1] at hb
          clear e64 e1
          have hs2 := hs.up hB
          have hcl := chainF_len all k
          have HCL := Lib.hid hcl
          clear hcl
          go_wp2_with (first
            | (apply st_load (n := 8) (cs := nums .u32 (chainF all k)) (T := 91); rfl; exact hs2; exact Tryd.underlying91; rfl; kernel_rfl; (rw [nums_length, HCL.out]; exact Nat.le_refl _); (exact row_all _ _ (by rw [nums_length, HCL.out])))
            | (apply st_load (n := 64) (cs := nums .u8 ((all.drop (64 * k)).take 64)) (T := 93); rfl; exact hb; exact Tryd.underlying93; rfl; kernel_rfl; (rw [nums_length, HP.out]; exact Nat.le_refl _); (exact row_all _ _ (by rw [nums_length, HP.out])))
            | (go_at_call 56; refine (refblock_any _ (chainF all k) ((all.drop (64 * k)).take 64) HCL.out HP.out (chainF_range _ _) (HUA.out.part _ _)).mono ?_; rintro e w7 ⟨rfl, hb7⟩; have hs7 := hs2.up hb7)
            | (apply st_storeW (off := 0) (vs := nums .u32 (chainF all (k + 1))) (cs := nums .u32 (chainF all k)) (T := 91); rfl; rfl; exact hs7; (rw [nums_length, chainF_len]; kernel_rfl); (rw [nums_length, nums_length, chainF_len, chainF_len]; exact Nat.le_refl _); exact nums_one _ _; intro w8 hs8 hw8; rw [laid_all _ _ (by rw [nums_length, nums_length, chainF_len, chainF_len])] at hs8))
          go_roundw
          case rel =>
            refine ⟨k + 1, by go_num, by omega, ?_, hs8⟩
            exact ((hBt.up hB (Nat.le_refl _)).up hb7 (Nat.le_refl _)).wrote hw8
          case measure => simp [intOf]; omega
    · have e : k = n := by omega
      rw [e, ← HSE.out] at hs
      clear e
      have hrq : Blk wr w.heap.size (nums .u8 (List.replicate 32 0)) 24 := hr5.butFar hBt (by omega) (by omega)
      have hBq : Below w.heap.size w wr := hB5.trans (hBt.below' (by omega) (by omega))
      have hsq := hBt.size
      rename World => wq
      go_wp2
      go_loopw [9] (fun i wr => ∃ m : Nat, i = .int .i64 m ∧ m ≤ 8 ∧ Below wq.heap.size wq wr ∧ Blk wr wq.heap.size (nums .u8 (bytesTo s m)) 24) (fun i _ => 8 - (intOf i).toNat)
      case atStart => exact ⟨0, rfl, by omega, (Below.refl _ _).alloc (Nat.le_refl _) _, Blk.new' _ _ _ _ _ rfl rfl⟩
      case round =>
        obtain ⟨kk, hkk⟩ : ∃ kk : Int, kk = (k : Int) := ⟨_, rfl⟩
        rw [← hkk]
        clear hkk hk hlt
        obtain ⟨m, rfl, hm, hB, hb⟩ := hrel
        have hs2 := hs.up hB
        by_cases hlt : m < 8
        · have c1 := hs2.num m (by rw [HSL.out]; exact hlt)
          go_wp2_with (go_at_call 38; refine (refput_any _ (IntKind.u64.wrap (ga s m)) 4 (by rw [wu]; omega) (by rw [wu]; omega) (by omega) (by omega)).mono ?_; rintro e w6 ⟨v2, rfl, hb6, ho6⟩; obtain ⟨A2, c2, rfl, h2, hA2, hR2, hx2⟩ := ho6.from)
          rw [wu, putF_low] at hR2 h2 ⊢
          have hp4 := putF_len (ga s m) 4
          obtain ⟨g2, o2, rfl, hrd2⟩ := hR2.get (by rw [nums_length, hp4]; omega)
          have hg2 : g2 < w6.heap.size := World.block_lt_of_cell? (h := hrd2 0 _ (nums_at .u8 _ 0 (by omega)))
          have hg2b := hx2 ⟨g2, o2, none⟩ rfl
          rw [hp4] at h2 ⊢
          have hbl := hb.lt
          have hb7 := hb.up hb6
          have hB7 := hB.trans (hb6.mono hB.size)
          have hal : (bytesF (s.take m)).length = 4 * m := by rw [bytesF_len, List.length_take, HSL.out]; omega
          rw [← fillTo_bytes s m HSL.out (by omega)] at hb7
          have HRD2 := Lib.hid hrd2
          have HP4 := Lib.hid hp4
          have HAL := Lib.hid hal
          clear hrd2 hR2 hx2 hb hB hs2 c1 ho6 hp4 hal hA2
          go_loopw [11] (fun i wr => ∃ j : Nat, i = .int .i64 j ∧ j ≤ 4 ∧ But wq.heap.size w6.heap.size w6 wr ∧ Blk wr wq.heap.size (nums .u8 (fillTo (bytesF (s.take m)) (putF (ga s m) 4) 32 j)) 24) (fun i _ => 4 - (intOf i).toNat)
          case atStart => exact ⟨0, rfl, by omega, But.refl _ _ _, hb7⟩
          case round =>
            clear hb7
            obtain ⟨j, rfl, hj, hB8, hb8⟩ := hrel
            by_cases hj4 : j < 4
            · have c2 : wr.cell? ⟨g2, o2 + j, none⟩ = some (.int .u8 (ga (putF (ga s m) 4) j)) := by
                rw [hB8.cell g2 _ hg2 (by simp at hg2b; omega)]; exact HRD2.out _ _ (nums_at .u8 _ j (by rw [HP4.out]; exact hj4))
              have cb := hb8.num (4 * m + j) (by rw [fillTo_len _ _ _ _ (by rw [HAL.out]; omega) (by rw [HP4.out]; omega)]; omega)
              have fb := hb8.frozen (4 * m + j)
              go_wp2
              go_roundw
              case rel =>
                refine ⟨j + 1, by go_num, by omega, hB8.set _ _, ?_⟩
                have := hb8.setNum (4 * m + j) (ga (putF (ga s m) 4) j)
                rw [← fillTo_set _ _ 32 j (4 * m) HAL.out (by rw [HP4.out]; exact hj4) (by omega)]
                exact this
              case measure => simp [intOf]; omega
            · have e : j = 4 := by omega
              rw [e, fillTo_bytes2 s m HSL.out hlt] at hb8
              clear e
              go_wp2
              go_roundw
              case rel => exact ⟨m + 1, by go_num, by omega, hB7.trans (hB8.below' (Nat.le_refl _) hB7.size), hb8⟩
              case measure => simp [intOf]; omega
        · have e : m = 8 := by omega
          rw [e] at hb
          clear e
          have hl8 := bytesTo_len s 8 HSL.out (Nat.le_refl _)
          obtain ⟨v8, hv8⟩ : ∃ v8, v8 = bytesTo s 8 := ⟨_, rfl⟩
          rw [← hv8] at hb hl8
          have hr9 := hrq.up hB
          have HV8 := Lib.hid hv8
          have HL8 := Lib.hid hl8
          clear hv8 hl8
          go_wp2_with (first
            | (apply st_load (n := 32) (cs := nums .u8 v8) (T := 24); rfl; exact hb; exact Tryd.underlying24; rfl; kernel_rfl; (rw [nums_length, HL8.out]; exact Nat.le_refl _); (exact row_all _ _ (by rw [nums_length, HL8.out])))
            | (apply st_storeW (off := 0) (vs := nums .u8 v8) (cs := nums .u8 (List.replicate 32 0)) (T := 24); rfl; rfl; exact hr9; (rw [nums_length, HL8.out]; kernel_rfl); (rw [nums_length, HL8.out]; exact Nat.le_refl _); (exact nums_one _ _); intro w9 hn9 hw9))
          refine bodyPost_ret (ret_row rfl _ _ _ (nums .u8 v8) 24 _ rfl ?_ Tryd.underlying24 rfl (by rw [nums_length, HL8.out]; kernel_rfl)) rfl ⟨?_, ?_⟩
          · rw [laid_all _ _ (by rw [nums_length, HL8.out]; rfl)] at hn9; exact hn9
          · rw [HV8.out, bytesTo_all _ HSL.out, HSUM.out]
          · exact Wrote.below (hBq.trans (hB.mono hBq.size)) hw9 (Nat.le_refl _)
end RefS
section Eql
open Go.RowKit

section
variable {P : Program} {t e : TypeId} {k : IntKind} {n : Nat}
theorem run_part_num (he : P.underlying e = some (.int k)) (cs : List Value) (i : Nat) (v : Value) (hv : cs[i]? = some v) (w : World) : (part e cs.toArray i).run P w = .ok v w := by
  have hagg : (isAgg e).run P w = .ok false w := by
    unfold isAgg
    rw [Sem.run_bind, run_underlying he w]
    rfl
  simp [part, Sem.run_bind, hagg, hv]
theorem run_eqItems_num (he : P.underlying e = some (.int k)) (d : Nat) (xs ys : List Int) (w : World) : ∀ (is : List Nat), (∀ i ∈ is, i < xs.length ∧ i < ys.length) →
    (Op.eqItems (d + 1) e 1 (nums k xs).toArray (nums k ys).toArray is).run P w = .ok (is.all fun i => ga xs i == ga ys i) w
  | [], _ => by simp [Op.eqItems]
  | i :: is, h => by
    obtain ⟨h1, h2⟩ := h i (by simp)
    have ih := run_eqItems_num he d xs ys w is (fun j hj => h j (by simp [hj]))
    have p1 := run_part_num he (nums k xs) i _ (nums_at k xs i h1) w
    have p2 := run_part_num he (nums k ys) i _ (nums_at k ys i h2) w
    have p3 := run_equalIn_int w d e k k (xs.getD i 0) (ys.getD i 0) he
    simp only [← ga_eq] at p1 p2 p3
    simp only [Op.eqItems, Nat.mul_one, Sem.run_bind, p1, p2, Result.andThen_ok, p3, List.all_cons]
    cases hb : (ga xs i == ga ys i)
    · rfl
    · simpa only [Bool.not_true, Bool.false_eq_true, if_false, Bool.true_and] using ih
theorem all_range_eq (xs ys : List Int) (hx : xs.length = n) (hy : ys.length = n) : ((List.range n).all fun i => ga xs i == ga ys i) = decide (xs = ys) := by
  rw [Bool.eq_iff_iff]
  simp only [List.all_eq_true, List.mem_range, beq_iff_eq, decide_eq_true_eq]
  constructor
  · intro h
    apply List.ext_getElem (by omega)
    intro i h1 h2
    have := h i (by omega)
    simpa [ga, h1, h2] using this
  · rintro rfl i _; rfl
theorem run_equal_nums (ht : P.underlying t = some (.array n e)) (he : P.underlying e = some (.int k)) (hi : (P.info? e).map (·.size) = some 1) (hc : P.cellsOf e = 1) (xs ys : List Int) (hx : xs.length = n) (hy : ys.length = n) (w : World) :
    (Op.equal t (.agg (nums k xs).toArray) (.agg (nums k ys).toArray)).run P w = .ok (decide (xs = ys)) w := by
  cases hq : P.info? e with
  | none => simp [hq] at hi
  | some info =>
    show (Op.equalIn (9999 + 1) t _ _).run P w = _
    rw [run_equalIn_array (w := w) 9999 _ _ ht hq, hc]
    show (Op.eqItems (9998 + 1) e 1 _ _ _).run P w = _
    rw [run_eqItems_num he 9998 xs ys w _ (fun i hi => by rw [List.mem_range] at hi; omega), all_range_eq xs ys hx hy]
theorem run_eql_nums (ht : P.underlying t = some (.array n e)) (he : P.underlying e = some (.int k)) (hi : (P.info? e).map (·.size) = some 1) (hc : P.cellsOf e = 1) (xs ys : List Int) (hx : xs.length = n) (hy : ys.length = n) (w : World) :
    (binOp .eql t (.agg (nums k xs).toArray) (.agg (nums k ys).toArray)).run P w = .ok (.bool (decide (xs = ys))) w := by
  simp [binOp, run_equal_nums ht he hi hc xs ys hx hy w]
theorem run_neq_nums (ht : P.underlying t = some (.array n e)) (he : P.underlying e = some (.int k)) (hi : (P.info? e).map (·.size) = some 1) (hc : P.cellsOf e = 1) (xs ys : List Int) (hx : xs.length = n) (hy : ys.length = n) (w : World) :
    (binOp .neq t (.agg (nums k xs).toArray) (.agg (nums k ys).toArray)).run P w = .ok (.bool (!decide (xs = ys))) w := by
  simp [binOp, run_equal_nums ht he hi hc xs ys hx hy w]
end
end Eql
section Keep
open Go.RowKit

theorem Rd.take {w : World} {A : Option Addr} {cs : List Value} (h : Rd w A cs) (n : Nat) : Rd w A (cs.take n) := by
  rcases h with h | ⟨g, off, rfl, hc⟩
  · subst h; rw [List.take_nil]; exact Rd.nil _ _
  · refine .inr ⟨g, off, rfl, fun j v hv => hc j v ?_⟩
    rw [List.getElem?_take] at hv
    split at hv
    · exact hv
    · cases hv
theorem nums_take (k : IntKind) (xs : List Int) (n : Nat) : nums k (xs.take n) = (nums k xs).take n := by simp [nums, List.map_take]
theorem U8.take {l : List Int} (h : U8 l) (n : Nat) : U8 (l.take n) := by
  have := h.part 0 n
  simpa using this

theorem Rd.but {g : Nat} {w w' : World} {A : Option Addr} {cs : List Value} (h : Rd w A cs) (hB : But g w.heap.size w w') (hA : ∀ a, A = some a → a.block ≠ g) : Rd w' A cs := by
  rcases h with h | ⟨k, off, rfl, hc⟩
  · exact .inl h
  · refine .inr ⟨k, off, rfl, fun j v hv => ?_⟩
    have := hc j v hv
    rw [hB.cell k _ (World.block_lt_of_cell? (h := this)) (hA ⟨k, off, none⟩ rfl)]; exact this
theorem Own.blk {w : World} {base : Nat} {v : Value} {bs : List Int} (h : Own w base v bs) (hl : 0 < bs.length) : ∃ g cap cur, v = .slice (some ⟨g, 0, none⟩) bs.length cap ∧ base ≤ g ∧ Blk w g cur 5 ∧ bs.length ≤ cur.length ∧ bs.length ≤ cap ∧ Rd w (some ⟨g, 0, none⟩) (nums .u8 bs) := by
  obtain ⟨A, c, h1, h2, h3, h4, _⟩ := h.from
  obtain ⟨hl2, h | ⟨g, cap, cur, hv, hg, hh, hn, hm, hsz, ht⟩⟩ := h
  · omega
  · have hA : A = some ⟨g, 0, none⟩ := by rw [h1] at hv; injection hv
    refine ⟨g, cap, cur.toList, hv, hg, by unfold Blk; simpa using hh, ?_, hn, by rw [← hA]; exact h4⟩
    have := congrArg List.length ht
    rw [List.length_take, nums_length] at this
    omega


theorem IsHash.below {w w' : World} {g B : Nat} {all : List Int} (h : IsHash w g all) (hb : Below B w w') (hg : g < B) : IsHash w' g all := by
  obtain ⟨s, part, h1, h2⟩ := h; exact ⟨s, part, h1.below hb hg, h2⟩
theorem IsHash.butFar {w w' : World} {g h B : Nat} {all : List Int} (hh : IsHash w h all) (hB : But g B w w') (h1 : h < B) (h2 : h ≠ g) : IsHash w' h all := by
  obtain ⟨s, part, h3, h4⟩ := hh; exact ⟨s, part, h3.butFar hB h1 h2, h4⟩
theorem Own.lt {w : World} {base : Nat} {v : Value} {bs : List Int} (h : Own w base v bs) (k : Nat) (hk : v.ownBlock = some k) : base ≤ k ∧ k < w.heap.size := World.ownsRow.lt h k hk
/-- The call's own row, where its block is as it was. -/
theorem Own.same {w w' : World} {base : Nat} {v : Value} {bs : List Int} (h : Own w base v bs) (hs : ∀ k, base ≤ k → k < w.heap.size → w'.heap[k]? = w.heap[k]?) : Own w' base v bs := by
  obtain ⟨hl, h | ⟨g, cap, cur, hv, hg, hh, r⟩⟩ := h
  · exact ⟨hl, .inl h⟩
  · exact ⟨hl, .inr ⟨g, cap, cur, hv, hg, (hs g hg (Array.getElem?_eq_some_iff.1 hh).1).trans hh, r⟩⟩
theorem Own.butFar {w w' : World} {base g : Nat} {v : Value} {bs : List Int} (h : Own w base v bs) (hB : But g w.heap.size w w') (hg : g < base) : Own w' base v bs :=
  h.same fun k h1 h2 => hB.block k h2 (by omega)
/-- The same, where the other's block is newer. -/
theorem Own.butNew {w w' : World} {base g B : Nat} {v : Value} {bs : List Int} (h : Own w base v bs) (hB : But g B w w') (hg : ∀ k, v.ownBlock = some k → k ≠ g) (hw : w.heap.size ≤ B) : Own w' base v bs := by
  obtain ⟨hl, h | ⟨k, cap, cur, hv, hk, hh, r⟩⟩ := h
  · exact ⟨hl, .inl h⟩
  · have hlt := (Array.getElem?_eq_some_iff.1 hh).1
    exact ⟨hl, .inr ⟨k, cap, cur, hv, hk, (hB.block k (by omega) (hg k (by rw [hv]; rfl))).trans hh, r⟩⟩

/-- The call's own bytes, opened: its block, where there is any. -/
theorem Own.mine {w : World} {base : Nat} {v : Value} {bs : List Int} (h : Own w base v bs) : ∃ g A c, v = .slice A bs.length c ∧ base ≤ g ∧ bs.length ≤ c ∧ (A = none → c = 0) ∧ Rd w A (nums .u8 bs) ∧ (∀ a, A = some a → a.block = g) ∧
    (0 < bs.length → A = some ⟨g, 0, none⟩ ∧ g < w.heap.size ∧ ∃ cur, Blk w g cur 5 ∧ bs.length ≤ cur.length) := by
  obtain ⟨A, c, h1, h2, h3, h4, h5⟩ := h.from
  by_cases hl : 0 < bs.length
  · obtain ⟨g, cap, cur, hv, hg, hb, hcl, hcap, hr⟩ := h.blk hl
    exact ⟨g, _, cap, hv, hg, hcap, (fun h => by cases h), hr, (fun a ha => by injection ha with ha; rw [← ha]), fun _ => ⟨rfl, hb.lt, cur, hb, hcl⟩⟩
  · cases A with
    | none => exact ⟨base, none, c, h1, Nat.le_refl _, h2, h3, h4, (fun a ha => by cases ha), fun h => absurd h hl⟩
    | some a => exact ⟨a.block, some a, c, h1, h5 a rfl, h2, h3, h4, (fun b hb => by injection hb with hb; rw [hb]), fun h => absurd h hl⟩

theorem But.wroteFar {g h B : Nat} {w w' w'' : World} (hb : But g B w w') (hw : Wrote w' w'' h) (hh : B ≤ h) : But g B w w'' :=
  ⟨hw.os.trans hb.os, hw.tape.trans hb.tape, hw.output.trans hb.output, by rw [hw.size]; exact hb.size, fun k hk hg => by rw [hw.far k (by omega)]; exact hb.block k hk hg⟩
/-- At this address rows of bytes are read. -/
def RdS (w : World) (A : Option Addr) (ls : List (List Int)) : Prop := ls = [] ∨ ∃ g off, A = some ⟨g, off, none⟩ ∧ ∀ j l, ls[j]? = some l → ∃ Aj cj, w.cell? ⟨g, off + j, none⟩ = some (.slice Aj l.length cj) ∧ l.length ≤ cj ∧ (Aj = none → cj = 0) ∧ Rd w Aj (nums .u8 l) ∧ U8 l
theorem RdS.take {w : World} {A : Option Addr} {ls : List (List Int)} (h : RdS w A ls) (n : Nat) : RdS w A (ls.take n) := by
  rcases h with h | ⟨g, off, rfl, hc⟩
  · subst h; rw [List.take_nil]; exact .inl rfl
  · refine .inr ⟨g, off, rfl, fun j l hl => hc j l ?_⟩
    rw [List.getElem?_take] at hl
    split at hl
    · exact hl
    · cases hl
theorem U8.nil : U8 [] := fun i => by rw [ga_out _ _ (by simp)]; omega
end Keep
section Guard
open Go.RowKit

section
variable {P : Program} {ops : Array Oper} {C : World → Prop} {Q : Exit → Act → World → Prop} {E F : List Nat} {k : Nat} {rest : List Oper} {a : Act} {w : World} {o : Oper} {v : Value}
/-- A guarded operation that may turn the world; its guard is met. -/
theorem wd_lg (hE : E.contains k = true) (hg : Region.wanted o (yielded ops a.tmps) = true) (hQo : ∀ a w, ¬ Q .outgrown a w)
    (h : wpList P #[] (Exit.then (fun a' w' => After C F (List.range' (k + 1) rest.length) (sinks ops k) w' ∧ WD P ops C Q E F (k + 1) rest a' w') Q) [{ o with guard := none }] a w) : WD P ops C Q E F k (o :: rest) a w := by
  refine wd_loud hE hg ?_
  unfold wpList at h
  rw [if_pos (by simp [Region.wanted])] at h
  rcases h with h | ⟨_, a', w', hl⟩
  · obtain ⟨dst, op, type, pos, after, guard⟩ := o
    unfold Oper.wp at h ⊢
    dsimp only at h
    have he : execOp a.eval ⟨dst, op, type, pos, after, guard⟩ = execOp a.eval ⟨dst, op, type, pos, after, none⟩ := rfl
    rw [he]
    generalize (execOp a.eval ⟨dst, op, type, pos, after, none⟩).run P w = r at h ⊢
    cases r with
    | ok n w' =>
      cases n <;> simp only [Oper.upon] at h ⊢
      case value u => exact h
      case skip => exact h
      case defer d => exact h
      case enter f args => exact Calls.mono h fun e w'' he => by cases e <;> exact he
      case row row args => exact Rows.mono h fun _ _ he => he
    | halt z w' => cases z <;> simp only [Oper.upon] at h ⊢ <;> exact h
  · exact absurd hl (hQo a' w')
/-- A pick, in every world. -/
theorem wd_pick {c x y : Operand} {b : Bool} (ho : o.op = .pick c x y) (hE : E.contains k = false) (hg : o.guard = none) (hc : a.eval c = .bool b) (hv : (if b then a.eval x else a.eval y) = v)
    (h : WD P ops C Q E F (k + 1) rest (a.put o.dst v) w) : WD P ops C Q E F k (o :: rest) a w := by
  subst hv
  simp only [WD]
  rw [if_neg (by rw [hE]; exact Bool.false_ne_true)]
  refine ⟨_, .inl ⟨by simp [Region.wanted, hg], fun w _ => .inl ?_⟩, h⟩
  unfold execOp
  rw [ho]
  simp [hc, asBool]
end
end Guard
section Arr
open Go.RowKit

theorem bytesF_part (s : List Int) : ∀ i, i < s.length → ((bytesF s).drop (4 * i)).take 4 = putF (ga s i) 4 := by
  induction s with
  | nil => intro i h; simp at h
  | cons x s ih =>
    intro i h
    have h4 : (putF x 4).length = 4 := putTo_len _ _ _
    match i with
    | 0 =>
      show ((putF x 4 ++ bytesF s).drop 0).take 4 = putF x 4
      rw [List.drop_zero, List.take_append_of_le_length (by omega), List.take_of_length_le (by omega)]
    | i + 1 =>
      show ((putF x 4 ++ bytesF s).drop (4 * (i + 1))).take 4 = putF (ga s i) 4
      rw [List.drop_append, List.drop_of_length_le (by omega), List.nil_append, h4, show 4 * (i + 1) - 4 = 4 * i by omega]
      exact ih i (by simpa using h)
theorem get_put (x : Int) (h0 : 0 ≤ x) (h1 : x < 4294967296) : getTo (putF x 4) 4 = x := by
  have h4 : (putF x 4).length = 4 := putTo_len _ _ _
  have a0 : ga (putF x 4) 0 = x / 16777216 % 256 := rfl
  have a1 : ga (putF x 4) 1 = x / 65536 % 256 := rfl
  have a2 : ga (putF x 4) 2 = x / 256 % 256 := rfl
  have a3 : ga (putF x 4) 3 = x / 1 % 256 := rfl
  have hU : U8 (putF x 4) := by
    intro i
    match i with
    | 0 => rw [a0]; omega
    | 1 => rw [a1]; omega
    | 2 => rw [a2]; omega
    | 3 => rw [a3]; omega
    | i + 4 => rw [ga_out _ _ (by omega)]; omega
  have := getTo4 (putF x 4) hU h4
  rw [h4] at this
  rw [this, a0, a1, a2, a3, be4_sum _ _ _ _ (by omega) (by omega) (by omega) (by omega)]
  omega

/-- x[i:] of a slice of elements of one cell, somewhere ahead of its end. -/
theorem st_fromLt {P : Program} {ops : Array Oper} {Q : Exit → Act → World → Prop} {rest : List Oper} {a : Act} {w : World} {d' : Option Tmp} {tt t e : TypeId} {x lo : Operand} {pos : String} {after : Array Edge} {g off n c i : Nat} {k : IntKind} {z : Int}
    (hu : P.underlying t = some (.slice e)) (hsz : (P.info? e).map (·.size) = some 1) (hx : a.eval x = .slice (some ⟨g, off, none⟩) n c) (hlo : a.eval lo = .int k z) (hz : z = i) (hi : i ≤ n) (hc : i < c)
    (h : wpList P ops Q rest (a.put d' (.slice (some ⟨g, off + i, none⟩) (n - i) (c - i))) w) :
    wpList P ops Q (⟨d', .slice t x (some lo) none none, tt, pos, after, none⟩ :: rest) a w := by
  subst hz
  refine st_from hu hsz hx hlo hi fun A2 hA2 => ?_
  have e : A2 = some ⟨g, off + i, none⟩ := by
    rw [hA2, if_neg (by omega)]
    simp only [Option.map_some, Option.some.injEq]; unfold Addr.add; split <;> simp_all
  rw [e]; exact h

/-- x[:] of an array in memory. -/
theorem st_allArr {P : Program} {ops : Array Oper} {Q : Exit → Act → World → Prop} {rest : List Oper} {a : Act} {w : World} {d' : Option Tmp} {tt t e : TypeId} {x : Operand} {pos : String} {after : Array Edge} {g off n : Nat}
    (hu : P.underlying t = some (.array n e)) (hsz : (P.info? e).map (·.size) = some 1) (hx : a.eval x = .pointer (some ⟨g, off, none⟩))
    (h : wpList P ops Q rest (a.put d' (.slice (some ⟨g, off, none⟩) n n)) w) :
    wpList P ops Q (⟨d', .slice t x none none none, tt, pos, after, none⟩ :: rest) a w :=
  wpList_plain rfl fun K hK => by
    have hrun : (Instr.sliceAt t (.pointer (some ⟨g, off, none⟩)) none none none).run P w = .ok (.slice (some ⟨g, off, none⟩) n n) w := by
      cases hq : P.info? e with
      | none => simp [hq] at hsz
      | some info =>
        have hadd : (⟨g, off, none⟩ : Addr).add 0 = ⟨g, off, none⟩ := by unfold Addr.add; split <;> simp_all
        simp [Instr.sliceAt, run_underlying hu, Instr.sureAddr, Instr.sliceBounds, sizeOf, typeInfo, hq, hadd]
    unfold Oper.wp execOp
    simp only [Sem.run_bind, hx, Option.map_none, hrun]
    exact hK _ _ h

section
variable {P : Program} {ops : Array Oper} {Q : Exit → Act → World → Prop} {rest : List Oper} {a : Act} {w : World}
/-- x[:j] of an array in memory. -/
theorem st_hiArr {d' : Option Tmp} {tt t e : TypeId} {x hi : Operand} {pos : String} {after : Array Edge} {g off n j : Nat} {k : IntKind} {z : Int}
    (hu : P.underlying t = some (.array n e)) (hsz : (P.info? e).map (·.size) = some 1) (hx : a.eval x = .pointer (some ⟨g, off, none⟩)) (hhi : a.eval hi = .int k z) (hz : z = j) (hj : j ≤ n)
    (h : wpList P ops Q rest (a.put d' (.slice (some ⟨g, off, none⟩) j n)) w) :
    wpList P ops Q (⟨d', .slice t x none (some hi) none, tt, pos, after, none⟩ :: rest) a w :=
  wpList_plain rfl fun K hK => by
    subst hz
    have hrun : (Instr.sliceAt t (.pointer (some ⟨g, off, none⟩)) none (some (.int k j)) none).run P w = .ok (.slice (some ⟨g, off, none⟩) j n) w := by
      cases hq : P.info? e with
      | none => simp [hq] at hsz
      | some info =>
        have hadd : (⟨g, off, none⟩ : Addr).add 0 = ⟨g, off, none⟩ := by unfold Addr.add; split <;> simp_all
        simp [Instr.sliceAt, run_underlying hu, Instr.sureAddr, Instr.sliceBounds, Instr.sliceBound, asIntOf, sizeOf, typeInfo, hq, hadd, hj]
    unfold Oper.wp execOp
    simp only [Sem.run_bind, hx, Option.map_some, Option.map_none, hhi, hrun]
    exact hK _ _ h
/-- string(x) of bytes in a row. -/
theorem st_str {d' : Option Tmp} {tt src dst e : TypeId} {x : Operand} {pos : String} {after : Array Edge} {g off n c : Nat} {cs : List Int} {T : TypeId} {s : ByteArray}
    (hs : P.underlying src = some (.slice e)) (he : P.underlying e = some (.int .u8)) (hd : P.underlying dst = some .string) (hx : a.eval x = .slice (some ⟨g, off, none⟩) n c) (hb : Blk w g (nums .u8 cs) T) (hle : off + n ≤ cs.length) (hr : strOfNums ((cs.drop off).take n) = s)
    (h : wpList P ops Q rest (a.put d' (.string s)) w) :
    wpList P ops Q (⟨d', .convert src dst x, tt, pos, after, none⟩ :: rest) a w :=
  wpList_plain rfl fun K hK => by
    have hrun := run_convert_bytes_arg (P := P) w src e hs he g off n c ((cs.drop off).take n) (by simp; omega) (fun i hi => by
      rw [hb.cell, nums_at _ _ _ (by omega), ← ga_eq, ← ga_eq, ga_take _ _ _ hi, ga_drop]) dst hd
    rw [hr] at hrun
    unfold Oper.wp execOp
    simp only [Sem.run_bind, hx, hrun]
    exact hK _ _ h
end
end Arr
section Byt
open Go.RowKit

/-- A slice of bytes that is read. -/
structure Byt (w : World) (A : Option Addr) (c : Nat) (bs : List Int) : Prop where
  rd : Rd w A (nums .u8 bs)
  le : bs.length ≤ c
  nn : A = none → c = 0
  u : U8 bs
theorem Byt.up {w w' : World} {A : Option Addr} {c : Nat} {bs : List Int} (h : Byt w A c bs) (hb : Below w.heap.size w w') : Byt w' A c bs := ⟨h.rd.up hb, h.le, h.nn, h.u⟩
theorem Byt.ne {w : World} {A : Option Addr} {c : Nat} {bs : List Int} (h : Byt w A c bs) {g : Nat} (hg : w.heap.size ≤ g) : 0 < bs.length → ∀ a, A = some a → a.block ≠ g := fun hp a ha => by
  have := h.rd.lt (by rw [nums_length]; exact hp) a ha; omega
theorem Own.byt {w : World} {base : Nat} {v : Value} {bs : List Int} (h : Own w base v bs) (hu : U8 bs) : ∃ A c, v = .slice A bs.length c ∧ Byt w A c bs ∧ ∀ a, A = some a → base ≤ a.block := by
  obtain ⟨A, c, h1, h2, h3, h4, h5⟩ := h.from
  exact ⟨A, c, h1, ⟨h4, h2, h3, hu⟩, h5⟩
/-- The reference's Cut: the first so many. -/
theorem Byt.cut {w : World} {A : Option Addr} {c : Nat} {bs0 : List Int} (h : Byt w A c bs0) (n : Nat) (z : Int) (hz : z = n) : ∃ bs, bs.length ≤ n ∧ Hid (bs = bs0.take n) ∧ Byt w A c bs ∧
    Hid (∀ w', Calls Tryd.prog 9 #[.slice A bs0.length c, .int .i64 z] w' fun e w'' => e = .returned (.slice A bs.length c) ∧ w' = w'') := by
  subst hz
  refine ⟨bs0.take n, by rw [List.length_take]; omega, rfl, ⟨by rw [nums_take]; exact h.rd.take _, by rw [List.length_take]; have := h.le; omega, h.nn, h.u.take _⟩, ?_⟩
  intro w'
  have := refcut_any w' A bs0.length c n h.le
  rwa [show min bs0.length n = (bs0.take n).length by rw [List.length_take]; omega] at this
end Byt
end Go.Proofs.YtancldhincaphaaDoor
