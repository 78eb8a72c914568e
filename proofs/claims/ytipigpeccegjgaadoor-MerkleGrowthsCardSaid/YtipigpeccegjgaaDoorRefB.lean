/- What the reference's Block answers (inquestref02). Condition: the eight numbers are of 32 bits, the 64 bytes bytes. -/
import Derived.Test.YtipigpeccegjgaaDoorRef2
namespace Go.Proofs.YtipigpeccegjgaaDoor
open Go.RowKit

/-- Numbers of 32 bits; bytes. -/
def U32 (l : List Int) : Prop := ∀ i, 0 ≤ ga l i ∧ ga l i < 4294967296
def U8 (l : List Int) : Prop := ∀ i, 0 ≤ ga l i ∧ ga l i < 256
theorem bits_u32_range (op : BinOp) (a b : Int) : 0 ≤ bits op .u32 a b ∧ bits op .u32 a b < 4294967296 := by
  unfold bits
  rw [IntKind.wrap_u32]
  omega
theorem ga_append_left (l m : List Int) (i : Nat) (h : i < l.length) : ga (l ++ m) i = ga l i := by
  unfold ga; rw [List.getD_eq_getElem?_getD, List.getD_eq_getElem?_getD, List.getElem?_append_left h]
theorem ga_out (l : List Int) (i : Nat) (h : l.length ≤ i) : ga l i = 0 := by
  unfold ga; rw [List.getD_eq_getElem?_getD, List.getElem?_eq_none h]; rfl
theorem U32.snoc {l : List Int} (h : U32 l) (x : Int) (h0 : 0 ≤ x) (h1 : x < 4294967296) : U32 (l ++ [x]) := by
  intro i
  by_cases hi : i < l.length
  · rw [ga_append_left _ _ _ hi]; exact h i
  · by_cases e : i = l.length
    · subst e
      have : ga (l ++ [x]) l.length = x := by unfold ga; simp
      rw [this]; exact ⟨h0, h1⟩
    · rw [ga_out _ _ (by simp; omega)]; omega
theorem nextW_range (bs l : List Int) : 0 ≤ nextW bs l ∧ nextW bs l < 4294967296 := by
  unfold nextW
  split
  · exact bits_u32_range _ _ _
  · unfold nextZ; omega
theorem wordsW_range (bs : List Int) (k : Nat) : U32 (wordsW bs k) := by
  induction k with
  | zero => intro i; rw [wordsW, ga_out _ _ (by simp)]; omega
  | succ k ih => exact ih.snoc _ (nextW_range _ _).1 (nextW_range _ _).2
theorem rnd_range (k w : Int) (v : List Int) (h : U32 v) : U32 (rnd k w v) := by
  intro i
  have h0 := h 0
  have h1 := h 1
  have h2 := h 2
  have h4 := h 4
  have h5 := h 5
  have h6 := h 6
  match i with
  | 0 => show 0 ≤ (rndT k w v + rndU v) % 4294967296 ∧ _ % 4294967296 < 4294967296; omega
  | 1 => exact h0
  | 2 => exact h1
  | 3 => exact h2
  | 4 => show 0 ≤ (ga v 3 + rndT k w v) % 4294967296 ∧ _ % 4294967296 < 4294967296; omega
  | 5 => exact h4
  | 6 => exact h5
  | 7 => exact h6
  | n + 8 => rw [ga_out _ _ (by simp [rnd])]; omega
theorem rounds_range (ws ss : List Int) (h : U32 ss) (k : Nat) : U32 (rounds ws ss k) := by
  induction k with
  | zero => exact h
  | succ k ih => exact rnd_range _ _ _ ih
theorem be4_sum (a b c d : Int) (ha : 0 ≤ a ∧ a < 256) (hb : 0 ≤ b ∧ b < 256) (hc : 0 ≤ c ∧ c < 256) (hd : 0 ≤ d ∧ d < 256) : be4 a b c d = 16777216 * a + 65536 * b + 256 * c + d := by
  unfold be4
  have e1 : a % 4294967296 * 16777216 % 4294967296 = 16777216 * a := by omega
  have e2 : b % 4294967296 * 65536 % 4294967296 = 65536 * b := by omega
  have e3 : c % 4294967296 * 256 % 4294967296 = 256 * c := by omega
  have e4 : d % 4294967296 = d := by omega
  rw [e1, e2, e3, e4]
  rw [bits_join .u32 32 (by decide) wraps_u32 24 (16777216 * a) (65536 * b) (by omega) (by omega) (by omega) (by omega) (by omega) (by omega)]
  rw [bits_join .u32 32 (by decide) wraps_u32 16 (16777216 * a + 65536 * b) (256 * c) (by omega) (by omega) (by omega) (by omega) (by omega) (by omega)]
  rw [bits_join .u32 32 (by decide) wraps_u32 8 (16777216 * a + 65536 * b + 256 * c) d (by omega) (by omega) (by omega) (by omega) (by omega) (by omega)]
theorem getTo4 (bs : List Int) (h : U8 bs) (hl : bs.length = 4) : getTo bs bs.length = be4 (ga bs 0) (ga bs 1) (ga bs 2) (ga bs 3) := by
  have h0 := h 0
  have h1 := h 1
  have h2 := h 2
  have h3 := h 3
  rw [hl, be4_sum _ _ _ _ h0 h1 h2 h3]
  simp only [getTo]
  omega

theorem u32info : (Tryd.prog.info? 64).map (fun i => (i.zero, i.size, i.bytes)) = some (some (.int .u32 0), 1, 4) := by kernel_rfl
/-- A slice of numbers of 32 bits in memory of the call's own. -/
def Grows32 (w : World) (xs : List Int) (v : Value) (w' : World) : Prop := Below w.heap.size w w' ∧ w'.ownsRow w.heap.size 64 1 v xs.length (nums .u32 xs)
theorem Grows32.nil (w : World) : Grows32 w [] (.slice none 0 0) w := ⟨Below.refl _ _, World.ownsRow_nil w _ _ _⟩
theorem Grows32.up {w w' w'' : World} {xs : List Int} {v : Value} (h : Grows32 w xs v w') (hb : Below w'.heap.size w' w'') : Grows32 w xs v w'' :=
  ⟨h.1.trans (hb.mono h.1.size), World.ownsRow.kept (row := none) h.2 ⟨hb.os, hb.tape, hb.output, hb.size, fun k hk _ => hb.block k hk⟩ (by cases hv : v.ownBlock <;> simp)⟩
theorem Grows32.alloc {w w' : World} {xs : List Int} {v : Value} (h : Grows32 w xs v w') (o : Obj) : Grows32 w xs v (w'.alloc o) := h.up ((Below.refl _ _).alloc (Nat.le_refl _) _)
theorem Grows32.drew {w w' : World} {xs : List Int} {v : Value} (h : Grows32 w xs v w') : Grows32 w xs v w'.drew := h.up (Below.refl _ _).drew
theorem Grows32.rd {w w' : World} {xs : List Int} {v : Value} (h : Grows32 w xs v w') (hl : 0 < xs.length) : ∃ g c, v = .slice (some ⟨g, 0, none⟩) xs.length c ∧ w.heap.size ≤ g ∧ g < w'.heap.size ∧ ∀ j, j < xs.length → w'.cell? ⟨g, j, none⟩ = some (.int .u32 (ga xs j)) := by
  obtain ⟨_, h2⟩ := h
  obtain ⟨_, h2 | ⟨g, cap, cur, hv, hg, hh, hn, hm, hsz, ht⟩⟩ := h2
  · omega
  · refine ⟨g, cap, hv, hg, (Array.getElem?_eq_some_iff.1 hh).1, fun j hj => ?_⟩
    have := nums_at .u32 xs j hj
    simp only [World.cell?, hh]
    rw [← ht, List.getElem?_take] at this
    split at this
    · simpa [ga] using this
    · cases this

theorem st_grow32 {ops : Array Oper} {rest : List Oper} {a : Act} {w w0 : World} {Q : Exit → Act → World → Prop} {d' : Option Tmp} {tt : TypeId} {s x : Operand} {pos : String} {after : Array Edge} {v : Value} {g c : Nat} {xs ys : List Int} {T : TypeId}
    (hs : a.eval s = v) (hx : a.eval x = .slice (some ⟨g, 0, none⟩) ys.length c) (hg : Grows32 w0 xs v w) (hr : Blk w g (nums .u32 ys) T) (hl : xs.length + ys.length ≤ 1099511627776)
    (h : ∀ v' w', Grows32 w0 (xs ++ ys) v' w' → wpList Tryd.prog ops Q rest (a.put d' v') w') :
    wpList Tryd.prog ops Q (⟨d', .call ⟨.builtin .append, #[s, x], #[72, 72]⟩, tt, pos, after, none⟩ :: rest) a w := by
  obtain ⟨i0, hi, hz0, hz1, hz2⟩ := info_parts u32info
  refine wpList_append_own (w := w) rfl s x 72 rfl w0.heap.size 64 i0 (.int .u32 0) 1 4 Tryd.underlying72 hi hz0 hz1 hz2 rfl (by decide) v xs.length (nums .u32 xs) hs hg.2 ⟨g, 0, none⟩ ys.length c (nums .u32 ys) hx (by rw [nums_length, Nat.mul_one]) ?_ (nums_one _ _) (by unfold maxLen; omega) (by omega) hg.1.size ?_
  · intro j u hu
    have : (⟨g, 0, none⟩ : Addr).add j = ⟨g, j, none⟩ := by unfold Addr.add; split <;> simp_all
    rw [this, hr.cell]; exact hu
  · intro v' w' ho hgr _
    refine h v' w' ⟨hg.1.grown hgr (by have := hg.1.size; omega) (fun k hk => by have := World.ownsRow.lt hg.2 k hk; omega), ?_⟩
    rw [List.length_append, show nums .u32 (xs ++ ys) = nums .u32 xs ++ nums .u32 ys by simp [nums]]
    exact ho

/-- x[lo:hi] of an array of elements of one cell, in memory. -/
theorem st_cutArr {P : Program} {ops : Array Oper} {Q : Exit → Act → World → Prop} {rest : List Oper} {a : Act} {w : World} {d' : Option Tmp} {tt t e : TypeId} {x lo hi : Operand} {pos : String} {after : Array Edge} {g off n i j : Nat} {k k2 : IntKind} {z y : Int}
    (hu : P.underlying t = some (.array n e)) (hsz : (P.info? e).map (·.size) = some 1) (hx : a.eval x = .pointer (some ⟨g, off, none⟩)) (hlo : a.eval lo = .int k z) (hhi : a.eval hi = .int k2 y) (hz : z = i) (hy : y = j) (hi1 : i < n) (hi2 : i ≤ j) (hi3 : j ≤ n)
    (h : wpList P ops Q rest (a.put d' (.slice (some ⟨g, off + i, none⟩) (j - i) (n - i))) w) :
    wpList P ops Q (⟨d', .slice t x (some lo) (some hi) none, tt, pos, after, none⟩ :: rest) a w :=
  wpList_plain rfl fun K hK => by
    subst hz hy
    have hrun : (Instr.sliceAt t (.pointer (some ⟨g, off, none⟩)) (some (.int k i)) (some (.int k2 j)) none).run P w = .ok (.slice (some ⟨g, off + i, none⟩) (j - i) (n - i)) w := by
      cases hq : P.info? e with
      | none => simp [hq] at hsz
      | some info =>
        have hs : info.size = 1 := by simpa [hq] using hsz
        have hne : ¬ n = i := by omega
        have hadd : (⟨g, off, none⟩ : Addr).add i = ⟨g, off + i, none⟩ := by unfold Addr.add; split <;> simp_all
        simp [Instr.sliceAt, run_underlying hu, Instr.sureAddr, Instr.sliceBounds, Instr.sliceBound, asIntOf, sizeOf, typeInfo, hq, hs, hi2, hi3, hne, hadd]
    unfold Oper.wp execOp
    simp only [Sem.run_bind, hx, Option.map_some, Option.map_none, hlo, hhi, hrun]
    exact hK _ _ h
theorem ga_take (l : List Int) (n i : Nat) (h : i < n) : ga (l.take n) i = ga l i := by
  unfold ga; rw [List.getD_eq_getElem?_getD, List.getD_eq_getElem?_getD, List.getElem?_take_of_lt h]
theorem ga_drop (l : List Int) (n i : Nat) : ga (l.drop n) i = ga l (n + i) := by
  unfold ga; rw [List.getD_eq_getElem?_getD, List.getD_eq_getElem?_getD, List.getElem?_drop]
theorem U8.part {l : List Int} (h : U8 l) (n m : Nat) : U8 ((l.drop n).take m) := by
  intro i
  by_cases hi : i < m
  · rw [ga_take _ _ _ hi, ga_drop]; exact h _
  · rw [ga_out _ _ (by simp; omega)]; omega

def sums8 (s v : List Int) : List Int := [(ga s 0 + ga v 0) % 4294967296, (ga s 1 + ga v 1) % 4294967296, (ga s 2 + ga v 2) % 4294967296, (ga s 3 + ga v 3) % 4294967296, (ga s 4 + ga v 4) % 4294967296, (ga s 5 + ga v 5) % 4294967296, (ga s 6 + ga v 6) % 4294967296, (ga s 7 + ga v 7) % 4294967296]
theorem sums8_len (s v : List Int) : (nums .u32 (sums8 s v)).length = 8 := rfl
theorem sums8_eq (s v : List Int) (h : v.length = 8) : sumTo v s 8 = sums8 s v := by
  match v, h with
  | [a, b, c, d, e, f, g, i], _ =>
    simp [sumTo, sums8, ga, Int.add_comm]

theorem named_world {P : Program} {c : Code} {Q : Exit → Act → World → Prop} {a : Act} {w0 : World} (h : ∀ w', w' = w0 → c.wp P Q a w') : c.wp P Q a w0 := h _ rfl

set_option maxHeartbeats 4000000 in
set_option maxRecDepth 100000 in
theorem refblock_any (w : World) (ss bs : List Int) (hs : ss.length = 8) (hb : bs.length = 64) (us : U32 ss) (ub : U8 bs) :
    Calls Tryd.prog 48 #[.agg (nums .u32 ss).toArray, .agg (nums .u8 bs).toArray] w fun e w' => e = .returned (.agg (nums .u32 (blockF ss bs)).toArray) ∧ Below w.heap.size w w' := by
  have HS := Lib.hid hs
  have HN := Lib.hid hb
  have HUS := Lib.hid us
  have HUB := Lib.hid ub
  clear hs hb us ub
  go_enter Tryd.func48, Tryd.ntmps48
  go_wp2
  refine named_world ?_
  intro w0 hw0
  have hbs : Blk w0 w.heap.size (nums .u32 ss) 65 := by rw [hw0]; exact ((Blk.new' _ _ _ _ _ rfl rfl).alloc _).alloc _
  have hbi : Blk w0 (w.heap.size + 1) (nums .u8 bs) 67 := by rw [hw0]; exact (Blk.new' _ _ _ _ _ rfl (by simp)).alloc _
  have hbr : Blk w0 (w.heap.size + 1 + 1) (nums .u32 (List.replicate 8 0)) 65 := by rw [hw0]; exact Blk.new' _ _ _ _ _ rfl (by simp)
  have hB0 : Below w.heap.size w w0 := by rw [hw0]; exact (((Below.refl _ _).alloc (Nat.le_refl _) _).alloc (by simp) _).alloc (by simp; omega) _
  have hz0 : w0.heap.size = w.heap.size + 3 := by rw [hw0]; simp
  clear hw0
  go_loopw [5, 6] (fun v i wr => ∃ k : Nat, i = .int .i64 k ∧ k ≤ 16 ∧ Grows32 w0 (wordsW bs k) v wr) (fun _ i _ => 16 - (intOf i).toNat)
  case atStart => exact ⟨0, rfl, by omega, Grows32.nil _⟩
  case round =>
    obtain ⟨k, rfl, hk, hG⟩ := hrel
    by_cases hlt : k < 16
    · have hbi2 := hbi.up hG.1
      have hl4 : ((bs.drop (4 * k)).take 4).length = 4 := by have := HN.out; simp; omega
      have hget : getTo ((bs.drop (4 * k)).take 4) ((bs.drop (4 * k)).take 4).length = nextW bs (wordsW bs k) := by
        rw [getTo4 _ (HUB.out.part _ _) hl4, nextW, wordsW_len, if_pos hlt]
        simp only [ga_take _ _ _ (by omega : 0 < 4), ga_take _ _ _ (by omega : 1 < 4), ga_take _ _ _ (by omega : 2 < 4), ga_take _ _ _ (by omega : 3 < 4), ga_drop, Nat.add_zero]
      have hrd : Rd wr (some ⟨w.heap.size + 1, 4 * k, none⟩) (nums .u8 ((bs.drop (4 * k)).take 4)) := by
        refine .inr ⟨_, _, rfl, fun j v hv => ?_⟩
        rw [hbi2.cell]
        rw [show nums .u8 ((bs.drop (4 * k)).take 4) = ((nums .u8 bs).drop (4 * k)).take 4 by simp [nums, List.map_take, List.map_drop], List.getElem?_take] at hv
        split at hv
        · rwa [List.getElem?_drop] at hv
        · cases hv
      have hcall := refget_any wr (some ⟨w.heap.size + 1, 4 * k, none⟩) (64 - 4 * k) _ hrd (by omega) (by omega)
      rw [hget, hl4] at hcall
      have HC := Lib.hid hcall
      have hnr := nextW_range bs (wordsW bs k)
      obtain ⟨y, hy⟩ : ∃ y, y = nextW bs (wordsW bs k) := ⟨_, rfl⟩
      rw [← hy] at hnr HC
      have HY := Lib.hid hy
      have HL4 := Lib.hid hl4
      clear hcall hget hrd hy hl4
      go_wp2_with (first
        | (apply st_cutArr (i := 4 * k) (j := 4 * k + 4); exact Tryd.underlying67; kernel_rfl; rfl; rfl; rfl; omega; omega; omega; omega; omega; rw [show 4 * k + 4 - 4 * k = 4 by omega])
        | (go_at_call 54; refine HC.out.mono ?_; rintro e w' ⟨rfl, rfl⟩)
        | (apply st_grow32 (w0 := w0) (xs := wordsW bs k) (ys := [y]) (T := 64); rfl; rfl; exact hG.alloc _; exact Blk.new' _ _ _ _ _ rfl rfl; (rw [wordsW_len]; simp; omega); intro v2 w2 hG2))
      go_roundw
      case rel =>
        refine ⟨k + 1, by go_num, by omega, ?_⟩
        rw [wordsW, ← HY.out]
        exact hG2
      case measure => simp [intOf]; omega
    · have e16 : k = 16 := by omega
      rw [e16] at hG
      clear e16
      go_wp2
      go_loopw [5, 9] (fun v i wr => ∃ k : Nat, i = .int .i64 k ∧ 16 ≤ k ∧ k ≤ 64 ∧ Grows32 w0 (wordsW bs k) v wr) (fun _ i _ => 64 - (intOf i).toNat)
      case atStart => exact ⟨16, rfl, by omega, by omega, hG⟩
      case round =>
        clear hG hk hlt
        obtain ⟨k1, hk1⟩ : ∃ k1 : Int, k1 = (k : Int) := ⟨_, rfl⟩
        rw [← hk1]
        clear hk1
        obtain ⟨k, rfl, hk0, hk, hG⟩ := hrel
        by_cases hlt : k < 64
        · obtain ⟨g, c, rfl, hg0, hg1, hrd⟩ := hG.rd (by rw [wordsW_len]; omega)
          rw [wordsW_len] at hrd
          have hr15 := wordsW_range bs k (k - 15)
          have hr2 := wordsW_range bs k (k - 2)
          have c15 := hrd (k - 15) (by omega)
          have c2 := hrd (k - 2) (by omega)
          have c16 := hrd (k - 16) (by omega)
          have c7 := hrd (k - 7) (by omega)
          clear hrd
          have hl := wordsW_len bs k
          rw [hl] at hG ⊢
          have HL := Lib.hid hl
          clear hl
          go_wp2
          refine wp_region_C (Same [g] wr) [5, 11] (by kernel_rfl) (by kernel_rfl) (by intro c a w h; first | (obtain ⟨_, h, _⟩ := h; cases h; done) | (obtain ⟨_, _, h, _⟩ := h; cases h; done)) (by intro a w h; first | (obtain ⟨h, _⟩ := h; cases h; done) | (obtain ⟨_, h, _⟩ := h; cases h; done)) (Same.refl _ _) ?_
          repeat (refine wd_q (v := ?_) rfl rfl rfl rfl rfl rfl (fun w' hw' K hK => ?_) ?_; rotate_left; (have e1 := hw'.cell g (by simp); go_wp2; exact rfl); simp only [Act.put, List.setIfInBounds_toArray, List.set_cons_zero, List.set_cons_succ])
          refine wd_l rfl rfl (by intro a w h; first | (obtain ⟨h, _⟩ := h; cases h; done) | (obtain ⟨_, h, _⟩ := h; cases h; done)) ?_
          go_wp2_with (go_at_call 55; refine (refturn_any _ _ _ (by omega) (by omega) (by omega) (by omega)).mono ?_; rintro e w' ⟨rfl, rfl⟩)
          refine ⟨.inr (Same.refl _ _), ?_⟩
          repeat (refine wd_q (v := ?_) rfl rfl rfl rfl rfl rfl (fun w' hw' K hK => ?_) ?_; rotate_left; (have e1 := hw'.cell g (by simp); go_wp2; exact rfl); simp only [Act.put, List.setIfInBounds_toArray, List.set_cons_zero, List.set_cons_succ])
          refine wd_l rfl rfl (by intro a w h; first | (obtain ⟨h, _⟩ := h; cases h; done) | (obtain ⟨_, h, _⟩ := h; cases h; done)) ?_
          go_wp2_with (go_at_call 55; refine (refturn_any _ _ _ (by omega) (by omega) (by omega) (by omega)).mono ?_; rintro e w' ⟨rfl, rfl⟩)
          refine ⟨.inr (Same.refl _ _), ?_⟩
          repeat (refine wd_q (v := ?_) rfl rfl rfl rfl rfl rfl (fun w' hw' K hK => ?_) ?_; rotate_left; (have e1 := hw'.cell g (by simp); go_wp2; exact rfl); simp only [Act.put, List.setIfInBounds_toArray, List.set_cons_zero, List.set_cons_succ])
          refine wd_nil ?_
          go_wp2
          refine wp_region_C (Same [g] wr) [5, 11] (by kernel_rfl) (by kernel_rfl) (by intro c a w h; first | (obtain ⟨_, h, _⟩ := h; cases h; done) | (obtain ⟨_, _, h, _⟩ := h; cases h; done)) (by intro a w h; first | (obtain ⟨h, _⟩ := h; cases h; done) | (obtain ⟨_, h, _⟩ := h; cases h; done)) (Same.refl _ _) ?_
          repeat (refine wd_q (v := ?_) rfl rfl rfl rfl rfl rfl (fun w' hw' K hK => ?_) ?_; rotate_left; (have e1 := hw'.cell g (by simp); go_wp2; exact rfl); simp only [Act.put, List.setIfInBounds_toArray, List.set_cons_zero, List.set_cons_succ])
          refine wd_l rfl rfl (by intro a w h; first | (obtain ⟨h, _⟩ := h; cases h; done) | (obtain ⟨_, h, _⟩ := h; cases h; done)) ?_
          go_wp2_with (go_at_call 55; refine (refturn_any _ _ _ (by omega) (by omega) (by omega) (by omega)).mono ?_; rintro e w' ⟨rfl, rfl⟩)
          refine ⟨.inr (Same.refl _ _), ?_⟩
          repeat (refine wd_q (v := ?_) rfl rfl rfl rfl rfl rfl (fun w' hw' K hK => ?_) ?_; rotate_left; (have e1 := hw'.cell g (by simp); go_wp2; exact rfl); simp only [Act.put, List.setIfInBounds_toArray, List.set_cons_zero, List.set_cons_succ])
          refine wd_l rfl rfl (by intro a w h; first | (obtain ⟨h, _⟩ := h; cases h; done) | (obtain ⟨_, h, _⟩ := h; cases h; done)) ?_
          go_wp2_with (go_at_call 55; refine (refturn_any _ _ _ (by omega) (by omega) (by omega) (by omega)).mono ?_; rintro e w' ⟨rfl, rfl⟩)
          refine ⟨.inr (Same.refl _ _), ?_⟩
          repeat (refine wd_q (v := ?_) rfl rfl rfl rfl rfl rfl (fun w' hw' K hK => ?_) ?_; rotate_left; (have e1 := hw'.cell g (by simp); go_wp2; exact rfl); simp only [Act.put, List.setIfInBounds_toArray, List.set_cons_zero, List.set_cons_succ])
          refine wd_nil ?_
          go_wp2
          refine wp_region_CF (Same [g] wr) [16, 17] [18] (by kernel_rfl) (by kernel_rfl) (by intro c a w h; first | (obtain ⟨_, h, _⟩ := h; cases h; done) | (obtain ⟨_, _, h, _⟩ := h; cases h; done)) (by intro a w h; first | (obtain ⟨h, _⟩ := h; cases h; done) | (obtain ⟨_, h, _⟩ := h; cases h; done)) (Same.refl _ _) ?_
          repeat (refine wd_q (v := ?_) rfl rfl rfl rfl rfl rfl (fun w' hw' K hK => ?_) ?_; rotate_left; (have e1 := hw'.cell g (by simp); go_wp2; exact rfl); simp only [Act.put, List.setIfInBounds_toArray, List.set_cons_zero, List.set_cons_succ])
          refine wd_l rfl rfl (by intro a w h; first | (obtain ⟨h, _⟩ := h; cases h; done) | (obtain ⟨_, h, _⟩ := h; cases h; done)) ?_
          go_wp2
          refine ⟨.inr ((Same.refl _ _).below ((Below.refl _ _).alloc (Nat.le_refl _) _).drew.drew.drew (by simp; exact hg1)), ?_⟩
          refine wd_late rfl (by kernel_rfl) rfl rfl (by intro a w h; first | (obtain ⟨h, _⟩ := h; cases h; done) | (obtain ⟨_, h, _⟩ := h; cases h; done)) ?_
          go_wp2_with (apply st_grow32 (w0 := w0) (xs := wordsW bs k) (ys := [nextZ (ga (wordsW bs k) (k - 16)) (ga (wordsW bs k) (k - 15)) (ga (wordsW bs k) (k - 7)) (ga (wordsW bs k) (k - 2))]) (T := 64); rfl; rfl; exact (hG.alloc _).drew.drew.drew; exact (Blk.new' wr _ _ _ _ rfl rfl).drew.drew.drew; (rw [HL.out]; simp; omega); intro v2 w2 hG2)
          refine wd_assign (v := v2) rfl rfl rfl rfl (wd_nil ?_)
          simp only [Act.put, List.setIfInBounds_toArray, List.set_cons_zero, List.set_cons_succ]
          go_wp2
          go_roundw
          case rel =>
            refine ⟨k + 1, by go_num, by omega, by omega, ?_⟩
            rw [wordsW, nextW, HL.out, if_neg (by omega)]
            exact hG2
          case measure => simp [intOf]; omega
        · have e64 : k = 64 := by omega
          rw [e64] at hG
          clear e64
          have hbs2 := hbs.up hG.1
          have hbr2 := hbr.up hG.1
          have s0 := hbs2.num 0 (by rw [HS.out]; omega)
          have s1 := hbs2.num 1 (by rw [HS.out]; omega)
          have s2 := hbs2.num 2 (by rw [HS.out]; omega)
          have s3 := hbs2.num 3 (by rw [HS.out]; omega)
          have s4 := hbs2.num 4 (by rw [HS.out]; omega)
          have s5 := hbs2.num 5 (by rw [HS.out]; omega)
          have s6 := hbs2.num 6 (by rw [HS.out]; omega)
          have s7 := hbs2.num 7 (by rw [HS.out]; omega)
          obtain ⟨g, c, rfl, hg0, hg1, hrd⟩ := hG.rd (by rw [wordsW_len]; omega)
          have hG2 := hG
          rw [wordsW_len] at hrd hG2 ⊢
          have HRD := Lib.hid hrd
          clear hrd hG
          go_wp2
          refine wp_region_C (Same [w.heap.size] wr) [] (by kernel_rfl) (by kernel_rfl) (by intro c a w h; first | (obtain ⟨_, h, _⟩ := h; cases h; done) | (obtain ⟨_, _, h, _⟩ := h; cases h; done)) (by intro a w h; first | (obtain ⟨h, _⟩ := h; cases h; done) | (obtain ⟨_, h, _⟩ := h; cases h; done)) (Same.refl _ _) ?_
          repeat (refine wd_q (v := ?_) rfl rfl rfl rfl rfl rfl (fun w' hw' K hK => ?_) ?_; rotate_left; (have e1 := hw'.cell w.heap.size (by simp); go_wp2; exact rfl); simp only [Act.put, List.setIfInBounds_toArray, List.set_cons_zero, List.set_cons_succ])
          refine wd_nil ?_
          go_wp2
          clear s0 s1 s2 s3 s4 s5 s6 s7
          rename World => wq
          go_loopw [12, 13, 14, 15, 16, 17, 18, 19, 20] (fun a b d e f h i j n wr' => ∃ (k : Nat) (v : List Int), n = .int .i64 k ∧ k ≤ 64 ∧ Hid (v = rounds (wordsW bs 64) ss k) ∧ a = .int .u32 (ga v 0) ∧ b = .int .u32 (ga v 1) ∧ d = .int .u32 (ga v 2) ∧ e = .int .u32 (ga v 3) ∧ f = .int .u32 (ga v 4) ∧ h = .int .u32 (ga v 5) ∧ i = .int .u32 (ga v 6) ∧ j = .int .u32 (ga v 7) ∧
              Below wq.heap.size wq wr') (fun _ _ _ _ _ _ _ _ n _ => 64 - (intOf n).toNat)
          case atStart => exact ⟨0, ss, rfl, by omega, Lib.hid rfl, rfl, rfl, rfl, rfl, rfl, rfl, rfl, rfl, (Below.refl _ _).drew⟩
          case round =>
            obtain ⟨k2, hk2⟩ : ∃ k2 : Int, k2 = (k : Int) := ⟨_, rfl⟩
            rw [← hk2]
            clear hk2 hk0 hk hlt
            obtain ⟨k, v, rfl, hk, HV, rfl, rfl, rfl, rfl, rfl, rfl, rfl, rfl, hB3⟩ := hrel
            by_cases hlt : k < 64
            · have uv := rounds_range (wordsW bs 64) ss HUS.out k
              rw [← HV.out] at uv
              have u4 := uv 4
              have u0 := uv 0
              have cw : ∀ w5, Below wq.heap.size wq w5 → w5.cell? ⟨g, k, none⟩ = some (.int .u32 (ga (wordsW bs 64) k)) := fun w5 h5 => by
                rw [h5.cell (p := ⟨g, k, none⟩) hg1]; exact HRD.out k hlt
              have UV := Lib.hid uv
              clear uv
              go_wp2
              have c1 : wr.cell? ⟨g, k, none⟩ = some (.int .u32 (ga (wordsW bs 64) k)) := cw _ hB3
              refine wp_region_C (Same [g] wr) [2, 14] (by kernel_rfl) (by kernel_rfl) (by intro c a w h; first | (obtain ⟨_, h, _⟩ := h; cases h; done) | (obtain ⟨_, _, h, _⟩ := h; cases h; done)) (by intro a w h; first | (obtain ⟨h, _⟩ := h; cases h; done) | (obtain ⟨_, h, _⟩ := h; cases h; done)) (Same.refl _ _) ?_
              repeat (refine wd_q (v := ?_) rfl rfl rfl rfl rfl rfl (fun w' hw' K hK => ?_) ?_; rotate_left; (have e1 := hw'.cell g (by simp); go_wp2; exact rfl); simp only [Act.put, List.setIfInBounds_toArray, List.set_cons_zero, List.set_cons_succ])
              refine wd_l rfl rfl (by intro a w h; first | (obtain ⟨h, _⟩ := h; cases h; done) | (obtain ⟨_, h, _⟩ := h; cases h; done)) ?_
              go_wp2_with (go_at_call 56; refine (refthree_any _ _ _ _ _ u4.1 u4.2 (by omega) (by omega) (by omega) (by omega) (by omega) (by omega)).mono ?_; rintro e w' ⟨rfl, rfl⟩)
              refine ⟨.inr (Same.refl _ _), ?_⟩
              repeat (refine wd_q (v := ?_) rfl rfl rfl rfl rfl rfl (fun w' hw' K hK => ?_) ?_; rotate_left; (have e1 := hw'.cell g (by simp); go_wp2; exact rfl); simp only [Act.put, List.setIfInBounds_toArray, List.set_cons_zero, List.set_cons_succ])
              refine wd_l rfl rfl (by intro a w h; first | (obtain ⟨h, _⟩ := h; cases h; done) | (obtain ⟨_, h, _⟩ := h; cases h; done)) ?_
              go_wp2_with (go_at_call 57; refine (refkey_any _ k hlt).mono ?_; rintro e w5 ⟨rfl, hb5⟩)
              replace hb5 : Below wr.heap.size wr w5 := ⟨hb5.os, hb5.tape, hb5.output, hb5.size, hb5.block⟩
              refine ⟨.inr ((Same.refl _ _).below hb5 (by have := hB3.size; simp; omega)), ?_⟩
              repeat (refine wd_q (v := ?_) rfl rfl rfl rfl rfl rfl (fun w' hw' K hK => ?_) ?_; rotate_left; (have e1 := hw'.cell g (by simp); go_wp2; exact rfl); simp only [Act.put, List.setIfInBounds_toArray, List.set_cons_zero, List.set_cons_succ])
              refine wd_nil ?_
              go_wp2_with (go_at_call 56; refine (refthree_any _ _ _ _ _ u0.1 u0.2 (by omega) (by omega) (by omega) (by omega) (by omega) (by omega)).mono ?_; rintro e w' ⟨rfl, rfl⟩)
              go_roundw
              case rel =>
                refine ⟨k + 1, rnd (ga KS k) (ga (wordsW bs 64) k) v, by go_num, by omega, Lib.hid (by rw [rounds, ← HV.out]), ?_, rfl, rfl, rfl, ?_, rfl, rfl, rfl, ?_⟩
                · show _ = Value.int .u32 ((rndT (ga KS k) (ga (wordsW bs 64) k) v + rndU v) % 4294967296)
                  unfold rndT rndU
                  congr 1
                  omega
                · show _ = Value.int .u32 ((ga v 3 + rndT (ga KS k) (ga (wordsW bs 64) k) v) % 4294967296)
                  unfold rndT
                  congr 1
                  omega
                · exact hB3.trans (hb5.mono hB3.size)
              case measure => simp [intOf]; omega
            · have e64 : k = 64 := by omega
              rw [e64] at HV
              clear e64
              have hbs3 := hbs2.up hB3
              have hbr3 := hbr2.up hB3
              have s0 := hbs3.num 0 (by rw [HS.out]; omega)
              have s1 := hbs3.num 1 (by rw [HS.out]; omega)
              have s2 := hbs3.num 2 (by rw [HS.out]; omega)
              have s3 := hbs3.num 3 (by rw [HS.out]; omega)
              have s4 := hbs3.num 4 (by rw [HS.out]; omega)
              have s5 := hbs3.num 5 (by rw [HS.out]; omega)
              have s6 := hbs3.num 6 (by rw [HS.out]; omega)
              have s7 := hbs3.num 7 (by rw [HS.out]; omega)
              have hvl : v.length = 8 := by rw [HV.out]; exact rounds_len _ _ HS.out _
              have HVL := Lib.hid hvl
              clear hvl
              go_wp2_with (apply st_storeW (off := 0) (vs := nums .u32 (sums8 ss v)) (cs := nums .u32 (List.replicate 8 0)) (T := 65); rfl; rfl; exact hbr3; (rw [sums8_len]; kernel_rfl); (rw [sums8_len]; exact Nat.le_refl _); exact nums_one _ _; intro w9 hb9 hw9; rw [laid_all _ _ (sums8_len _ _)] at hb9)
              refine bodyPost_ret (ret_row rfl _ _ _ (nums .u32 (sums8 ss v)) 65 _ rfl hb9 Tryd.underlying65 rfl (by rw [sums8_len]; kernel_rfl)) rfl ⟨?_, ?_⟩
              · rw [blockF, ← HV.out, sums8_eq _ _ HVL.out]
              · exact Wrote.below (hB0.trans ((hG2.1.mono (by omega)).trans (hB3.mono (by have := hG2.1.size; omega)))) hw9 (by omega)
end Go.Proofs.YtipigpeccegjgaaDoor
