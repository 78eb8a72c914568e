/- That inquestlaw03.MacTwo returns true. Condition: the table of layer 2 reads as its text lays it. -/
import Derived.Test.YtjmoaalchefdnaaDoorMacL
import Derived.Test.YtjmoaalchefdnaaDoorGuard
import Derived.Maps.AppendAt
namespace Go.Proofs.YtjmoaalchefdnaaDoor
open Go.RowKit

/-- append(x, y...) of bytes, x the call's own: the answer's block is x's, or a new one. -/
theorem st_append_at {ops : Array Oper} {rest : List Oper} {a : Act} {w : World} {Q : Exit → Act → World → Prop} {d' : Option Tmp} {tt : TypeId} {s x : Operand} {pos : String} {after : Array Edge} {base : Nat} {v : Value} {A : Option Addr} {c : Nat} {xs ys : List Int}
    (hs : a.eval s = v) (hx : a.eval x = .slice A ys.length c) (hown : Own w base v xs) (hn : A = none → c = 0) (hr : Rd w A (nums .u8 ys)) (hl : xs.length + ys.length ≤ 1099511627776) (hbase : base ≤ w.heap.size)
    (h : ∀ v' w', Own w' base v' (xs ++ ys) → w.grownBy w' v.ownBlock → (v'.ownBlock = v.ownBlock ∨ v'.ownBlock = some w.heap.size) → wpList Tryd.prog ops Q rest (a.put d' v') w') :
    wpList Tryd.prog ops Q (⟨d', .call ⟨.builtin .append, #[s, x], #[22, 22]⟩, tt, pos, after, none⟩ :: rest) a w := by
  obtain ⟨i0, hi, hz0, hz1, hz2⟩ := info_parts u8info
  by_cases hA : A = none
  · have h0 : ys = [] := by
      rcases hr with hr | ⟨g, off, hA2, _⟩
      · exact List.eq_nil_of_length_eq_zero (by rw [← nums_length .u8 ys, hr]; rfl)
      · rw [hA] at hA2; cases hA2
    have hc := hn hA
    subst hA; subst h0; subst hc
    refine wpList_append_own_none rfl s x 22 rfl base 5 i0 1 Tryd.underlying22 hi v _ _ hs hown hx ?_
    exact h v w (by rw [List.append_nil]; exact hown) ⟨rfl, rfl, rfl, Nat.le_refl _, fun _ _ _ => rfl⟩ (.inl rfl)
  · obtain ⟨ad, hA⟩ := Option.ne_none_iff_exists'.1 hA
    subst hA
    refine wpList_append_own_at (w := w) rfl s x 22 rfl base 5 i0 (.int .u8 0) 1 1 Tryd.underlying22 hi hz0 hz1 hz2 rfl (by decide) v xs.length (nums .u8 xs) hs hown ad ys.length c (nums .u8 ys) hx (by rw [nums_length, Nat.mul_one]) ?_ (nums_one _ _) (by unfold maxLen; omega) (by omega) hbase ?_
    · intro j u hu
      rcases hr with hr | ⟨g, off, hA2, hc⟩
      · rw [hr] at hu; simp at hu
      · injection hA2 with hA2
        subst hA2
        have : (⟨g, off, none⟩ : Addr).add j = ⟨g, off + j, none⟩ := by unfold Addr.add; split <;> simp_all
        rw [this]; exact hc j u hu
    · intro v' w' ho hg _ hat
      refine h v' w' ?_ hg hat
      unfold Own
      rw [List.length_append, show nums .u8 (xs ++ ys) = nums .u8 xs ++ nums .u8 ys by simp [nums]]
      exact ho

/-- Two rows of the call's own, each apart from the other. -/
structure Two (w0 : World) (l1 : List Int) (v1 : Value) (l2 : List Int) (v2 : Value) (w : World) : Prop where
  below : Below w0.heap.size w0 w
  one : Own w w0.heap.size v1 l1
  two : Own w w0.heap.size v2 l2
  apart : v1.ownBlock = none ∨ v1.ownBlock ≠ v2.ownBlock
theorem Two.swap {w0 w : World} {l1 l2 : List Int} {v1 v2 : Value} (h : Two w0 l1 v1 l2 v2 w) : Two w0 l2 v2 l1 v1 w :=
  ⟨h.below, h.two, h.one, h.apart.elim (fun h1 => (by by_cases h2 : v2.ownBlock = none; exact .inl h2; rw [h1]; exact .inr h2)) fun h1 => .inr (Ne.symm h1)⟩
theorem Two.nil (w : World) : Two w [] (.slice none 0 0) [] (.slice none 0 0) w := ⟨Below.refl _ _, Own.nil _ _, Own.nil _ _, .inl rfl⟩
theorem Two.up {w0 w w' : World} {l1 l2 : List Int} {v1 v2 : Value} (h : Two w0 l1 v1 l2 v2 w) (hb : Below w.heap.size w w') : Two w0 l1 v1 l2 v2 w' :=
  ⟨h.below.trans (hb.mono h.below.size), h.one.kept hb, h.two.kept hb, h.apart⟩
theorem Two.alloc {w0 w : World} {l1 l2 : List Int} {v1 v2 : Value} (h : Two w0 l1 v1 l2 v2 w) (o : Obj) : Two w0 l1 v1 l2 v2 (w.alloc o) := h.up ((Below.refl _ _).alloc (Nat.le_refl _) _)

theorem st_two {ops : Array Oper} {rest : List Oper} {a : Act} {w : World} {Q : Exit → Act → World → Prop} {d' : Option Tmp} {tt : TypeId} {s x : Operand} {pos : String} {after : Array Edge} {w0 : World} {v v2 : Value} {A : Option Addr} {c : Nat} {xs l2 ys : List Int}
    (hs : a.eval s = v) (hx : a.eval x = .slice A ys.length c) (hown : Two w0 xs v l2 v2 w) (hn : A = none → c = 0) (hr : Rd w A (nums .u8 ys)) (hl : xs.length + ys.length ≤ 1099511627776)
    (h : ∀ v' w', Two w0 (xs ++ ys) v' l2 v2 w' → wpList Tryd.prog ops Q rest (a.put d' v') w') :
    wpList Tryd.prog ops Q (⟨d', .call ⟨.builtin .append, #[s, x], #[22, 22]⟩, tt, pos, after, none⟩ :: rest) a w := by
  refine st_append_at hs hx hown.one hn hr hl hown.below.size fun v' w' ho hg hat => h v' w' ⟨below_grown hown.below hown.one hg (Nat.le_refl _) hown.below.size, ho, ?_, ?_⟩
  · refine World.ownsRow.kept hown.two hg ?_
    rcases hown.apart with h1 | h1
    · rw [h1]; by_cases h2 : v2.ownBlock = none
      · exact .inl h2
      · exact .inr h2
    · exact .inr (Ne.symm h1)
  · rcases hat with h1 | h1
    · rw [h1]; exact hown.apart
    · rw [h1]; refine .inr fun h2 => ?_
      have := Own.lt hown.two _ h2.symm; omega

theorem k64_short (key : List Int) (h : key.length ≤ 64) : k64 key = key ++ List.replicate (64 - key.length) 0 := by
  unfold k64 kS; rw [if_neg (by omega)]
theorem k64_at (key : List Int) (h : key.length ≤ 64) (k : Nat) : ga (k64 key) k = if k < key.length then ga key k else 0 := by
  rw [k64_short key h]
  unfold ga
  rw [List.getD_eq_getElem?_getD, List.getElem?_append]
  split
  · rw [List.getD_eq_getElem?_getD]
  · rw [List.getElem?_replicate]; split <;> rfl
theorem xorL_take (l : List Int) (x : Int) (k : Nat) (h : k < l.length) : xorL (l.take k) x ++ [bits .xor .u8 (ga l k) x] = xorL (l.take (k + 1)) x := by
  have e1 : l.take (k + 1) = l.take k ++ [ga l k] := by
    rw [List.take_add_one, List.getElem?_eq_getElem h]; simp [ga, h]
  rw [e1]; simp [xorL]

set_option maxHeartbeats 4000000 in
theorem lawmactwo_any (w : World) (key0 : List Int) (A : Option Addr) (c : Nat) (hr : Rd w A (nums .u8 key0)) (hc : key0.length ≤ c) (hA : A = none → c = 0) (hu : U8 key0)
    (text0 : List Int) (B : Option Addr) (d : Nat) (hr2 : Rd w B (nums .u8 text0)) (hd : text0.length ≤ d) (hB : B = none → d = 0) (hu2 : U8 text0) (hk : KV w) :
    Calls Tryd.prog 6 #[.slice A key0.length c, .slice B text0.length d] w fun e w' => e = .returned (.bool true) ∧ Below w.heap.size w w' := by
  obtain ⟨key, hkl, _, hK, HCUT1⟩ := (Byt.mk hr hc hA hu).cut 64 64 rfl
  obtain ⟨text, htl, _, hT, HCUT2⟩ := (Byt.mk hr2 hd hB hu2).cut 1000 1000 rfl
  have HK := Lib.hid hk
  clear hk hr hc hA hu hr2 hd hB hu2
  obtain ⟨kk, hkk⟩ : ∃ kk, kk = k64 key := ⟨_, rfl⟩
  have hkkl : kk.length = 64 := by rw [hkk, k64_len]
  have hkka : ∀ k, ga kk k = if k < key.length then ga key k else 0 := fun k => by rw [hkk, k64_at key hkl]
  have HKKL := Lib.hid hkkl
  have HKKA := Lib.hid hkka
  have HKK := Lib.hid hkk
  clear hkk hkkl hkka
  go_enter Tryd.func6, Tryd.ntmps6
  go_wp2_with (first
    | (go_at_call 9; ((with_reducible refine (HCUT1.out w).mono ?_); rintro e w' ⟨rfl, rfl⟩))
    | (go_at_call 9; ((with_reducible refine (HCUT2.out w).mono ?_); rintro e w' ⟨rfl, rfl⟩)))
  go_loopw [5, 6, 7, 8] (fun v1 v2 i _ wr => ∃ k : Nat, i = .int .i64 k ∧ k ≤ 64 ∧ Two w (xorL (kk.take k) 54) v1 (xorL (kk.take k) 92) v2 wr) (fun _ _ i _ _ => 64 - (intOf i).toNat)
  case atStart => exact ⟨0, rfl, by omega, by simp only [List.take_zero]; exact Two.nil _⟩
  case round =>
    obtain ⟨k, rfl, hk, hG⟩ := hrel
    by_cases hlt : k < 64
    · have hx : ∃ x, x = ga kk k := ⟨_, rfl⟩
      obtain ⟨x, hx⟩ := hx
      have hs1 := xorL_take kk 54 k (by rw [HKKL.out]; exact hlt)
      have hs2 := xorL_take kk 92 k (by rw [HKKL.out]; exact hlt)
      rw [← hx] at hs1 hs2
      have HS1 := Lib.hid hs1
      have HS2 := Lib.hid hs2
      have hln1 : (xorL (kk.take k) 54).length ≤ 64 := by rw [xorL_len, List.length_take]; omega
      have hln2 : (xorL (kk.take k) 92).length ≤ 64 := by rw [xorL_len, List.length_take]; omega
      rw [HKKA.out] at hx
      clear hs1 hs2
      by_cases hlt2 : k < key.length
      · rw [if_pos hlt2] at hx
        obtain ⟨g, o, rfl, hrd⟩ := hK.rd.get (by rw [nums_length]; omega)
        have c1 := hrd k _ (nums_at .u8 key k hlt2)
        rw [← ga_eq, ← hx] at c1
        have hg : g < w.heap.size := World.block_lt_of_cell? (h := c1)
        have c2 : wr.cell? ⟨g, o + k, none⟩ = some (.int .u8 x) := by rw [hG.below.cell (p := ⟨g, o + k, none⟩) hg]; exact c1
        clear c1 hrd hx
        go_wp2_with (first
          | (apply st_two (w0 := w) (xs := xorL (kk.take k) 54) (ys := [bits .xor .u8 x 54]); rfl; rfl; exact hG.alloc _; (intro h; cases h); exact Rd.ofBlk (Blk.new' _ _ _ 5 _ rfl rfl); (simp; omega); intro v2 w2 hG2; rw [HS1.out] at hG2)
          | (apply st_two (w0 := w) (xs := xorL (kk.take k) 92) (ys := [bits .xor .u8 x 92]); rfl; rfl; exact hG2.swap.alloc _; (intro h; cases h); exact Rd.ofBlk (Blk.new' _ _ _ 5 _ rfl rfl); (simp; omega); intro v3 w3 hG3; rw [HS2.out] at hG3))
        go_roundw
        case rel => exact ⟨k + 1, by go_num, by omega, hG3.swap⟩
        case measure => simp [intOf]; omega
      · rw [if_neg hlt2] at hx
        subst hx
        go_wp2_with (first
          | (apply st_two (w0 := w) (xs := xorL (kk.take k) 54) (ys := [bits .xor .u8 0 54]); rfl; rfl; exact hG.alloc _; (intro h; cases h); exact Rd.ofBlk (Blk.new' _ _ _ 5 _ rfl rfl); (simp; omega); intro v2 w2 hG2; rw [HS1.out] at hG2)
          | (apply st_two (w0 := w) (xs := xorL (kk.take k) 92) (ys := [bits .xor .u8 0 92]); rfl; rfl; exact hG2.swap.alloc _; (intro h; cases h); exact Rd.ofBlk (Blk.new' _ _ _ 5 _ rfl rfl); (simp; omega); intro v3 w3 hG3; rw [HS2.out] at hG3))
        go_roundw
        case rel => exact ⟨k + 1, by go_num, by omega, hG3.swap⟩
        case measure => simp [intOf]; omega
    · have e : k = 64 := by omega
      rw [e, List.take_of_length_le (by rw [HKKL.out]; exact Nat.le_refl _)] at hG
      have ht1 := hT.up hG.below
      have hln1 : (xorL kk 54).length = 64 := by rw [xorL_len, HKKL.out]
      have hln2 : (xorL kk 92).length = 64 := by rw [xorL_len, HKKL.out]
      clear e
      obtain ⟨ll, hll⟩ : ∃ ll, ll = xorL kk 54 ++ text := ⟨_, rfl⟩
      have hlll : ll.length ≤ 1064 := by rw [hll, List.length_append]; omega
      have HLL := Lib.hid hll
      have hin : inF key text = sumF ll := by rw [hll, HKK.out]; rfl
      have HIN := Lib.hid hin
      clear hll hin
      go_wp2_with (apply st_two (w0 := w) (xs := xorL kk 54) (ys := text); rfl; rfl; exact hG; exact ht1.nn; exact ht1.rd; omega; intro v2 w2 hG2; rw [← HLL.out] at hG2)
      obtain ⟨A2, c2, rfl, h2, hc2, hR2, hx2⟩ := hG2.one.from
      have hk2 := HK.out.below hG2.below HK.out.lt
      go_at_call 16
      refine (sum_any w2 ll A2 c2 hR2 h2 hc2 (by omega) hk2).mono ?_
      rintro e w3 ⟨rfl, hb3⟩
      obtain ⟨m, hm⟩ : ∃ m, m = sumF ll := ⟨_, rfl⟩
      have hml : m.length = 32 := by rw [hm, sumF_len]
      rw [← hm] at HIN ⊢
      have HML := Lib.hid hml
      clear hm hml
      have hG3 := hG2.up hb3
      go_wp2_with (apply st_storeW (off := 0) (vs := nums .u8 m) (cs := nums .u8 (List.replicate 32 0)) (T := 26); rfl; rfl; exact Blk.new' w3 _ _ _ _ rfl rfl; (rw [nums_length, HML.out]; kernel_rfl); (rw [nums_length, HML.out]; decide); exact nums_one _ _; intro w4 hb4 hw4; rw [laid_all _ _ (by rw [nums_length, HML.out]; rfl)] at hb4)
      have hB4 : Below w3.heap.size w3 w4.drew := (Wrote.below ((Below.refl _ _).alloc (Nat.le_refl _) _) hw4 (Nat.le_refl _)).drew
      have hb4 := hb4.drew
      have hG4 := hG3.up hB4
      have hk4 := HK.out.below hG4.below HK.out.lt
      obtain ⟨M, hM⟩ : ∃ M, M = macF key text := ⟨_, rfl⟩
      have hMl : M.length = 32 := by rw [hM, macF_len]
      have heq := run_eql_nums (P := Tryd.prog) (t := 26) Tryd.underlying26 Tryd.underlying5 (by kernel_rfl) (by kernel_rfl) M M hMl hMl
      rw [decide_eq_true rfl] at heq
      have hM2 : sumF (xorL kk 92 ++ m) = M := by rw [hM]; unfold macF; rw [← HKK.out, HIN.out]
      have HM2 := Lib.hid hM2
      have HM := Lib.hid hM
      have HEQ := Lib.hid heq
      obtain ⟨oo, hoo⟩ : ∃ oo, oo = xorL kk 92 ++ m := ⟨_, rfl⟩
      have hool : oo.length ≤ 96 := by rw [hoo, List.length_append, HML.out]; omega
      rw [← hoo] at HM2
      have HOO := Lib.hid hoo
      clear hM hM2 heq hoo hMl
      refine wp_region_C (Same [] w4) [2, 5, 6, 9] (by kernel_rfl) (by kernel_rfl) (by intro c a w h; first | (obtain ⟨_, h, _⟩ := h; cases h; done) | (obtain ⟨_, _, h, _⟩ := h; cases h; done)) (by intro a w h; first | (obtain ⟨h, _⟩ := h; cases h; done) | (obtain ⟨_, h, _⟩ := h; cases h; done)) (Same.refl _ _) ?_
      repeat (refine wd_q (v := ?_) rfl rfl rfl rfl rfl rfl (fun w' hw' K hK => ?_) ?_; rotate_left; (skip; go_wp2; exact rfl); simp only [Act.put, List.setIfInBounds_toArray, List.set_cons_zero, List.set_cons_succ])
      refine wd_l rfl rfl (by intro a w h; first | (obtain ⟨h, _⟩ := h; cases h; done) | (obtain ⟨_, h, _⟩ := h; cases h; done)) ?_
      go_wp2_with fail
      go_at_call 11
      have hcall := mac_any w4.drew key A c (hK.up hG4.below).rd hK.le hK.nn (by omega) text B d (hT.up hG4.below).rd hT.le hT.nn (by omega) hk4; rw [← HM.out] at hcall; refine hcall.mono ?_; clear hcall
      rintro e w5 ⟨rfl, hb5⟩
      go_wp2_with fail
      refine ⟨.inr (fun g hg => by simp at hg), ?_⟩
      have hG5 := hG4.up hb5
      have hb5' := hb4.up hb5
      repeat (refine wd_w (v := ?_) rfl rfl rfl rfl rfl rfl (fun w' hw' K hK => ?_) ?_; rotate_left; (skip; go_wp2_with ((apply st_allArr; exact Tryd.underlying26; kernel_rfl; rfl)); exact rfl); simp only [Act.put, List.setIfInBounds_toArray, List.set_cons_zero, List.set_cons_succ])
      refine wd_l rfl rfl (by intro a w h; first | (obtain ⟨h, _⟩ := h; cases h; done) | (obtain ⟨_, h, _⟩ := h; cases h; done)) ?_
      go_wp2_with (apply st_two (w0 := w) (xs := xorL kk 92) (ys := m); rfl; (rw [HML.out]; rfl); exact hG5.swap; (intro h; cases h); exact Rd.ofBlk hb5'; (rw [HML.out]; omega); intro v6 w6 hG6; rw [← HOO.out] at hG6)
      refine ⟨.inr (fun g hg => by simp at hg), ?_⟩
      simp only [Act.put, List.setIfInBounds_toArray, List.set_cons_zero, List.set_cons_succ]
      obtain ⟨A6, c6, rfl, h6, hc6, hR6, hx6⟩ := hG6.one.from
      have hk6 := HK.out.below hG6.below HK.out.lt
      refine wd_l rfl rfl (by intro a w h; first | (obtain ⟨h, _⟩ := h; cases h; done) | (obtain ⟨_, h, _⟩ := h; cases h; done)) ?_
      go_wp2_with fail
      go_at_call 16
      have hcall := sum_any w6 oo A6 c6 hR6 h6 hc6 (by omega) hk6; rw [HM2.out] at hcall; refine hcall.mono ?_; clear hcall
      rintro e w7 ⟨rfl, hb7⟩
      go_wp2_with fail
      refine ⟨.inr (fun g hg => by simp at hg), ?_⟩
      have hG7 := hG6.up hb7
      have hk7 := HK.out.below hG7.below HK.out.lt
      have heq := HEQ.out
      repeat (refine wd_q (v := ?_) rfl rfl rfl rfl rfl rfl (fun w' hw' K hK => ?_) ?_; rotate_left; (have e1 := heq; go_wp2; exact rfl); simp only [Act.put, List.setIfInBounds_toArray, List.set_cons_zero, List.set_cons_succ])
      refine wd_lg rfl rfl (by intro a w h; first | (obtain ⟨h, _⟩ := h; cases h; done) | (obtain ⟨_, h, _⟩ := h; cases h; done)) ?_
      go_wp2_with fail
      go_at_call 14
      refine (lives_any w7 hk7).mono ?_
      rintro e w8 ⟨rfl, hb8⟩
      go_wp2_with fail
      refine ⟨.inr (fun g hg => by simp at hg), ?_⟩
      have hG8 := hG7.up hb8
      refine wd_pick (b := true) (v := .bool true) rfl rfl rfl rfl rfl ?_
      simp only [Act.put, List.setIfInBounds_toArray, List.set_cons_zero, List.set_cons_succ]
      repeat (refine wd_q (v := ?_) rfl rfl rfl rfl rfl rfl (fun w' hw' K hK => ?_) ?_; rotate_left; (skip; go_wp2; exact rfl); simp only [Act.put, List.setIfInBounds_toArray, List.set_cons_zero, List.set_cons_succ])
      refine wd_nil ?_
      go_wp2_with fail
      go_ret
      exact ⟨rfl, hG8.below⟩
end Go.Proofs.YtjmoaalchefdnaaDoor
