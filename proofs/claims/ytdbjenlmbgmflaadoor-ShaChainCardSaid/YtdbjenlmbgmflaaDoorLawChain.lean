/- That inquestlaw02.ShaChain returns true. Condition: the package's table k reads as its text lays it. -/
import Derived.Test.YtdbjenlmbgmflaaDoorKeep
import Derived.Test.YtdbjenlmbgmflaaDoorLives
namespace Go.Proofs.YtdbjenlmbgmflaaDoor
open Go.RowKit

theorem bytesF_part (s : List Int) : ∀ i, i < s.length → ((bytesF s).drop (4 * i)).take 4 = putF (ga s i) 4 := by
  induction s with
  | nil => intro i h; simp at h
  | cons x s ih =>
    intro i h
    have h4 : (putF x 4).length = 4 := putTo_len _ _ _
    match i with
    | 0 =>
      show ((putF x 4 ++ bytesF s).drop 0).take 4 = putF x 4
      rw [List.drop_zero, List.take_append_of_le_length (by omega), List.take_of_length_le (by omega)]
    | i + 1 =>
      show ((putF x 4 ++ bytesF s).drop (4 * (i + 1))).take 4 = putF (ga s i) 4
      rw [List.drop_append, List.drop_of_length_le (by omega), List.nil_append, h4, show 4 * (i + 1) - 4 = 4 * i by omega]
      exact ih i (by simpa using h)
theorem get_put (x : Int) (h0 : 0 ≤ x) (h1 : x < 4294967296) : getTo (putF x 4) 4 = x := by
  have h4 : (putF x 4).length = 4 := putTo_len _ _ _
  have a0 : ga (putF x 4) 0 = x / 16777216 % 256 := rfl
  have a1 : ga (putF x 4) 1 = x / 65536 % 256 := rfl
  have a2 : ga (putF x 4) 2 = x / 256 % 256 := rfl
  have a3 : ga (putF x 4) 3 = x / 1 % 256 := rfl
  have hU : U8 (putF x 4) := by
    intro i
    match i with
    | 0 => rw [a0]; omega
    | 1 => rw [a1]; omega
    | 2 => rw [a2]; omega
    | 3 => rw [a3]; omega
    | i + 4 => rw [ga_out _ _ (by omega)]; omega
  have := getTo4 (putF x 4) hU h4
  rw [h4] at this
  rw [this, a0, a1, a2, a3, be4_sum _ _ _ _ (by omega) (by omega) (by omega) (by omega)]
  omega

/-- x[i:] of a slice of elements of one cell, somewhere ahead of its end. -/
theorem st_fromLt {P : Program} {ops : Array Oper} {Q : Exit → Act → World → Prop} {rest : List Oper} {a : Act} {w : World} {d' : Option Tmp} {tt t e : TypeId} {x lo : Operand} {pos : String} {after : Array Edge} {g off n c i : Nat} {k : IntKind} {z : Int}
    (hu : P.underlying t = some (.slice e)) (hsz : (P.info? e).map (·.size) = some 1) (hx : a.eval x = .slice (some ⟨g, off, none⟩) n c) (hlo : a.eval lo = .int k z) (hz : z = i) (hi : i ≤ n) (hc : i < c)
    (h : wpList P ops Q rest (a.put d' (.slice (some ⟨g, off + i, none⟩) (n - i) (c - i))) w) :
    wpList P ops Q (⟨d', .slice t x (some lo) none none, tt, pos, after, none⟩ :: rest) a w := by
  subst hz
  refine st_from hu hsz hx hlo hi fun A2 hA2 => ?_
  have e : A2 = some ⟨g, off + i, none⟩ := by
    rw [hA2, if_neg (by omega)]
    simp only [Option.map_some, Option.some.injEq]; unfold Addr.add; split <;> simp_all
  rw [e]; exact h

/-- x[:] of an array in memory. -/
theorem st_allArr {P : Program} {ops : Array Oper} {Q : Exit → Act → World → Prop} {rest : List Oper} {a : Act} {w : World} {d' : Option Tmp} {tt t e : TypeId} {x : Operand} {pos : String} {after : Array Edge} {g off n : Nat}
    (hu : P.underlying t = some (.array n e)) (hsz : (P.info? e).map (·.size) = some 1) (hx : a.eval x = .pointer (some ⟨g, off, none⟩))
    (h : wpList P ops Q rest (a.put d' (.slice (some ⟨g, off, none⟩) n n)) w) :
    wpList P ops Q (⟨d', .slice t x none none none, tt, pos, after, none⟩ :: rest) a w :=
  wpList_plain rfl fun K hK => by
    have hrun : (Instr.sliceAt t (.pointer (some ⟨g, off, none⟩)) none none none).run P w = .ok (.slice (some ⟨g, off, none⟩) n n) w := by
      cases hq : P.info? e with
      | none => simp [hq] at hsz
      | some info =>
        have hadd : (⟨g, off, none⟩ : Addr).add 0 = ⟨g, off, none⟩ := by unfold Addr.add; split <;> simp_all
        simp [Instr.sliceAt, run_underlying hu, Instr.sureAddr, Instr.sliceBounds, sizeOf, typeInfo, hq, hadd]
    unfold Oper.wp execOp
    simp only [Sem.run_bind, hx, Option.map_none, hrun]
    exact hK _ _ h

set_option maxHeartbeats 4000000 in
set_option maxRecDepth 100000 in
theorem lawchain_any (w : World) (bs0 : List Int) (A : Option Addr) (c : Nat) (hr : Rd w A (nums .u8 bs0)) (hc : bs0.length ≤ c) (hA : A = none → c = 0) (hu : U8 bs0) (hk : KV w) :
    Calls Tryd.prog 7 #[.slice A bs0.length c] w fun e w' => e = .returned (.bool true) ∧ Below w.heap.size w w' := by
  have hcut := refcut_any w A bs0.length c 3000 hc
  obtain ⟨bs, hbs⟩ : ∃ bs, bs = bs0.take 3000 := ⟨_, rfl⟩
  have hbl : bs.length ≤ 3000 := by rw [hbs, List.length_take]; omega
  have hcl : bs.length ≤ c := by rw [hbs, List.length_take]; omega
  rw [show min bs0.length 3000 = bs.length by rw [hbs, List.length_take]; omega] at hcut
  have hrb : Rd w A (nums .u8 bs) := by rw [hbs, nums_take]; exact hr.take _
  have hn63 : noughts bs.length < 64 := by unfold noughts; omega
  have h64 := padded_len bs.length
  obtain ⟨m, hm⟩ : ∃ m : Nat, noughts bs.length + 9 = m := ⟨_, rfl⟩
  rw [hm] at h64
  have hm1 : 9 ≤ m := by omega
  have hm2 : m ≤ 72 := by omega
  have hpm : (padF bs.length).length = m := by rw [padF_len]; exact hm
  have b1 : (((bs.length + m : Nat) : Int) % 64 != 0) = false := by simp; omega
  have HCUT := Lib.hid hcut
  have HR := Lib.hid hrb
  have HK := Lib.hid hk
  have HA := Lib.hid hA
  have HPM := Lib.hid hpm
  have HCL := Lib.hid hcl
  clear hcut hrb hk hA hu hr hbs hc hm hn63 hpm
  go_enter Tryd.func7, Tryd.ntmps7
  go_wp2_with (first
    | (go_at_call 11; refine HCUT.out.mono ?_; rintro e w' ⟨rfl, rfl⟩)
    | (go_at_call 12; refine (refcopy_any w A c bs HA.out HR.out (by omega)).mono ?_; rintro e w1 ⟨v1, rfl, hb1, ho1⟩;
       have hG1 : Grows _ bs v1 w1 := ⟨hb1, ho1⟩; clear hb1 ho1)
    | (go_at_call 17; refine (pad_any _ bs.length (by omega) (by omega)).mono ?_; rintro e w2 ⟨v2, rfl, hb2, ho2⟩;
       obtain ⟨A2, c2, rfl, h2, hA2, hR2, hx2⟩ := ho2.from)
    | (apply st_grow (xs := bs) (ys := padF bs.length); rfl; rfl; exact hG1.up hb2; exact hA2; exact hR2; (rw [HPM.out]; omega); intro v3 w3 hG3;
       obtain ⟨A3, c3, rfl, h3, hA3, hR3, hx3⟩ := hG3.2.from; rw [List.length_append, HPM.out] at h3 ⊢)
    | (go_at_call 21; refine (first_any _).mono ?_; rintro e w4 ⟨rfl, hb4⟩)
    | (apply st_storeW (off := 0) (vs := nums .u32 FIRST) (cs := nums .u32 (List.replicate 8 0)) (T := 35); rfl; rfl; exact Blk.new' _ _ _ _ _ rfl rfl; kernel_rfl; exact Nat.le_refl _; exact nums_one _ _;
       intro w5 hs5 hw5; rw [laid_all _ _ (by rfl)] at hs5))
  have hz5 : w5.heap.size = w4.heap.size + 1 := by rw [hw5.size, World.size_alloc]
  have h34 := hb4.size
  have h03 := hG3.1.size
  obtain ⟨all, hall⟩ : ∃ all, all = bs ++ padF bs.length := ⟨_, rfl⟩
  have hal : all.length = bs.length + m := by rw [hall, List.length_append, HPM.out]
  obtain ⟨n, hn⟩ : ∃ n, all.length = 64 * n := ⟨all.length / 64, by omega⟩
  rw [← hall] at hR3
  have hsum : sumF bs = bytesF (chainF all n) := by
    rw [sumF, ← hall]
    congr 2
    have : (padF bs.length).length = noughts bs.length + 9 := padF_len _
    have := HPM.out
    omega
  have hlen : bs.length + m = 64 * n := by omega
  rw [hlen] at h3 ⊢
  obtain ⟨g, o, rfl, hrd⟩ := hR3.get (by rw [nums_length, hal]; omega)
  have hg3 : g < w3.heap.size := World.block_lt_of_cell? (h := hrd 0 _ (nums_at .u8 all 0 (by omega)))
  have hB5 : Below w.heap.size w w5 := Wrote.below ((hG3.1.trans (hb4.mono hG3.1.size)).alloc (by omega) _) hw5 (by omega)
  have hb35 : Below w3.heap.size w3 w5 := Wrote.below (hb4.alloc hb4.size _) hw5 (by omega)
  have hrd5 : ∀ j, j < 64 * n → w5.cell? ⟨g, o + j, none⟩ = some (.int .u8 (ga all j)) := fun j hj => by
    rw [hb35.cell (p := ⟨g, o + j, none⟩) hg3]; exact hrd j _ (nums_at .u8 all j (by omega))
  have hnb : 64 * n ≤ 4000 := by omega
  obtain ⟨s, hse⟩ : ∃ s, s = chainF all n := ⟨_, rfl⟩
  rw [← hse] at hsum
  have hsl : s.length = 8 := by rw [hse]; exact chainF_len _ _
  have hsu : U32 s := by rw [hse]; exact chainF_range _ _
  have HSE := Lib.hid hse
  have HSL := Lib.hid hsl
  have HSU := Lib.hid hsu
  have HSUM := Lib.hid hsum
  have HRD := Lib.hid hrd5
  have HN := Lib.hid hn
  clear hse hsl hsu hsum hrd5 hrd hR3 hb35 hn hall hal h64 hlen hG3 hG1 hb2 ho2 h2 hA2 hR2 hx2 hA3 hx3 hw5 hb4 b1 hm1 hm2
  go_loopw [5] (fun i wr => ∃ k : Nat, i = .int .i64 (64 * k) ∧ k ≤ n ∧ But w4.heap.size w5.heap.size w5 wr ∧ Blk wr w4.heap.size (nums .u32 (chainF all k)) 35) (fun i _ => 64 * n - (intOf i).toNat)
  case atStart => exact ⟨0, rfl, by omega, But.refl _ _ _, hs5⟩
  case round =>
    clear hs5
    obtain ⟨k, rfl, hk, hBt, hs⟩ := hrel
    by_cases hlt : k < n
    · have hp64 : ((all.drop (64 * k)).take 64).length = 64 := by have := HN.out; simp; omega
      have HP := Lib.hid hp64
      clear hp64
      have hsz := hBt.size
      have hw6 : Blk (wr.alloc (.cells (nums .u8 (List.replicate 64 0)).toArray 36)) wr.heap.size (nums .u8 (List.replicate 64 0)) 36 := Blk.new' _ _ _ _ _ rfl rfl
      have HC0 : Hid (∀ j v, (nums .u8 ((all.drop (64 * k)).take 64))[j]? = some v → (wr.alloc (.cells (nums .u8 (List.replicate 64 0)).toArray 36)).cell? ⟨g, o + 64 * k + j, none⟩ = some v) := by
        intro j v hv
        have hj : j < 64 := by have := (List.getElem?_eq_some_iff.1 hv).1; rw [nums_length, HP.out] at this; exact this
        rw [nums_at _ _ _ (by rw [HP.out]; exact hj), ← ga_eq, ga_take _ _ _ hj, ga_drop] at hv
        rw [← hv, (((Below.refl _ _).alloc (Nat.le_refl _) _).cell (p := ⟨g, o + 64 * k + j, none⟩) (show g < wr.heap.size by omega)), hBt.cell g _ (by omega) (by omega), Nat.add_assoc]
        exact HRD.out _ (by omega)
      go_wp2
      refine named_world ?_
      intro w6 hw6e
      rw [show (wr.alloc (.cells (nums .u8 (List.replicate 64 0)).toArray 36)) = w6 from hw6e.symm] at hw6 HC0
      have hB6 : Below wr.heap.size wr w6 := by rw [hw6e]; exact (Below.refl _ _).alloc (Nat.le_refl _) _
      clear hw6e
      have hs6 := hs.up hB6
      refine wp_region_C (Same [wr.heap.size] w6) [4] (by kernel_rfl) (by kernel_rfl) (by rintro c a w ⟨_, h, _⟩; cases h) (by rintro a w ⟨h, _⟩; cases h) (Same.refl _ _) ?_
      repeat (refine wd_w (v := ?_) rfl rfl rfl rfl rfl rfl (fun w' hw' K hK => ?_) ?_; rotate_left; (skip; go_wp2_with ((first | (apply st_allArr; exact Tryd.underlying36; kernel_rfl; rfl) | (apply st_fromLt (i := 64 * k); exact Tryd.underlying22; kernel_rfl; rfl; rfl; omega; omega; omega))); exact rfl); simp only [Act.put, List.setIfInBounds_toArray, List.set_cons_zero, List.set_cons_succ])
      refine wd_last rfl (by kernel_rfl) rfl (by rintro a w ⟨h, _⟩; cases h) ?_
      have hcl := chainF_len all k
      have HCL := Lib.hid hcl
      clear hcl
      go_wp2_with (first
        | (apply st_copyW (m := 64) (cs := nums .u8 ((all.drop (64 * k)).take 64)) (cur := nums .u8 (List.replicate 64 0)) (T := 36); exact Tryd.underlying22; kernel_rfl; rfl; rfl; exact hw6.drew; (rw [nums_length, HP.out]); (have h4 : 64 ≤ 64 * n - 64 * k := (by omega); exact (Nat.min_eq_right h4).symm); exact HC0.out; (rw [nums_length]; decide); exact nums_one _ _; intro w7 hb7 hw7; rw [laid_all _ _ (by rw [nums_length, nums_length, HP.out]; rfl)] at hb7;
           have hs7 := hw7.blk hs6.drew (by omega);
           have hB7 : But w4.heap.size w5.heap.size w5 w7 := ((hBt.up hB6 (Nat.le_refl _)).drew).wroteFar hw7 (by omega))
        | (apply st_load (n := 8) (cs := nums .u32 (chainF all k)) (T := 35); rfl; exact hs7; exact Tryd.underlying35; rfl; kernel_rfl; (rw [nums_length, HCL.out]; exact Nat.le_refl _); (exact row_all _ _ (by rw [nums_length, HCL.out])))
        | (apply st_load (n := 64) (cs := nums .u8 ((all.drop (64 * k)).take 64)) (T := 36); rfl; exact hb7; exact Tryd.underlying36; rfl; kernel_rfl; (rw [nums_length, HP.out]; exact Nat.le_refl _); (exact row_all _ _ (by rw [nums_length, HP.out])))
        | (go_at_call 19; refine (block_any _ (chainF all k) ((all.drop (64 * k)).take 64) HCL.out HP.out (HK.out.below (hB5.trans (hB7.below' (by omega) (by omega))) HK.out.lt)).mono ?_; rintro e w8 ⟨rfl, hb8⟩; have hs8 := hs7.up hb8)
        | (apply st_storeW (off := 0) (vs := nums .u32 (chainF all (k + 1))) (cs := nums .u32 (chainF all k)) (T := 35); rfl; rfl; exact hs8; (rw [nums_length, chainF_len]; kernel_rfl); (rw [nums_length, nums_length, chainF_len, chainF_len]; exact Nat.le_refl _); exact nums_one _ _; intro w9 hs9 hw9; rw [laid_all _ _ (by rw [nums_length, nums_length, chainF_len, chainF_len])] at hs9))
      go_roundw
      case rel =>
        refine ⟨k + 1, by go_num, by omega, ?_, hs9⟩
        exact (hB7.up hb8 (Nat.le_refl _)).wrote hw9
      case measure => simp [intOf]; omega
    · have e : k = n := by omega
      rw [e, ← HSE.out] at hs
      clear e
      have hsz := hBt.size
      have hBq : Below w.heap.size w wr := hB5.trans (hBt.below' (by omega) (by omega))
      rename World => wq
      go_wp2_with (first
        | (go_at_call 13; refine (sum_any wq bs A c (HR.out.up hBq) HCL.out HA.out (by omega) (HK.out.below hBq HK.out.lt)).mono ?_; rintro e w6 ⟨rfl, hb6⟩; have hs6 := hs.up hb6; have hB6 := hBq.trans (hb6.mono hBq.size))
        | (apply st_storeW (off := 0) (vs := nums .u8 (sumF bs)) (cs := nums .u8 (List.replicate 32 0)) (T := 26); rfl; rfl; exact Blk.new' _ _ _ _ _ rfl rfl; (rw [nums_length, sumF_len]; kernel_rfl); (rw [nums_length, sumF_len]; decide); exact nums_one _ _; intro w7 hb7 hw7; rw [laid_all _ _ (by rw [nums_length, sumF_len]; rfl), HSUM.out] at hb7))
      have hs7 := hw7.blk (hs6.alloc _) (by have := hs6.lt; omega)
      have hB7 : Below w.heap.size w w7 := Wrote.below (hB6.alloc hB6.size _) hw7 hB6.size
      clear hw7 hs hs6 hBt hB6 hb6 hBq
      obtain ⟨k1, hk1⟩ : ∃ k1 : Int, k1 = (k : Int) := ⟨_, rfl⟩
      rw [← hk1]
      clear hk1 hk hlt
      go_loopw [8] (fun i wr => ∃ j : Nat, i = .int .i64 j ∧ j ≤ 8 ∧ w7 = wr) (fun i _ => 8 - (intOf i).toNat)
      case atStart => exact ⟨0, rfl, by omega, rfl⟩
      case round =>
        obtain ⟨j, rfl, hj, rfl⟩ := hrel
        by_cases hj8 : j < 8
        · have hu := HSU.out j
          have c1 := hs7.num j (by rw [HSL.out]; exact hj8)
          have hl4 : (putF (ga s j) 4).length = 4 := putTo_len _ _ _
          have hrd : Rd w7 (some ⟨w6.heap.size, 4 * j, none⟩) (nums .u8 (putF (ga s j) 4)) := by
            refine .inr ⟨_, _, rfl, fun i v hv => ?_⟩
            rw [hb7.cell, ← bytesF_part s j (by rw [HSL.out]; exact hj8)] at *
            rw [show nums .u8 (((bytesF s).drop (4 * j)).take 4) = ((nums .u8 (bytesF s)).drop (4 * j)).take 4 by simp [nums, List.map_take, List.map_drop], List.getElem?_take] at hv
            split at hv
            · rwa [List.getElem?_drop] at hv
            · cases hv
          have hcall := refget_any w7 (some ⟨w6.heap.size, 4 * j, none⟩) (32 - 4 * j) _ hrd (by omega) (by omega)
          rw [hl4, get_put _ hu.1 hu.2] at hcall
          have HC := Lib.hid hcall
          obtain ⟨y, hy⟩ : ∃ y, y = ga s j := ⟨_, rfl⟩
          rw [← hy] at hu c1 HC
          clear hcall hrd hl4 hy
          go_wp2_with (first
            | (apply st_cutArr (i := 4 * j) (j := 4 * j + 4); exact Tryd.underlying26; kernel_rfl; rfl; rfl; rfl; omega; omega; omega; omega; omega; rw [show 4 * j + 4 - 4 * j = 4 by omega])
            | (go_at_call 23; refine HC.out.mono ?_; rintro e w' ⟨rfl, rfl⟩))
          go_roundw
          case rel => exact ⟨j + 1, by go_num, by omega, by trivial⟩
          case measure => simp [intOf]; omega
        · go_wp2_with (go_at_call 16; refine (lives_any _ (HK.out.below hB7 HK.out.lt)).mono ?_; rintro e w9 ⟨rfl, hb9⟩)
          go_ret
          exact ⟨rfl, hB7.trans (hb9.mono hB7.size)⟩
end Go.Proofs.YtdbjenlmbgmflaaDoor
