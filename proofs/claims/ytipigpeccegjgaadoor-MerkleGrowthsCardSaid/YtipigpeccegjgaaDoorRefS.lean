/- What the reference's Sum answers (inquestref02). Condition: bytes; texts of fewer than 2^39 bytes. -/
import Derived.Test.YtipigpeccegjgaaDoorRefB
import Derived.Test.YtipigpeccegjgaaDoorSum
namespace Go.Proofs.YtipigpeccegjgaaDoor
open Go.RowKit

theorem U8.append {l m : List Int} (h : U8 l) (h2 : U8 m) : U8 (l ++ m) := by
  intro i
  by_cases hi : i < l.length
  · rw [ga_append_left _ _ _ hi]; exact h i
  · have : ga (l ++ m) i = ga m (i - l.length) := by
      unfold ga; rw [List.getD_eq_getElem?_getD, List.getD_eq_getElem?_getD, List.getElem?_append_right (by omega)]
    rw [this]; exact h2 _
theorem U8.of {l : List Int} (h : ∀ x ∈ l, 0 ≤ x ∧ x < 256) : U8 l := by
  intro i
  by_cases hi : i < l.length
  · have : ga l i = l[i] := by unfold ga; simp [hi]
    rw [this]; exact h _ (List.getElem_mem hi)
  · rw [ga_out _ _ (by omega)]; omega
theorem putF_range (x : Int) (n : Nat) : U8 (putF x n) := U8.of fun y hy => by
  simp only [putF, putTo, List.mem_map, List.mem_range] at hy
  obtain ⟨j, hj, rfl⟩ := hy
  rw [if_pos (by omega)]
  omega
theorem padF_range (n : Int) : U8 (padF n) := by
  unfold padF
  refine U8.append (U8.of fun y hy => ?_) (putF_range _ _)
  simp only [List.mem_cons, List.mem_replicate] at hy
  rcases hy with rfl | ⟨_, rfl⟩ <;> omega
theorem sums8_range (s v : List Int) : U32 (sums8 s v) := by
  intro i
  match i with
  | 0 => show 0 ≤ (_ : Int) % 4294967296 ∧ _ % 4294967296 < 4294967296; omega
  | 1 => show 0 ≤ (_ : Int) % 4294967296 ∧ _ % 4294967296 < 4294967296; omega
  | 2 => show 0 ≤ (_ : Int) % 4294967296 ∧ _ % 4294967296 < 4294967296; omega
  | 3 => show 0 ≤ (_ : Int) % 4294967296 ∧ _ % 4294967296 < 4294967296; omega
  | 4 => show 0 ≤ (_ : Int) % 4294967296 ∧ _ % 4294967296 < 4294967296; omega
  | 5 => show 0 ≤ (_ : Int) % 4294967296 ∧ _ % 4294967296 < 4294967296; omega
  | 6 => show 0 ≤ (_ : Int) % 4294967296 ∧ _ % 4294967296 < 4294967296; omega
  | 7 => show 0 ≤ (_ : Int) % 4294967296 ∧ _ % 4294967296 < 4294967296; omega
  | n + 8 => rw [ga_out _ _ (by simp [sums8])]; omega
theorem blockF_range (ss bs : List Int) (h : ss.length = 8) : U32 (blockF ss bs) := by
  rw [blockF, sums8_eq _ _ (rounds_len _ _ h _)]; exact sums8_range _ _
theorem FIRST_range : U32 FIRST := by
  intro i
  match i with
  | 0 | 1 | 2 | 3 | 4 | 5 | 6 | 7 => decide
  | n + 8 => rw [ga_out _ _ (by simp [FIRST])]; omega
theorem chainF_range (all : List Int) (k : Nat) : U32 (chainF all k) := by
  cases k with
  | zero => exact FIRST_range
  | succ k => exact blockF_range _ _ (chainF_len _ _)

/-- A row when so many of p are laid behind A. -/
def fillTo (A p : List Int) (n k : Nat) : List Int := A ++ p.take k ++ List.replicate (n - A.length - k) 0
theorem fillTo_len (A p : List Int) (n k : Nat) (h : A.length + k ≤ n) (hk : k ≤ p.length) : (fillTo A p n k).length = n := by
  simp [fillTo]; omega
theorem fillTo_set (A p : List Int) (n k a : Nat) (ha : A.length = a) (hk : k < p.length) (h : a + k < n) : (fillTo A p n k).set (a + k) (ga p k) = fillTo A p n (k + 1) := by
  subst ha
  have e1 : p.take (k + 1) = p.take k ++ [ga p k] := by
    rw [List.take_add_one, List.getElem?_eq_getElem hk]
    simp [ga, hk]
  have e2 : n - A.length - k = n - A.length - (k + 1) + 1 := by omega
  have e3 : (p.take k).length = k := by simp; omega
  unfold fillTo
  rw [e1, e2, List.replicate_succ, ← List.append_assoc, List.set_append_right _ _ (by simp; omega)]
  simp [e3]
theorem fillTo_bytes (s : List Int) (k : Nat) (hs : s.length = 8) (hk : k ≤ 8) : fillTo (bytesF (s.take k)) (putF (ga s k) 4) 32 0 = bytesTo s k := by
  unfold fillTo bytesTo
  rw [bytesF_len, List.length_take, hs, Nat.min_eq_left hk]
  simp
theorem fillTo_bytes2 (s : List Int) (k : Nat) (hs : s.length = 8) (hk : k < 8) : fillTo (bytesF (s.take k)) (putF (ga s k) 4) 32 4 = bytesTo s (k + 1) := by
  have e1 : s.take (k + 1) = s.take k ++ [ga s k] := by
    rw [List.take_add_one, List.getElem?_eq_getElem (by omega)]
    simp [ga, hs, hk]
  unfold fillTo bytesTo
  rw [bytesF_len, List.length_take, hs, Nat.min_eq_left (by omega), e1, bytesF_append, List.take_of_length_le (l := putF (ga s k) 4) (by rw [putF_len]; exact Nat.le_refl _)]
  simp [bytesF, show 32 - 4 * k - 4 = 32 - 4 * (k + 1) by omega]

theorem padded_len (n : Nat) : (n + (noughts n + 9)) % 64 = 0 := by
  unfold noughts; omega

set_option maxHeartbeats 4000000 in
set_option maxRecDepth 100000 in
theorem refsum_any (w : World) (bs : List Int) (A : Option Addr) (c : Nat) (hr : Rd w A (nums .u8 bs)) (hA : A = none → c = 0) (hl : bs.length ≤ 549755813888) (ub : U8 bs) :
    Calls Tryd.prog 36 #[.slice A bs.length c] w fun e w' => e = .returned (.agg (nums .u8 (sumF bs)).toArray) ∧ Below w.heap.size w w' := by
  have hn63 : noughts bs.length < 64 := by unfold noughts; omega
  have HR := Lib.hid hr
  have HL := Lib.hid hl
  have HC := Lib.hid hA
  have HU := Lib.hid ub
  clear hr hl hA ub
  have hB0 : Below w.heap.size w (w.alloc (.cells (nums .u8 (List.replicate 32 0)).toArray 25)) := (Below.refl _ _).alloc (Nat.le_refl _) _
  have hr0 : Blk (w.alloc (.cells (nums .u8 (List.replicate 32 0)).toArray 25)) w.heap.size (nums .u8 (List.replicate 32 0)) 25 := Blk.new' _ _ _ _ _ rfl rfl
  have hrd0 : Rd (w.alloc (.cells (nums .u8 (List.replicate 32 0)).toArray 25)) A (nums .u8 bs) := HR.out.up ((Below.refl _ _).alloc (Nat.le_refl _) _)
  go_enter Tryd.func36, Tryd.ntmps36
  go_wp2_with (first
    | (go_at_call 19; refine (refcopy_any _ A c bs HC.out hrd0 HL.out).mono ?_; rintro e w1 ⟨v1, rfl, hb1, ho1⟩;
       have hG1 : Grows _ bs v1 w1 := ⟨hb1, ho1⟩; clear hb1 ho1)
    | (rw [wpad _ HL.out]; go_at_call 46; refine (refpad_any _ bs.length).mono ?_; rintro e w2 ⟨v2, rfl, hb2, ho2⟩;
       obtain ⟨A2, c2, rfl, h2, hA2, hR2, hx2⟩ := ho2.from)
    | (apply st_grow (xs := bs) (ys := padF bs.length); rfl; rfl; exact hG1.up hb2; exact hA2; exact hR2; (rw [padF_len]; have := HL.out; omega); intro v3 w3 hG3;
       have hr3 := hr0.up hG3.1; have hB3 := hB0.trans (hG3.1.mono (by rw [World.size_alloc]; omega));
       obtain ⟨A3, c3, rfl, h3, hA3, hR3, hx3⟩ := hG3.2.from)
    | (go_at_call 47; refine (reffirst_any _).mono ?_; rintro e w4 ⟨rfl, hb4⟩)
    | (apply st_storeW (off := 0) (vs := nums .u32 FIRST) (cs := nums .u32 (List.replicate 8 0)) (T := 65); rfl; rfl; exact Blk.new' _ _ _ _ _ rfl rfl; kernel_rfl; exact Nat.le_refl _; exact nums_one _ _;
       intro w5 hs5 hw5; rw [laid_all _ _ (by rfl)] at hs5))
  have hz5 : w5.heap.size = w4.heap.size + 1 := by rw [hw5.size, World.size_alloc]
  have h34 := hb4.size
  have h03 := hG3.1.size
  rw [World.size_alloc] at h03
  obtain ⟨all, hall⟩ : ∃ all, all = bs ++ padF bs.length := ⟨_, rfl⟩
  have hal : all.length = bs.length + (noughts bs.length + 9) := by rw [hall, List.length_append, padF_len]
  have h64 := padded_len bs.length
  rw [← hal] at h64
  obtain ⟨n, hn⟩ : ∃ n, all.length = 64 * n := ⟨all.length / 64, by omega⟩
  have hU : U8 all := by rw [hall]; exact HU.out.append (padF_range _)
  rw [← hall] at hR3 h3
  have hlen : bs.length + (padF bs.length).length = 64 * n := by rw [← hn, hall, List.length_append]
  have hsum : sumF bs = bytesF (chainF all n) := by
    rw [sumF, ← hall, ← hal, hn, Nat.mul_div_cancel_left _ (by decide)]
  rw [hn] at h3
  rw [hlen]
  obtain ⟨g, o, rfl, hrd⟩ := hR3.get (by rw [nums_length, hal]; omega)
  have hg3 : g < w3.heap.size := World.block_lt_of_cell? (h := hrd 0 _ (nums_at .u8 all 0 (by omega)))
  have hB5 : Below w.heap.size w w5 := Wrote.below ((hB3.trans (hb4.mono hB3.size)).alloc (by omega) _) hw5 (by omega)
  have hb35 : Below w3.heap.size w3 w5 := Wrote.below (hb4.alloc hb4.size _) hw5 (by omega)
  have hr5 : Blk w5 w.heap.size (nums .u8 (List.replicate 32 0)) 25 := hr3.up hb35
  have hrd5 : ∀ j, j < 64 * n → w5.cell? ⟨g, o + j, none⟩ = some (.int .u8 (ga all j)) := fun j hj => by
    rw [hb35.cell (p := ⟨g, o + j, none⟩) hg3]; exact hrd j _ (nums_at .u8 all j (by omega))
  have hnb : 64 * n ≤ 549755814000 := by have := HL.out; omega
  obtain ⟨s, hse⟩ : ∃ s, s = chainF all n := ⟨_, rfl⟩
  rw [← hse] at hsum
  have hsl : s.length = 8 := by rw [hse]; exact chainF_len _ _
  have HSE := Lib.hid hse
  have HSL := Lib.hid hsl
  have HSUM := Lib.hid hsum
  clear hse hsl
  have HUA := Lib.hid hU
  have HRD := Lib.hid hrd5
  have HN := Lib.hid hn
  clear hsum hU hrd5 hrd hR3 hb35 hn hall hal h64 hlen hG3 hG1 hr3 hB3 hb2 ho2 h2 hA2 hR2 hx2 hA3 hx3 hw5 hb4 hr0 hB0 hrd0
  go_loopw [5] (fun i wr => ∃ k : Nat, i = .int .i64 (64 * k) ∧ k ≤ n ∧ But w4.heap.size w5.heap.size w5 wr ∧ Blk wr w4.heap.size (nums .u32 (chainF all k)) 65) (fun i _ => 64 * n - (intOf i).toNat)
  case atStart => exact ⟨0, rfl, by omega, But.refl _ _ _, hs5⟩
  case round =>
    clear hs5
    obtain ⟨k, rfl, hk, hBt, hs⟩ := hrel
    by_cases hlt : k < n
    · rename World => wq
      have hp64 : ((all.drop (64 * k)).take 64).length = 64 := by have := HN.out; simp; omega
      have HP := Lib.hid hp64
      clear hp64
      go_wp2
      go_loopw [7] (fun i wr => ∃ m : Nat, i = .int .i64 m ∧ m ≤ 64 ∧ Below wq.heap.size wq wr ∧ Blk wr wq.heap.size (nums .u8 (fillTo [] ((all.drop (64 * k)).take 64) 64 m)) 67) (fun i _ => 64 - (intOf i).toNat)
      case atStart => exact ⟨0, rfl, by omega, (Below.refl _ _).alloc (Nat.le_refl _) _, Blk.new' _ _ _ _ _ (by simp [fillTo, nums]) rfl⟩
      case round =>
        obtain ⟨m, rfl, hm, hB, hb⟩ := hrel
        by_cases hm2 : m < 64
        · have c1 : wr.cell? ⟨g, o + (64 * k + m), none⟩ = some (.int .u8 (ga all (64 * k + m))) := by
            rw [hB.cell (p := ⟨g, _, none⟩) (by show g < wq.heap.size; have := hBt.size; omega), hBt.cell g _ (by omega) (by omega)]; exact HRD.out _ (by omega)
          have cb := hb.num m (by rw [fillTo_len _ _ _ _ (by simp; omega) (by rw [HP.out]; omega)]; omega)
          have fb := hb.frozen m
          go_wp2
          go_roundw
          case rel =>
            refine ⟨m + 1, by go_num, by omega, hB.setCell (by simp) _, ?_⟩
            have := hb.setNum m (ga all (64 * k + m))
            rw [← fillTo_set [] _ 64 m 0 rfl (by rw [HP.out]; exact hm2) (by omega), Nat.zero_add, ga_take _ _ _ hm2, ga_drop]
            exact this
          case measure => simp [intOf]; omega
        · have e64 : m = 64 := by omega
          have e1 : fillTo [] ((all.drop (64 * k)).take 64) 64 64 = (all.drop (64 * k)).take 64 := by
            unfold fillTo; rw [List.take_of_length_le (by rw [HP.out]; exact Nat.le_refl _)]; simp
          rw [e64, e1] at hb
          clear e64 e1
          have hs2 := hs.up hB
          have hcl := chainF_len all k
          have HCL := Lib.hid hcl
          clear hcl
          go_wp2_with (first
            | (apply st_load (n := 8) (cs := nums .u32 (chainF all k)) (T := 65); rfl; exact hs2; exact Tryd.underlying65; rfl; kernel_rfl; (rw [nums_length, HCL.out]; exact Nat.le_refl _); (exact row_all _ _ (by rw [nums_length, HCL.out])))
            | (apply st_load (n := 64) (cs := nums .u8 ((all.drop (64 * k)).take 64)) (T := 67); rfl; exact hb; exact Tryd.underlying67; rfl; kernel_rfl; (rw [nums_length, HP.out]; exact Nat.le_refl _); (exact row_all _ _ (by rw [nums_length, HP.out])))
            | (go_at_call 48; refine (refblock_any _ (chainF all k) ((all.drop (64 * k)).take 64) HCL.out HP.out (chainF_range _ _) (HUA.out.part _ _)).mono ?_; rintro e w7 ⟨rfl, hb7⟩; have hs7 := hs2.up hb7)
            | (apply st_storeW (off := 0) (vs := nums .u32 (chainF all (k + 1))) (cs := nums .u32 (chainF all k)) (T := 65); rfl; rfl; exact hs7; (rw [nums_length, chainF_len]; kernel_rfl); (rw [nums_length, nums_length, chainF_len, chainF_len]; exact Nat.le_refl _); exact nums_one _ _; intro w8 hs8 hw8; rw [laid_all _ _ (by rw [nums_length, nums_length, chainF_len, chainF_len])] at hs8))
          go_roundw
          case rel =>
            refine ⟨k + 1, by go_num, by omega, ?_, hs8⟩
            exact ((hBt.up hB (Nat.le_refl _)).up hb7 (Nat.le_refl _)).wrote hw8
          case measure => simp [intOf]; omega
    · have e : k = n := by omega
      rw [e, ← HSE.out] at hs
      clear e
      have hrq : Blk wr w.heap.size (nums .u8 (List.replicate 32 0)) 25 := hr5.butFar hBt (by omega) (by omega)
      have hBq : Below w.heap.size w wr := hB5.trans (hBt.below' (by omega) (by omega))
      have hsq := hBt.size
      rename World => wq
      go_wp2
      go_loopw [9] (fun i wr => ∃ m : Nat, i = .int .i64 m ∧ m ≤ 8 ∧ Below wq.heap.size wq wr ∧ Blk wr wq.heap.size (nums .u8 (bytesTo s m)) 25) (fun i _ => 8 - (intOf i).toNat)
      case atStart => exact ⟨0, rfl, by omega, (Below.refl _ _).alloc (Nat.le_refl _) _, Blk.new' _ _ _ _ _ rfl rfl⟩
      case round =>
        obtain ⟨kk, hkk⟩ : ∃ kk : Int, kk = (k : Int) := ⟨_, rfl⟩
        rw [← hkk]
        clear hkk hk hlt
        obtain ⟨m, rfl, hm, hB, hb⟩ := hrel
        have hs2 := hs.up hB
        by_cases hlt : m < 8
        · have c1 := hs2.num m (by rw [HSL.out]; exact hlt)
          go_wp2_with (go_at_call 49; refine (refput_any _ (IntKind.u64.wrap (ga s m)) 4 (by rw [wu]; omega) (by rw [wu]; omega) (by omega) (by omega)).mono ?_; rintro e w6 ⟨v2, rfl, hb6, ho6⟩; obtain ⟨A2, c2, rfl, h2, hA2, hR2, hx2⟩ := ho6.from)
          rw [wu, putF_low] at hR2 h2 ⊢
          have hp4 := putF_len (ga s m) 4
          obtain ⟨g2, o2, rfl, hrd2⟩ := hR2.get (by rw [nums_length, hp4]; omega)
          have hg2 : g2 < w6.heap.size := World.block_lt_of_cell? (h := hrd2 0 _ (nums_at .u8 _ 0 (by omega)))
          have hg2b := hx2 ⟨g2, o2, none⟩ rfl
          rw [hp4] at h2 ⊢
          have hbl := hb.lt
          have hb7 := hb.up hb6
          have hB7 := hB.trans (hb6.mono hB.size)
          have hal : (bytesF (s.take m)).length = 4 * m := by rw [bytesF_len, List.length_take, HSL.out]; omega
          rw [← fillTo_bytes s m HSL.out (by omega)] at hb7
          have HRD2 := Lib.hid hrd2
          have HP4 := Lib.hid hp4
          have HAL := Lib.hid hal
          clear hrd2 hR2 hx2 hb hB hs2 c1 ho6 hp4 hal hA2
          go_loopw [11] (fun i wr => ∃ j : Nat, i = .int .i64 j ∧ j ≤ 4 ∧ But wq.heap.size w6.heap.size w6 wr ∧ Blk wr wq.heap.size (nums .u8 (fillTo (bytesF (s.take m)) (putF (ga s m) 4) 32 j)) 25) (fun i _ => 4 - (intOf i).toNat)
          case atStart => exact ⟨0, rfl, by omega, But.refl _ _ _, hb7⟩
          case round =>
            clear hb7
            obtain ⟨j, rfl, hj, hB8, hb8⟩ := hrel
            by_cases hj4 : j < 4
            · have c2 : wr.cell? ⟨g2, o2 + j, none⟩ = some (.int .u8 (ga (putF (ga s m) 4) j)) := by
                rw [hB8.cell g2 _ hg2 (by simp at hg2b; omega)]; exact HRD2.out _ _ (nums_at .u8 _ j (by rw [HP4.out]; exact hj4))
              have cb := hb8.num (4 * m + j) (by rw [fillTo_len _ _ _ _ (by rw [HAL.out]; omega) (by rw [HP4.out]; omega)]; omega)
              have fb := hb8.frozen (4 * m + j)
              go_wp2
              go_roundw
              case rel =>
                refine ⟨j + 1, by go_num, by omega, hB8.set _ _, ?_⟩
                have := hb8.setNum (4 * m + j) (ga (putF (ga s m) 4) j)
                rw [← fillTo_set _ _ 32 j (4 * m) HAL.out (by rw [HP4.out]; exact hj4) (by omega)]
                exact this
              case measure => simp [intOf]; omega
            · have e : j = 4 := by omega
              rw [e, fillTo_bytes2 s m HSL.out hlt] at hb8
              clear e
              go_wp2
              go_roundw
              case rel => exact ⟨m + 1, by go_num, by omega, hB7.trans (hB8.below' (Nat.le_refl _) hB7.size), hb8⟩
              case measure => simp [intOf]; omega
        · have e : m = 8 := by omega
          rw [e] at hb
          clear e
          have hl8 := bytesTo_len s 8 HSL.out (Nat.le_refl _)
          obtain ⟨v8, hv8⟩ : ∃ v8, v8 = bytesTo s 8 := ⟨_, rfl⟩
          rw [← hv8] at hb hl8
          have hr9 := hrq.up hB
          have HV8 := Lib.hid hv8
          have HL8 := Lib.hid hl8
          clear hv8 hl8
          go_wp2_with (first
            | (apply st_load (n := 32) (cs := nums .u8 v8) (T := 25); rfl; exact hb; exact Tryd.underlying25; rfl; kernel_rfl; (rw [nums_length, HL8.out]; exact Nat.le_refl _); (exact row_all _ _ (by rw [nums_length, HL8.out])))
            | (apply st_storeW (off := 0) (vs := nums .u8 v8) (cs := nums .u8 (List.replicate 32 0)) (T := 25); rfl; rfl; exact hr9; (rw [nums_length, HL8.out]; kernel_rfl); (rw [nums_length, HL8.out]; exact Nat.le_refl _); (exact nums_one _ _); intro w9 hn9 hw9))
          refine bodyPost_ret (ret_row rfl _ _ _ (nums .u8 v8) 25 _ rfl ?_ Tryd.underlying25 rfl (by rw [nums_length, HL8.out]; kernel_rfl)) rfl ⟨?_, ?_⟩
          · rw [laid_all _ _ (by rw [nums_length, HL8.out]; rfl)] at hn9; exact hn9
          · rw [HV8.out, bytesTo_all _ HSL.out, HSUM.out]
          · exact Wrote.below (hBq.trans (hB.mono hBq.size)) hw9 (Nat.le_refl _)
end Go.Proofs.YtipigpeccegjgaaDoor
