/- What (*sha.Hash).Sum and sha.Sum answer. Condition: the package's table k reads as its text lays it; texts of fewer than 2^39 bytes. -/
import Derived.Test.YtipigpeccegjgaaDoorAdd
namespace Go.Proofs.YtipigpeccegjgaaDoor
open Go.RowKit

theorem bytesF_len (l : List Int) : (bytesF l).length = 4 * l.length := by
  induction l with
  | nil => rfl
  | cons x l ih => simp [bytesF, ih, putF, putTo_len]; omega
theorem bytesF_append (l m : List Int) : bytesF (l ++ m) = bytesF l ++ bytesF m := by
  induction l with
  | nil => rfl
  | cons x l ih => simp [bytesF, ih]
/-- The answer's bytes when so many numbers are laid. -/
def bytesTo (s : List Int) (k : Nat) : List Int := bytesF (s.take k) ++ List.replicate (32 - 4 * k) 0
theorem bytesTo_len (s : List Int) (k : Nat) (hs : s.length = 8) (hk : k ≤ 8) : (bytesTo s k).length = 32 := by
  simp [bytesTo, bytesF_len, hs]; omega
theorem bytesTo_all (s : List Int) (hs : s.length = 8) : bytesTo s 8 = bytesF s := by
  simp [bytesTo, List.take_of_length_le (Nat.le_of_eq hs)]
theorem bytesTo_step (s : List Int) (k : Nat) (hs : s.length = 8) (hk : k < 8) : laid (nums .u8 (bytesTo s k)) (4 * k) (nums .u8 (putF (ga s k) 4)) = nums .u8 (bytesTo s (k + 1)) := by
  have e1 : s.take (k + 1) = s.take k ++ [ga s k] := by
    rw [List.take_add_one, List.getElem?_eq_getElem (by omega)]
    simp [ga, hs, hk]
  have e2 : (32 - 4 * k) = 4 + (32 - 4 * (k + 1)) := by omega
  have e3 : (bytesF (s.take k)).length = 4 * k := by simp [bytesF_len, hs]; omega
  unfold bytesTo
  rw [e1, bytesF_append, e2, ← List.replicate_append_replicate]
  have h4 : (putF (ga s k) 4).length = 4 := putTo_len _ _ _
  have := laid_mid (nums .u8 (bytesF (s.take k))) (nums .u8 (List.replicate 4 0)) (nums .u8 (List.replicate (32 - 4 * (k + 1)) 0)) (nums .u8 (putF (ga s k) 4)) 0 (4 * k) (by rw [nums_length, e3]) (by rw [nums_length, nums_length, h4]; simp)
  rw [laid_all _ _ (by rw [nums_length, nums_length, h4]; rfl)] at this
  simpa [nums, bytesF] using this
theorem putF_low (x : Int) : putF (x % 18446744073709551616) 4 = putF x 4 := by
  simp only [putF, putTo]
  apply List.map_congr_left
  intro j hj
  simp at hj
  obtain rfl | rfl | rfl | rfl : j = 0 ∨ j = 1 ∨ j = 2 ∨ j = 3 := by omega
  all_goals first | (simp; done) | (simp; omega)

/-- The cells of a hash that holds nothing. -/
def zeroHash : List Value := .bool false :: (nums .u32 (List.replicate 8 0) ++ nums .u8 (List.replicate 64 0) ++ [.int .i64 0])
theorem wpad (n : Nat) (h : n ≤ 549755813888) : IntKind.u64.wrap (n : Int) = n := by rw [wu]; omega

theorem Blk.copied {w w1 : World} {g : Nat} {cs z : List Value} {T Z : TypeId} {zs : Array Value} {o2 : Obj} (hb : Blk w g cs T) (hz : zs = z.toArray) (hw : Wrote ((w.alloc (.cells zs Z)).alloc o2) w1 (w.heap.size + 1)) :
    Blk w1 g cs T ∧ Below w.heap.size w w1 ∧ w1.heap.size = w.heap.size + 1 + 1 ∧ Blk w1 w.heap.size z Z :=
  ⟨hw.blk ((hb.alloc _).alloc _) (by have := hb.lt; omega), Wrote.below (((Below.refl _ _).alloc (Nat.le_refl _) _).alloc (by simp) _) hw (by omega), by rw [hw.size]; simp,
    hw.blk ((Blk.new' w _ _ _ w.heap.size hz rfl).alloc _) (by omega)⟩
theorem But.below' {g B C : Nat} {w w' : World} (h : But g B w w') (hB : C ≤ g) (hC : C ≤ B) : Below C w w' := ⟨h.os, h.tape, h.output, h.size, fun k hk => h.block k (by omega) (by omega)⟩
theorem Blk.butFar {g B h : Nat} {w w' : World} {cs : List Value} {T : TypeId} (hb : Blk w h cs T) (hB : But g B w w') (h1 : h < B) (h2 : h ≠ g) : Blk w' h cs T := by
  unfold Blk at hb ⊢; rw [hB.block h h1 h2]; exact hb
theorem run_index_num {P : Program} {t e : TypeId} {n : Nat} {d : TypeDesc} {kk : IntKind} (cs : List Value) (i : Nat) (v : Value) (ht : P.underlying t = some (.array n e)) (he : P.underlying e = some d) (hd : isRow d = false)
    (hs : (P.info? e).map (·.size) = some 1) (hi : i < n) (hv : cs[i]? = some v) (w : World) : (Instr.index t (.agg cs.toArray) (.int kk i)).run P w = .ok v w := by
  have hagg : (isAgg e).run P w = .ok false w := by
    unfold isAgg
    rw [Sem.run_bind, run_underlying he w]
    cases d <;> simp_all [isRow]
  cases hq : P.info? e with
  | none => simp [hq] at hs
  | some info =>
    have hs : info.size = 1 := by simpa [hq] using hs
    have h0 : (0 : Int) ≤ (i : Int) ∧ (i : Int) < (n : Int) := by omega
    simp [Instr.index, asIntOf, run_underlying ht, part, hagg, sizeOf, typeInfo, hq, hs, hv, hi]
set_option maxHeartbeats 2000000 in
set_option maxRecDepth 100000 in
theorem hsum_any (w : World) (g : Nat) (all : List Int) (h : IsHash w g all) (hl : all.length ≤ 549755813888) (hk : KV w) :
    Calls Tryd.prog 39 #[.pointer (some ⟨g, 0, none⟩)] w fun e w' => e = .returned (.agg (nums .u8 (sumF all)).toArray) ∧ Below w.heap.size w w' := by
  obtain ⟨s, part, hb, hh⟩ := h
  have hsl := hh.len
  have hpl := hh.size
  have hglt := hb.lt
  have c0 : w.cell? ⟨g, 0, none⟩ = some (.bool true) := by rw [hb.cell]; rfl
  obtain ⟨cs, hcs⟩ : ∃ cs, cs = hashCells s part all.length := ⟨_, rfl⟩
  have hcl : cs.length = 74 := by rw [hcs]; exact hash_len _ _ _ hsl hpl
  have hone : ∀ v ∈ cs, v.oneCell' = true := by
    intro v hv
    rw [hcs] at hv
    simp only [hashCells, List.mem_cons, List.mem_append, List.not_mem_nil, or_false] at hv
    rcases hv with rfl | (hv | hv) | rfl
    · rfl
    · exact nums_one _ _ v hv
    · exact nums_one _ _ v hv
    · rfl
  have hc73 : cs[73]? = some (.int .i64 all.length) := by
    rw [hcs]; simp [hashCells, nums_length, hsl, hpl]
  rw [← hcs] at hb
  have HCS := Lib.hid hcs
  have HH := Lib.hid hh
  have HCL := Lib.hid hcl
  have HK := Lib.hid hk
  have HL := Lib.hid hl
  have H73 := Lib.hid hc73
  clear hcs hh hcl hk hsl hpl hl hc73
  go_enter Tryd.func39, Tryd.ntmps39
  have hzero : ∀ w : World, (zeroValue 71).run Tryd.prog w = .ok (.agg zeroHash.toArray) w := fun w => by kernel_rfl
  go_wp2_with (first
    | (apply st_load (n := 74) (cs := cs) (T := 71); rfl; exact hb.alloc _; exact Tryd.underlying71; rfl; kernel_rfl; (rw [HCL.out]; exact Nat.le_refl _); exact row_all _ _ HCL.out)
    | (apply st_load (n := 8) (off := 1) (cs := hashCells s3 part3 N) (T := 71); rfl; exact hb3.alloc _; exact Tryd.underlying65; rfl; kernel_rfl; (rw [hash_len _ _ _ HS3.out HP3.out]; omega); exact hash_get_s _ _ _ HS3.out)
    | (apply st_storeW (off := 0) (vs := cs) (cs := zeroHash) (T := 71); rfl; rfl; exact Blk.new' _ _ _ _ _ rfl (World.size_alloc _ _).symm; (rw [HCL.out]; kernel_rfl); (rw [HCL.out]; exact Nat.le_refl _); exact hone;
       intro w1 hc1 hw1; rw [laid_all _ _ (by rw [HCL.out]; rfl)] at hc1;
       obtain ⟨hg1, hB1, hz1, hr1⟩ := hb.copied (z := nums .u8 (List.replicate 32 0)) (Z := 25) rfl hw1;
       have c73 : w1.cell? ⟨g, 73, none⟩ = some (.int .i64 all.length) := (by rw [hg1.cell, H73.out]))
    | (rw [wpad _ HL.out]; go_at_call 52; refine (pad_any _ all.length (by omega) (by have := HL.out; omega)).mono ?_; rintro e w2 ⟨v2, rfl, hb2, ho2⟩;
       obtain ⟨A, c, rfl, hc, hA, hR, hAb⟩ := ho2.from;
       have hH2 : IsHash w2 (w.heap.size + 1) all := (by rw [HCS.out] at hc1; exact IsHash.up ⟨s, part, hc1, HH.out⟩ hb2);
       have hB2 := hB1.trans (hb2.mono (by omega)))
    | (go_at_call 38; refine (add_any w2 (w.heap.size + 1) all (padF all.length) A c hH2 hR hc hA (fun _ a ha => (by have := hAb a ha; omega)) (by rw [padF_len]; have := HL.out; have : noughts all.length < 64 := (by unfold noughts; omega); omega) (HK.out.below hB2 HK.out.lt)).mono ?_;
       rintro e w3 ⟨rfl, hBut3, s3, part3, hb3, hh3⟩;
       have hB3 : Below w.heap.size w w3 := hB2.trans (hBut3.below' (by omega) (by have := hb2.size; omega));
       have hr3 : Blk w3 w.heap.size (nums .u8 (List.replicate 32 0)) 25 := (hr1.up hb2).butFar hBut3 (by have := hb2.size; omega) (by omega);
       obtain ⟨N, hN⟩ : ∃ N : Int, N = ((all ++ padF all.length).length : Int) := ⟨_, rfl⟩;
       rw [← hN] at hb3;
       have HS3 := Lib.hid hh3.len; have HP3 := Lib.hid hh3.size; have HH3 := Lib.hid hh3; clear hh3 hN))
  clear hb2 ho2 hb hc1 hw1 hBut3 hH2 hR hAb hB2 hB1 hr1
  have hb4 := hb3.alloc (.cells (nums .u8 (List.replicate 32 0)).toArray 25)
  have hB4 : Below w.heap.size w (w3.alloc (.cells (nums .u8 (List.replicate 32 0)).toArray 25)) := hB3.alloc hB3.size _
  have hr4 := hr3.alloc (.cells (nums .u8 (List.replicate 32 0)).toArray 25)
  have hn4 : Blk (w3.alloc (.cells (nums .u8 (List.replicate 32 0)).toArray 25)) w3.heap.size (nums .u8 (bytesTo s3 0)) 25 := Blk.new' _ _ _ _ _ rfl rfl
  have hrlt := hr3.lt
  have hrlt2 := hB3.size
  clear hb3 hr3 hb4
  go_loopw [29] (fun i wr => ∃ k : Nat, i = .int .i64 k ∧ k ≤ 8 ∧ Below w.heap.size w wr ∧ Blk wr w.heap.size (nums .u8 (List.replicate 32 0)) 25 ∧ Blk wr w3.heap.size (nums .u8 (bytesTo s3 k)) 25) (fun i _ => 8 - (intOf i).toNat)
  case atStart => exact ⟨0, rfl, by omega, hB4, hr4, hn4⟩
  case round =>
    clear hB4 hr4 hn4
    obtain ⟨k, rfl, hk, hB, hr, hn⟩ := hrel
    by_cases hlt : k < 8
    · have hidx := run_index_num (P := Tryd.prog) (kk := .i64) (nums .u32 s3) k _ Tryd.underlying65 Tryd.underlying64 rfl (by kernel_rfl) hlt (nums_at .u32 s3 k (by rw [HS3.out]; exact hlt))
      rw [← ga_eq] at hidx
      go_wp2
      clear hidx
      refine wp_region_C (Same [w3.heap.size] wr) [5, 6] (by kernel_rfl) (by kernel_rfl) (by intro c a w h; first | (obtain ⟨_, h, _⟩ := h; cases h; done) | (obtain ⟨_, _, h, _⟩ := h; cases h; done)) (by intro a w h; first | (obtain ⟨h, _⟩ := h; cases h; done) | (obtain ⟨_, h, _⟩ := h; cases h; done)) (Same.refl _ _) ?_
      repeat (refine wd_w (v := ?_) rfl rfl rfl rfl rfl rfl (fun w' hw' K hK => ?_) ?_; rotate_left; (skip; go_wp2_with ((apply st_fromArr (i := 4 * k); exact Tryd.underlying25; kernel_rfl; rfl; rfl; omega; omega)); exact rfl); simp only [Act.put, List.setIfInBounds_toArray, List.set_cons_zero, List.set_cons_succ])
      refine wd_l rfl rfl (by intro a w h; first | (obtain ⟨h, _⟩ := h; cases h; done) | (obtain ⟨_, h, _⟩ := h; cases h; done)) ?_
      go_wp2_with (go_at_call 53; refine (put4_any _ (IntKind.u64.wrap (ga s3 k)) (by rw [wu]; omega) (by rw [wu]; omega)).mono ?_; rintro e w4 ⟨rfl, hb4, hblk4⟩)
      replace hb4 : Below wr.heap.size wr w4 := ⟨hb4.os, hb4.tape, hb4.output, hb4.size, hb4.block⟩
      rw [wu, putF_low] at hblk4
      replace hblk4 : Blk w4 wr.heap.size (nums .u8 (putF (ga s3 k) 4)) 5 := hblk4
      refine ⟨.inr ((Same.refl _ _).below hb4 (by simp; exact hn.lt)), ?_⟩
      refine wd_last rfl (by kernel_rfl) rfl (by intro a w h; first | (obtain ⟨h, _⟩ := h; cases h; done) | (obtain ⟨_, h, _⟩ := h; cases h; done)) ?_
      have hp4 : (putF (ga s3 k) 4).length = 4 := putTo_len _ _ _
      go_wp2_with (apply st_copyW (m := 4) (cs := nums .u8 (putF (ga s3 k) 4)) (cur := nums .u8 (bytesTo s3 k)) (T := 25); exact Tryd.underlying32; kernel_rfl; rfl; rfl; exact hn.up hb4; (rw [nums_length, hp4]); (have h4 : 4 ≤ 32 - 4 * k := (by omega); exact (Nat.min_eq_left h4).symm); (intro i v hv; rw [Nat.zero_add, hblk4.cell]; exact hv); (rw [nums_length, bytesTo_len _ _ HS3.out hk]; omega); exact nums_one _ _; intro w5 hn5 hw5)
      rw [bytesTo_step _ _ HS3.out hlt] at hn5
      go_roundw
      case rel =>
        exact ⟨k + 1, by go_num, by omega, Wrote.below (hB.trans (hb4.mono hB.size)) hw5 hrlt2, hw5.blk (hr.up hb4) (by omega), hn5⟩
      case measure => simp [intOf]; omega
    · have e8 : k = 8 := by omega
      rw [e8] at hn
      clear e8
      have hl8 := bytesTo_len s3 8 HS3.out (Nat.le_refl _)
      obtain ⟨v8, hv8⟩ : ∃ v8, v8 = bytesTo s3 8 := ⟨_, rfl⟩
      rw [← hv8] at hn hl8
      have HV8 := Lib.hid hv8
      have HL8 := Lib.hid hl8
      clear hv8 hl8
      go_wp2_with (first
        | (apply st_load (n := 32) (cs := nums .u8 v8) (T := 25); rfl; exact hn; exact Tryd.underlying25; rfl; kernel_rfl; (rw [nums_length, HL8.out]; exact Nat.le_refl _); (exact row_all _ _ (by rw [nums_length, HL8.out])))
        | (apply st_store (off := 0) (cs := nums .u8 (List.replicate 32 0)) (T := 25); rfl; rfl; exact hr; (rw [nums_length, HL8.out]; kernel_rfl); (rw [nums_length, HL8.out]; exact Nat.le_refl _); (exact nums_one _ _)))
      refine bodyPost_ret (ret_row rfl _ _ _ (nums .u8 v8) 25 _ rfl ?_ Tryd.underlying25 rfl (by rw [nums_length, HL8.out]; kernel_rfl)) rfl ⟨?_, ?_⟩
      · exact Blk.row' hr _ _ (by rw [laid_all _ _ (by rw [nums_length, HL8.out]; rfl)])
      · rw [HV8.out, bytesTo_all _ HS3.out, HH3.out.chain, sumF, List.length_append, padF_len]
      · exact below_setRow hB (Nat.le_refl _) _
theorem sumF_len (all : List Int) : (sumF all).length = 32 := by
  rw [sumF, bytesF_len, chainF_len]

set_option maxHeartbeats 1000000 in
theorem sum_any (w : World) (bs : List Int) (A : Option Addr) (c : Nat) (hr : Rd w A (nums .u8 bs)) (hc : bs.length ≤ c) (hA : A = none → c = 0) (hl : bs.length ≤ 549755813888) (hk : KV w) :
    Calls Tryd.prog 35 #[.slice A bs.length c] w fun e w' => e = .returned (.agg (nums .u8 (sumF bs)).toArray) ∧ Below w.heap.size w w' := by
  have HR := Lib.hid hr
  have HK := Lib.hid hk
  have HL := Lib.hid hl
  have HC := Lib.hid hA
  clear hr hk hl hA
  go_enter Tryd.func35, Tryd.ntmps35
  have hB0 : Below w.heap.size w (w.alloc (.cells (nums .u8 (List.replicate 32 0)).toArray 25)) := (Below.refl _ _).alloc (Nat.le_refl _) _
  have hr0 : Blk (w.alloc (.cells (nums .u8 (List.replicate 32 0)).toArray 25)) w.heap.size (nums .u8 (List.replicate 32 0)) 25 := Blk.new' _ _ _ _ _ rfl rfl
  have hz0 : (w.alloc (.cells (nums .u8 (List.replicate 32 0)).toArray 25)).heap.size = w.heap.size + 1 := World.size_alloc _ _
  go_wp2_with (first
    | (go_at_call 37; refine (new_any _).mono ?_; rintro e w1 ⟨g, rfl, hg1, hb1, hH1⟩; rw [World.size_alloc] at hg1;
       have hB1 := hB0.trans (hb1.mono (by rw [World.size_alloc]; omega));
       have hr1 := hr0.up hb1)
    | (go_at_call 38; refine (add_any w1 g [] bs A c hH1 (HR.out.up hB1) hc HC.out (fun hp a ha => (by have := HR.out.lt (by rw [nums_length]; exact hp) a ha; omega)) (by have := HL.out; simp; omega) (HK.out.below hB1 HK.out.lt)).mono ?_;
       rintro e w2 ⟨rfl, hBut2, hH2⟩; rw [List.nil_append] at hH2;
       have hB2 := hB1.trans (hBut2.below' (C := w.heap.size) (by omega) hB1.size);
       have hr2 := hr1.butFar hBut2 hr1.lt (by omega))
    | (go_at_call 39; refine (hsum_any w2 g bs hH2 HL.out (HK.out.below hB2 HK.out.lt)).mono ?_;
       rintro e w3 ⟨rfl, hb3⟩;
       have hB3 := hB2.trans (hb3.mono hB2.size);
       have hr3 := hr2.up hb3)
    | (apply st_storeW (off := 0) (cs := nums .u8 (List.replicate 32 0)) (vs := nums .u8 (sumF bs)) (T := 25); rfl; rfl; exact hr3; (rw [nums_length, sumF_len]; kernel_rfl); (rw [nums_length, sumF_len]; exact Nat.le_refl _); (exact nums_one _ _);
       intro w4 hr4 hw4))
  refine bodyPost_ret (ret_row rfl _ _ _ (nums .u8 (sumF bs)) 25 _ rfl ?_ Tryd.underlying25 rfl (by rw [nums_length, sumF_len]; kernel_rfl)) rfl ⟨rfl, Wrote.below hB3 hw4 (Nat.le_refl _)⟩
  rw [laid_all _ _ (by rw [nums_length, sumF_len]; rfl)] at hr4
  exact hr4
end Go.Proofs.YtipigpeccegjgaaDoor
