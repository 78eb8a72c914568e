/- What mac.block, mac.Sum and mac.Same answer. Condition: the table of layer 2 reads as its text lays it; lengths below 2^38. -/
import Derived.Test.YtjmoaalchefdnaaDoorArr
namespace Go.Proofs.YtjmoaalchefdnaaDoor
open Go.RowKit

/-- A key's block. -/
def kS (key : List Int) : List Int := if 64 < key.length then sumF key else key
def k64 (key : List Int) : List Int := kS key ++ List.replicate (64 - (kS key).length) 0
theorem kS_len (key : List Int) : (kS key).length ≤ 64 := by
  unfold kS; split
  · rw [sumF_len]; omega
  · omega
theorem k64_len (key : List Int) : (k64 key).length = 64 := by
  have := kS_len key
  simp [k64]; omega
/-- Each byte exclusive-ored. -/
def xorL (l : List Int) (x : Int) : List Int := l.map fun y => bits .xor .u8 y x
theorem xorL_len (l : List Int) (x : Int) : (xorL l x).length = l.length := by simp [xorL]
/-- The first so many exclusive-ored. -/
def xorTo (l : List Int) (x : Int) (k : Nat) : List Int := xorL (l.take k) x ++ l.drop k
theorem xorTo_len (l : List Int) (x : Int) (k : Nat) : (xorTo l x k).length = l.length := by simp [xorTo, xorL]; omega
theorem xorTo_all (l : List Int) (x : Int) : xorTo l x l.length = xorL l x := by simp [xorTo]
theorem xorTo_at (l : List Int) (x : Int) (k : Nat) (h : k < l.length) : ga (xorTo l x k) k = ga l k := by
  have e : (xorL (l.take k) x).length = k := by simp [xorL]; omega
  unfold ga xorTo
  rw [List.getD_eq_getElem?_getD, List.getD_eq_getElem?_getD, List.getElem?_append_right (by omega), e, Nat.sub_self, List.getElem?_drop, Nat.add_zero]
theorem xorTo_set (l : List Int) (x : Int) (k : Nat) (h : k < l.length) : (xorTo l x k).set k (bits .xor .u8 (ga l k) x) = xorTo l x (k + 1) := by
  have e : (xorL (l.take k) x).length = k := by simp [xorL]; omega
  have e1 : l.take (k + 1) = l.take k ++ [ga l k] := by
    rw [List.take_add_one, List.getElem?_eq_getElem h]; simp [ga, h]
  have e2 : l.drop k = ga l k :: l.drop (k + 1) := by
    rw [List.drop_eq_getElem_cons h]; congr 1; simp [ga, h]
  unfold xorTo
  rw [e1, e2, List.set_append_right _ _ (by omega), e, Nat.sub_self]
  simp [xorL]

/-- copy of nothing. -/
theorem st_copyNone {P : Program} {ops : Array Oper} {Q : Exit → Act → World → Prop} {rest : List Oper} {a : Act} {w : World} {d' : Option Tmp} {tt dT sT elem : TypeId} {d s : Operand} {pos : String} {after : Array Edge} {dp sp : Option Addr} {dLen dCap sCap : Nat}
    (hu : P.underlying dT = some (.slice elem)) (hsz : (P.info? elem).map (·.size) = some 1) (hd : a.eval d = .slice dp dLen dCap) (hs : a.eval s = .slice sp 0 sCap)
    (h : wpList P ops Q rest (a.put d' (goInt 0)) w) : wpList P ops Q (⟨d', .call ⟨.builtin .copy, #[d, s], #[dT, sT]⟩, tt, pos, after, none⟩ :: rest) a w :=
  wpList_copy_nothing rfl d s dT sT rfl elem hu hsz dp sp dLen dCap 0 sCap hd hs (by simp) h
theorem laid_front (ks : List Int) (n : Nat) (_h : ks.length ≤ n) : laid (nums .u8 (List.replicate n 0)) 0 (nums .u8 ks) = nums .u8 (ks ++ List.replicate (n - ks.length) 0) := by
  simp [laid, nums]

set_option maxHeartbeats 4000000 in
theorem macblock_any (w : World) (key : List Int) (A : Option Addr) (c : Nat) (hr : Rd w A (nums .u8 key)) (hc : key.length ≤ c) (hA : A = none → c = 0) (hl : key.length ≤ 274877906944) (hk : KV w) (x : Int) :
    Calls Tryd.prog 23 #[.slice A key.length c, .int .u8 x] w (Gives (xorL (k64 key) x) w) := by
  obtain ⟨i0, hi, hz0, hz1, hz2⟩ := info_parts u8info
  have hmk := fun w => run_make_num (w := w) Tryd.underlying22 hi hz0 hz1 (by omega) .i64 64 (by omega) (by omega)
  clear hi hz0 hz1 hz2
  have HR := Lib.hid hr
  have HK := Lib.hid hk
  have HA := Lib.hid hA
  have HC := Lib.hid hc
  clear hr hk hA hc
  obtain ⟨ks, hks⟩ : ∃ ks, ks = kS key := ⟨_, rfl⟩
  have hksl : ks.length ≤ 64 := by rw [hks]; exact kS_len _
  have hk64 : k64 key = ks ++ List.replicate (64 - ks.length) 0 := by rw [hks]; rfl
  have HK64 := Lib.hid hk64
  clear hk64
  have hX : (64 < key.length ∧ ks = sumF key) ∨ (key.length ≤ 64 ∧ ks = key) := by
    rw [hks]; unfold kS
    split
    · rename_i h; exact .inl ⟨h, rfl⟩
    · rename_i h; exact .inr ⟨by omega, rfl⟩
  clear hks
  rcases hX with ⟨h64, he⟩ | ⟨h64, he⟩
  · have HE := Lib.hid he
    have hk32 : ks.length = 32 := by rw [he, sumF_len]
    have HL := Lib.hid hk32
    clear he hk32
    go_enter Tryd.func23, Tryd.ntmps23
    go_wp2_with (first
      | (go_at_call 16; refine (sum_any w key A c HR.out HC.out HA.out (by omega) HK.out).mono ?_; rintro e w1 ⟨rfl, hb1⟩; rw [← HE.out])
      | (apply st_storeW (off := 0) (vs := nums .u8 ks) (cs := nums .u8 (List.replicate 32 0)) (T := 26); rfl; rfl; exact Blk.new' _ _ _ _ _ rfl rfl; (rw [nums_length, HL.out]; kernel_rfl); (rw [nums_length, HL.out]; decide); exact nums_one _ _; intro w2 hb2 hw2; rw [laid_all _ _ (by rw [nums_length, HL.out]; rfl)] at hb2)
      | (apply st_allArr; exact Tryd.underlying26; kernel_rfl; rfl)
      | (apply st_copyW (m := 32) (cs := nums .u8 ks) (cur := nums .u8 (List.replicate 64 0)) (T := 5); exact Tryd.underlying22; kernel_rfl; rfl; rfl; exact Blk.new' w2 _ _ _ _ rfl rfl; (rw [nums_length, HL.out]); rfl; (intro j v hv; rw [Nat.zero_add, (hb2.alloc _).cell]; exact hv); decide; exact nums_one _ _; intro w3 hb3 hw3; rw [laid_front _ _ hksl, ← HK64.out] at hb3))
    have hB3 : Below w.heap.size w w3 := Wrote.below ((Wrote.below (hb1.alloc hb1.size _) hw2 hb1.size).alloc (by rw [hw2.size]; simp; have := hb1.size; omega) _) hw3 (by rw [hw2.size]; simp; have := hb1.size; omega)
    have hge : w.heap.size ≤ w2.heap.size := by rw [hw2.size]; simp; have := hb1.size; omega
    clear hw2 hw3 hb2 hb1 hmk
    have hk64l := k64_len key
    obtain ⟨l, hl64⟩ : ∃ l, l = k64 key := ⟨_, rfl⟩
    rw [← hl64] at hb3 hk64l
    have HL64 := Lib.hid hl64
    have HLL := Lib.hid hk64l
    clear hl64 hk64l
    go_loopw [7, 20] (fun _ i wr => ∃ k : Nat, i = .int .i64 k ∧ k ≤ 64 ∧ Below w.heap.size w wr ∧ Blk wr w2.heap.size (nums .u8 (xorTo l x k)) 5) (fun _ i _ => 64 - (intOf i).toNat)
    case atStart => exact ⟨0, rfl, by omega, hB3, hb3⟩
    case round =>
      clear hB3 hb3
      obtain ⟨k, rfl, hk, hB, hb⟩ := hrel
      by_cases hlt : k < 64
      · have hxl := xorTo_len l x k
        have cb := hb.num k (by rw [hxl, HLL.out]; exact hlt)
        have fb := hb.frozen k
        rw [xorTo_at l x k (by rw [HLL.out]; exact hlt)] at cb
        have hset := xorTo_set l x k (by rw [HLL.out]; exact hlt)
        obtain ⟨y, hy⟩ : ∃ y, y = ga l k := ⟨_, rfl⟩
        rw [← hy] at cb hset
        have HSET := Lib.hid hset
        clear hset hy hxl
        go_wp2
        go_roundw
        case rel =>
          refine ⟨k + 1, by go_num, by omega, hB.setCell (by first | (simp; done) | (simp; omega) | omega) _, ?_⟩
          rw [← HSET.out]; exact hb.setNum k _
        case measure => simp [intOf]; omega
      · have e : k = 64 := by omega
        have e2 : xorTo l x 64 = xorL l x := by rw [← HLL.out, xorTo_all]
        rw [e, e2] at hb
        clear e e2
        have h64l : (xorL l x).length = 64 := by rw [xorL_len, HLL.out]
        go_wp2
        go_ret
        rw [← HL64.out]
        have ho := Own.ofBlk (base := w.heap.size) hb hge (by rw [h64l]; decide)
        rw [h64l] at ho
        exact ⟨_, rfl, hB, ho⟩
  · subst he
    by_cases h0 : ks.length = 0
    · have hnil : ks = [] := List.eq_nil_of_length_eq_zero h0
      have HNIL := Lib.hid hnil
      have HL := Lib.hid h0
      clear hnil
      rw [h0]
      clear h0
      go_enter Tryd.func23, Tryd.ntmps23
      go_wp2_with (apply st_copyNone; exact Tryd.underlying22; kernel_rfl; rfl; rfl)
      refine named_world ?_
      intro w3 hw3
      have hb3 : Blk w3 w.heap.size (nums .u8 (k64 ks)) 5 := by rw [hw3, HK64.out, HNIL.out]; exact Blk.new' _ _ _ _ _ rfl rfl
      have hB3 : Below w.heap.size w w3 := by rw [hw3]; exact (Below.refl _ _).alloc (Nat.le_refl _) _
      clear hw3 hmk
      have hk64l := k64_len ks
      obtain ⟨l, hl64⟩ : ∃ l, l = k64 ks := ⟨_, rfl⟩
      rw [← hl64] at hb3 hk64l
      have HL64 := Lib.hid hl64
      have HLL := Lib.hid hk64l
      clear hl64 hk64l
      go_loopw [7, 20] (fun _ i wr => ∃ k : Nat, i = .int .i64 k ∧ k ≤ 64 ∧ Below w.heap.size w wr ∧ Blk wr w.heap.size (nums .u8 (xorTo l x k)) 5) (fun _ i _ => 64 - (intOf i).toNat)
      case atStart => exact ⟨0, rfl, by omega, hB3, hb3⟩
      case round =>
        clear hB3 hb3
        obtain ⟨k, rfl, hk, hB, hb⟩ := hrel
        by_cases hlt : k < 64
        · have hxl := xorTo_len l x k
          have cb := hb.num k (by rw [hxl, HLL.out]; exact hlt)
          have fb := hb.frozen k
          rw [xorTo_at l x k (by rw [HLL.out]; exact hlt)] at cb
          have hset := xorTo_set l x k (by rw [HLL.out]; exact hlt)
          obtain ⟨y, hy⟩ : ∃ y, y = ga l k := ⟨_, rfl⟩
          rw [← hy] at cb hset
          have HSET := Lib.hid hset
          clear hset hy hxl
          go_wp2
          go_roundw
          case rel =>
            refine ⟨k + 1, by go_num, by omega, hB.setCell (by first | (simp; done) | (simp; omega) | omega) _, ?_⟩
            rw [← HSET.out]; exact hb.setNum k _
          case measure => simp [intOf]; omega
        · have e : k = 64 := by omega
          have e2 : xorTo l x 64 = xorL l x := by rw [← HLL.out, xorTo_all]
          rw [e, e2] at hb
          clear e e2
          have h64l : (xorL l x).length = 64 := by rw [xorL_len, HLL.out]
          go_wp2
          go_ret
          rw [← HL64.out]
          have ho := Own.ofBlk (base := w.heap.size) hb (Nat.le_refl _) (by rw [h64l]; decide)
          rw [h64l] at ho
          exact ⟨_, rfl, hB, ho⟩
    · obtain ⟨g2, o2, rfl, hsrc⟩ := HR.out.get (by rw [nums_length]; omega)
      have hg2 : g2 < w.heap.size := World.block_lt_of_cell? (h := hsrc 0 _ (nums_at .u8 ks 0 (by omega)))
      have hsrc2 : ∀ j v, (nums .u8 ks)[j]? = some v → (w.alloc (.cells (nums .u8 (List.replicate 64 0)).toArray 5)).cell? ⟨g2, o2 + j, none⟩ = some v := fun j v hv => by
        rw [((Below.refl _ _).alloc (Nat.le_refl _) _).cell (p := ⟨g2, o2 + j, none⟩) hg2]; exact hsrc j v hv
      have HSRC := Lib.hid hsrc2
      clear hsrc hsrc2
      go_enter Tryd.func23, Tryd.ntmps23
      go_wp2_with (apply st_copyW (m := ks.length) (cs := nums .u8 ks) (cur := nums .u8 (List.replicate 64 0)) (T := 5); exact Tryd.underlying22; kernel_rfl; rfl; rfl; exact Blk.new' w _ _ _ _ rfl rfl; (rw [nums_length]); (have h4 : ks.length ≤ 64 := (by omega); exact (Nat.min_eq_left h4).symm); exact HSRC.out; (rw [nums_length, List.length_replicate]; omega); exact nums_one _ _; intro w3 hb3 hw3; rw [laid_front _ _ hksl, ← HK64.out] at hb3)
      have hB3 : Below w.heap.size w w3 := Wrote.below ((Below.refl _ _).alloc (Nat.le_refl _) _) hw3 (Nat.le_refl _)
      clear hw3 hmk
      have hk64l := k64_len ks
      obtain ⟨l, hl64⟩ : ∃ l, l = k64 ks := ⟨_, rfl⟩
      rw [← hl64] at hb3 hk64l
      have HL64 := Lib.hid hl64
      have HLL := Lib.hid hk64l
      clear hl64 hk64l
      go_loopw [7, 20] (fun _ i wr => ∃ k : Nat, i = .int .i64 k ∧ k ≤ 64 ∧ Below w.heap.size w wr ∧ Blk wr w.heap.size (nums .u8 (xorTo l x k)) 5) (fun _ i _ => 64 - (intOf i).toNat)
      case atStart => exact ⟨0, rfl, by omega, hB3, hb3⟩
      case round =>
        clear hB3 hb3
        obtain ⟨k, rfl, hk, hB, hb⟩ := hrel
        by_cases hlt : k < 64
        · have hxl := xorTo_len l x k
          have cb := hb.num k (by rw [hxl, HLL.out]; exact hlt)
          have fb := hb.frozen k
          rw [xorTo_at l x k (by rw [HLL.out]; exact hlt)] at cb
          have hset := xorTo_set l x k (by rw [HLL.out]; exact hlt)
          obtain ⟨y, hy⟩ : ∃ y, y = ga l k := ⟨_, rfl⟩
          rw [← hy] at cb hset
          have HSET := Lib.hid hset
          clear hset hy hxl
          go_wp2
          go_roundw
          case rel =>
            refine ⟨k + 1, by go_num, by omega, hB.setCell (by first | (simp; done) | (simp; omega) | omega) _, ?_⟩
            rw [← HSET.out]; exact hb.setNum k _
          case measure => simp [intOf]; omega
        · have e : k = 64 := by omega
          have e2 : xorTo l x 64 = xorL l x := by rw [← HLL.out, xorTo_all]
          rw [e, e2] at hb
          clear e e2
          have h64l : (xorL l x).length = 64 := by rw [xorL_len, HLL.out]
          go_wp2
          go_ret
          rw [← HL64.out]
          have ho := Own.ofBlk (base := w.heap.size) hb (Nat.le_refl _) (by rw [h64l]; decide)
          rw [h64l] at ho
          exact ⟨_, rfl, hB, ho⟩

/-- The sum of a text by a key. -/
def inF (key text : List Int) : List Int := sumF (xorL (k64 key) 54 ++ text)
def macF (key text : List Int) : List Int := sumF (xorL (k64 key) 92 ++ inF key text)
theorem inF_len (key text : List Int) : (inF key text).length = 32 := sumF_len _
theorem macF_len (key text : List Int) : (macF key text).length = 32 := sumF_len _

set_option maxHeartbeats 4000000 in
theorem mac_any (w : World) (key : List Int) (A : Option Addr) (c : Nat) (hr : Rd w A (nums .u8 key)) (hc : key.length ≤ c) (hA : A = none → c = 0) (hl : key.length ≤ 274877906944)
    (text : List Int) (B : Option Addr) (d : Nat) (hr2 : Rd w B (nums .u8 text)) (hd : text.length ≤ d) (hB : B = none → d = 0) (hl2 : text.length ≤ 274877906944) (hk : KV w) :
    Calls Tryd.prog 11 #[.slice A key.length c, .slice B text.length d] w fun e w' => e = .returned (.agg (nums .u8 (macF key text)).toArray) ∧ Below w.heap.size w w' := by
  have HR := Lib.hid hr
  have HK := Lib.hid hk
  have HA := Lib.hid hA
  have HC := Lib.hid hc
  have HR2 := Lib.hid hr2
  have HB := Lib.hid hB
  have HD := Lib.hid hd
  have hb54 : (xorL (k64 key) 54).length = 64 := by rw [xorL_len, k64_len]
  have hb92 : (xorL (k64 key) 92).length = 64 := by rw [xorL_len, k64_len]
  obtain ⟨p54, hp54⟩ : ∃ l, l = xorL (k64 key) 54 := ⟨_, rfl⟩
  obtain ⟨p92, hp92⟩ : ∃ l, l = xorL (k64 key) 92 := ⟨_, rfl⟩
  have hin : inF key text = sumF (p54 ++ text) := by rw [hp54]; rfl
  have hmac : macF key text = sumF (p92 ++ inF key text) := by rw [hp92]; rfl
  have hinl := inF_len key text
  obtain ⟨s1, hs1⟩ : ∃ s, s = inF key text := ⟨_, rfl⟩
  rw [← hp54] at hb54
  rw [← hp92] at hb92
  rw [← hs1] at hin hmac hinl
  have H54 := Lib.hid hp54
  have H92 := Lib.hid hp92
  have HL54 := Lib.hid hb54
  have HL92 := Lib.hid hb92
  have HIN := Lib.hid hin
  have HMAC := Lib.hid hmac
  have HINL := Lib.hid hinl
  clear hr hk hA hc hr2 hB hd hb54 hb92 hp54 hp92 hin hmac hinl hs1
  have hB0 : Below w.heap.size w (w.alloc (.cells (nums .u8 (List.replicate 32 0)).toArray 26)) := (Below.refl _ _).alloc (Nat.le_refl _) _
  have hr0 : Blk (w.alloc (.cells (nums .u8 (List.replicate 32 0)).toArray 26)) w.heap.size (nums .u8 (List.replicate 32 0)) 26 := Blk.new' _ _ _ _ _ rfl rfl
  have hz0 : (w.alloc (.cells (nums .u8 (List.replicate 32 0)).toArray 26)).heap.size = w.heap.size + 1 := World.size_alloc _ _
  go_enter Tryd.func11, Tryd.ntmps11
  have tok1 : True := trivial
  go_wp2_with (first
    | (go_at_call 21; have _t := tok1; refine (new_any _).mono ?_; rintro e w1 ⟨g, rfl, hg1, hb1, hH1⟩; clear tok1 _t; rw [World.size_alloc] at hg1; have hB1 := hB0.trans (hb1.mono (by rw [World.size_alloc]; omega)); have hr1 := hr0.up hb1; have hz1 := hB1.size; have hgl1 := hH1.lt)
    | (go_at_call 23; ((with_reducible refine (macblock_any w1 key A c (HR.out.up hB1) HC.out HA.out hl (HK.out.below hB1 HK.out.lt) 54).mono ?_); rintro e w2 ⟨v2, rfl, hb2, ho2⟩; rw [← H54.out] at ho2; obtain ⟨A2, c2, rfl, h2, hA2, hR2, hx2⟩ := ho2.from; have hB2 := hB1.trans (hb2.mono hB1.size); have hH2 := hH1.up hb2; have hr2 := hr1.up hb2; have hz2 := hb2.size))
    | (go_at_call 22; ((with_reducible refine (add_any w2 g [] p54 A2 c2 hH2 hR2 h2 hA2 (fun _ a ha => (by have := hx2 a ha; omega)) (by rw [HL54.out]; simp) (HK.out.below hB2 HK.out.lt)).mono ?_); rintro e w3 ⟨rfl, hBut3, hH3⟩; rw [List.nil_append] at hH3; have hB3 := hB2.trans (hBut3.below' (by omega) (by omega)); have hr3 := hr2.butFar hBut3 hr2.lt (by omega); have hz3 := hBut3.size))
    | (go_at_call 22; ((with_reducible refine (add_any w3 g p54 text B d hH3 (HR2.out.up hB3) HD.out HB.out (fun hp a ha => (by have := HR2.out.lt (by rw [nums_length]; exact hp) a ha; omega)) (by rw [HL54.out]; omega) (HK.out.below hB3 HK.out.lt)).mono ?_); rintro e w4 ⟨rfl, hBut4, hH4⟩; have hB4 := hB3.trans (hBut4.below' (by omega) (by omega)); have hr4 := hr3.butFar hBut4 hr3.lt (by omega); have hz4 := hBut4.size))
    | (go_at_call 24; ((with_reducible refine (hsum_any w4 g (p54 ++ text) hH4 (by rw [List.length_append, HL54.out]; omega) (HK.out.below hB4 HK.out.lt)).mono ?_); rintro e w5 ⟨rfl, hb5⟩; rw [← HIN.out]; have hB5 := hB4.trans (hb5.mono hB4.size); have hr5 := hr4.up hb5; have hz5 := hb5.size))
    | (apply st_storeW (off := 0) (vs := nums .u8 s1) (cs := nums .u8 (List.replicate 32 0)) (T := 26); rfl; rfl; exact Blk.new' w5 _ _ _ _ rfl rfl; (rw [nums_length, HINL.out]; kernel_rfl); (rw [nums_length, HINL.out]; decide); exact nums_one _ _; intro w6 hi6 hw6; rw [laid_all _ _ (by rw [nums_length, HINL.out]; rfl)] at hi6; have hB6 := Wrote.below (hB5.alloc hB5.size _) hw6 hB5.size; have hr6 := hw6.blk (hr5.alloc _) (by omega); have hz6 := hw6.size; rw [World.size_alloc] at hz6)
    | (go_at_call 21; ((with_reducible refine (new_any w6).mono ?_); rintro e w7 ⟨g7, rfl, hg7, hb7, hH7⟩; have hB7 := hB6.trans (hb7.mono hB6.size); have hr7 := hr6.up hb7; have hi7 := hi6.up hb7; have hz7 := hb7.size; have hgl7 := hH7.lt))
    | (go_at_call 23; ((with_reducible refine (macblock_any w7 key A c (HR.out.up hB7) HC.out HA.out hl (HK.out.below hB7 HK.out.lt) 92).mono ?_); rintro e w8 ⟨v8, rfl, hb8, ho8⟩; rw [← H92.out] at ho8; obtain ⟨A8, c8, rfl, h8, hA8, hR8, hx8⟩ := ho8.from; have hB8 := hB7.trans (hb8.mono hB7.size); have hH8 := hH7.up hb8; have hr8 := hr7.up hb8; have hi8 := hi7.up hb8; have hz8 := hb8.size))
    | (go_at_call 22; ((with_reducible refine (add_any w8 g7 [] p92 A8 c8 hH8 hR8 h8 hA8 (fun _ a ha => (by have := hx8 a ha; omega)) (by rw [HL92.out]; simp) (HK.out.below hB8 HK.out.lt)).mono ?_); rintro e w9 ⟨rfl, hBut9, hH9⟩; rw [List.nil_append] at hH9; have hB9 := hB8.trans (hBut9.below' (by omega) (by omega)); have hr9 := hr8.butFar hBut9 hr8.lt (by omega); have hi9 := hi8.butFar hBut9 hi8.lt (by omega); have hz9 := hBut9.size))
    | (apply st_allArr; exact Tryd.underlying26; kernel_rfl; rfl)
    | (go_at_call 22; have hadd := add_any w9 g7 p92 s1 (some ⟨w5.heap.size, 0, none⟩) 32 hH9 (Rd.ofBlk hi9) (by rw [HINL.out]; exact Nat.le_refl _) (fun h => by cases h) (fun _ a ha => (by injection ha with ha; rw [← ha]; show w5.heap.size ≠ g7; omega)) (by rw [HL92.out, HINL.out]; omega) (HK.out.below hB9 HK.out.lt); rw [HINL.out] at hadd; ((with_reducible refine hadd.mono ?_); clear hadd; rintro e w10 ⟨rfl, hBut10, hH10⟩; have hB10 := hB9.trans (hBut10.below' (by omega) (by omega)); have hr10 := hr9.butFar hBut10 hr9.lt (by omega)))
    | (go_at_call 24; ((with_reducible refine (hsum_any w10 g7 (p92 ++ s1) hH10 (by rw [List.length_append, HL92.out, HINL.out]; decide) (HK.out.below hB10 HK.out.lt)).mono ?_); rintro e w11 ⟨rfl, hb11⟩; rw [← HMAC.out]; have hB11 := hB10.trans (hb11.mono hB10.size); have hr11 := hr10.up hb11))
    | (apply st_storeW (off := 0) (vs := nums .u8 (macF key text)) (cs := nums .u8 (List.replicate 32 0)) (T := 26); rfl; rfl; exact hr11; (rw [nums_length, macF_len]; kernel_rfl); (rw [nums_length, macF_len]; decide); exact nums_one _ _; intro w12 hr12 hw12; rw [laid_all _ _ (by rw [nums_length, macF_len]; rfl)] at hr12))
  refine bodyPost_ret (ret_row rfl _ _ _ (nums .u8 (macF key text)) 26 _ rfl hr12 Tryd.underlying26 rfl (by rw [nums_length, macF_len]; kernel_rfl)) rfl ⟨rfl, Wrote.below hB11 hw12 (Nat.le_refl _)⟩
end Go.Proofs.YtjmoaalchefdnaaDoor
