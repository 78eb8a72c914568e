/- What mac.block, mac.Sum and mac.Same answer. Condition: the table of layer 2 reads as its text lays it; lengths below 2^38. What mac.Same, mac.Check and mac.Key answer, and the reference's padded, with, Sum and Key (inquestref03). Condition: the table of layer 2 reads as its text lays it; lengths below 2^38. What mac.Check and mac.Key answer, and the reference's padded, with, Sum and Key (inquestref03). Condition: the table of layer 2 reads as its text lays it; lengths below 2^38. What inquestref03.Sum and Key answer, and inquestlaw03.lives. Condition: the table of layer 2 reads as its text lays it; lengths below 2^38. -/
import Derived.Test.YtancldhincaphaaDoorGe
import Derived.Lib.ConvBytes
namespace Go.Proofs.YtancldhincaphaaDoor
set_option maxRecDepth 100000
section Mac
open Go.RowKit

/-- A key's block. -/
def kS (key : List Int) : List Int := if 64 < key.length then sumF key else key
def k64 (key : List Int) : List Int := kS key ++ List.replicate (64 - (kS key).length) 0
theorem kS_len (key : List Int) : (kS key).length ≤ 64 := by
  unfold kS; split
  · rw [sumF_len]; omega
  · omega
theorem k64_len (key : List Int) : (k64 key).length = 64 := by
  have := kS_len key
  simp [k64]; omega
/-- Each byte exclusive-ored. -/
def xorL (l : List Int) (x : Int) : List Int := l.map fun y => bits .xor .u8 y x
theorem xorL_len (l : List Int) (x : Int) : (xorL l x).length = l.length := by simp [xorL]
/-- The first so many exclusive-ored. -/
def xorTo (l : List Int) (x : Int) (k : Nat) : List Int := xorL (l.take k) x ++ l.drop k
theorem xorTo_len (l : List Int) (x : Int) (k : Nat) : (xorTo l x k).length = l.length := by simp [xorTo, xorL]; omega
theorem xorTo_all (l : List Int) (x : Int) : xorTo l x l.length = xorL l x := by simp [xorTo]
theorem xorTo_at (l : List Int) (x : Int) (k : Nat) (h : k < l.length) : ga (xorTo l x k) k = ga l k := by
  have e : (xorL (l.take k) x).length = k := by simp [xorL]; omega
  unfold ga xorTo
  rw [List.getD_eq_getElem?_getD, List.getD_eq_getElem?_getD, List.getElem?_append_right (by omega), e, Nat.sub_self, List.getElem?_drop, Nat.add_zero]
theorem xorTo_set (l : List Int) (x : Int) (k : Nat) (h : k < l.length) : (xorTo l x k).set k (bits .xor .u8 (ga l k) x) = xorTo l x (k + 1) := by
  have e : (xorL (l.take k) x).length = k := by simp [xorL]; omega
  have e1 : l.take (k + 1) = l.take k ++ [ga l k] := by
    rw [List.take_add_one, List.getElem?_eq_getElem h]; simp [ga, h]
  have e2 : l.drop k = ga l k :: l.drop (k + 1) := by
    rw [List.drop_eq_getElem_cons h]; congr 1; simp [ga, h]
  unfold xorTo
  rw [e1, e2, List.set_append_right _ _ (by omega), e, Nat.sub_self]
  simp [xorL]

/-- copy of nothing. -/
theorem st_copyNone {P : Program} {ops : Array Oper} {Q : Exit → Act → World → Prop} {rest : List Oper} {a : Act} {w : World} {d' : Option Tmp} {tt dT sT elem : TypeId} {d s : Operand} {pos : String} {after : Array Edge} {dp sp : Option Addr} {dLen dCap sCap : Nat}
    (hu : P.underlying dT = some (.slice elem)) (hsz : (P.info? elem).map (·.size) = some 1) (hd : a.eval d = .slice dp dLen dCap) (hs : a.eval s = .slice sp 0 sCap)
    (h : wpList P ops Q rest (a.put d' (goInt 0)) w) : wpList P ops Q (⟨d', .call ⟨.builtin .copy, #[d, s], #[dT, sT]⟩, tt, pos, after, none⟩ :: rest) a w :=
  wpList_copy_nothing rfl d s dT sT rfl elem hu hsz dp sp dLen dCap 0 sCap hd hs (by simp) h
theorem laid_front (ks : List Int) (n : Nat) (_h : ks.length ≤ n) : laid (nums .u8 (List.replicate n 0)) 0 (nums .u8 ks) = nums .u8 (ks ++ List.replicate (n - ks.length) 0) := by
  simp [laid, nums]

set_option maxRecDepth 100000 in
set_option maxHeartbeats 4000000 in
theorem macblock_any (w : World) (key : List Int) (A : Option Addr) (c : Nat) (hr : Rd w A (nums .u8 key)) (hc : key.length ≤ c) (hA : A = none → c = 0) (hl : key.length ≤ 274877906944) (hk : KV w) (x : Int) :
    Calls Tryd.prog 70 #[.slice A key.length c, .int .u8 x] w (Gives (xorL (k64 key) x) w) := by
  obtain ⟨i0, hi, hz0, hz1, hz2⟩ := info_parts u8info
  have hmk := fun w => run_make_num (w := w) Tryd.underlying22 hi hz0 hz1 (by omega) .i64 64 (by omega) (by omega)
  clear hi hz0 hz1 hz2
  have HR := Lib.hid hr
  have HK := Lib.hid hk
  have HA := Lib.hid hA
  have HC := Lib.hid hc
  clear hr hk hA hc
  obtain ⟨ks, hks⟩ : ∃ ks, ks = kS key := ⟨_, rfl⟩
  have hksl : ks.length ≤ 64 := by rw [hks]; exact kS_len _
  have hk64 : k64 key = ks ++ List.replicate (64 - ks.length) 0 := by rw [hks]; rfl
  have HK64 := Lib.hid hk64
  clear hk64
  have hX : (64 < key.length ∧ ks = sumF key) ∨ (key.length ≤ 64 ∧ ks = key) := by
    rw [hks]; unfold kS
    split
    · rename_i h; exact .inl ⟨h, rfl⟩
    · rename_i h; exact .inr ⟨by omega, rfl⟩
  clear hks
  rcases hX with ⟨h64, he⟩ | ⟨h64, he⟩
  · have HE := Lib.hid he
    have hk32 : ks.length = 32 := by rw [he, sumF_len]
    have HL := Lib.hid hk32
    clear he hk32
    go_enter Tryd.func70, Tryd.ntmps70
    go_wp2_with (first
      | (go_at_call 72; refine (sum_any w key A c HR.out HC.out HA.out (by omega) HK.out).mono ?_; rintro e w1 ⟨rfl, hb1⟩; rw [← HE.out])
      | (apply st_storeW (off := 0) (vs := nums .u8 ks) (cs := nums .u8 (List.replicate 32 0)) (T := 24); rfl; rfl; exact Blk.new' _ _ _ _ _ rfl rfl; (rw [nums_length, HL.out]; kernel_rfl); (rw [nums_length, HL.out]; decide); exact nums_one _ _; intro w2 hb2 hw2; rw [laid_all _ _ (by rw [nums_length, HL.out]; rfl)] at hb2)
      | (apply st_allArr; exact Tryd.underlying24; kernel_rfl; rfl)
      | (apply st_copyW (m := 32) (cs := nums .u8 ks) (cur := nums .u8 (List.replicate 64 0)) (T := 5); exact Tryd.underlying22; kernel_rfl; rfl; rfl; exact Blk.new' w2 _ _ _ _ rfl rfl; (rw [nums_length, HL.out]); rfl; (intro j v hv; rw [Nat.zero_add, (hb2.alloc _).cell]; exact hv); decide; exact nums_one _ _; intro w3 hb3 hw3; rw [laid_front _ _ hksl, ← HK64.out] at hb3))
    have hB3 : Below w.heap.size w w3 := Wrote.below ((Wrote.below (hb1.alloc hb1.size _) hw2 hb1.size).alloc (by rw [hw2.size]; simp; have := hb1.size; omega) _) hw3 (by rw [hw2.size]; simp; have := hb1.size; omega)
    have hge : w.heap.size ≤ w2.heap.size := by rw [hw2.size]; simp; have := hb1.size; omega
    clear hw2 hw3 hb2 hb1 hmk
    have hk64l := k64_len key
    obtain ⟨l, hl64⟩ : ∃ l, l = k64 key := ⟨_, rfl⟩
    rw [← hl64] at hb3 hk64l
    have HL64 := Lib.hid hl64
    have HLL := Lib.hid hk64l
    clear hl64 hk64l
    go_loopw [7, 20] (fun _ i wr => ∃ k : Nat, i = .int .i64 k ∧ k ≤ 64 ∧ Below w.heap.size w wr ∧ Blk wr w2.heap.size (nums .u8 (xorTo l x k)) 5) (fun _ i _ => 64 - (intOf i).toNat)
    case atStart => exact ⟨0, rfl, by omega, hB3, hb3⟩
    case round =>
      clear hB3 hb3
      obtain ⟨k, rfl, hk, hB, hb⟩ := hrel
      by_cases hlt : k < 64
      · have hxl := xorTo_len l x k
        have cb := hb.num k (by rw [hxl, HLL.out]; exact hlt)
        have fb := hb.frozen k
        rw [xorTo_at l x k (by rw [HLL.out]; exact hlt)] at cb
        have hset := xorTo_set l x k (by rw [HLL.out]; exact hlt)
        obtain ⟨y, hy⟩ : ∃ y, y = ga l k := ⟨_, rfl⟩
        rw [← hy] at cb hset
        have HSET := Lib.hid hset
        clear hset hy hxl
        go_wp2
        go_roundw
        case rel =>
          refine ⟨k + 1, by go_num, by omega, hB.setCell (by first | (simp; done) | (simp; omega) | omega) _, ?_⟩
          rw [← HSET.out]; exact hb.setNum k _
        case measure => simp [intOf]; omega
      · have e : k = 64 := by omega
        have e2 : xorTo l x 64 = xorL l x := by rw [← HLL.out, xorTo_all]
        rw [e, e2] at hb
        clear e e2
        have h64l : (xorL l x).length = 64 := by rw [xorL_len, HLL.out]
        go_wp2
        go_ret
        rw [← HL64.out]
        have ho := Own.ofBlk (base := w.heap.size) hb hge (by rw [h64l]; decide)
        rw [h64l] at ho
        exact ⟨_, rfl, hB, ho⟩
  · subst he
    by_cases h0 : ks.length = 0
    · have hnil : ks = [] := List.eq_nil_of_length_eq_zero h0
      have HNIL := Lib.hid hnil
      have HL := Lib.hid h0
      clear hnil
      rw [h0]
      clear h0
      go_enter Tryd.func70, Tryd.ntmps70
      go_wp2_with (apply st_copyNone; exact Tryd.underlying22; kernel_rfl; rfl; rfl)
      refine named_world ?_
      intro w3 hw3
      have hb3 : Blk w3 w.heap.size (nums .u8 (k64 ks)) 5 := by rw [hw3, HK64.out, HNIL.out]; exact Blk.new' _ _ _ _ _ rfl rfl
      have hB3 : Below w.heap.size w w3 := by rw [hw3]; exact (Below.refl _ _).alloc (Nat.le_refl _) _
      clear hw3 hmk
      have hk64l := k64_len ks
      obtain ⟨l, hl64⟩ : ∃ l, l = k64 ks := ⟨_, rfl⟩
      rw [← hl64] at hb3 hk64l
      have HL64 := Lib.hid hl64
      have HLL := Lib.hid hk64l
      clear hl64 hk64l
      go_loopw [7, 20] (fun _ i wr => ∃ k : Nat, i = .int .i64 k ∧ k ≤ 64 ∧ Below w.heap.size w wr ∧ Blk wr w.heap.size (nums .u8 (xorTo l x k)) 5) (fun _ i _ => 64 - (intOf i).toNat)
      case atStart => exact ⟨0, rfl, by omega, hB3, hb3⟩
      case round =>
        clear hB3 hb3
        obtain ⟨k, rfl, hk, hB, hb⟩ := hrel
        by_cases hlt : k < 64
        · have hxl := xorTo_len l x k
          have cb := hb.num k (by rw [hxl, HLL.out]; exact hlt)
          have fb := hb.frozen k
          rw [xorTo_at l x k (by rw [HLL.out]; exact hlt)] at cb
          have hset := xorTo_set l x k (by rw [HLL.out]; exact hlt)
          obtain ⟨y, hy⟩ : ∃ y, y = ga l k := ⟨_, rfl⟩
          rw [← hy] at cb hset
          have HSET := Lib.hid hset
          clear hset hy hxl
          go_wp2
          go_roundw
          case rel =>
            refine ⟨k + 1, by go_num, by omega, hB.setCell (by first | (simp; done) | (simp; omega) | omega) _, ?_⟩
            rw [← HSET.out]; exact hb.setNum k _
          case measure => simp [intOf]; omega
        · have e : k = 64 := by omega
          have e2 : xorTo l x 64 = xorL l x := by rw [← HLL.out, xorTo_all]
          rw [e, e2] at hb
          clear e e2
          have h64l : (xorL l x).length = 64 := by rw [xorL_len, HLL.out]
          go_wp2
          go_ret
          rw [← HL64.out]
          have ho := Own.ofBlk (base := w.heap.size) hb (Nat.le_refl _) (by rw [h64l]; decide)
          rw [h64l] at ho
          exact ⟨_, rfl, hB, ho⟩
    · obtain ⟨g2, o2, rfl, hsrc⟩ := HR.out.get (by rw [nums_length]; omega)
      have hg2 : g2 < w.heap.size := World.block_lt_of_cell? (h := hsrc 0 _ (nums_at .u8 ks 0 (by omega)))
      have hsrc2 : ∀ j v, (nums .u8 ks)[j]? = some v → (w.alloc (.cells (nums .u8 (List.replicate 64 0)).toArray 5)).cell? ⟨g2, o2 + j, none⟩ = some v := fun j v hv => by
        rw [((Below.refl _ _).alloc (Nat.le_refl _) _).cell (p := ⟨g2, o2 + j, none⟩) hg2]; exact hsrc j v hv
      have HSRC := Lib.hid hsrc2
      clear hsrc hsrc2
      go_enter Tryd.func70, Tryd.ntmps70
      go_wp2_with (apply st_copyW (m := ks.length) (cs := nums .u8 ks) (cur := nums .u8 (List.replicate 64 0)) (T := 5); exact Tryd.underlying22; kernel_rfl; rfl; rfl; exact Blk.new' w _ _ _ _ rfl rfl; (rw [nums_length]); (have h4 : ks.length ≤ 64 := (by omega); exact (Nat.min_eq_left h4).symm); exact HSRC.out; (rw [nums_length, List.length_replicate]; omega); exact nums_one _ _; intro w3 hb3 hw3; rw [laid_front _ _ hksl, ← HK64.out] at hb3)
      have hB3 : Below w.heap.size w w3 := Wrote.below ((Below.refl _ _).alloc (Nat.le_refl _) _) hw3 (Nat.le_refl _)
      clear hw3 hmk
      have hk64l := k64_len ks
      obtain ⟨l, hl64⟩ : ∃ l, l = k64 ks := ⟨_, rfl⟩
      rw [← hl64] at hb3 hk64l
      have HL64 := Lib.hid hl64
      have HLL := Lib.hid hk64l
      clear hl64 hk64l
      go_loopw [7, 20] (fun _ i wr => ∃ k : Nat, i = .int .i64 k ∧ k ≤ 64 ∧ Below w.heap.size w wr ∧ Blk wr w.heap.size (nums .u8 (xorTo l x k)) 5) (fun _ i _ => 64 - (intOf i).toNat)
      case atStart => exact ⟨0, rfl, by omega, hB3, hb3⟩
      case round =>
        clear hB3 hb3
        obtain ⟨k, rfl, hk, hB, hb⟩ := hrel
        by_cases hlt : k < 64
        · have hxl := xorTo_len l x k
          have cb := hb.num k (by rw [hxl, HLL.out]; exact hlt)
          have fb := hb.frozen k
          rw [xorTo_at l x k (by rw [HLL.out]; exact hlt)] at cb
          have hset := xorTo_set l x k (by rw [HLL.out]; exact hlt)
          obtain ⟨y, hy⟩ : ∃ y, y = ga l k := ⟨_, rfl⟩
          rw [← hy] at cb hset
          have HSET := Lib.hid hset
          clear hset hy hxl
          go_wp2
          go_roundw
          case rel =>
            refine ⟨k + 1, by go_num, by omega, hB.setCell (by first | (simp; done) | (simp; omega) | omega) _, ?_⟩
            rw [← HSET.out]; exact hb.setNum k _
          case measure => simp [intOf]; omega
        · have e : k = 64 := by omega
          have e2 : xorTo l x 64 = xorL l x := by rw [← HLL.out, xorTo_all]
          rw [e, e2] at hb
          clear e e2
          have h64l : (xorL l x).length = 64 := by rw [xorL_len, HLL.out]
          go_wp2
          go_ret
          rw [← HL64.out]
          have ho := Own.ofBlk (base := w.heap.size) hb (Nat.le_refl _) (by rw [h64l]; decide)
          rw [h64l] at ho
          exact ⟨_, rfl, hB, ho⟩

/-- The sum of a text by a key. -/
def inF (key text : List Int) : List Int := sumF (xorL (k64 key) 54 ++ text)
def macF (key text : List Int) : List Int := sumF (xorL (k64 key) 92 ++ inF key text)
theorem inF_len (key text : List Int) : (inF key text).length = 32 := sumF_len _
theorem macF_len (key text : List Int) : (macF key text).length = 32 := sumF_len _

set_option maxRecDepth 100000 in
set_option maxHeartbeats 4000000 in
theorem mac_any (w : World) (key : List Int) (A : Option Addr) (c : Nat) (hr : Rd w A (nums .u8 key)) (hc : key.length ≤ c) (hA : A = none → c = 0) (hl : key.length ≤ 274877906944)
    (text : List Int) (B : Option Addr) (d : Nat) (hr2 : Rd w B (nums .u8 text)) (hd : text.length ≤ d) (hB : B = none → d = 0) (hl2 : text.length ≤ 274877906944) (hk : KV w) :
    Calls Tryd.prog 42 #[.slice A key.length c, .slice B text.length d] w fun e w' => e = .returned (.agg (nums .u8 (macF key text)).toArray) ∧ Below w.heap.size w w' := by
  have HR := Lib.hid hr
  have HK := Lib.hid hk
  have HA := Lib.hid hA
  have HC := Lib.hid hc
  have HR2 := Lib.hid hr2
  have HB := Lib.hid hB
  have HD := Lib.hid hd
  have hb54 : (xorL (k64 key) 54).length = 64 := by rw [xorL_len, k64_len]
  have hb92 : (xorL (k64 key) 92).length = 64 := by rw [xorL_len, k64_len]
  obtain ⟨p54, hp54⟩ : ∃ l, l = xorL (k64 key) 54 := ⟨_, rfl⟩
  obtain ⟨p92, hp92⟩ : ∃ l, l = xorL (k64 key) 92 := ⟨_, rfl⟩
  have hin : inF key text = sumF (p54 ++ text) := by rw [hp54]; rfl
  have hmac : macF key text = sumF (p92 ++ inF key text) := by rw [hp92]; rfl
  have hinl := inF_len key text
  obtain ⟨s1, hs1⟩ : ∃ s, s = inF key text := ⟨_, rfl⟩
  rw [← hp54] at hb54
  rw [← hp92] at hb92
  rw [← hs1] at hin hmac hinl
  have H54 := Lib.hid hp54
  have H92 := Lib.hid hp92
  have HL54 := Lib.hid hb54
  have HL92 := Lib.hid hb92
  have HIN := Lib.hid hin
  have HMAC := Lib.hid hmac
  have HINL := Lib.hid hinl
  clear hr hk hA hc hr2 hB hd hb54 hb92 hp54 hp92 hin hmac hinl hs1
  have hB0 : Below w.heap.size w (w.alloc (.cells (nums .u8 (List.replicate 32 0)).toArray 24)) := (Below.refl _ _).alloc (Nat.le_refl _) _
  have hr0 : Blk (w.alloc (.cells (nums .u8 (List.replicate 32 0)).toArray 24)) w.heap.size (nums .u8 (List.replicate 32 0)) 24 := Blk.new' _ _ _ _ _ rfl rfl
  have hz0 : (w.alloc (.cells (nums .u8 (List.replicate 32 0)).toArray 24)).heap.size = w.heap.size + 1 := World.size_alloc _ _
  go_enter Tryd.func42, Tryd.ntmps42
  have tok1 : True := trivial
  go_wp2_with (first
    | (go_at_call 65; have _t := tok1; refine (new_any _).mono ?_; rintro e w1 ⟨g, rfl, hg1, hb1, hH1⟩; clear tok1 _t; rw [World.size_alloc] at hg1; have hB1 := hB0.trans (hb1.mono (by rw [World.size_alloc]; omega)); have hr1 := hr0.up hb1; have hz1 := hB1.size; have hgl1 := hH1.lt)
    | (go_at_call 70; ((with_reducible refine (macblock_any w1 key A c (HR.out.up hB1) HC.out HA.out hl (HK.out.below hB1 HK.out.lt) 54).mono ?_); rintro e w2 ⟨v2, rfl, hb2, ho2⟩; rw [← H54.out] at ho2; obtain ⟨A2, c2, rfl, h2, hA2, hR2, hx2⟩ := ho2.from; have hB2 := hB1.trans (hb2.mono hB1.size); have hH2 := hH1.up hb2; have hr2 := hr1.up hb2; have hz2 := hb2.size))
    | (go_at_call 66; ((with_reducible refine (add_any w2 g [] p54 A2 c2 hH2 hR2 h2 hA2 (fun _ a ha => (by have := hx2 a ha; omega)) (by rw [HL54.out]; simp) (HK.out.below hB2 HK.out.lt)).mono ?_); rintro e w3 ⟨rfl, hBut3, hH3⟩; rw [List.nil_append] at hH3; have hB3 := hB2.trans (hBut3.below' (by omega) (by omega)); have hr3 := hr2.butFar hBut3 hr2.lt (by omega); have hz3 := hBut3.size))
    | (go_at_call 66; ((with_reducible refine (add_any w3 g p54 text B d hH3 (HR2.out.up hB3) HD.out HB.out (fun hp a ha => (by have := HR2.out.lt (by rw [nums_length]; exact hp) a ha; omega)) (by rw [HL54.out]; omega) (HK.out.below hB3 HK.out.lt)).mono ?_); rintro e w4 ⟨rfl, hBut4, hH4⟩; have hB4 := hB3.trans (hBut4.below' (by omega) (by omega)); have hr4 := hr3.butFar hBut4 hr3.lt (by omega); have hz4 := hBut4.size))
    | (go_at_call 68; ((with_reducible refine (hsum_any w4 g (p54 ++ text) hH4 (by rw [List.length_append, HL54.out]; omega) (HK.out.below hB4 HK.out.lt)).mono ?_); rintro e w5 ⟨rfl, hb5⟩; rw [← HIN.out]; have hB5 := hB4.trans (hb5.mono hB4.size); have hr5 := hr4.up hb5; have hz5 := hb5.size))
    | (apply st_storeW (off := 0) (vs := nums .u8 s1) (cs := nums .u8 (List.replicate 32 0)) (T := 24); rfl; rfl; exact Blk.new' w5 _ _ _ _ rfl rfl; (rw [nums_length, HINL.out]; kernel_rfl); (rw [nums_length, HINL.out]; decide); exact nums_one _ _; intro w6 hi6 hw6; rw [laid_all _ _ (by rw [nums_length, HINL.out]; rfl)] at hi6; have hB6 := Wrote.below (hB5.alloc hB5.size _) hw6 hB5.size; have hr6 := hw6.blk (hr5.alloc _) (by omega); have hz6 := hw6.size; rw [World.size_alloc] at hz6)
    | (go_at_call 65; ((with_reducible refine (new_any w6).mono ?_); rintro e w7 ⟨g7, rfl, hg7, hb7, hH7⟩; have hB7 := hB6.trans (hb7.mono hB6.size); have hr7 := hr6.up hb7; have hi7 := hi6.up hb7; have hz7 := hb7.size; have hgl7 := hH7.lt))
    | (go_at_call 70; ((with_reducible refine (macblock_any w7 key A c (HR.out.up hB7) HC.out HA.out hl (HK.out.below hB7 HK.out.lt) 92).mono ?_); rintro e w8 ⟨v8, rfl, hb8, ho8⟩; rw [← H92.out] at ho8; obtain ⟨A8, c8, rfl, h8, hA8, hR8, hx8⟩ := ho8.from; have hB8 := hB7.trans (hb8.mono hB7.size); have hH8 := hH7.up hb8; have hr8 := hr7.up hb8; have hi8 := hi7.up hb8; have hz8 := hb8.size))
    | (go_at_call 66; ((with_reducible refine (add_any w8 g7 [] p92 A8 c8 hH8 hR8 h8 hA8 (fun _ a ha => (by have := hx8 a ha; omega)) (by rw [HL92.out]; simp) (HK.out.below hB8 HK.out.lt)).mono ?_); rintro e w9 ⟨rfl, hBut9, hH9⟩; rw [List.nil_append] at hH9; have hB9 := hB8.trans (hBut9.below' (by omega) (by omega)); have hr9 := hr8.butFar hBut9 hr8.lt (by omega); have hi9 := hi8.butFar hBut9 hi8.lt (by omega); have hz9 := hBut9.size))
    | (apply st_allArr; exact Tryd.underlying24; kernel_rfl; rfl)
    | (go_at_call 66; have hadd := add_any w9 g7 p92 s1 (some ⟨w5.heap.size, 0, none⟩) 32 hH9 (Rd.ofBlk hi9) (by rw [HINL.out]; exact Nat.le_refl _) (fun h => by cases h) (fun _ a ha => (by injection ha with ha; rw [← ha]; show w5.heap.size ≠ g7; omega)) (by rw [HL92.out, HINL.out]; omega) (HK.out.below hB9 HK.out.lt); rw [HINL.out] at hadd; ((with_reducible refine hadd.mono ?_); clear hadd; rintro e w10 ⟨rfl, hBut10, hH10⟩; have hB10 := hB9.trans (hBut10.below' (by omega) (by omega)); have hr10 := hr9.butFar hBut10 hr9.lt (by omega)))
    | (go_at_call 68; ((with_reducible refine (hsum_any w10 g7 (p92 ++ s1) hH10 (by rw [List.length_append, HL92.out, HINL.out]; decide) (HK.out.below hB10 HK.out.lt)).mono ?_); rintro e w11 ⟨rfl, hb11⟩; rw [← HMAC.out]; have hB11 := hB10.trans (hb11.mono hB10.size); have hr11 := hr10.up hb11))
    | (apply st_storeW (off := 0) (vs := nums .u8 (macF key text)) (cs := nums .u8 (List.replicate 32 0)) (T := 24); rfl; rfl; exact hr11; (rw [nums_length, macF_len]; kernel_rfl); (rw [nums_length, macF_len]; decide); exact nums_one _ _; intro w12 hr12 hw12; rw [laid_all _ _ (by rw [nums_length, macF_len]; rfl)] at hr12))
  refine bodyPost_ret (ret_row rfl _ _ _ (nums .u8 (macF key text)) 24 _ rfl hr12 Tryd.underlying24 rfl (by rw [nums_length, macF_len]; kernel_rfl)) rfl ⟨rfl, Wrote.below hB11 hw12 (Nat.le_refl _)⟩
end Mac
section MacS
open Go.RowKit

theorem bits_u8_range (op : BinOp) (a b : Int) : 0 ≤ bits op .u8 a b ∧ bits op .u8 a b < 256 := by
  unfold bits
  have : ∀ n : Int, IntKind.u8.wrap n = n % 256 := fun n => by simp [IntKind.wrap, IntKind.signed, IntKind.bits]
  rw [this]
  omega
theorem xorL_range (l : List Int) (x : Int) : U8 (xorL l x) := U8.of fun y hy => by
  obtain ⟨z, _, rfl⟩ := List.mem_map.1 hy
  exact bits_u8_range _ _ _
theorem ofInt8 (v : BitVec 8) : BitVec.ofInt 8 (v.toNat : Int) = v := by
  rw [BitVec.ofInt_natCast, BitVec.ofNat_toNat]; simp
theorem bits_u8 (op : BinOp) (x y : Int) : bits op .u8 x y = ((match op with
    | .and => BitVec.ofInt 8 x &&& BitVec.ofInt 8 y
    | .or => BitVec.ofInt 8 x ||| BitVec.ofInt 8 y
    | .xor => BitVec.ofInt 8 x ^^^ BitVec.ofInt 8 y
    | _ => BitVec.ofInt 8 x &&& ~~~BitVec.ofInt 8 y).toNat : Int) := by
  unfold bits
  have hw : ∀ v : BitVec 8, IntKind.u8.wrap (v.toNat : Int) = (v.toNat : Int) := fun v => by
    have := v.isLt
    simp [IntKind.wrap, IntKind.signed, IntKind.bits]; omega
  exact hw _
theorem ofInt8_inj (a b : Int) (ha : 0 ≤ a ∧ a < 256) (hb : 0 ≤ b ∧ b < 256) (h : BitVec.ofInt 8 a = BitVec.ofInt 8 b) : a = b := by
  have := congrArg BitVec.toNat h
  rw [BitVec.toNat_ofInt, BitVec.toNat_ofInt] at this
  omega
theorem or_xor_zero (z a b : Int) (hz : 0 ≤ z ∧ z < 256) (ha : 0 ≤ a ∧ a < 256) (hb : 0 ≤ b ∧ b < 256) : bits .or .u8 z (bits .xor .u8 a b) = 0 ↔ z = 0 ∧ a = b := by
  rw [bits_u8 .xor, bits_u8 .or]
  simp only [ofInt8]
  constructor
  · intro h
    have h0 : (BitVec.ofInt 8 z ||| (BitVec.ofInt 8 a ^^^ BitVec.ofInt 8 b)) = 0#8 := BitVec.eq_of_toNat_eq (by simpa using h)
    obtain ⟨h1, h2⟩ := BitVec.or_eq_zero_iff.1 h0
    exact ⟨ofInt8_inj z 0 hz (by omega) (by rw [h1]; rfl), ofInt8_inj a b ha hb (BitVec.xor_eq_zero_iff.1 h2)⟩
  · rintro ⟨rfl, rfl⟩
    simp

set_option maxRecDepth 100000 in
set_option maxHeartbeats 1000000 in
theorem macsame_any (w : World) (A B : Option Addr) (c d : Nat) (xs ys : List Int) (hA : Rd w A (nums .u8 xs)) (hB : Rd w B (nums .u8 ys)) (hy : ys.length ≤ 1099511627776) (ux : U8 xs) (uy : U8 ys) :
    Calls Tryd.prog 71 #[.slice A xs.length c, .slice B ys.length d] w fun e w' => e = .returned (.bool (decide (xs = ys))) ∧ Below w.heap.size w w' := by
  by_cases hl : xs.length = ys.length
  · have b1 : ((xs.length : Int) != (ys.length : Int)) = false := by simp [hl]
    rw [hl] at b1 ⊢
    have HL := Lib.hid hl
    have HUX := Lib.hid ux
    have HUY := Lib.hid uy
    clear hl ux uy
    go_enter Tryd.func71, Tryd.ntmps71
    go_wp2
    clear b1
    go_loopw [5, 6, 14] (fun v _ i wr => ∃ (k : Nat) (z : Int), i = .int .i64 k ∧ k ≤ ys.length ∧ v = .int .u8 z ∧ (0 ≤ z ∧ z < 256) ∧ Hid (z = 0 ↔ xs.take k = ys.take k) ∧ Below w.heap.size w wr) (fun _ _ i _ => ys.length - (intOf i).toNat)
    case atStart => exact ⟨0, 0, rfl, by omega, rfl, by omega, by show (0 : Int) = 0 ↔ xs.take 0 = ys.take 0; simp, Below.refl _ _⟩
    case round =>
      obtain ⟨k, z, rfl, hk, rfl, hz, HZ, hb⟩ := hrel
      by_cases hlt : k < ys.length
      · obtain ⟨g, o, rfl, hg⟩ := hA.get (by rw [nums_length, HL.out]; omega)
        obtain ⟨g2, o2, rfl, hg2⟩ := hB.get (by rw [nums_length]; omega)
        have l1 : g < w.heap.size := World.block_lt_of_cell? (h := hg k _ (nums_at .u8 xs k (by rw [HL.out]; exact hlt)))
        have l2 : g2 < w.heap.size := World.block_lt_of_cell? (h := hg2 k _ (nums_at .u8 ys k hlt))
        have c1 : wr.cell? ⟨g, o + k, none⟩ = some (.int .u8 (ga xs k)) := by
          rw [hb.cell (p := ⟨g, o + k, none⟩) l1]; exact hg k _ (nums_at .u8 xs k (by rw [HL.out]; exact hlt))
        have c2 : wr.cell? ⟨g2, o2 + k, none⟩ = some (.int .u8 (ga ys k)) := by
          rw [hb.cell (p := ⟨g2, o2 + k, none⟩) l2]; exact hg2 k _ (nums_at .u8 ys k hlt)
        have s1 : xs.take (k + 1) = xs.take k ++ [ga xs k] := by
          rw [List.take_add_one, List.getElem?_eq_getElem (by rw [HL.out]; exact hlt)]
          simp [ga, HL.out, hlt]
        have s2 : ys.take (k + 1) = ys.take k ++ [ga ys k] := by
          rw [List.take_add_one, List.getElem?_eq_getElem hlt]
          simp [ga, hlt]
        have hrel : bits .or .u8 z (bits .xor .u8 (ga xs k) (ga ys k)) = 0 ↔ xs.take (k + 1) = ys.take (k + 1) := by
          rw [or_xor_zero _ _ _ hz (HUX.out k) (HUY.out k), s1, s2, HZ.out]
          constructor
          · rintro ⟨h1, h2⟩; rw [h1, h2]
          · intro h
            have hlen : (xs.take k).length = (ys.take k).length := by rw [List.length_take, List.length_take, HL.out]
            obtain ⟨h1, h2⟩ := List.append_inj h hlen
            exact ⟨h1, by simpa using h2⟩
        have hzr := bits_u8_range .or z (bits .xor .u8 (ga xs k) (ga ys k))
        have HREL := Lib.hid hrel
        clear s1 s2 hg hg2 hrel
        go_wp2
        refine wp_region_C (Same [g, g2] wr) [] (by kernel_rfl) (by kernel_rfl) (by intro c a w h; first | (obtain ⟨_, h, _⟩ := h; cases h; done) | (obtain ⟨_, _, h, _⟩ := h; cases h; done) | (obtain ⟨_, _, _, h, _⟩ := h; cases h; done) | (obtain ⟨_, _, _, _, h, _⟩ := h; cases h; done) | (rcases h with ⟨_, ⟨_, _, _, _, h, _⟩ | ⟨_, _, _, _, h, _⟩⟩ <;> cases h; done)) (by intro a w h; first | (obtain ⟨h, _⟩ := h; cases h; done) | (obtain ⟨_, h, _⟩ := h; cases h; done) | (obtain ⟨_, _, h, _⟩ := h; cases h; done) | (obtain ⟨_, _, _, h, _⟩ := h; cases h; done) | (rcases h with ⟨_, _, _, _, h, _⟩ | ⟨_, _, _, _, h, _⟩ <;> cases h; done)) (Same.refl _ _) ?_
        repeat (refine wd_q (v := ?_) rfl rfl rfl rfl rfl rfl (fun w' hw' K hK => ?_) ?_; rotate_left; (have e1 := hw'.cell g (by simp); have e2 := hw'.cell g2 (by simp); go_wp2; exact rfl); simp only [Act.put, List.setIfInBounds_toArray, List.set_cons_zero, List.set_cons_succ])
        refine wd_nil ?_
        go_wp2
        go_roundw
        case rel => exact ⟨k + 1, _, by go_num, by omega, rfl, hzr, HREL, hb.drew⟩
        case measure => simp [intOf]; omega
      · have e : k = ys.length := by omega
        have hz2 : z = 0 ↔ xs = ys := by
          have := HZ.out
          rw [e, List.take_length, ← HL.out, List.take_length] at this
          exact this
        have hd : decide (xs = ys) = decide (z = 0) := by rw [decide_eq_decide]; exact hz2.symm
        have hbz : (z == 0) = decide (z = 0) := by rw [Bool.eq_iff_iff]; simp
        have HD := Lib.hid hd
        have HBZ := Lib.hid hbz
        clear hz2 hd hbz e
        go_wp2
        go_ret
        exact ⟨by rw [HD.out, ← HBZ.out]; rfl, hb⟩
  · have b1 : ((xs.length : Int) != (ys.length : Int)) = true := by simp; omega
    have hne : decide (xs = ys) = false := by
      rw [decide_eq_false_iff_not]
      rintro rfl
      exact hl rfl
    go_enter Tryd.func71, Tryd.ntmps71
    go_wp2
    go_ret
    exact ⟨by rw [hne]; rfl, Below.refl _ _⟩
end MacS
section MacK
open Go.RowKit

theorem bytesF_range (l : List Int) : U8 (bytesF l) := by
  induction l with
  | nil => exact U8.nil
  | cons x l ih => exact (putF_range x 4).append ih
theorem sumF_range (l : List Int) : U8 (sumF l) := bytesF_range _
/-- A text's bytes. -/
def strL (s : ByteArray) : List Int := s.data.toList.map fun b => (b.toNat : Int)
theorem strL_len (s : ByteArray) : (strL s).length = s.size := by unfold strL; rw [List.length_map, Array.length_toList]; rfl
theorem strL_range (s : ByteArray) : U8 (strL s) := U8.of fun x hx => by
  obtain ⟨b, _, rfl⟩ := List.mem_map.1 hx
  have := b.toNat_lt
  omega
/-- The bytes of a text in memory of their own: the world behind the conversion. -/
theorem bytes_world {w : World} {s : ByteArray} : Below w.heap.size w (Lib.bytesWorld w 5 s) ∧ Rd (Lib.bytesWorld w 5 s) (some ⟨w.heap.size, 0, none⟩) (nums .u8 (strL s)) := by
  refine ⟨⟨rfl, rfl, rfl, ?_, fun k hk => Lib.bytesWorld_at_old w _ s k hk⟩, .inr ⟨_, _, rfl, fun j v hv => ?_⟩⟩
  · rw [Lib.bytesWorld_size]; omega
  · have hj : j < s.size := by
      have := (List.getElem?_eq_some_iff.1 hv).1
      rwa [nums_length, strL_len] at this
    rw [Nat.zero_add, Lib.bytesWorld_cell w _ s j hj, ← hv, nums_at _ _ _ (by rw [strL_len]; exact hj)]
    congr 2
    unfold strL
    rw [List.getD_eq_getElem?_getD, List.getD_eq_getElem?_getD, List.getElem?_map]
    cases s.data.toList[j]? <;> rfl
/-- []byte(s). -/
theorem st_bytes {ops : Array Oper} {Q : Exit → Act → World → Prop} {rest : List Oper} {a : Act} {w : World} {d' : Option Tmp} {tt src : TypeId} {x : Operand} {pos : String} {after : Array Edge} {s : ByteArray} {u : TypeDesc}
    (hs : Tryd.prog.underlying src = some u) (hx : a.eval x = .string s)
    (h : ∀ w' c, Below w.heap.size w w' → Rd w' (some ⟨w.heap.size, 0, none⟩) (nums .u8 (strL s)) → s.size ≤ c → wpList Tryd.prog ops Q rest (a.put d' (.slice (some ⟨w.heap.size, 0, none⟩) s.size c)) w') :
    wpList Tryd.prog ops Q (⟨d', .convert src 22 x, tt, pos, after, none⟩ :: rest) a w :=
  wpList_plain rfl fun K hK => by
    have hrun := Lib.run_convert_string_bytes (P := Tryd.prog) w src 22 5 s hs Tryd.underlying22 Tryd.underlying5
    unfold Oper.wp execOp
    simp only [Sem.run_bind, hx, hrun]
    exact hK _ _ (h _ _ bytes_world.1 bytes_world.2 (grownCap_ge _ _ _ _))

set_option maxRecDepth 100000 in
set_option maxHeartbeats 2000000 in
theorem maccheck_any (w : World) (key : List Int) (A : Option Addr) (c : Nat) (hr : Rd w A (nums .u8 key)) (hc : key.length ≤ c) (hA : A = none → c = 0) (hl : key.length ≤ 274877906944)
    (text : List Int) (B : Option Addr) (d : Nat) (hr2 : Rd w B (nums .u8 text)) (hd : text.length ≤ d) (hB : B = none → d = 0) (hl2 : text.length ≤ 274877906944)
    (s : List Int) (D : Option Addr) (e : Nat) (hr3 : Rd w D (nums .u8 s)) (hl3 : s.length ≤ 274877906944) (us : U8 s) (hk : KV w) :
    Calls Tryd.prog 43 #[.slice A key.length c, .slice B text.length d, .slice D s.length e] w fun e w' => e = .returned (.bool (decide (macF key text = s))) ∧ Below w.heap.size w w' := by
  have hmu : U8 (macF key text) := sumF_range _
  have HR3 := Lib.hid hr3
  have HU := Lib.hid us
  have HMU := Lib.hid hmu
  have hmac := mac_any w key A c hr hc hA hl text B d hr2 hd hB hl2 hk
  obtain ⟨m, hm⟩ : ∃ m, m = macF key text := ⟨_, rfl⟩
  have hml : m.length = 32 := by rw [hm, macF_len]
  rw [← hm] at hmac HMU ⊢
  have HMAC := Lib.hid hmac
  have HML := Lib.hid hml
  clear hr3 us hmu hmac hm hml hr hc hA hl hr2 hd hB hl2 hk
  go_enter Tryd.func43, Tryd.ntmps43
  go_wp2_with (first
    | (go_at_call 42; refine HMAC.out.mono ?_; rintro e w1 ⟨rfl, hb1⟩)
    | (apply st_storeW (off := 0) (vs := nums .u8 m) (cs := nums .u8 (List.replicate 32 0)) (T := 24); rfl; rfl; exact Blk.new' w1 _ _ _ _ rfl rfl; (rw [nums_length, HML.out]; kernel_rfl); (rw [nums_length, HML.out]; decide); exact nums_one _ _; intro w2 hb2 hw2; rw [laid_all _ _ (by rw [nums_length, HML.out]; rfl)] at hb2; have hB2 := Wrote.below (hb1.alloc hb1.size _) hw2 hb1.size)
    | (apply st_allArr; exact Tryd.underlying24; kernel_rfl; rfl)
    | (go_at_call 71; have hcall := macsame_any w2 (some ⟨w1.heap.size, 0, none⟩) D 32 e m s (Rd.ofBlk hb2) (HR3.out.up hB2) (by omega) HMU.out HU.out; rw [HML.out] at hcall; refine hcall.mono ?_; clear hcall; rintro e w3 ⟨rfl, hb3⟩))
  go_ret
  exact ⟨rfl, hB2.trans (hb3.mono hB2.size)⟩

/-- It answers a row of its own: an array, cut whole. -/
def GivesArr (bs : List Int) (T : TypeId) (w : World) (e : Ending) (w' : World) : Prop := ∃ g, e = .returned (.slice (some ⟨g, 0, none⟩) bs.length bs.length) ∧ w.heap.size ≤ g ∧ Below w.heap.size w w' ∧ Blk w' g (nums .u8 bs) T

set_option maxRecDepth 100000 in
set_option maxHeartbeats 2000000 in
theorem refwith_any (w : World) (bs : List Int) (A : Option Addr) (c : Nat) (hr : Rd w A (nums .u8 bs)) (hl : bs.length ≤ 274877906944) (x : Int) :
    Calls Tryd.prog 40 #[.slice A bs.length c, .int .u8 x] w (Gives (xorL bs x) w) := by
  have HR := Lib.hid hr
  clear hr
  go_enter Tryd.func40, Tryd.ntmps40
  go_wp2
  go_loopw [5, 6] (fun v i wr => ∃ k : Nat, i = .int .i64 k ∧ k ≤ bs.length ∧ Grows w (xorL (bs.take k) x) v wr) (fun _ i _ => bs.length - (intOf i).toNat)
  case atStart => exact ⟨0, rfl, by omega, Grows.nil _⟩
  case round =>
    obtain ⟨k, rfl, hk, hG⟩ := hrel
    by_cases hlt : k < bs.length
    · obtain ⟨g, o, rfl, hrd⟩ := HR.out.get (by rw [nums_length]; omega)
      have c1 := hrd k _ (nums_at .u8 bs k hlt)
      rw [← ga_eq] at c1
      have hg : g < w.heap.size := World.block_lt_of_cell? (h := c1)
      have c2 : wr.cell? ⟨g, o + k, none⟩ = some (.int .u8 (ga bs k)) := by rw [hG.1.cell (p := ⟨g, o + k, none⟩) hg]; exact c1
      have hst : xorL (bs.take k) x ++ [bits .xor .u8 (ga bs k) x] = xorL (bs.take (k + 1)) x := by
        have e1 : bs.take (k + 1) = bs.take k ++ [ga bs k] := by
          rw [List.take_add_one, List.getElem?_eq_getElem hlt]; simp [ga, hlt]
        rw [e1]; simp [xorL]
      have hln : (xorL (bs.take k) x).length ≤ 274877906944 := by rw [xorL_len, List.length_take]; omega
      have HST := Lib.hid hst
      clear hst c1 hrd
      go_wp2_with (apply st_grow (w0 := w) (xs := xorL (bs.take k) x) (ys := [bits .xor .u8 (ga bs k) x]); rfl; rfl; exact hG.alloc _; (intro h; cases h); exact Rd.ofBlk (Blk.new' _ _ _ 5 _ rfl rfl); (simp; omega); intro v2 w2 hG2)
      rw [HST.out] at hG2
      go_roundw
      case rel => exact ⟨k + 1, by go_num, by omega, hG2⟩
      case measure => simp [intOf]; omega
    · have e : k = bs.length := by omega
      rw [e, List.take_length] at hG
      clear e
      go_wp2
      go_ret
      exact hG.gives

set_option maxRecDepth 100000 in
set_option maxHeartbeats 4000000 in
theorem refpadded_any (w : World) (key : List Int) (A : Option Addr) (c : Nat) (hr : Rd w A (nums .u8 key)) (hA : A = none → c = 0) (hl : key.length ≤ 274877906944) (hu : U8 key) :
    Calls Tryd.prog 39 #[.slice A key.length c] w (Gives (k64 key) w) := by
  have HR := Lib.hid hr
  have HA := Lib.hid hA
  have HU := Lib.hid hu
  have hk64 : k64 key = kS key ++ List.replicate (64 - (kS key).length) 0 := rfl
  have hksl := kS_len key
  have hX : (64 < key.length ∧ kS key = sumF key) ∨ (key.length ≤ 64 ∧ kS key = key) := by
    unfold kS
    split
    · rename_i h; exact .inl ⟨h, rfl⟩
    · rename_i h; exact .inr ⟨by omega, rfl⟩
  obtain ⟨ks, hks⟩ : ∃ ks, ks = kS key := ⟨_, rfl⟩
  rw [← hks] at hk64 hksl hX
  have HK64 := Lib.hid hk64
  clear hr hA hu hks hk64
  rcases hX with ⟨h64, he⟩ | ⟨h64, he⟩
  · have hk32 : ks.length = 32 := by rw [he, sumF_len]
    have HE := Lib.hid he
    have HL := Lib.hid hk32
    clear he hk32
    go_enter Tryd.func39, Tryd.ntmps39
    have tok1 : True := trivial
    go_wp2_with (first
      | (go_at_call 28; have _t := tok1; refine (refcopy_any w A c key HA.out HR.out (by omega)).mono ?_; rintro e w1 ⟨v1, rfl, hb1, ho1⟩; clear tok1 _t; obtain ⟨A1, c1, rfl, h1, hA1, hR1, hx1⟩ := ho1.from)
      | (go_at_call 27; refine (refsum_any w1 key A1 c1 hR1 hA1 (by omega) HU.out).mono ?_; rintro e w2 ⟨rfl, hb2⟩; rw [← HE.out]; have hB2 := hb1.trans (hb2.mono hb1.size))
      | (apply st_storeW (off := 0) (vs := nums .u8 ks) (cs := nums .u8 (List.replicate 32 0)) (T := 24); rfl; rfl; exact Blk.new' w2 _ _ _ _ rfl rfl; (rw [nums_length, HL.out]; kernel_rfl); (rw [nums_length, HL.out]; decide); exact nums_one _ _; intro w3 hb3 hw3; rw [laid_all _ _ (by rw [nums_length, HL.out]; rfl)] at hb3; have hB3 := Wrote.below (hB2.alloc hB2.size _) hw3 hB2.size)
      | (apply st_allArr; exact Tryd.underlying24; kernel_rfl; rfl)
      | (go_at_call 28; have hcall := refcopy_any w3 (some ⟨w2.heap.size, 0, none⟩) 32 ks (fun h => by cases h) (Rd.ofBlk hb3) (by rw [HL.out]; decide); rw [HL.out] at hcall; refine hcall.mono ?_; clear hcall; rintro e w4 ⟨v4, rfl, hb4, ho4⟩))
    have hG : Grows w ks v4 w4 := ⟨hB3.trans (hb4.mono hB3.size), ho4.mono hB3.size⟩
    have hlen : ks.length ≤ 64 := hksl
    clear hB3 hb4 ho4 hb3 hw3 hB2 hb2 ho1 hR1 hx1 hb1
    go_loopw [3] (fun v wr => ∃ (k : Nat) (A : Option Addr) (c : Nat), v = .slice A (ks.length + k) c ∧ ks.length + k ≤ 64 ∧ Grows w (ks ++ List.replicate k 0) v wr) (fun v _ => 64 - lenV v)
    case atStart =>
      obtain ⟨A2, c2, e2, _⟩ := hG.2.from
      refine ⟨0, A2, c2, e2, hlen, ?_⟩
      simpa using hG
    case round =>
      clear hG
      obtain ⟨k, A2, c2, rfl, hk, hG⟩ := hrel
      by_cases hlt : ks.length + k < 64
      · go_wp2_with (apply st_grow (w0 := w) (xs := ks ++ List.replicate k 0) (ys := [0]); rfl; rfl; exact hG.alloc _; (intro h; cases h); exact Rd.ofBlk (Blk.new' _ _ _ 5 _ rfl rfl); (simp; omega); intro v2 w2 hG2)
        go_roundw
        case rel =>
          obtain ⟨A3, c3, rfl, h3, _, _, _⟩ := hG2.2.from
          refine ⟨k + 1, A3, c3, ?_, by omega, ?_⟩
          · congr 1; simp
          · have : (ks ++ List.replicate k 0 ++ [0] : List Int) = ks ++ List.replicate (k + 1) 0 := by
              rw [List.append_assoc, List.replicate_succ']
            rw [← this]; exact hG2
        case measure =>
          obtain ⟨A3, c3, rfl, h3, _, _, _⟩ := hG2.2.from
          simp [lenV]; omega
      · have e : k = 64 - ks.length := by omega
        have HE2 := Lib.hid e
        clear e
        go_wp2
        go_ret
        rw [HK64.out, ← HE2.out]
        exact hG.gives
  · subst he
    go_enter Tryd.func39, Tryd.ntmps39
    go_wp2_with (go_at_call 28; refine (refcopy_any w A c ks HA.out HR.out (by omega)).mono ?_; rintro e w4 ⟨v4, rfl, hb4, ho4⟩; obtain ⟨A4, c4, rfl, h4, _, _, _⟩ := ho4.from)
    have hG : Grows w ks (.slice A4 ks.length c4) w4 := ⟨hb4, ho4⟩
    have hlen : ks.length ≤ 64 := hksl
    clear hb4 ho4
    go_loopw [3] (fun v wr => ∃ (k : Nat) (A : Option Addr) (c : Nat), v = .slice A (ks.length + k) c ∧ ks.length + k ≤ 64 ∧ Grows w (ks ++ List.replicate k 0) v wr) (fun v _ => 64 - lenV v)
    case atStart =>
      obtain ⟨A2, c2, e2, _⟩ := hG.2.from
      refine ⟨0, A2, c2, e2, hlen, ?_⟩
      simpa using hG
    case round =>
      clear hG
      obtain ⟨k, A2, c2, rfl, hk, hG⟩ := hrel
      by_cases hlt : ks.length + k < 64
      · go_wp2_with (apply st_grow (w0 := w) (xs := ks ++ List.replicate k 0) (ys := [0]); rfl; rfl; exact hG.alloc _; (intro h; cases h); exact Rd.ofBlk (Blk.new' _ _ _ 5 _ rfl rfl); (simp; omega); intro v2 w2 hG2)
        go_roundw
        case rel =>
          obtain ⟨A3, c3, rfl, h3, _, _, _⟩ := hG2.2.from
          refine ⟨k + 1, A3, c3, ?_, by omega, ?_⟩
          · congr 1; simp
          · have : (ks ++ List.replicate k 0 ++ [0] : List Int) = ks ++ List.replicate (k + 1) 0 := by
              rw [List.append_assoc, List.replicate_succ']
            rw [← this]; exact hG2
        case measure =>
          obtain ⟨A3, c3, rfl, h3, _, _, _⟩ := hG2.2.from
          simp [lenV]; omega
      · have e : k = 64 - ks.length := by omega
        have HE2 := Lib.hid e
        clear e
        go_wp2
        go_ret
        rw [HK64.out, ← HE2.out]
        exact hG.gives
end MacK
section MacR
open Go.RowKit

set_option maxRecDepth 100000 in
set_option maxHeartbeats 4000000 in
theorem refmac_any (w : World) (key : List Int) (A : Option Addr) (c : Nat) (hr : Rd w A (nums .u8 key)) (hA : A = none → c = 0) (hl : key.length ≤ 274877906944) (hu : U8 key)
    (text : List Int) (B : Option Addr) (d : Nat) (hr2 : Rd w B (nums .u8 text)) (hB : B = none → d = 0) (hl2 : text.length ≤ 274877906944) (hu2 : U8 text) :
    Calls Tryd.prog 11 #[.slice A key.length c, .slice B text.length d] w fun e w' => e = .returned (.agg (nums .u8 (macF key text)).toArray) ∧ Below w.heap.size w w' := by
  have HR := Lib.hid hr
  have HA := Lib.hid hA
  have HU := Lib.hid hu
  have HR2 := Lib.hid hr2
  have HB := Lib.hid hB
  have HU2 := Lib.hid hu2
  have hkl := k64_len key
  have hin : inF key text = sumF (xorL (k64 key) 54 ++ text) := rfl
  have hmac : macF key text = sumF (xorL (k64 key) 92 ++ inF key text) := rfl
  have hinl := inF_len key text
  have hml := macF_len key text
  obtain ⟨ks, hks⟩ : ∃ ks, ks = k64 key := ⟨_, rfl⟩
  obtain ⟨s1, hs1⟩ : ∃ s, s = inF key text := ⟨_, rfl⟩
  obtain ⟨m, hm⟩ : ∃ m, m = macF key text := ⟨_, rfl⟩
  have hpad := refpadded_any (key := key) (A := A) (c := c) (hA := hA) (hl := hl) (hu := hu)
  rw [← hks] at hkl hin hmac hpad
  rw [← hs1] at hin hmac hinl
  rw [← hm] at hmac hml ⊢
  have hxl : (xorL ks 54).length = 64 := by rw [xorL_len, hkl]
  have hxl2 : (xorL ks 92).length = 64 := by rw [xorL_len, hkl]
  have hsu : U8 s1 := by rw [hs1]; exact sumF_range _
  have HPAD := Lib.hid hpad
  have HKL := Lib.hid hkl
  have HIN := Lib.hid hin
  have HMAC := Lib.hid hmac
  have HINL := Lib.hid hinl
  have HML := Lib.hid hml
  have HXL := Lib.hid hxl
  have HXL2 := Lib.hid hxl2
  have HSU := Lib.hid hsu
  obtain ⟨y1, hy1⟩ : ∃ y, xorL ks 54 ++ text = y := ⟨_, rfl⟩
  have hy1l : y1.length ≤ 274877907100 := by rw [← hy1, List.length_append, hxl]; omega
  have hy1u : U8 y1 := by rw [← hy1]; exact (xorL_range _ _).append hu2
  rw [hy1] at HIN
  have HY1 := Lib.hid hy1
  have HY1U := Lib.hid hy1u
  obtain ⟨y2, hy2⟩ : ∃ y, xorL ks 92 ++ s1 = y := ⟨_, rfl⟩
  have hy2l : y2.length ≤ 200 := by rw [← hy2, List.length_append, hxl2, hinl]; omega
  have hy2u : U8 y2 := by rw [← hy2]; exact (xorL_range _ _).append hsu
  rw [hy2] at HMAC
  have HY2 := Lib.hid hy2
  have HY2U := Lib.hid hy2u
  clear hr hA hu hr2 hB hu2 hkl hin hmac hinl hml hks hs1 hm hpad hxl hxl2 hsu hy1 hy1u hy2 hy2u
  have hB0 : Below w.heap.size w (w.alloc (.cells (nums .u8 (List.replicate 32 0)).toArray 24)) := (Below.refl _ _).alloc (Nat.le_refl _) _
  have hr0 : Blk (w.alloc (.cells (nums .u8 (List.replicate 32 0)).toArray 24)) w.heap.size (nums .u8 (List.replicate 32 0)) 24 := Blk.new' _ _ _ _ _ rfl rfl
  have hz0 : (w.alloc (.cells (nums .u8 (List.replicate 32 0)).toArray 24)).heap.size = w.heap.size + 1 := World.size_alloc _ _
  go_enter Tryd.func11, Tryd.ntmps11
  go_wp2_with (first
    | (go_at_call 39; refine (HPAD.out _ (HR.out.up hB0)).mono ?_; rintro e w1 ⟨v1, rfl, hb1, ho1⟩; obtain ⟨A1, c1, rfl, h1, hA1, hR1, hx1⟩ := ho1.from; have hB1 := hB0.trans (hb1.mono (by rw [World.size_alloc]; omega)); have hr1 := hr0.up hb1; have hz1 := hB1.size)
    | (go_at_call 40; refine (refwith_any w1 ks A1 c1 hR1 (by rw [HKL.out]; decide) 54).mono ?_; rintro e w2 ⟨v2, rfl, hb2, ho2⟩; have hG2 : Grows w1 (xorL ks 54) v2 w2 := ⟨hb2, ho2⟩; have hB2 := hB1.trans (hb2.mono hB1.size); clear hb2 ho2)
    | (apply st_grow (w0 := w1) (xs := xorL ks 54) (ys := text); rfl; rfl; exact hG2; exact HB.out; exact HR2.out.up hB2; (rw [HXL.out]; omega); intro v3 w3 hG3; rw [HY1.out] at hG3; obtain ⟨A3, c3, rfl, h3, hA3, hR3, hx3⟩ := hG3.2.from; have hB3 := hB1.trans (hG3.1.mono hB1.size); have hr3 := hr1.up hG3.1)
    | (go_at_call 27; refine (refsum_any w3 y1 A3 c3 hR3 hA3 (by omega) HY1U.out).mono ?_; rintro e w4 ⟨rfl, hb4⟩; rw [← HIN.out]; have hB4 := hB3.trans (hb4.mono hB3.size); have hr4 := hr3.up hb4; have hR1c := (hR1.up hG3.1).up hb4)
    | (apply st_storeW (off := 0) (vs := nums .u8 s1) (cs := nums .u8 (List.replicate 32 0)) (T := 24); rfl; rfl; exact Blk.new' w4 _ _ _ _ rfl rfl; (rw [nums_length, HINL.out]; kernel_rfl); (rw [nums_length, HINL.out]; decide); exact nums_one _ _; intro w5 hb5 hw5; rw [laid_all _ _ (by rw [nums_length, HINL.out]; rfl)] at hb5; have hB5 := Wrote.below (hB4.alloc hB4.size _) hw5 hB4.size; have hr5 := hw5.blk (hr4.alloc _) (by have := hr4.lt; omega); have hB45 : Below w4.heap.size w4 w5 := Wrote.below ((Below.refl _ _).alloc (Nat.le_refl _) _) hw5 (Nat.le_refl _); have hR1d := hR1c.up hB45))
  have hr5lt := hr5.lt
  have hb5lt := hb5.lt
  clear hw5 hB45 hR1c hr4 hB4 hb4 hr3 hB3 hG3 hR3 hA3 hx3 h3 hr1 hB1 hB2 hG2 hb1 ho1 hx1 hR1 hB0 hr0
  refine wp_region_C (Same [] w5) [1, 3, 4, 5] (by kernel_rfl) (by kernel_rfl) (by intro c a w h; first | (obtain ⟨_, h, _⟩ := h; cases h; done) | (obtain ⟨_, _, h, _⟩ := h; cases h; done) | (obtain ⟨_, _, _, h, _⟩ := h; cases h; done) | (obtain ⟨_, _, _, _, h, _⟩ := h; cases h; done) | (rcases h with ⟨_, ⟨_, _, _, _, h, _⟩ | ⟨_, _, _, _, h, _⟩⟩ <;> cases h; done)) (by intro a w h; first | (obtain ⟨h, _⟩ := h; cases h; done) | (obtain ⟨_, h, _⟩ := h; cases h; done) | (obtain ⟨_, _, h, _⟩ := h; cases h; done) | (obtain ⟨_, _, _, h, _⟩ := h; cases h; done) | (rcases h with ⟨_, _, _, _, h, _⟩ | ⟨_, _, _, _, h, _⟩ <;> cases h; done)) (Same.refl _ _) ?_
  repeat (refine wd_q (v := ?_) rfl rfl rfl rfl rfl rfl (fun w' hw' K hK => ?_) ?_; rotate_left; (skip; go_wp2; exact rfl); simp only [Act.put, List.setIfInBounds_toArray, List.set_cons_zero, List.set_cons_succ])
  refine wd_l rfl rfl (by intro a w h; first | (obtain ⟨h, _⟩ := h; cases h; done) | (obtain ⟨_, h, _⟩ := h; cases h; done) | (obtain ⟨_, _, h, _⟩ := h; cases h; done) | (obtain ⟨_, _, _, h, _⟩ := h; cases h; done) | (rcases h with ⟨_, _, _, _, h, _⟩ | ⟨_, _, _, _, h, _⟩ <;> cases h; done)) ?_
  go_wp2_with (go_at_call 40; refine (refwith_any w5.drew ks A1 c1 hR1d (by rw [HKL.out]; decide) 92).mono ?_; rintro e w6 ⟨v6, rfl, hb6, ho6⟩)
  have hG6 : Grows w5 (xorL ks 92) v6 w6 := ⟨⟨hb6.os, hb6.tape, hb6.output, hb6.size, hb6.block⟩, ho6⟩
  refine ⟨.inr (fun g hg => by cases hg), ?_⟩
  repeat (refine wd_w (v := ?_) rfl rfl rfl rfl rfl rfl (fun w' hw' K hK => ?_) ?_; rotate_left; (skip; go_wp2_with ((apply st_allArr; exact Tryd.underlying24; kernel_rfl; rfl)); exact rfl); simp only [Act.put, List.setIfInBounds_toArray, List.set_cons_zero, List.set_cons_succ])
  refine wd_l rfl rfl (by intro a w h; first | (obtain ⟨h, _⟩ := h; cases h; done) | (obtain ⟨_, h, _⟩ := h; cases h; done) | (obtain ⟨_, _, h, _⟩ := h; cases h; done) | (obtain ⟨_, _, _, h, _⟩ := h; cases h; done) | (rcases h with ⟨_, _, _, _, h, _⟩ | ⟨_, _, _, _, h, _⟩ <;> cases h; done)) ?_
  go_wp2_with (apply st_grow (w0 := w5) (xs := xorL ks 92) (ys := s1); rfl; (rw [HINL.out]; rfl); exact hG6; (intro h; cases h); exact Rd.ofBlk (hb5.up hG6.1); (rw [HXL2.out, HINL.out]; decide); intro v7 w7 hG7; rw [HY2.out] at hG7)
  obtain ⟨A7, c7, rfl, h7, hA7, hR7, hx7⟩ := hG7.2.from
  refine ⟨.inr (fun g hg => by cases hg), ?_⟩
  simp only [Act.put, List.setIfInBounds_toArray, List.set_cons_zero, List.set_cons_succ]
  refine wd_l rfl rfl (by intro a w h; first | (obtain ⟨h, _⟩ := h; cases h; done) | (obtain ⟨_, h, _⟩ := h; cases h; done) | (obtain ⟨_, _, h, _⟩ := h; cases h; done) | (obtain ⟨_, _, _, h, _⟩ := h; cases h; done) | (rcases h with ⟨_, _, _, _, h, _⟩ | ⟨_, _, _, _, h, _⟩ <;> cases h; done)) ?_
  go_wp2_with (go_at_call 27; refine (refsum_any w7 y2 A7 c7 hR7 hA7 (by omega) HY2U.out).mono ?_; rintro e w8 ⟨rfl, hb8⟩; rw [← HMAC.out])
  refine ⟨.inr (fun g hg => by cases hg), ?_⟩
  refine wd_last rfl (by kernel_rfl) rfl (by intro a w h; first | (obtain ⟨h, _⟩ := h; cases h; done) | (obtain ⟨_, h, _⟩ := h; cases h; done) | (obtain ⟨_, _, h, _⟩ := h; cases h; done) | (obtain ⟨_, _, _, h, _⟩ := h; cases h; done) | (rcases h with ⟨_, _, _, _, h, _⟩ | ⟨_, _, _, _, h, _⟩ <;> cases h; done)) ?_
  have hr8 := (hr5.up hG7.1).up hb8
  have hB8 := (hB5.trans (hG7.1.mono hB5.size)).trans (hb8.mono (by have := hB5.size; have := hG7.1.size; omega))
  go_wp2_with (apply st_storeW (off := 0) (vs := nums .u8 m) (cs := nums .u8 (List.replicate 32 0)) (T := 24); rfl; rfl; exact hr8; (rw [nums_length, HML.out]; kernel_rfl); (rw [nums_length, HML.out]; decide); exact nums_one _ _; intro w9 hr9 hw9; rw [laid_all _ _ (by rw [nums_length, HML.out]; rfl)] at hr9)
  refine bodyPost_ret (ret_row rfl _ _ _ (nums .u8 m) 24 _ rfl hr9 Tryd.underlying24 rfl (by rw [nums_length, HML.out]; kernel_rfl)) rfl ⟨rfl, Wrote.below hB8 hw9 (Nat.le_refl _)⟩
end MacR
end Go.Proofs.YtancldhincaphaaDoor
