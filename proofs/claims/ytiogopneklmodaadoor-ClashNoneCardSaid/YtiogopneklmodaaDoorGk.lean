/- Slices in memory of the call's own whose elements are one cell each: grown by append, read. No condition. What the reference's Steps answers. No condition. What merkle.CheckPath and the reference's CheckPath answer. Condition (merkle's): the table of layer 2 reads as its text lays it. What the reference's CheckPath answers. No condition. What the reference's CheckGrowth answers. No condition. -/
import Derived.Test.YtiogopneklmodaaDoorGa
import Derived.Test.YtiogopneklmodaaDoorGb
import Derived.Maps.AppendAt
import Derived.Test.YtiogopneklmodaaDoorGh
import Derived.Test.YtiogopneklmodaaDoorGe
import Derived.Test.YtiogopneklmodaaDoorGj
namespace Go.Proofs.YtiogopneklmodaaDoor
section OwnC
open Go.RowKit

def OwnC (w : World) (base : Nat) (e : TypeId) (v : Value) (cs : List Value) : Prop := w.ownsRow base e 1 v cs.length cs
theorem OwnC.nil (w : World) (base : Nat) (e : TypeId) : OwnC w base e (.slice none 0 0) [] := World.ownsRow_nil w base _ _
theorem OwnC.kept {w w' : World} {base : Nat} {e : TypeId} {v : Value} {cs : List Value} (h : OwnC w base e v cs) (hb : Below w.heap.size w w') : OwnC w' base e v cs :=
  World.ownsRow.kept (row := none) h ⟨hb.os, hb.tape, hb.output, hb.size, fun k hk _ => hb.block k hk⟩ (by cases hv : v.ownBlock <;> simp)
theorem OwnC.from {w : World} {base : Nat} {e : TypeId} {v : Value} {cs : List Value} (h : OwnC w base e v cs) : ∃ A c, v = .slice A cs.length c ∧ cs.length ≤ c ∧ (A = none → c = 0) ∧ Rd w A cs ∧ ∀ a, A = some a → base ≤ a.block := by
  obtain ⟨hl, h | ⟨g, cap, cur, hv, hg, hh, hn, hm, hsz, ht⟩⟩ := h
  · have : cs = [] := List.eq_nil_of_length_eq_zero h.2
    subst this
    exact ⟨none, 0, h.1, Nat.le_refl _, fun _ => rfl, Rd.nil _ _, fun a ha => by cases ha⟩
  · refine ⟨some ⟨g, 0, none⟩, cap, hv, hn, fun h => (by cases h), .inr ⟨g, 0, rfl, fun j v hv => ?_⟩, fun a ha => by injection ha with ha; rw [← ha]; exact hg⟩
    rw [Nat.zero_add]
    simp only [World.cell?, hh]
    rw [← ht, List.getElem?_take] at hv
    split at hv
    · simpa using hv
    · cases hv
/-- Grown by the call. -/
def GrowC (w : World) (e : TypeId) (cs : List Value) (v : Value) (w' : World) : Prop := Below w.heap.size w w' ∧ OwnC w' w.heap.size e v cs
theorem GrowC.nil (w : World) (e : TypeId) : GrowC w e [] (.slice none 0 0) w := ⟨Below.refl _ _, OwnC.nil _ _ _⟩
theorem GrowC.up {w w' w'' : World} {e : TypeId} {cs : List Value} {v : Value} (h : GrowC w e cs v w') (hb : Below w'.heap.size w' w'') : GrowC w e cs v w'' := ⟨h.1.trans (hb.mono h.1.size), h.2.kept hb⟩
theorem GrowC.alloc {w w' : World} {e : TypeId} {cs : List Value} {v : Value} (h : GrowC w e cs v w') (o : Obj) : GrowC w e cs v (w'.alloc o) := h.up ((Below.refl _ _).alloc (Nat.le_refl _) _)

/-- append(x, y..) of elements of one cell that lie in a row, x the call's own. -/
theorem st_growC {P : Program} {ops : Array Oper} {rest : List Oper} {a : Act} {w w0 : World} {Q : Exit → Act → World → Prop} {d' : Option Tmp} {tt t e : TypeId} {s x : Operand} {pos : String} {after : Array Edge} {v z : Value} {ad : Addr} {b m c : Nat} {xs ys : List Value}
    (ht : P.underlying t = some (.slice e)) (hi : (P.info? e).map (fun i => (i.zero, i.size, i.bytes)) = some (some z, 1, b)) (hz : z.cells.size = 1) (hb : b ≤ 16)
    (hs : a.eval s = v) (hx : a.eval x = .slice (some ad) m c) (hg : GrowC w0 e xs v w) (hm : ys.length = m) (hr : ∀ j u, ys[j]? = some u → w.cell? (ad.add j) = some u) (h1 : ∀ u ∈ ys, u.oneCell' = true) (hl : xs.length + m ≤ 1099511627776)
    (h : ∀ v' w', GrowC w0 e (xs ++ ys) v' w' → wpList P ops Q rest (a.put d' v') w') :
    wpList P ops Q (⟨d', .call ⟨.builtin .append, #[s, x], #[t, t]⟩, tt, pos, after, none⟩ :: rest) a w := by
  obtain ⟨i0, hi, hz0, hz1, hz2⟩ := info_parts hi
  refine wpList_append_own_at (w := w) rfl s x t rfl w0.heap.size e i0 z 1 b ht hi hz0 hz1 hz2 hz (by decide) v xs.length xs hs hg.2 ad m c ys hx (by omega) hr h1 (by unfold maxLen; omega) ?_ hg.1.size ?_
  · have := Nat.mul_le_mul hl hb; omega
  · intro v' w' ho hgr _ hat
    refine h v' w' ⟨hg.1.grown hgr hg.1.size (fun k hk => by have := World.ownsRow.lt hg.2 k hk; omega), ?_⟩
    unfold OwnC
    rw [List.length_append, hm]
    exact ho
end OwnC
section Steps
open Go.RowKit

theorem binfo : (Tryd.prog.info? 4).map (fun i => (i.zero, i.size, i.bytes)) = some (some (.bool false), 1, 1) := by kernel_rfl
def bools (l : List Bool) : List Value := l.map Value.bool
theorem bools_len (l : List Bool) : (bools l).length = l.length := by simp [bools]
theorem bools_snoc (l : List Bool) (b : Bool) : bools l ++ [.bool b] = bools (l ++ [b]) := by simp [bools]
theorem bools_one (l : List Bool) : ∀ u ∈ bools l, u.oneCell' = true := by
  intro u hu
  obtain ⟨x, _, rfl⟩ := List.mem_map.1 hu
  rfl

theorem steps_next_left {n k : Nat} {i : Int} {all done : List Bool} (hk : k = kF n) (h : 2 ≤ n) (hi : i < k) (e : all = done ++ stepsF n i) : all = (done ++ [false]) ++ stepsF k i := by
  subst hk; rw [e, stepsF_left n i h hi]; simp
theorem steps_next_right {n k : Nat} {i : Int} {all done : List Bool} (hk : k = kF n) (h : 2 ≤ n) (hi : ¬ i < k) (e : all = done ++ stepsF n i) : all = (done ++ [true]) ++ stepsF (n - k) (i - k) := by
  subst hk; rw [e, stepsF_right n i h hi]; simp

set_option maxRecDepth 100000 in
set_option maxHeartbeats 4000000 in
theorem steps_any (w : World) (n : Nat) (i : Int) (hn : 1 ≤ n) (hmax : n ≤ 9223372036854775807) (hi0 : 0 ≤ i) (hi : i < n) :
    Calls Tryd.prog 22 #[.int .i64 n, .int .i64 i] w fun e w' => ∃ v, e = .returned v ∧ GrowC w 4 (bools (stepsF n i)) v w' := by
  obtain ⟨all, hall⟩ : ∃ all, all = stepsF n i := ⟨_, rfl⟩
  have hlen : all.length ≤ 64 := by rw [hall]; exact stepsF_len 64 n i (by omega)
  rw [← hall]
  have HALL := Lib.hid hall
  clear hall
  go_enter Tryd.func22, Tryd.ntmps22
  go_wp2_with fail
  go_loopw [0, 1, 5] (fun vn vi v wr => ∃ (m : Nat) (j : Int) (done : List Bool), vn = .int .i64 m ∧ vi = .int .i64 j ∧ 1 ≤ m ∧ m ≤ 9223372036854775807 ∧ 0 ≤ j ∧ j < m ∧ done.length ≤ 64 ∧ Hid (all = done ++ stepsF m j) ∧ GrowC w 4 (bools done) v wr) (fun vn _ _ _ => (intOf vn).toNat)
  case atStart => exact ⟨n, i, [], rfl, rfl, hn, hmax, hi0, hi, by simp, HALL.out, GrowC.nil _ _⟩
  case round =>
    clear hn hmax hi0 hi
    obtain ⟨m, j, done, rfl, rfl, hn, hmax, hi0, hi, hdl, HE, hG⟩ := hrel
    by_cases h1 : m = 1
    · have he : all = done := by
        have := HE.out
        rw [stepsF_small m j (by omega), List.append_nil] at this; exact this
      have HAD := Lib.hid he
      subst h1
      clear he
      go_wp2_with fail
      go_ret
      exact ⟨_, rfl, by rw [HAD.out]; exact hG⟩
    · have hks := kF_spec m (by omega)
      have hnl := fun k h => @steps_next_left m k j all done h (by omega)
      have hnr := fun k h => @steps_next_right m k j all done h (by omega)
      obtain ⟨k, hkk⟩ : ∃ k, k = kF m := ⟨_, rfl⟩
      rw [← hkk] at hks
      obtain ⟨k1, k2, k3, k4⟩ := hks
      have hlb : ∀ d : List Bool, all = d ++ stepsF k j ∨ all = d ++ stepsF (m - k) (j - k) → d.length ≤ 64 := fun d h => by
        rcases h with h | h
        all_goals
          have := congrArg List.length h
          rw [List.length_append] at this
          omega
      have HSP := Lib.hid k4
      by_cases hik : j < k
      · have hnext := hnl k hkk hik HE.out
        have hl1 := hlb _ (.inl hnext)
        have HNEXT := Lib.hid hnext
        clear hnext hnl hnr hlb hkk k4
        go_wp2_with fail
        go_at_call 44
        refine (refsplit_any _ m (by omega) (by omega)).mono ?_
        rw [HSP.out]
        rintro e wz ⟨rfl, rfl⟩
        go_wp2_with ((with_reducible apply st_growC (w0 := w) (xs := bools done) (ys := [.bool false]) (z := .bool false) (b := 1)); exact Tryd.underlying42; exact binfo; rfl; decide; rfl; rfl; exact hG.alloc _; rfl; exact cell_one_new _ _ _; (intro u hu; simp at hu; subst hu; rfl); (rw [bools_len]; omega); intro v2 w2 hG2)
        rw [bools_snoc] at hG2
        go_roundw
        case rel => exact ⟨k, j, done ++ [false], rfl, rfl, k1, by omega, hi0, hik, hl1, HNEXT.out, hG2⟩
        case measure => simp [intOf]; omega
      · have hnext := hnr k hkk hik HE.out
        have hl1 := hlb _ (.inr hnext)
        have HNEXT := Lib.hid hnext
        clear hnext hnl hnr hlb hkk k4
        go_wp2_with fail
        go_at_call 44
        refine (refsplit_any _ m (by omega) (by omega)).mono ?_
        rw [HSP.out]
        rintro e wz ⟨rfl, rfl⟩
        go_wp2_with ((with_reducible apply st_growC (w0 := w) (xs := bools done) (ys := [.bool true]) (z := .bool false) (b := 1)); exact Tryd.underlying42; exact binfo; rfl; decide; rfl; rfl; exact hG.alloc _; rfl; exact cell_one_new _ _ _; (intro u hu; simp at hu; subst hu; rfl); (rw [bools_len]; omega); intro v2 w2 hG2)
        rw [bools_snoc] at hG2
        go_roundw
        case rel => exact ⟨m - k, j - k, done ++ [true], by go_num, rfl, by omega, by omega, by omega, by omega, hl1, HNEXT.out, hG2⟩
        case measure => simp [intOf]; omega
end Steps
section CheckP
open Go.RowKit

def checkPF (root : List Int) (n i : Int) (leaf : List Int) (ps : List (List Int)) (z : Int) : Bool := decide (0 ≤ i ∧ i < n ∧ ps.length = (stepsF n.toNat i).length ∧ upF leaf (stepsF n.toNat i).reverse ps z = root)
theorem checkPF_out (root : List Int) (n i : Int) (leaf : List Int) (ps : List (List Int)) (z : Int) (h : ¬ (0 ≤ i ∧ i < n)) : checkPF root n i leaf ps z = false := decide_eq_false fun e => h ⟨e.1, e.2.1⟩
theorem checkPF_len (root : List Int) (n i : Int) (leaf : List Int) (ps : List (List Int)) (z : Int) (h : ps.length ≠ (stepsF n.toNat i).length) : checkPF root n i leaf ps z = false := decide_eq_false fun e => h e.2.2.1
theorem checkPF_in (root d : List Int) (n i : Int) (leaf : List Int) (ps : List (List Int)) (z : Int) (h0 : 0 ≤ i) (h1 : i < n) (h : ps.length = (stepsF n.toNat i).length) (hd : d = upF leaf (stepsF n.toNat i).reverse ps z) : checkPF root n i leaf ps z = decide (d = root) := by
  subst hd
  unfold checkPF
  rw [Bool.eq_iff_iff]
  simp only [decide_eq_true_eq]
  exact ⟨fun e => e.2.2.2, fun e => ⟨h0, h1, h, e⟩⟩

set_option maxRecDepth 100000 in
set_option maxHeartbeats 4000000 in
theorem checkpath_any (w : World) (root : List Int) (hroot : root.length = 32) (n i : Int) (hmax : n ≤ 9223372036854775807) (leaf : List Int) (hlf : leaf.length = 32) (ulf : U8 leaf) (ps : List (List Int)) (A : Option Addr) (c : Nat) (hd : Dg w A c ps) (z : Int) (hk : KV w) :
    Calls Tryd.prog 36 #[.agg (nums .u8 root).toArray, .int .i64 n, .int .i64 i, .agg (nums .u8 leaf).toArray, .slice A ps.length c, .int .i64 z] w fun e w' => e = .returned (.bool (checkPF root n i leaf ps z)) ∧ Below w.heap.size w w' := by
  have hB0 : Below w.heap.size w ((w.alloc (.cells (nums .u8 root).toArray 45)).alloc (.cells (nums .u8 leaf).toArray 45)) := ((Below.refl _ _).alloc (Nat.le_refl _) _).alloc (by simp) _
  have hroot0 : Blk ((w.alloc (.cells (nums .u8 root).toArray 45)).alloc (.cells (nums .u8 leaf).toArray 45)) w.heap.size (nums .u8 root) 45 := (Blk.new' _ _ _ _ _ rfl rfl).alloc _
  have hleaf0 : Blk ((w.alloc (.cells (nums .u8 root).toArray 45)).alloc (.cells (nums .u8 leaf).toArray 45)) (w.heap.size + 1) (nums .u8 leaf) 45 := Blk.new' _ _ _ _ _ rfl (by simp)
  by_cases h0 : i < 0
  · rw [checkPF_out root n i leaf ps z (by omega)]
    clear hroot0 hleaf0
    go_enter Tryd.func36, Tryd.ntmps36
    go_wp2_with fail
    go_ret
    exact ⟨rfl, hB0⟩
  · by_cases h1 : n ≤ i
    · rw [checkPF_out root n i leaf ps z (by omega)]
      clear hroot0 hleaf0
      go_enter Tryd.func36, Tryd.ntmps36
      go_wp2_with fail
      go_ret
      exact ⟨rfl, hB0⟩
    · obtain ⟨N, rfl⟩ := Int.eq_ofNat_of_zero_le (show 0 ≤ n by omega)
      by_cases h2 : 63 < ps.length
      · have hsl := stepsF_len 63 N i (by omega)
        rw [checkPF_len root N i leaf ps z (by rw [Int.toNat_natCast]; omega)]
        clear hroot0 hleaf0 hsl
        go_enter Tryd.func36, Tryd.ntmps36
        go_wp2_with fail
        go_ret
        exact ⟨rfl, hB0⟩
      · have hci := fun d => checkPF_in root d N i leaf ps z (by omega) (by omega)
        have hcl := checkPF_len root N i leaf ps z
        rw [Int.toNat_natCast] at hci hcl
        obtain ⟨r, hr⟩ : ∃ r, r = checkPF root N i leaf ps z := ⟨_, rfl⟩
        rw [← hr] at hci hcl ⊢
        have hcall := fun (w : World) (h : Dg w A c ps) => climb_any N w i leaf ps A c hlf ulf h (by omega) z (by omega) (by omega) (by omega) (by omega)
        have HCALL := Lib.hid hcall
        have HCI := Lib.hid hci
        have HCL := Lib.hid hcl
        have HLF := Lib.hid hlf
        have HRL := Lib.hid hroot
        have HD := Lib.hid hd
        have HK := Lib.hid hk
        clear hr hci hcl hcall hlf hroot hd hk
        go_enter Tryd.func36, Tryd.ntmps36
        go_wp2_with ((with_reducible apply st_load (n := 32) (cs := nums .u8 (leaf)) (T := 45)); rfl; exact hleaf0; exact Tryd.underlying45; rfl; kernel_rfl; (rw [nums_length, HLF.out]; exact Nat.le_refl _); (exact row_all _ _ (by rw [nums_length, HLF.out])))
        go_at_call 57
        refine (HCALL.out _ (HD.out.up hB0) (HK.out.below hB0 HK.out.lt)).mono ?_
        rintro e w2 ⟨d, b, rfl, hdl, hdu, HBB, HDD, hb⟩
        have hB := hB0.trans (hb.mono hB0.size)
        have hx := hroot0.up hb
        have hxl := hx.lt
        have HDL := Lib.hid hdl
        have heq := run_eql_nums (P := Tryd.prog) (t := 45) Tryd.underlying45 Tryd.underlying5 (by kernel_rfl) (by kernel_rfl) d root hdl HRL.out
        have hd0 : Blk (w2.alloc (.cells (nums .u8 (List.replicate 32 0)).toArray 45)) w2.heap.size (nums .u8 (List.replicate 32 0)) 45 := Blk.new' _ _ _ _ _ rfl rfl
        clear hroot0 hleaf0 hdl
        cases b
        · have hf := HCL.out (of_decide_eq_false HBB.out.symm)
          have HF := Lib.hid hf
          clear hf
          go_wp2_with ((with_reducible apply st_storeW (off := 0) (vs := nums .u8 (d)) (cs := nums .u8 (List.replicate 32 0)) (T := 45)); rfl; rfl; exact hd0; (rw [nums_length, HDL.out]; kernel_rfl); (rw [nums_length, HDL.out]; decide); exact nums_one _ _; intro w3 hd3 hw3; rw [laid_all _ _ (by rw [nums_length, HDL.out]; rfl)] at hd3)
          go_ret
          exact ⟨by rw [HF.out]; rfl, Wrote.below (hB.alloc hB.size _) hw3 hB.size⟩
        · have hl := of_decide_eq_true HBB.out.symm
          have hf := HCI.out d hl (HDD.out hl)
          have HF := Lib.hid hf
          clear hf hl
          go_wp2_with (first | (((with_reducible apply st_storeW (off := 0) (vs := nums .u8 (d)) (cs := nums .u8 (List.replicate 32 0)) (T := 45)); rfl; rfl; exact hd0; (rw [nums_length, HDL.out]; kernel_rfl); (rw [nums_length, HDL.out]; decide); exact nums_one _ _; intro w3 hd3 hw3; rw [laid_all _ _ (by rw [nums_length, HDL.out]; rfl)] at hd3); have hx3 := hw3.blk (hx.alloc _) (by omega)) | ((with_reducible apply st_load (n := 32) (cs := nums .u8 (d)) (T := 45)); rfl; exact hd3; exact Tryd.underlying45; rfl; kernel_rfl; (rw [nums_length, HDL.out]; exact Nat.le_refl _); (exact row_all _ _ (by rw [nums_length, HDL.out]))) | ((with_reducible apply st_load (n := 32) (cs := nums .u8 (root)) (T := 45)); rfl; exact hx3; exact Tryd.underlying45; rfl; kernel_rfl; (rw [nums_length, HRL.out]; exact Nat.le_refl _); (exact row_all _ _ (by rw [nums_length, HRL.out]))) | ((with_reducible apply st_un); rfl))
          go_ret
          exact ⟨by rw [HF.out]; rfl, Wrote.below (hB.alloc hB.size _) hw3 hB.size⟩
end CheckP
section RefCheckP
open Go.RowKit

/-- So many steps up. -/
def upK (leaf : List Int) (S : List Bool) (ps : List (List Int)) (z : Int) (k : Nat) : List Int := upF leaf (S.reverse.take k) (ps.take k) z
theorem upK_zero (leaf : List Int) (S : List Bool) (ps : List (List Int)) (z : Int) : upK leaf S ps z 0 = leaf := rfl
theorem upK_all (leaf : List Int) (S : List Bool) (ps : List (List Int)) (z : Int) (h : S.length = ps.length) : upK leaf S ps z ps.length = upF leaf S.reverse ps z := by
  unfold upK
  rw [List.take_of_length_le (by simp; omega), List.take_of_length_le (Nat.le_refl _)]
theorem upK_succ (leaf : List Int) (S : List Bool) (ps : List (List Int)) (z : Int) (k : Nat) (h : S.length = ps.length) (hk : k < ps.length) (b : Bool) (hb : S[S.length - 1 - k]'(by omega) = b) :
    upK leaf S ps z (k + 1) = if b then nodeF ps[k] (upK leaf S ps z k) z else nodeF (upK leaf S ps z k) ps[k] z := by
  subst hb
  unfold upK
  rw [List.take_add_one, List.take_add_one, List.getElem?_eq_getElem (by simp; omega), List.getElem?_eq_getElem hk]
  simp only [Option.toList_some]
  rw [upF_one _ _ _ _ _ _ (by simp; omega)]
  simp [nodeS]

set_option maxRecDepth 100000 in
set_option maxHeartbeats 4000000 in
theorem refcheckpath_any (w : World) (root : List Int) (hroot : root.length = 32) (n i : Int) (hmax : n ≤ 9223372036854775807) (leaf : List Int) (hlf : leaf.length = 32) (ulf : U8 leaf) (ps : List (List Int)) (A : Option Addr) (c : Nat) (hd : Dg w A c ps) (z : Int) :
    Calls Tryd.prog 42 #[.agg (nums .u8 root).toArray, .int .i64 n, .int .i64 i, .agg (nums .u8 leaf).toArray, .slice A ps.length c, .int .i64 z] w fun e w' => e = .returned (.bool (checkPF root n i leaf ps z)) ∧ Below w.heap.size w w' := by
  have hB0 : Below w.heap.size w ((w.alloc (.cells (nums .u8 root).toArray 45)).alloc (.cells (nums .u8 leaf).toArray 45)) := ((Below.refl _ _).alloc (Nat.le_refl _) _).alloc (by simp) _
  have hroot0 : Blk ((w.alloc (.cells (nums .u8 root).toArray 45)).alloc (.cells (nums .u8 leaf).toArray 45)) w.heap.size (nums .u8 root) 45 := (Blk.new' _ _ _ _ _ rfl rfl).alloc _
  have hleaf0 : Blk ((w.alloc (.cells (nums .u8 root).toArray 45)).alloc (.cells (nums .u8 leaf).toArray 45)) (w.heap.size + 1) (nums .u8 leaf) 45 := Blk.new' _ _ _ _ _ rfl (by simp)
  by_cases h0 : i < 0
  · rw [checkPF_out root n i leaf ps z (by omega)]
    clear hroot0 hleaf0
    go_enter Tryd.func42, Tryd.ntmps42
    go_wp2_with fail
    go_ret
    exact ⟨rfl, hB0⟩
  · by_cases h1 : n ≤ i
    · rw [checkPF_out root n i leaf ps z (by omega)]
      clear hroot0 hleaf0
      go_enter Tryd.func42, Tryd.ntmps42
      go_wp2_with fail
      go_ret
      exact ⟨rfl, hB0⟩
    · obtain ⟨N, rfl⟩ := Int.eq_ofNat_of_zero_le (show 0 ≤ n by omega)
      have hst := fun (w : World) => steps_any w N i (by omega) (by omega) (by omega) (by omega)
      have hci := fun d => checkPF_in root d N i leaf ps z (by omega) (by omega)
      have hcl := checkPF_len root N i leaf ps z
      rw [Int.toNat_natCast] at hci hcl
      obtain ⟨r, hr⟩ : ∃ r, r = checkPF root N i leaf ps z := ⟨_, rfl⟩
      rw [← hr] at hci hcl ⊢
      have hsl := stepsF_len 63 N i (by omega)
      obtain ⟨S, hS⟩ : ∃ S, S = stepsF N i := ⟨_, rfl⟩
      rw [← hS] at hst hci hcl hsl
      have HST := Lib.hid hst
      have HLF := Lib.hid hlf
      have HRL := Lib.hid hroot
      have HD := Lib.hid hd
      clear hr hst hlf hroot hd hS
      by_cases hlen : ps.length = S.length
      · have hci2 := fun d => hci d hlen
        have hua := upK_all leaf S ps z hlen.symm
        have HUA := Lib.hid hua
        have HCI := Lib.hid hci2
        have HLEN := Lib.hid hlen
        have hp63 : ps.length ≤ 63 := by omega
        have hsne : ((S.length : Int) != (ps.length : Int)) = false := by simp; omega
        clear hci hci2 hcl hlen hua hsl
        go_enter Tryd.func42, Tryd.ntmps42
        go_wp2_with fail
        go_at_call 22
        refine (HST.out _).mono ?_
        rintro e w1 ⟨v1, rfl, hG1⟩
        obtain ⟨A1, c1, rfl, hc1, hn1, hr1, hx1⟩ := hG1.2.from
        rw [bools_len] at hc1 ⊢
        have hB1 := hB0.trans (hG1.1.mono hB0.size)
        have hroot1 := hroot0.up hG1.1
        have hleaf1 := hleaf0.up hG1.1
        have hdd := HD.out.up hB1
        have hz1 := hleaf1.lt
        clear hG1 hB0 hroot0 hleaf0
        have hd0 : Blk (w1.alloc (.cells (nums .u8 (List.replicate 32 0)).toArray 45)) w1.heap.size (nums .u8 (List.replicate 32 0)) 45 := Blk.new' _ _ _ _ _ rfl rfl
        go_wp2_with (first | ((with_reducible apply st_load (n := 32) (cs := nums .u8 (leaf)) (T := 45)); rfl; exact hleaf1; exact Tryd.underlying45; rfl; kernel_rfl; (rw [nums_length, HLF.out]; exact Nat.le_refl _); (exact row_all _ _ (by rw [nums_length, HLF.out]))) | ((with_reducible apply st_storeW (off := 0) (vs := nums .u8 (leaf)) (cs := nums .u8 (List.replicate 32 0)) (T := 45)); rfl; rfl; exact hd0; (rw [nums_length, HLF.out]; kernel_rfl); (rw [nums_length, HLF.out]; decide); exact nums_one _ _; intro w2 hd2 hw2; rw [laid_all _ _ (by rw [nums_length, HLF.out]; rfl)] at hd2))
        have hB12 : Below w1.heap.size w1 w2 := Wrote.below ((Below.refl _ _).alloc (Nat.le_refl _) _) hw2 (Nat.le_refl _)
        clear hd0 hw2
        go_loopw [15] (fun at_ wr => ∃ (k : Nat) (D : List Int), at_ = .int .i64 k ∧ k ≤ ps.length ∧ Hid (D = upK leaf S ps z k) ∧ Hid (D.length = 32 ∧ U8 D) ∧ Below w1.heap.size w1 wr ∧ Blk wr w1.heap.size (nums .u8 D) 45) (fun at_ _ => ps.length - (intOf at_).toNat)
        case atStart => exact ⟨0, leaf, rfl, by omega, rfl, ⟨HLF.out, ulf⟩, hB12, hd2⟩
        case round =>
          clear hB12 hd2
          obtain ⟨k, D, rfl, hk, HDE, HDL, hBr, hDr⟩ := hrel
          by_cases hlt : k < ps.length
          · obtain ⟨g, off, rfl, hg, hcells⟩ := hdd.get (by omega)
            obtain ⟨g1, o1, rfl, hcb⟩ := hr1.get (by rw [bools_len, ← HLEN.out]; omega)
            obtain ⟨t, ht0⟩ : ∃ t, t = S.length - 1 - k := ⟨_, rfl⟩
            have hks : k < S.length := by rw [← HLEN.out]; exact hlt
            have hs63 : S.length ≤ 63 := by rw [← HLEN.out]; exact hp63
            have hts : t < S.length := by rw [ht0, ← HLEN.out]; omega
            have ht : (S.length : Int) - 1 - (k : Int) = (t : Int) := by rw [ht0, ← HLEN.out]; omega
            obtain ⟨b, hb⟩ : ∃ b, b = S[t] := ⟨_, rfl⟩
            have hbk : S[S.length - 1 - k]'(by omega) = b := by rw [hb]; simp only [ht0]
            have hup := upK_succ leaf S ps z k HLEN.out.symm hlt b hbk
            rw [← HDE.out] at hup
            have hb1 := hcb t (.bool b) (by simp [bools, hb, hts])
            have hg1 : g1 < w1.heap.size := World.block_lt_of_cell? (h := hb1)
            have hb2 : wr.cell? ⟨g1, o1 + t, none⟩ = some (.bool b) := (hBr.cell (p := ⟨g1, o1 + t, none⟩) hg1).trans hb1
            have c1 := hcells k hlt
            have l1 := hdd.u.at k hlt
            obtain ⟨x, hx⟩ : ∃ x, x = ps[k] := ⟨_, rfl⟩
            rw [← hx] at c1 l1 hup
            have C1 := Lib.hid c1
            have XL := Lib.hid l1
            have HUP := Lib.hid hup
            have HB2 := Lib.hid hb2
            have HT0 := Lib.hid ht0
            have hgw := Nat.lt_of_lt_of_le hg hBr.size
            have hdl := hDr.lt
            clear hx c1 l1 hup hb1 hb2 hb hbk hcells hcb ht0 hdd hr1 hx1 hn1
            have hb2 := HB2.out
            cases b
            · have hup := HUP.out
              rw [if_neg (by decide)] at hup
              obtain ⟨m, hm⟩ : ∃ m, m = nodeF D x z := ⟨_, rfl⟩
              have hml : m.length = 32 ∧ U8 m := by rw [hm]; exact ⟨nodeF_len _ _ _, nodeF_range _ _ _⟩
              have hcall := fun (w : World) => refnode_any w D x HDL.out.1 XL.out.1 HDL.out.2 XL.out.2 z
              rw [← hm] at hcall hup
              have HCALL := Lib.hid hcall
              have HML := Lib.hid hml
              have HM := Lib.hid hup
              clear hcall hml hup hm
              go_wp2_with fail
              refine wp_region_C (Same [g, w1.heap.size] wr) [6, 7] (by kernel_rfl) (by kernel_rfl) (by intro c a w h; first | (obtain ⟨_, h, _⟩ := h; cases h; done) | (obtain ⟨_, _, h, _⟩ := h; cases h; done) | (obtain ⟨_, _, _, h, _⟩ := h; cases h; done) | (obtain ⟨_, _, _, _, h, _⟩ := h; cases h; done) | (rcases h with ⟨_, ⟨_, _, _, _, h, _⟩ | ⟨_, _, _, _, h, _⟩⟩ <;> cases h; done)) (by intro a w h; first | (obtain ⟨h, _⟩ := h; cases h; done) | (obtain ⟨_, h, _⟩ := h; cases h; done) | (obtain ⟨_, _, h, _⟩ := h; cases h; done) | (obtain ⟨_, _, _, h, _⟩ := h; cases h; done) | (rcases h with ⟨_, _, _, _, h, _⟩ | ⟨_, _, _, _, h, _⟩ <;> cases h; done)) (Same.refl _ _) ?_
              repeat (refine wd_w (v := ?_) rfl rfl rfl rfl rfl rfl (fun w' hw' K hK => ?_) ?_; rotate_left; (have e1 : ∀ j v, (nums .u8 x)[j]? = some v → w'.cell? ⟨g, off + k * 32 + j, none⟩ = some v := fun j v hv => (hw'.cell g (by simp) _).trans ((hBr.cell (p := ⟨g, off + k * 32 + j, none⟩) hg).trans (C1.out j v hv)); have e2 := hw'.blk hDr (by simp); go_wp2_with ((first | ((with_reducible apply st_loadCells (cs := nums .u8 (x))); rfl; exact e1; exact Tryd.underlying45; rfl; (rw [nums_length, XL.out.1]; kernel_rfl)) | ((with_reducible apply st_load (n := 32) (cs := nums .u8 (D)) (T := 45)); rfl; exact e2; exact Tryd.underlying45; rfl; kernel_rfl; (rw [nums_length, HDL.out.1]; exact Nat.le_refl _); (exact row_all _ _ (by rw [nums_length, HDL.out.1]))))); exact rfl); simp only [Act.put, List.setIfInBounds_toArray, List.set_cons_zero, List.set_cons_succ])
              refine wd_l rfl rfl (by intro a w h; first | (obtain ⟨h, _⟩ := h; cases h; done) | (obtain ⟨_, h, _⟩ := h; cases h; done) | (obtain ⟨_, _, h, _⟩ := h; cases h; done) | (obtain ⟨_, _, _, h, _⟩ := h; cases h; done) | (rcases h with ⟨_, _, _, _, h, _⟩ | ⟨_, _, _, _, h, _⟩ <;> cases h; done)) ?_
              go_wp2_with fail
              go_at_call 49
              refine (HCALL.out _).mono ?_
              rintro e w3 ⟨rfl, hb3⟩
              have hBr := hBr.drew.trans (hb3.mono hBr.size)
              have hDr := hDr.drew.up hb3
              have hS : Same [g, w1.heap.size] wr w3 := (Same.refl _ _).below (show Below wr.heap.size wr w3 from (Below.refl _ _).drew.trans (hb3.mono (Nat.le_refl _))) (by intro q hq; simp at hq; rcases hq with rfl | rfl <;> omega)
              go_wp2_with fail
              refine ⟨.inr hS, ?_⟩
              refine wd_last rfl (by kernel_rfl) rfl (by intro a w h; first | (obtain ⟨h, _⟩ := h; cases h; done) | (obtain ⟨_, h, _⟩ := h; cases h; done) | (obtain ⟨_, _, h, _⟩ := h; cases h; done) | (obtain ⟨_, _, _, h, _⟩ := h; cases h; done) | (rcases h with ⟨_, _, _, _, h, _⟩ | ⟨_, _, _, _, h, _⟩ <;> cases h; done)) ?_
              go_wp2_with (apply st_storeW (off := 0) (vs := nums .u8 m) (cs := nums .u8 D) (T := 45); rfl; rfl; exact hDr; (rw [nums_length, HML.out.1]; kernel_rfl); (rw [nums_length, nums_length, HML.out.1, HDL.out.1]; decide); exact nums_one _ _; intro w4 hd4 hw4; rw [laid_all _ _ (by rw [nums_length, nums_length, HML.out.1, HDL.out.1])] at hd4)
              go_roundw
              case rel => exact ⟨k + 1, m, by go_num, by omega, HM.out.symm, HML.out, Wrote.below hBr hw4 (Nat.le_refl _), hd4⟩
              case measure => simp [intOf]; omega
            · have hup := HUP.out
              rw [if_pos rfl] at hup
              obtain ⟨m, hm⟩ : ∃ m, m = nodeF x D z := ⟨_, rfl⟩
              have hml : m.length = 32 ∧ U8 m := by rw [hm]; exact ⟨nodeF_len _ _ _, nodeF_range _ _ _⟩
              have hcall := fun (w : World) => refnode_any w x D XL.out.1 HDL.out.1 XL.out.2 HDL.out.2 z
              rw [← hm] at hcall hup
              have HCALL := Lib.hid hcall
              have HML := Lib.hid hml
              have HM := Lib.hid hup
              clear hcall hml hup hm
              go_wp2_with fail
              refine wp_region_C (Same [g, w1.heap.size] wr) [6, 7] (by kernel_rfl) (by kernel_rfl) (by intro c a w h; first | (obtain ⟨_, h, _⟩ := h; cases h; done) | (obtain ⟨_, _, h, _⟩ := h; cases h; done) | (obtain ⟨_, _, _, h, _⟩ := h; cases h; done) | (obtain ⟨_, _, _, _, h, _⟩ := h; cases h; done) | (rcases h with ⟨_, ⟨_, _, _, _, h, _⟩ | ⟨_, _, _, _, h, _⟩⟩ <;> cases h; done)) (by intro a w h; first | (obtain ⟨h, _⟩ := h; cases h; done) | (obtain ⟨_, h, _⟩ := h; cases h; done) | (obtain ⟨_, _, h, _⟩ := h; cases h; done) | (obtain ⟨_, _, _, h, _⟩ := h; cases h; done) | (rcases h with ⟨_, _, _, _, h, _⟩ | ⟨_, _, _, _, h, _⟩ <;> cases h; done)) (Same.refl _ _) ?_
              repeat (refine wd_w (v := ?_) rfl rfl rfl rfl rfl rfl (fun w' hw' K hK => ?_) ?_; rotate_left; (have e1 : ∀ j v, (nums .u8 x)[j]? = some v → w'.cell? ⟨g, off + k * 32 + j, none⟩ = some v := fun j v hv => (hw'.cell g (by simp) _).trans ((hBr.cell (p := ⟨g, off + k * 32 + j, none⟩) hg).trans (C1.out j v hv)); have e2 := hw'.blk hDr (by simp); go_wp2_with ((first | ((with_reducible apply st_loadCells (cs := nums .u8 (x))); rfl; exact e1; exact Tryd.underlying45; rfl; (rw [nums_length, XL.out.1]; kernel_rfl)) | ((with_reducible apply st_load (n := 32) (cs := nums .u8 (D)) (T := 45)); rfl; exact e2; exact Tryd.underlying45; rfl; kernel_rfl; (rw [nums_length, HDL.out.1]; exact Nat.le_refl _); (exact row_all _ _ (by rw [nums_length, HDL.out.1]))))); exact rfl); simp only [Act.put, List.setIfInBounds_toArray, List.set_cons_zero, List.set_cons_succ])
              refine wd_l rfl rfl (by intro a w h; first | (obtain ⟨h, _⟩ := h; cases h; done) | (obtain ⟨_, h, _⟩ := h; cases h; done) | (obtain ⟨_, _, h, _⟩ := h; cases h; done) | (obtain ⟨_, _, _, h, _⟩ := h; cases h; done) | (rcases h with ⟨_, _, _, _, h, _⟩ | ⟨_, _, _, _, h, _⟩ <;> cases h; done)) ?_
              go_wp2_with fail
              go_at_call 49
              refine (HCALL.out _).mono ?_
              rintro e w3 ⟨rfl, hb3⟩
              have hBr := hBr.drew.trans (hb3.mono hBr.size)
              have hDr := hDr.drew.up hb3
              have hS : Same [g, w1.heap.size] wr w3 := (Same.refl _ _).below (show Below wr.heap.size wr w3 from (Below.refl _ _).drew.trans (hb3.mono (Nat.le_refl _))) (by intro q hq; simp at hq; rcases hq with rfl | rfl <;> omega)
              go_wp2_with fail
              refine ⟨.inr hS, ?_⟩
              refine wd_last rfl (by kernel_rfl) rfl (by intro a w h; first | (obtain ⟨h, _⟩ := h; cases h; done) | (obtain ⟨_, h, _⟩ := h; cases h; done) | (obtain ⟨_, _, h, _⟩ := h; cases h; done) | (obtain ⟨_, _, _, h, _⟩ := h; cases h; done) | (rcases h with ⟨_, _, _, _, h, _⟩ | ⟨_, _, _, _, h, _⟩ <;> cases h; done)) ?_
              go_wp2_with (apply st_storeW (off := 0) (vs := nums .u8 m) (cs := nums .u8 D) (T := 45); rfl; rfl; exact hDr; (rw [nums_length, HML.out.1]; kernel_rfl); (rw [nums_length, nums_length, HML.out.1, HDL.out.1]; decide); exact nums_one _ _; intro w4 hd4 hw4; rw [laid_all _ _ (by rw [nums_length, nums_length, HML.out.1, HDL.out.1])] at hd4)
              go_roundw
              case rel => exact ⟨k + 1, m, by go_num, by omega, HM.out.symm, HML.out, Wrote.below hBr hw4 (Nat.le_refl _), hd4⟩
              case measure => simp [intOf]; omega
          · have e : k = ps.length := by omega
            have hd2 := HDE.out
            rw [e, HUA.out] at hd2
            have heq := run_eql_nums (P := Tryd.prog) (t := 45) Tryd.underlying45 Tryd.underlying5 (by kernel_rfl) (by kernel_rfl) D root HDL.out.1 HRL.out
            have hf := HCI.out D hd2
            have HF := Lib.hid hf
            have hrr := hroot1.below hBr hroot1.lt
            clear e hd2 hf
            go_wp2_with (first | ((with_reducible apply st_load (n := 32) (cs := nums .u8 (D)) (T := 45)); rfl; exact hDr; exact Tryd.underlying45; rfl; kernel_rfl; (rw [nums_length, HDL.out.1]; exact Nat.le_refl _); (exact row_all _ _ (by rw [nums_length, HDL.out.1]))) | ((with_reducible apply st_load (n := 32) (cs := nums .u8 (root)) (T := 45)); rfl; exact hrr; exact Tryd.underlying45; rfl; kernel_rfl; (rw [nums_length, HRL.out]; exact Nat.le_refl _); (exact row_all _ _ (by rw [nums_length, HRL.out]))))
            go_ret
            exact ⟨by rw [HF.out]; rfl, hB1.trans (hBr.mono hB1.size)⟩
      · have hf := hcl hlen
        have hsne : ((S.length : Int) != (ps.length : Int)) = true := by simp; omega
        have HF := Lib.hid hf
        clear hci hcl hlen hf hsl
        go_enter Tryd.func42, Tryd.ntmps42
        go_wp2_with fail
        go_at_call 22
        refine (HST.out _).mono ?_
        rintro e w1 ⟨v1, rfl, hG1⟩
        obtain ⟨A1, c1, rfl, hc1, hn1, hr1, hx1⟩ := hG1.2.from
        rw [bools_len] at hc1 ⊢
        have hB1 := hB0.trans (hG1.1.mono hB0.size)
        go_wp2_with fail
        go_ret
        exact ⟨by rw [HF.out]; rfl, hB1⟩
end RefCheckP
section RefCheckG
open Go.RowKit

theorem gsteps_next_left {m n k : Nat} {all done : List Bool} (hk : k = kF n) (h1 : 1 ≤ m) (h : m < n) (hi : m ≤ k) (e : all = done ++ gstepsF m n) : all = (done ++ [false]) ++ gstepsF m k := by
  subst hk; rw [e, gstepsF_left m n (by omega) hi]; simp
theorem gsteps_next_right {m n k : Nat} {all done : List Bool} (hk : k = kF n) (h1 : 1 ≤ m) (h : m < n) (hi : ¬ m ≤ k) (e : all = done ++ gstepsF m n) : all = (done ++ [true]) ++ gstepsF (m - k) (n - k) := by
  subst hk; rw [e, gstepsF_right m n (by omega) hi]; simp
theorem any_snoc_false (l : List Bool) : (!(l ++ [false]).any id) = (!l.any id) := by simp
theorem any_snoc_true (l : List Bool) : (!(l ++ [true]).any id) = false := by simp

/-- So many steps up, of the two roots. -/
def bothK (start : List Int) (S : List Bool) (P : List (List Int)) (z : Int) (k : Nat) : List Int × List Int := ((S.reverse.take k).zip (P.take k)).foldl (nodeP z) (start, start)
theorem bothK_zero (start : List Int) (S : List Bool) (P : List (List Int)) (z : Int) : bothK start S P z 0 = (start, start) := rfl
theorem bothK_all (start : List Int) (S : List Bool) (P : List (List Int)) (z : Int) (h : P.length = S.length) : bothK start S P z S.length = (S.reverse.zip P).foldl (nodeP z) (start, start) := by
  unfold bothK
  rw [List.take_of_length_le (by simp), List.take_of_length_le (by omega)]
theorem bothK_succ (start : List Int) (S : List Bool) (P : List (List Int)) (z : Int) (k : Nat) (h : P.length = S.length) (hk : k < S.length) (b : Bool) (hb : S[S.length - 1 - k]'(by omega) = b) :
    bothK start S P z (k + 1) = nodeP z (bothK start S P z k) (b, P.getD k []) := by
  subst hb
  rw [List.getD_eq_getElem?_getD, List.getElem?_eq_getElem (show k < P.length by omega), Option.getD_some]
  unfold bothK
  rw [List.take_add_one, List.take_add_one, List.getElem?_eq_getElem (by simp; omega), List.getElem?_eq_getElem (by omega)]
  simp only [Option.toList_some]
  rw [List.zip_append (by simp; omega), List.foldl_append]
  simp
theorem bothK_end (old : List Int) (S : List Bool) (ps : List (List Int)) (z : Int) (start : List Int) (at0 : Nat) (hw : (wholeF true S = true ∧ at0 = 0 ∧ start = old) ∨ (wholeF true S = false ∧ at0 = 1 ∧ start = ps.headD [])) (h : ps.length = needF true S) :
    (ps.drop at0).length = S.length ∧ bothK start S (ps.drop at0) z S.length = bothF old S true ps z := by
  unfold needF at h
  rcases hw with ⟨hw, rfl, rfl⟩ | ⟨hw, rfl, rfl⟩
  · rw [if_pos hw] at h
    have hl : (ps.drop 0).length = S.length := by simp; omega
    refine ⟨hl, ?_⟩
    rw [bothK_all _ _ _ _ hl]
    unfold bothF; rw [if_pos hw]; simp
  · rw [if_neg (by rw [hw]; decide)] at h
    have hl : (ps.drop 1).length = S.length := by simp; omega
    refine ⟨hl, ?_⟩
    rw [bothK_all _ _ _ _ hl]
    unfold bothF; rw [if_neg (by rw [hw]; decide)]

set_option maxRecDepth 100000 in
set_option maxHeartbeats 4000000 in
theorem refcheckgrowth_any (w : World) (old : List Int) (hol : old.length = 32) (uol : U8 old) (m : Int) (root : List Int) (hroot : root.length = 32) (n : Int) (hmax : n ≤ 9223372036854775807) (ps : List (List Int)) (A : Option Addr) (c : Nat) (hd : Dg w A c ps) (hpl : ps.length ≤ 1000) (z : Int) :
    Calls Tryd.prog 47 #[.agg (nums .u8 old).toArray, .int .i64 m, .agg (nums .u8 root).toArray, .int .i64 n, .slice A ps.length c, .int .i64 z] w fun e w' => e = .returned (.bool (checkGF old m root n ps z)) ∧ Below w.heap.size w w' := by
  have hB0 : Below w.heap.size w ((w.alloc (.cells (nums .u8 old).toArray 45)).alloc (.cells (nums .u8 root).toArray 45)) := ((Below.refl _ _).alloc (Nat.le_refl _) _).alloc (by simp) _
  have hold0 : Blk ((w.alloc (.cells (nums .u8 old).toArray 45)).alloc (.cells (nums .u8 root).toArray 45)) w.heap.size (nums .u8 old) 45 := (Blk.new' _ _ _ _ _ rfl rfl).alloc _
  have hroot0 : Blk ((w.alloc (.cells (nums .u8 old).toArray 45)).alloc (.cells (nums .u8 root).toArray 45)) (w.heap.size + 1) (nums .u8 root) 45 := Blk.new' _ _ _ _ _ rfl (by simp)
  by_cases h0 : m < 1
  · rw [checkGF_out old m root n ps z (by omega)]
    clear hold0 hroot0
    go_enter Tryd.func47, Tryd.ntmps47
    go_wp2_with fail
    go_ret
    exact ⟨rfl, hB0⟩
  · by_cases h1 : n < m
    · rw [checkGF_out old m root n ps z (by omega)]
      clear hold0 hroot0
      go_enter Tryd.func47, Tryd.ntmps47
      go_wp2_with fail
      go_ret
      exact ⟨rfl, hB0⟩
    · obtain ⟨M, rfl⟩ := Int.eq_ofNat_of_zero_le (show 0 ≤ m by omega)
      obtain ⟨N, rfl⟩ := Int.eq_ofNat_of_zero_le (show 0 ≤ n by omega)
      have hci := fun a b => checkGF_in old M root N ps z a b (by omega) (by omega)
      have hcl := checkGF_len old M root N ps z
      rw [Int.toNat_natCast, Int.toNat_natCast] at hci hcl
      obtain ⟨r, hr⟩ : ∃ r, r = checkGF old M root N ps z := ⟨_, rfl⟩
      rw [← hr] at hci hcl ⊢
      have hsl := gstepsF_len 63 M N (by omega)
      obtain ⟨S, hS⟩ : ∃ S, S = gstepsF M N := ⟨_, rfl⟩
      rw [← hS] at hci hcl hsl
      have HS := Lib.hid hS
      have HCI := Lib.hid hci
      have HCL := Lib.hid hcl
      have HOL := Lib.hid (And.intro hol uol)
      have HRL := Lib.hid hroot
      have HD := Lib.hid hd
      clear hr hci hcl hS hol uol hroot hd
      go_enter Tryd.func47, Tryd.ntmps47
      go_wp2_with fail
      refine named_world ?_
      intro w0 hw0
      rw [← hw0] at hB0 hold0 hroot0
      clear hw0
      go_loopw [1, 3, 13, 14] (fun vm vn v vw wr => ∃ (p q : Nat) (done : List Bool) (wh : Bool), vm = .int .i64 p ∧ vn = .int .i64 q ∧ vw = .bool wh ∧ 1 ≤ p ∧ p ≤ q ∧ q ≤ 9223372036854775807 ∧ done.length ≤ 63 ∧ Hid (S = done ++ gstepsF p q) ∧ Hid (wh = !done.any id) ∧ GrowC w0 4 (bools done) v wr) (fun _ vn _ _ _ => (intOf vn).toNat)
      case atStart => exact ⟨M, N, [], true, rfl, rfl, rfl, by omega, by omega, by omega, by simp, HS.out, rfl, GrowC.nil _ _⟩
      case round =>
        clear h0 h1 hmax HS
        obtain ⟨p, q, done, wh, rfl, rfl, rfl, hp1, hpq, hq, hdl, HE, HW, hG⟩ := hrel
        by_cases hlt : p < q
        · have hks := kF_spec q (by omega)
          have hnl := fun k h => @gsteps_next_left p q k S done h hp1 hlt
          have hnr := fun k h => @gsteps_next_right p q k S done h hp1 hlt
          obtain ⟨k, hkk⟩ : ∃ k, k = kF q := ⟨_, rfl⟩
          rw [← hkk] at hks
          obtain ⟨k1, k2, k3, k4⟩ := hks
          have hlb : ∀ d : List Bool, S = d ++ gstepsF p k ∨ S = d ++ gstepsF (p - k) (q - k) → d.length ≤ 63 := fun d h => by
            rcases h with h | h
            all_goals
              have := congrArg List.length h
              rw [List.length_append] at this
              omega
          have HSP := Lib.hid k4
          by_cases hik : p ≤ k
          · have hnext := hnl k hkk hik HE.out
            have hl1 := hlb _ (.inl hnext)
            have HNEXT := Lib.hid hnext
            have hdk : decide (k < p) = false := decide_eq_false (by omega)
            have hsn := any_snoc_false done
            rw [← HW.out] at hsn
            have HSN := Lib.hid hsn
            have HDK := Lib.hid hdk
            clear hnext hnl hnr hlb hkk k4 hdk hsn
            go_wp2_with fail
            go_at_call 44
            refine (refsplit_any _ q (by omega) (by omega)).mono ?_
            rw [HSP.out]
            rintro e wz ⟨rfl, rfl⟩
            go_wp2_with ((with_reducible apply st_growC (w0 := w0) (xs := bools done) (ys := [.bool (decide (k < p))]) (z := .bool false) (b := 1)); exact Tryd.underlying42; exact binfo; rfl; decide; rfl; rfl; exact hG.alloc _; rfl; exact cell_one_new _ _ _; (intro u hu; simp at hu; subst hu; rfl); (rw [bools_len]; omega); intro v2 w2 hG2)
            rw [HDK.out, bools_snoc] at hG2
            go_roundw
            case rel => exact ⟨p, k, done ++ [false], wh, rfl, rfl, rfl, hp1, hik, by omega, hl1, HNEXT.out, HSN.out.symm, hG2⟩
            case measure => simp [intOf]; omega
          · have hnext := hnr k hkk hik HE.out
            have hl1 := hlb _ (.inr hnext)
            have HNEXT := Lib.hid hnext
            have hdk : decide (k < p) = true := decide_eq_true (by omega)
            have HDK := Lib.hid hdk
            clear hnext hnl hnr hlb hkk k4 hdk
            go_wp2_with fail
            go_at_call 44
            refine (refsplit_any _ q (by omega) (by omega)).mono ?_
            rw [HSP.out]
            rintro e wz ⟨rfl, rfl⟩
            go_wp2_with ((with_reducible apply st_growC (w0 := w0) (xs := bools done) (ys := [.bool (decide (k < p))]) (z := .bool false) (b := 1)); exact Tryd.underlying42; exact binfo; rfl; decide; rfl; rfl; exact hG.alloc _; rfl; exact cell_one_new _ _ _; (intro u hu; simp at hu; subst hu; rfl); (rw [bools_len]; omega); intro v2 w2 hG2)
            rw [HDK.out, bools_snoc] at hG2
            go_roundw
            case rel => exact ⟨p - k, q - k, done ++ [true], false, by go_num, by go_num, rfl, by omega, by omega, by omega, hl1, HNEXT.out, (any_snoc_true done).symm, hG2⟩
            case measure => simp [intOf]; omega
        · have he : S = done := by
            have := HE.out
            rw [gstepsF_small p q (by omega), List.append_nil] at this; exact this
          subst he
          have hww : wh = wholeF true S := by rw [HW.out]; unfold wholeF; rw [Bool.true_and]
          have hend := fun start at0 => bothK_end old S ps z start at0
          have HEND := Lib.hid hend
          obtain rfl : p = q := by omega
          obtain ⟨A1, c1, rfl, hc1, hn1, hr1, hx1⟩ := hG.2.from
          rw [bools_len] at hc1
          have hB1 := hB0.trans (hG.1.mono hB0.size)
          have hold1 := hold0.up hG.1
          have hroot1 := hroot0.up hG.1
          have hdd := HD.out.up hB1
          have hz1 := hroot1.lt
          rw [bools_len]
          clear hold0 hroot0 hB0 hG HE HW hend
          rename World => w1
          have HWW := Lib.hid hww
          clear hww
          cases wh

          · have hnd : needF true S = S.length + 1 := by unfold needF; rw [← HWW.out]; rfl
            by_cases hln : ps.length = S.length + 1
            · skip
              obtain ⟨p0, tl, hps⟩ : ∃ p0 tl, ps = p0 :: tl := by
                cases ps with
                | nil => simp at hln
                | cons p0 tl => exact ⟨p0, tl, rfl⟩
              have hhd : ps.headD [] = p0 := by rw [hps]; rfl
              have hln2 : ps.length = needF true S := by rw [hnd]; exact hln
              obtain ⟨hP, hall⟩ := HEND.out p0 1 (.inr ⟨HWW.out.symm, rfl, hhd.symm⟩) hln2
              have hne : ((ps.length : Int) != (S.length : Int) + 1) = false := by simp; omega
              have hsucc := fun k => bothK_succ p0 S (ps.drop 1) z k hP
              have hfin := fun a b (e : (a, b) = bothK p0 S (ps.drop 1) z S.length) => HCI.out a b hln2 (e.trans hall)
              have HSUCC := Lib.hid hsucc
              have HFIN := Lib.hid hfin
              obtain ⟨g0, off0, hA0, hg0, hcells0⟩ := hdd.get (by omega)
              have hp0u := hdd.u.at 0 (by omega)
              have hp0e : ps[0]'(by omega) = p0 := by simp [hps]
              rw [hp0e] at hp0u
              have HPO := Lib.hid hp0u
              have hc00 : ∀ j v, (nums .u8 p0)[j]? = some v → w1.cell? ⟨g0, off0 + j, none⟩ = some v := fun j v hv => by
                have := hcells0 0 (by omega) j v (by rw [hp0e]; exact hv)
                rwa [Nat.zero_mul, Nat.add_zero] at this
              have HC00 := Lib.hid hc00
              subst hA0
              clear hcells0 hc00 hp0u hp0e hhd hps
              have hb11 : Below w1.heap.size w1 (w1.alloc (.cells (nums .u8 (List.replicate 32 0)).toArray 45)) := (Below.refl _ _).alloc (Nat.le_refl _) _
              have hd0 : Blk (w1.alloc (.cells (nums .u8 (List.replicate 32 0)).toArray 45)) w1.heap.size (nums .u8 (List.replicate 32 0)) 45 := Blk.new' _ _ _ _ _ rfl rfl
              clear hsucc hfin hP hall hln2 hnd
              go_wp2_with (first | ((with_reducible apply st_load (n := 32) (cs := nums .u8 (old)) (T := 45)); rfl; exact hold1; exact Tryd.underlying45; rfl; kernel_rfl; (rw [nums_length, HOL.out.1]; exact Nat.le_refl _); (exact row_all _ _ (by rw [nums_length, HOL.out.1]))) | (((with_reducible apply st_storeW (off := 0) (vs := nums .u8 (old)) (cs := nums .u8 (List.replicate 32 0)) (T := 45)); rfl; rfl; exact hd0; (rw [nums_length, HOL.out.1]; kernel_rfl); (rw [nums_length, HOL.out.1]; decide); exact nums_one _ _; intro w2 hd2 hw2; rw [laid_all _ _ (by rw [nums_length, HOL.out.1]; rfl)] at hd2); have hb12 := Wrote.below hb11 hw2 (Nat.le_refl _); have hz2 := hw2.size; rw [World.size_alloc] at hz2; have hc02 : ∀ j v, (nums .u8 p0)[j]? = some v → w2.cell? ⟨g0, off0 + j, none⟩ = some v := (fun j v hv => (hb12.cell (p := ⟨g0, off0 + j, none⟩) hg0).trans (HC00.out j v hv))) | ((with_reducible apply st_loadCells (cs := nums .u8 (p0))); rfl; exact hc02; exact Tryd.underlying45; rfl; (rw [nums_length, HPO.out.1]; kernel_rfl)) | ((with_reducible apply st_storeW (off := 0) (vs := nums .u8 p0) (cs := nums .u8 old) (T := 45)); rfl; rfl; exact hd2; (rw [nums_length, HPO.out.1]; kernel_rfl); (rw [nums_length, nums_length, HPO.out.1, HOL.out.1]; decide); exact nums_one _ _; intro w3 hd3 hw3; rw [laid_all _ _ (by rw [nums_length, nums_length, HPO.out.1, HOL.out.1])] at hd3; have hb13 := Wrote.below hb12 hw3 (Nat.le_refl _); have hz3 := hw3.size; rw [hz2] at hz3; have hx0 : Blk (w3.alloc (.cells (nums .u8 (List.replicate 32 0)).toArray 45)) (w1.heap.size + 1) (nums .u8 (List.replicate 32 0)) 45 := Blk.new' _ _ _ _ _ rfl hz3.symm; have hd4 := hd3.alloc (.cells (nums .u8 (List.replicate 32 0)).toArray 45); have hb14 := hb13.alloc (by omega) (.cells (nums .u8 (List.replicate 32 0)).toArray 45)) | ((with_reducible apply st_load (n := 32) (cs := nums .u8 (p0)) (T := 45)); rfl; exact hd3; exact Tryd.underlying45; rfl; kernel_rfl; (rw [nums_length, HPO.out.1]; exact Nat.le_refl _); (exact row_all _ _ (by rw [nums_length, HPO.out.1]))) | ((with_reducible apply st_storeW (off := 0) (vs := nums .u8 (p0)) (cs := nums .u8 (List.replicate 32 0)) (T := 45)); rfl; rfl; exact hx0; (rw [nums_length, HPO.out.1]; kernel_rfl); (rw [nums_length, HPO.out.1]; decide); exact nums_one _ _; intro w5 hd5 hw5; rw [laid_all _ _ (by rw [nums_length, HPO.out.1]; rfl)] at hd5))
              have ha5 := hw5.blk hd4 (by omega)
              have hb15 := Wrote.below hb14 hw5 (by omega)
              go_loopw [18, 20] (fun at_ i wr => ∃ (k : Nat) (a b : List Int), at_ = .int .i64 ((k : Int) + 1) ∧ i = .int .i64 ((S.length : Int) - 1 - (k : Int)) ∧ k ≤ S.length ∧ Hid ((a, b) = bothK p0 S (ps.drop 1) z k) ∧ Hid (a.length = 32 ∧ U8 a) ∧ Hid (b.length = 32 ∧ U8 b) ∧ Below w1.heap.size w1 wr ∧ Blk wr w1.heap.size (nums .u8 a) 45 ∧ Blk wr (w1.heap.size + 1) (nums .u8 b) 45) (fun _ i _ => (intOf i + 1).toNat)
              case atStart => exact ⟨0, p0, p0, rfl, by go_num, by omega, rfl, HPO.out, HPO.out, hb15, ha5, hd5⟩
              case round =>
                clear hb11 hd0 hd3 hw3 hb13 hz3 hx0 hd4 hb14 ha5 hb15 hd5 hw5 hd2 hw2 hb12 hz2 hc02 hg0 HC00
                obtain ⟨k, a, b, rfl, rfl, hk, HAB, HA, HBB, hBr, har, hbr⟩ := hrel
                have har_l := har.lt
                have hbr_l := hbr.lt
                by_cases hlt : k < S.length
                · obtain ⟨g, off, hAe, hg, hcells⟩ := hdd.get (by omega)
                  obtain ⟨g1, o1, hA1e, hcb⟩ := hr1.get (by rw [bools_len]; omega)
                  injection hAe with hAe; injection hAe with hAe1 hAe2; have hAe1 := hAe1.symm; have hAe2 := hAe2.symm; subst hAe1 hAe2
                  subst hA1e
                  obtain ⟨t, ht0⟩ : ∃ t, t = S.length - 1 - k := ⟨_, rfl⟩
                  have hts : t < S.length := by omega
                  have ht : (S.length : Int) - 1 - (k : Int) = (t : Int) := by omega
                  obtain ⟨bb, hbb⟩ : ∃ bb, bb = S[t] := ⟨_, rfl⟩
                  have hup := HSUCC.out k hlt bb (by rw [hbb]; simp only [ht0])
                  rw [← HAB.out] at hup
                  have hbc := hcb t (.bool bb) (by simp [bools, hbb, hts])
                  have hg1 : g1 < w1.heap.size := World.block_lt_of_cell? (h := hbc)
                  have hjl : k + 1 < ps.length := by omega
                  have hxc := hcells (k + 1) hjl
                  have hxu := hdd.u.at (k + 1) hjl
                  have hxe : (ps.drop 1).getD k [] = ps[k + 1] := by rw [List.getD_eq_getElem?_getD, List.getElem?_drop, show 1 + k = k + 1 by omega, List.getElem?_eq_getElem hjl]; rfl
                  rw [hxe] at hup
                  obtain ⟨x, hx⟩ : ∃ x, x = ps[k + 1] := ⟨_, rfl⟩
                  rw [← hx] at hxc hxu hup
                  have hxr : ∀ j v, (nums .u8 x)[j]? = some v → wr.cell? ⟨g, off + (k + 1) * 32 + j, none⟩ = some v := fun j v hv => (hBr.cell (p := ⟨g, off + (k + 1) * 32 + j, none⟩) hg).trans (hxc j v hv)
                  have HXR := Lib.hid hxr
                  have HXU := Lib.hid hxu
                  have HUP := Lib.hid hup
                  have HBC := Lib.hid hbc
                  have hnx : Blk (wr.alloc (.cells (nums .u8 (List.replicate 32 0)).toArray 45)) wr.heap.size (nums .u8 (List.replicate 32 0)) 45 := Blk.new' _ _ _ _ _ rfl rfl
                  have hBa := hBr.alloc hBr.size (.cells (nums .u8 (List.replicate 32 0)).toArray 45)
                  clear hcells hcb hxc hxu hup hbc hbb hxe hx hxr ht0 hln hne
                  have hxr := HXR.out
                  cases bb
                  · have hup := HUP.out
                    simp only [nodeP, Bool.false_eq_true, if_false] at hup
                    obtain ⟨y, hy⟩ : ∃ y, y = nodeF b x z := ⟨_, rfl⟩
                    have hyo : y.length = 32 ∧ U8 y := by rw [hy]; exact ⟨nodeF_len _ _ _, nodeF_range _ _ _⟩
                    have hcy := fun (w : World) => refnode_any w b x HBB.out.1 HXU.out.1 HBB.out.2 HXU.out.2 z
                    rw [← hy] at hcy hup
                    have HCY := Lib.hid hcy
                    have HYO := Lib.hid hyo
                    have HUP2 := Lib.hid hup
                    clear hcy hyo hup hy
                    go_wp2_with (first | ((with_reducible apply st_loadCells (cs := nums .u8 (x))); rfl; exact hxr; exact Tryd.underlying45; rfl; (rw [nums_length, HXU.out.1]; kernel_rfl)) | (((with_reducible apply st_storeW (off := 0) (vs := nums .u8 (x)) (cs := nums .u8 (List.replicate 32 0)) (T := 45)); rfl; rfl; exact hnx; (rw [nums_length, HXU.out.1]; kernel_rfl); (rw [nums_length, HXU.out.1]; decide); exact nums_one _ _; intro w7 hd7 hw7; rw [laid_all _ _ (by rw [nums_length, HXU.out.1]; rfl)] at hd7); have har3 := hw7.blk (har.alloc _) (by omega); have hbr3 := hw7.blk (hbr.alloc _) (by omega); have hB3 := Wrote.below hBa hw7 hBr.size; have hbc := (hB3.cell (p := ⟨g1, o1 + t, none⟩) hg1).trans HBC.out) | ((with_reducible apply st_load (n := 32) (cs := nums .u8 (b)) (T := 45)); rfl; exact hbr3; exact Tryd.underlying45; rfl; kernel_rfl; (rw [nums_length, HBB.out.1]; exact Nat.le_refl _); (exact row_all _ _ (by rw [nums_length, HBB.out.1]))) | ((with_reducible apply st_load (n := 32) (cs := nums .u8 (x)) (T := 45)); rfl; exact hd7; exact Tryd.underlying45; rfl; kernel_rfl; (rw [nums_length, HXU.out.1]; exact Nat.le_refl _); (exact row_all _ _ (by rw [nums_length, HXU.out.1]))))
                    go_at_call 49
                    refine (HCY.out _).mono ?_
                    rintro e w8 ⟨rfl, hb8⟩
                    have hB8 := hB3.trans (hb8.mono hB3.size)
                    have har8 := har3.up hb8
                    have hbr8 := hbr3.up hb8
                    go_wp2_with ((with_reducible apply st_storeW (off := 0) (vs := nums .u8 y) (cs := nums .u8 b) (T := 45)); rfl; rfl; exact hbr8; (rw [nums_length, HYO.out.1]; kernel_rfl); (rw [nums_length, nums_length, HYO.out.1, HBB.out.1]; decide); exact nums_one _ _; intro w9 hd9 hw9; rw [laid_all _ _ (by rw [nums_length, nums_length, HYO.out.1, HBB.out.1])] at hd9)
                    go_roundw
                    case rel => exact ⟨k + 1, a, y, by go_num, by go_num, by omega, HUP2.out.symm, HA.out, HYO.out, Wrote.below hB8 hw9 (by omega), hw9.blk har8 (by omega), hd9⟩
                    case measure => simp [intOf]; omega
                  · have hup := HUP.out
                    simp only [nodeP, if_true] at hup
                    obtain ⟨v, hv⟩ : ∃ v, v = nodeF x a z := ⟨_, rfl⟩
                    have hvo : v.length = 32 ∧ U8 v := by rw [hv]; exact ⟨nodeF_len _ _ _, nodeF_range _ _ _⟩
                    have hcv := fun (w : World) => refnode_any w x a HXU.out.1 HA.out.1 HXU.out.2 HA.out.2 z
                    obtain ⟨y, hy⟩ : ∃ y, y = nodeF x b z := ⟨_, rfl⟩
                    have hyo : y.length = 32 ∧ U8 y := by rw [hy]; exact ⟨nodeF_len _ _ _, nodeF_range _ _ _⟩
                    have hcy := fun (w : World) => refnode_any w x b HXU.out.1 HBB.out.1 HXU.out.2 HBB.out.2 z
                    rw [← hv] at hcv hup
                    rw [← hy] at hcy hup
                    have HCV := Lib.hid hcv
                    have HVO := Lib.hid hvo
                    have HCY := Lib.hid hcy
                    have HYO := Lib.hid hyo
                    have HUP2 := Lib.hid hup
                    clear hcv hvo hcy hyo hup hv hy
                    go_wp2_with (first | ((with_reducible apply st_loadCells (cs := nums .u8 (x))); rfl; exact hxr; exact Tryd.underlying45; rfl; (rw [nums_length, HXU.out.1]; kernel_rfl)) | (((with_reducible apply st_storeW (off := 0) (vs := nums .u8 (x)) (cs := nums .u8 (List.replicate 32 0)) (T := 45)); rfl; rfl; exact hnx; (rw [nums_length, HXU.out.1]; kernel_rfl); (rw [nums_length, HXU.out.1]; decide); exact nums_one _ _; intro w7 hd7 hw7; rw [laid_all _ _ (by rw [nums_length, HXU.out.1]; rfl)] at hd7); have har3 := hw7.blk (har.alloc _) (by omega); have hbr3 := hw7.blk (hbr.alloc _) (by omega); have hB3 := Wrote.below hBa hw7 hBr.size; have hbc := (hB3.cell (p := ⟨g1, o1 + t, none⟩) hg1).trans HBC.out))
                    have hl7 := hd7.lt
                    have hB8 := hB3.drew
                    have har8 := har3.drew
                    have hbr8 := hbr3.drew
                    have hS : Same [wr.heap.size, w1.heap.size, w1.heap.size + 1] w7 w7.drew := Same.refl _ _
                    have hC : Below w7.heap.size w7 w7.drew := (Below.refl _ _).drew
                    refine wp_region_CF (Same [wr.heap.size, w1.heap.size, w1.heap.size + 1] w7) [3, 7, 8, 9] [9] (by kernel_rfl) (by kernel_rfl) (by intro c a w h; first | (obtain ⟨_, h, _⟩ := h; cases h; done) | (obtain ⟨_, _, h, _⟩ := h; cases h; done) | (obtain ⟨_, _, _, h, _⟩ := h; cases h; done) | (obtain ⟨_, _, _, _, h, _⟩ := h; cases h; done) | (rcases h with ⟨_, ⟨_, _, _, _, h, _⟩ | ⟨_, _, _, _, h, _⟩⟩ <;> cases h; done)) (by intro a w h; first | (obtain ⟨h, _⟩ := h; cases h; done) | (obtain ⟨_, h, _⟩ := h; cases h; done) | (obtain ⟨_, _, h, _⟩ := h; cases h; done) | (obtain ⟨_, _, _, h, _⟩ := h; cases h; done) | (rcases h with ⟨_, _, _, _, h, _⟩ | ⟨_, _, _, _, h, _⟩ <;> cases h; done)) (Same.refl _ _) ?_
                    repeat (refine wd_w (v := ?_) rfl rfl rfl rfl rfl rfl (fun w' hw' K hK => ?_) ?_; rotate_left; (have e1 := hw'.blk hd7 (by simp); have e2 := hw'.blk har3 (by simp); have e3 := hw'.blk hbr3 (by simp); go_wp2_with ((first | ((with_reducible apply st_load (n := 32) (cs := nums .u8 (x)) (T := 45)); rfl; exact e1; exact Tryd.underlying45; rfl; kernel_rfl; (rw [nums_length, HXU.out.1]; exact Nat.le_refl _); (exact row_all _ _ (by rw [nums_length, HXU.out.1]))) | ((with_reducible apply st_load (n := 32) (cs := nums .u8 (a)) (T := 45)); rfl; exact e2; exact Tryd.underlying45; rfl; kernel_rfl; (rw [nums_length, HA.out.1]; exact Nat.le_refl _); (exact row_all _ _ (by rw [nums_length, HA.out.1]))) | ((with_reducible apply st_load (n := 32) (cs := nums .u8 (b)) (T := 45)); rfl; exact e3; exact Tryd.underlying45; rfl; kernel_rfl; (rw [nums_length, HBB.out.1]; exact Nat.le_refl _); (exact row_all _ _ (by rw [nums_length, HBB.out.1]))))); exact rfl); simp only [Act.put, List.setIfInBounds_toArray, List.set_cons_zero, List.set_cons_succ])
                    refine wd_l rfl rfl (by intro a w h; first | (obtain ⟨h, _⟩ := h; cases h; done) | (obtain ⟨_, h, _⟩ := h; cases h; done) | (obtain ⟨_, _, h, _⟩ := h; cases h; done) | (obtain ⟨_, _, _, h, _⟩ := h; cases h; done) | (rcases h with ⟨_, _, _, _, h, _⟩ | ⟨_, _, _, _, h, _⟩ <;> cases h; done)) ?_
                    go_wp2_with fail
                    go_at_call 49
                    refine (HCV.out _).mono ?_
                    rintro e w8 ⟨rfl, hb⟩
                    have hB8 := hB8.trans (hb.mono hB8.size)
                    have hS := hS.below hb (by have := hC.size; simp; omega)
                    have hC := hC.trans (hb.mono hC.size)
                    have har8 := har8.up hb
                    have hbr8 := hbr8.up hb
                    go_wp2_with fail
                    refine ⟨.inr hS, ?_⟩
                    repeat (refine wd_w (v := ?_) rfl rfl rfl rfl rfl rfl (fun w' hw' K hK => ?_) ?_; rotate_left; (have e1 := hw'.blk hd7 (by simp); have e2 := hw'.blk har3 (by simp); have e3 := hw'.blk hbr3 (by simp); go_wp2_with ((first | ((with_reducible apply st_load (n := 32) (cs := nums .u8 (x)) (T := 45)); rfl; exact e1; exact Tryd.underlying45; rfl; kernel_rfl; (rw [nums_length, HXU.out.1]; exact Nat.le_refl _); (exact row_all _ _ (by rw [nums_length, HXU.out.1]))) | ((with_reducible apply st_load (n := 32) (cs := nums .u8 (a)) (T := 45)); rfl; exact e2; exact Tryd.underlying45; rfl; kernel_rfl; (rw [nums_length, HA.out.1]; exact Nat.le_refl _); (exact row_all _ _ (by rw [nums_length, HA.out.1]))) | ((with_reducible apply st_load (n := 32) (cs := nums .u8 (b)) (T := 45)); rfl; exact e3; exact Tryd.underlying45; rfl; kernel_rfl; (rw [nums_length, HBB.out.1]; exact Nat.le_refl _); (exact row_all _ _ (by rw [nums_length, HBB.out.1]))))); exact rfl); simp only [Act.put, List.setIfInBounds_toArray, List.set_cons_zero, List.set_cons_succ])
                    refine wd_l rfl rfl (by intro a w h; first | (obtain ⟨h, _⟩ := h; cases h; done) | (obtain ⟨_, h, _⟩ := h; cases h; done) | (obtain ⟨_, _, h, _⟩ := h; cases h; done) | (obtain ⟨_, _, _, h, _⟩ := h; cases h; done) | (rcases h with ⟨_, _, _, _, h, _⟩ | ⟨_, _, _, _, h, _⟩ <;> cases h; done)) ?_
                    go_wp2_with fail
                    go_at_call 49
                    refine (HCY.out _).mono ?_
                    rintro e w9 ⟨rfl, hb⟩
                    have hB8 := hB8.trans (hb.mono hB8.size)
                    have hS := hS.below hb (by have := hC.size; simp; omega)
                    have hC := hC.trans (hb.mono hC.size)
                    have har8 := har8.up hb
                    have hbr8 := hbr8.up hb
                    go_wp2_with fail
                    refine ⟨.inr hS, ?_⟩
                    refine wd_late rfl (by kernel_rfl) rfl rfl (by intro a w h; first | (obtain ⟨h, _⟩ := h; cases h; done) | (obtain ⟨_, h, _⟩ := h; cases h; done) | (obtain ⟨_, _, h, _⟩ := h; cases h; done) | (obtain ⟨_, _, _, h, _⟩ := h; cases h; done) | (rcases h with ⟨_, _, _, _, h, _⟩ | ⟨_, _, _, _, h, _⟩ <;> cases h; done)) ?_
                    go_wp2_with ((with_reducible apply st_storeW (off := 0) (vs := nums .u8 v) (cs := nums .u8 a) (T := 45)); rfl; rfl; exact har8; (rw [nums_length, HVO.out.1]; kernel_rfl); (rw [nums_length, nums_length, HVO.out.1, HA.out.1]; decide); exact nums_one _ _; intro w10 hd10 hw10; rw [laid_all _ _ (by rw [nums_length, nums_length, HVO.out.1, HA.out.1])] at hd10)
                    have hbr10 := hw10.blk hbr8 (by omega)
                    have hB10 := Wrote.below hB8 hw10 (Nat.le_refl _)
                    refine wd_last rfl (by kernel_rfl) rfl (by intro a w h; first | (obtain ⟨h, _⟩ := h; cases h; done) | (obtain ⟨_, h, _⟩ := h; cases h; done) | (obtain ⟨_, _, h, _⟩ := h; cases h; done) | (obtain ⟨_, _, _, h, _⟩ := h; cases h; done) | (rcases h with ⟨_, _, _, _, h, _⟩ | ⟨_, _, _, _, h, _⟩ <;> cases h; done)) ?_
                    go_wp2_with ((with_reducible apply st_storeW (off := 0) (vs := nums .u8 y) (cs := nums .u8 b) (T := 45)); rfl; rfl; exact hbr10; (rw [nums_length, HYO.out.1]; kernel_rfl); (rw [nums_length, nums_length, HYO.out.1, HBB.out.1]; decide); exact nums_one _ _; intro w11 hd11 hw11; rw [laid_all _ _ (by rw [nums_length, nums_length, HYO.out.1, HBB.out.1])] at hd11)
                    go_roundw
                    case rel => exact ⟨k + 1, v, y, by go_num, by go_num, by omega, HUP2.out.symm, HVO.out, HYO.out, Wrote.below hB10 hw11 (by omega), hw11.blk hd10 (by omega), hd11⟩
                    case measure => simp [intOf]; omega
                · have e : k = S.length := by omega
                  subst e
                  have HF := Lib.hid (HFIN.out a b HAB.out)
                  have HE1 := Lib.hid (run_eql_nums (P := Tryd.prog) (t := 45) Tryd.underlying45 Tryd.underlying5 (by kernel_rfl) (by kernel_rfl) a old HA.out.1 HOL.out.1)
                  have HE2 := Lib.hid (run_eql_nums (P := Tryd.prog) (t := 45) Tryd.underlying45 Tryd.underlying5 (by kernel_rfl) (by kernel_rfl) b root HBB.out.1 HRL.out)
                  have hold2 := hold1.below hBr hold1.lt
                  have hroot2 := hroot1.below hBr hroot1.lt
                  by_cases hao : a = old
                  · have he1 := HE1.out
                    rw [decide_eq_true hao] at he1
                    have he2 := HE2.out
                    have hf := HF.out
                    rw [decide_eq_true hao, Bool.true_and] at hf
                    have HFF := Lib.hid hf
                    clear hao hf
                    go_wp2_with (first | ((with_reducible apply st_load (n := 32) (cs := nums .u8 (a)) (T := 45)); rfl; exact har; exact Tryd.underlying45; rfl; kernel_rfl; (rw [nums_length, HA.out.1]; exact Nat.le_refl _); (exact row_all _ _ (by rw [nums_length, HA.out.1]))) | ((with_reducible apply st_load (n := 32) (cs := nums .u8 (old)) (T := 45)); rfl; exact hold2; exact Tryd.underlying45; rfl; kernel_rfl; (rw [nums_length, HOL.out.1]; exact Nat.le_refl _); (exact row_all _ _ (by rw [nums_length, HOL.out.1]))) | ((with_reducible apply st_load (n := 32) (cs := nums .u8 (b)) (T := 45)); rfl; exact hbr; exact Tryd.underlying45; rfl; kernel_rfl; (rw [nums_length, HBB.out.1]; exact Nat.le_refl _); (exact row_all _ _ (by rw [nums_length, HBB.out.1]))) | ((with_reducible apply st_load (n := 32) (cs := nums .u8 (root)) (T := 45)); rfl; exact hroot2; exact Tryd.underlying45; rfl; kernel_rfl; (rw [nums_length, HRL.out]; exact Nat.le_refl _); (exact row_all _ _ (by rw [nums_length, HRL.out]))) | ((with_reducible apply st_un); rfl))
                    go_ret
                    exact ⟨by rw [HFF.out]; rfl, hB1.trans (hBr.mono hB1.size)⟩
                  · have he1 := HE1.out
                    rw [decide_eq_false hao] at he1
                    have hf := HF.out
                    rw [decide_eq_false hao, Bool.false_and] at hf
                    have HFF := Lib.hid hf
                    clear hao hf
                    go_wp2_with (first | ((with_reducible apply st_load (n := 32) (cs := nums .u8 (a)) (T := 45)); rfl; exact har; exact Tryd.underlying45; rfl; kernel_rfl; (rw [nums_length, HA.out.1]; exact Nat.le_refl _); (exact row_all _ _ (by rw [nums_length, HA.out.1]))) | ((with_reducible apply st_load (n := 32) (cs := nums .u8 (old)) (T := 45)); rfl; exact hold2; exact Tryd.underlying45; rfl; kernel_rfl; (rw [nums_length, HOL.out.1]; exact Nat.le_refl _); (exact row_all _ _ (by rw [nums_length, HOL.out.1]))) | ((with_reducible apply st_load (n := 32) (cs := nums .u8 (b)) (T := 45)); rfl; exact hbr; exact Tryd.underlying45; rfl; kernel_rfl; (rw [nums_length, HBB.out.1]; exact Nat.le_refl _); (exact row_all _ _ (by rw [nums_length, HBB.out.1]))) | ((with_reducible apply st_load (n := 32) (cs := nums .u8 (root)) (T := 45)); rfl; exact hroot2; exact Tryd.underlying45; rfl; kernel_rfl; (rw [nums_length, HRL.out]; exact Nat.le_refl _); (exact row_all _ _ (by rw [nums_length, HRL.out]))) | ((with_reducible apply st_un); rfl))
                    go_ret
                    exact ⟨by rw [HFF.out]; rfl, hB1.trans (hBr.mono hB1.size)⟩
            · have hf := HCL.out (by rw [hnd]; exact hln)
              have hne : ((ps.length : Int) != (S.length : Int) + 1) = true := by simp; omega
              have HF := Lib.hid hf
              clear hf
              go_wp2_with fail
              go_ret
              exact ⟨by rw [HF.out]; rfl, hB1⟩
          · have hnd : needF true S = S.length := by unfold needF; rw [← HWW.out]; rfl
            by_cases hln : ps.length = S.length
            · skip
              have hln2 : ps.length = needF true S := by rw [hnd]; exact hln
              obtain ⟨hP, hall⟩ := HEND.out old 0 (.inl ⟨HWW.out.symm, rfl, rfl⟩) hln2
              have hne : ((ps.length : Int) != (S.length : Int)) = false := by simp; omega
              have hsucc := fun k => bothK_succ old S (ps.drop 0) z k hP
              have hfin := fun a b (e : (a, b) = bothK old S (ps.drop 0) z S.length) => HCI.out a b hln2 (e.trans hall)
              have HSUCC := Lib.hid hsucc
              have HFIN := Lib.hid hfin
              have hb11 : Below w1.heap.size w1 (w1.alloc (.cells (nums .u8 (List.replicate 32 0)).toArray 45)) := (Below.refl _ _).alloc (Nat.le_refl _) _
              have hd0 : Blk (w1.alloc (.cells (nums .u8 (List.replicate 32 0)).toArray 45)) w1.heap.size (nums .u8 (List.replicate 32 0)) 45 := Blk.new' _ _ _ _ _ rfl rfl
              clear hsucc hfin hP hall hln2 hnd
              go_wp2_with (first | ((with_reducible apply st_load (n := 32) (cs := nums .u8 (old)) (T := 45)); rfl; exact hold1; exact Tryd.underlying45; rfl; kernel_rfl; (rw [nums_length, HOL.out.1]; exact Nat.le_refl _); (exact row_all _ _ (by rw [nums_length, HOL.out.1]))) | (((with_reducible apply st_storeW (off := 0) (vs := nums .u8 (old)) (cs := nums .u8 (List.replicate 32 0)) (T := 45)); rfl; rfl; exact hd0; (rw [nums_length, HOL.out.1]; kernel_rfl); (rw [nums_length, HOL.out.1]; decide); exact nums_one _ _; intro w3 hd3 hw3; rw [laid_all _ _ (by rw [nums_length, HOL.out.1]; rfl)] at hd3); have hb13 := Wrote.below hb11 hw3 (Nat.le_refl _); have hz3 := hw3.size; rw [World.size_alloc] at hz3; have hx0 : Blk (w3.alloc (.cells (nums .u8 (List.replicate 32 0)).toArray 45)) (w1.heap.size + 1) (nums .u8 (List.replicate 32 0)) 45 := Blk.new' _ _ _ _ _ rfl hz3.symm; have hd4 := hd3.alloc (.cells (nums .u8 (List.replicate 32 0)).toArray 45); have hb14 := hb13.alloc (by omega) (.cells (nums .u8 (List.replicate 32 0)).toArray 45)) | ((with_reducible apply st_load (n := 32) (cs := nums .u8 (old)) (T := 45)); rfl; exact hd3; exact Tryd.underlying45; rfl; kernel_rfl; (rw [nums_length, HOL.out.1]; exact Nat.le_refl _); (exact row_all _ _ (by rw [nums_length, HOL.out.1]))) | ((with_reducible apply st_storeW (off := 0) (vs := nums .u8 (old)) (cs := nums .u8 (List.replicate 32 0)) (T := 45)); rfl; rfl; exact hx0; (rw [nums_length, HOL.out.1]; kernel_rfl); (rw [nums_length, HOL.out.1]; decide); exact nums_one _ _; intro w5 hd5 hw5; rw [laid_all _ _ (by rw [nums_length, HOL.out.1]; rfl)] at hd5))
              have ha5 := hw5.blk hd4 (by omega)
              have hb15 := Wrote.below hb14 hw5 (by omega)
              go_loopw [18, 20] (fun at_ i wr => ∃ (k : Nat) (a b : List Int), at_ = .int .i64 ((k : Int)) ∧ i = .int .i64 ((S.length : Int) - 1 - (k : Int)) ∧ k ≤ S.length ∧ Hid ((a, b) = bothK old S (ps.drop 0) z k) ∧ Hid (a.length = 32 ∧ U8 a) ∧ Hid (b.length = 32 ∧ U8 b) ∧ Below w1.heap.size w1 wr ∧ Blk wr w1.heap.size (nums .u8 a) 45 ∧ Blk wr (w1.heap.size + 1) (nums .u8 b) 45) (fun _ i _ => (intOf i + 1).toNat)
              case atStart => exact ⟨0, old, old, rfl, by go_num, by omega, rfl, HOL.out, HOL.out, hb15, ha5, hd5⟩
              case round =>
                clear hb11 hd0 hd3 hw3 hb13 hz3 hx0 hd4 hb14 ha5 hb15 hd5 hw5
                obtain ⟨k, a, b, rfl, rfl, hk, HAB, HA, HBB, hBr, har, hbr⟩ := hrel
                have har_l := har.lt
                have hbr_l := hbr.lt
                by_cases hlt : k < S.length
                · obtain ⟨g, off, hAe, hg, hcells⟩ := hdd.get (by omega)
                  obtain ⟨g1, o1, hA1e, hcb⟩ := hr1.get (by rw [bools_len]; omega)
                  subst hAe
                  subst hA1e
                  obtain ⟨t, ht0⟩ : ∃ t, t = S.length - 1 - k := ⟨_, rfl⟩
                  have hts : t < S.length := by omega
                  have ht : (S.length : Int) - 1 - (k : Int) = (t : Int) := by omega
                  obtain ⟨bb, hbb⟩ : ∃ bb, bb = S[t] := ⟨_, rfl⟩
                  have hup := HSUCC.out k hlt bb (by rw [hbb]; simp only [ht0])
                  rw [← HAB.out] at hup
                  have hbc := hcb t (.bool bb) (by simp [bools, hbb, hts])
                  have hg1 : g1 < w1.heap.size := World.block_lt_of_cell? (h := hbc)
                  have hjl : k < ps.length := by omega
                  have hxc := hcells (k) hjl
                  have hxu := hdd.u.at (k) hjl
                  have hxe : (ps.drop 0).getD k [] = ps[k] := by rw [List.getD_eq_getElem?_getD, List.getElem?_drop, show 0 + k = k by omega, List.getElem?_eq_getElem hjl]; rfl
                  rw [hxe] at hup
                  obtain ⟨x, hx⟩ : ∃ x, x = ps[k] := ⟨_, rfl⟩
                  rw [← hx] at hxc hxu hup
                  have hxr : ∀ j v, (nums .u8 x)[j]? = some v → wr.cell? ⟨g, off + (k) * 32 + j, none⟩ = some v := fun j v hv => (hBr.cell (p := ⟨g, off + (k) * 32 + j, none⟩) hg).trans (hxc j v hv)
                  have HXR := Lib.hid hxr
                  have HXU := Lib.hid hxu
                  have HUP := Lib.hid hup
                  have HBC := Lib.hid hbc
                  have hnx : Blk (wr.alloc (.cells (nums .u8 (List.replicate 32 0)).toArray 45)) wr.heap.size (nums .u8 (List.replicate 32 0)) 45 := Blk.new' _ _ _ _ _ rfl rfl
                  have hBa := hBr.alloc hBr.size (.cells (nums .u8 (List.replicate 32 0)).toArray 45)
                  clear hcells hcb hxc hxu hup hbc hbb hxe hx hxr ht0 hln hne
                  have hxr := HXR.out
                  cases bb
                  · have hup := HUP.out
                    simp only [nodeP, Bool.false_eq_true, if_false] at hup
                    obtain ⟨y, hy⟩ : ∃ y, y = nodeF b x z := ⟨_, rfl⟩
                    have hyo : y.length = 32 ∧ U8 y := by rw [hy]; exact ⟨nodeF_len _ _ _, nodeF_range _ _ _⟩
                    have hcy := fun (w : World) => refnode_any w b x HBB.out.1 HXU.out.1 HBB.out.2 HXU.out.2 z
                    rw [← hy] at hcy hup
                    have HCY := Lib.hid hcy
                    have HYO := Lib.hid hyo
                    have HUP2 := Lib.hid hup
                    clear hcy hyo hup hy
                    go_wp2_with (first | ((with_reducible apply st_loadCells (cs := nums .u8 (x))); rfl; exact hxr; exact Tryd.underlying45; rfl; (rw [nums_length, HXU.out.1]; kernel_rfl)) | (((with_reducible apply st_storeW (off := 0) (vs := nums .u8 (x)) (cs := nums .u8 (List.replicate 32 0)) (T := 45)); rfl; rfl; exact hnx; (rw [nums_length, HXU.out.1]; kernel_rfl); (rw [nums_length, HXU.out.1]; decide); exact nums_one _ _; intro w7 hd7 hw7; rw [laid_all _ _ (by rw [nums_length, HXU.out.1]; rfl)] at hd7); have har3 := hw7.blk (har.alloc _) (by omega); have hbr3 := hw7.blk (hbr.alloc _) (by omega); have hB3 := Wrote.below hBa hw7 hBr.size; have hbc := (hB3.cell (p := ⟨g1, o1 + t, none⟩) hg1).trans HBC.out) | ((with_reducible apply st_load (n := 32) (cs := nums .u8 (b)) (T := 45)); rfl; exact hbr3; exact Tryd.underlying45; rfl; kernel_rfl; (rw [nums_length, HBB.out.1]; exact Nat.le_refl _); (exact row_all _ _ (by rw [nums_length, HBB.out.1]))) | ((with_reducible apply st_load (n := 32) (cs := nums .u8 (x)) (T := 45)); rfl; exact hd7; exact Tryd.underlying45; rfl; kernel_rfl; (rw [nums_length, HXU.out.1]; exact Nat.le_refl _); (exact row_all _ _ (by rw [nums_length, HXU.out.1]))))
                    go_at_call 49
                    refine (HCY.out _).mono ?_
                    rintro e w8 ⟨rfl, hb8⟩
                    have hB8 := hB3.trans (hb8.mono hB3.size)
                    have har8 := har3.up hb8
                    have hbr8 := hbr3.up hb8
                    go_wp2_with ((with_reducible apply st_storeW (off := 0) (vs := nums .u8 y) (cs := nums .u8 b) (T := 45)); rfl; rfl; exact hbr8; (rw [nums_length, HYO.out.1]; kernel_rfl); (rw [nums_length, nums_length, HYO.out.1, HBB.out.1]; decide); exact nums_one _ _; intro w9 hd9 hw9; rw [laid_all _ _ (by rw [nums_length, nums_length, HYO.out.1, HBB.out.1])] at hd9)
                    go_roundw
                    case rel => exact ⟨k + 1, a, y, by go_num, by go_num, by omega, HUP2.out.symm, HA.out, HYO.out, Wrote.below hB8 hw9 (by omega), hw9.blk har8 (by omega), hd9⟩
                    case measure => simp [intOf]; omega
                  · have hup := HUP.out
                    simp only [nodeP, if_true] at hup
                    obtain ⟨v, hv⟩ : ∃ v, v = nodeF x a z := ⟨_, rfl⟩
                    have hvo : v.length = 32 ∧ U8 v := by rw [hv]; exact ⟨nodeF_len _ _ _, nodeF_range _ _ _⟩
                    have hcv := fun (w : World) => refnode_any w x a HXU.out.1 HA.out.1 HXU.out.2 HA.out.2 z
                    obtain ⟨y, hy⟩ : ∃ y, y = nodeF x b z := ⟨_, rfl⟩
                    have hyo : y.length = 32 ∧ U8 y := by rw [hy]; exact ⟨nodeF_len _ _ _, nodeF_range _ _ _⟩
                    have hcy := fun (w : World) => refnode_any w x b HXU.out.1 HBB.out.1 HXU.out.2 HBB.out.2 z
                    rw [← hv] at hcv hup
                    rw [← hy] at hcy hup
                    have HCV := Lib.hid hcv
                    have HVO := Lib.hid hvo
                    have HCY := Lib.hid hcy
                    have HYO := Lib.hid hyo
                    have HUP2 := Lib.hid hup
                    clear hcv hvo hcy hyo hup hv hy
                    go_wp2_with (first | ((with_reducible apply st_loadCells (cs := nums .u8 (x))); rfl; exact hxr; exact Tryd.underlying45; rfl; (rw [nums_length, HXU.out.1]; kernel_rfl)) | (((with_reducible apply st_storeW (off := 0) (vs := nums .u8 (x)) (cs := nums .u8 (List.replicate 32 0)) (T := 45)); rfl; rfl; exact hnx; (rw [nums_length, HXU.out.1]; kernel_rfl); (rw [nums_length, HXU.out.1]; decide); exact nums_one _ _; intro w7 hd7 hw7; rw [laid_all _ _ (by rw [nums_length, HXU.out.1]; rfl)] at hd7); have har3 := hw7.blk (har.alloc _) (by omega); have hbr3 := hw7.blk (hbr.alloc _) (by omega); have hB3 := Wrote.below hBa hw7 hBr.size; have hbc := (hB3.cell (p := ⟨g1, o1 + t, none⟩) hg1).trans HBC.out))
                    have hl7 := hd7.lt
                    have hB8 := hB3.drew
                    have har8 := har3.drew
                    have hbr8 := hbr3.drew
                    have hS : Same [wr.heap.size, w1.heap.size, w1.heap.size + 1] w7 w7.drew := Same.refl _ _
                    have hC : Below w7.heap.size w7 w7.drew := (Below.refl _ _).drew
                    refine wp_region_CF (Same [wr.heap.size, w1.heap.size, w1.heap.size + 1] w7) [3, 7, 8, 9] [9] (by kernel_rfl) (by kernel_rfl) (by intro c a w h; first | (obtain ⟨_, h, _⟩ := h; cases h; done) | (obtain ⟨_, _, h, _⟩ := h; cases h; done) | (obtain ⟨_, _, _, h, _⟩ := h; cases h; done) | (obtain ⟨_, _, _, _, h, _⟩ := h; cases h; done) | (rcases h with ⟨_, ⟨_, _, _, _, h, _⟩ | ⟨_, _, _, _, h, _⟩⟩ <;> cases h; done)) (by intro a w h; first | (obtain ⟨h, _⟩ := h; cases h; done) | (obtain ⟨_, h, _⟩ := h; cases h; done) | (obtain ⟨_, _, h, _⟩ := h; cases h; done) | (obtain ⟨_, _, _, h, _⟩ := h; cases h; done) | (rcases h with ⟨_, _, _, _, h, _⟩ | ⟨_, _, _, _, h, _⟩ <;> cases h; done)) (Same.refl _ _) ?_
                    repeat (refine wd_w (v := ?_) rfl rfl rfl rfl rfl rfl (fun w' hw' K hK => ?_) ?_; rotate_left; (have e1 := hw'.blk hd7 (by simp); have e2 := hw'.blk har3 (by simp); have e3 := hw'.blk hbr3 (by simp); go_wp2_with ((first | ((with_reducible apply st_load (n := 32) (cs := nums .u8 (x)) (T := 45)); rfl; exact e1; exact Tryd.underlying45; rfl; kernel_rfl; (rw [nums_length, HXU.out.1]; exact Nat.le_refl _); (exact row_all _ _ (by rw [nums_length, HXU.out.1]))) | ((with_reducible apply st_load (n := 32) (cs := nums .u8 (a)) (T := 45)); rfl; exact e2; exact Tryd.underlying45; rfl; kernel_rfl; (rw [nums_length, HA.out.1]; exact Nat.le_refl _); (exact row_all _ _ (by rw [nums_length, HA.out.1]))) | ((with_reducible apply st_load (n := 32) (cs := nums .u8 (b)) (T := 45)); rfl; exact e3; exact Tryd.underlying45; rfl; kernel_rfl; (rw [nums_length, HBB.out.1]; exact Nat.le_refl _); (exact row_all _ _ (by rw [nums_length, HBB.out.1]))))); exact rfl); simp only [Act.put, List.setIfInBounds_toArray, List.set_cons_zero, List.set_cons_succ])
                    refine wd_l rfl rfl (by intro a w h; first | (obtain ⟨h, _⟩ := h; cases h; done) | (obtain ⟨_, h, _⟩ := h; cases h; done) | (obtain ⟨_, _, h, _⟩ := h; cases h; done) | (obtain ⟨_, _, _, h, _⟩ := h; cases h; done) | (rcases h with ⟨_, _, _, _, h, _⟩ | ⟨_, _, _, _, h, _⟩ <;> cases h; done)) ?_
                    go_wp2_with fail
                    go_at_call 49
                    refine (HCV.out _).mono ?_
                    rintro e w8 ⟨rfl, hb⟩
                    have hB8 := hB8.trans (hb.mono hB8.size)
                    have hS := hS.below hb (by have := hC.size; simp; omega)
                    have hC := hC.trans (hb.mono hC.size)
                    have har8 := har8.up hb
                    have hbr8 := hbr8.up hb
                    go_wp2_with fail
                    refine ⟨.inr hS, ?_⟩
                    repeat (refine wd_w (v := ?_) rfl rfl rfl rfl rfl rfl (fun w' hw' K hK => ?_) ?_; rotate_left; (have e1 := hw'.blk hd7 (by simp); have e2 := hw'.blk har3 (by simp); have e3 := hw'.blk hbr3 (by simp); go_wp2_with ((first | ((with_reducible apply st_load (n := 32) (cs := nums .u8 (x)) (T := 45)); rfl; exact e1; exact Tryd.underlying45; rfl; kernel_rfl; (rw [nums_length, HXU.out.1]; exact Nat.le_refl _); (exact row_all _ _ (by rw [nums_length, HXU.out.1]))) | ((with_reducible apply st_load (n := 32) (cs := nums .u8 (a)) (T := 45)); rfl; exact e2; exact Tryd.underlying45; rfl; kernel_rfl; (rw [nums_length, HA.out.1]; exact Nat.le_refl _); (exact row_all _ _ (by rw [nums_length, HA.out.1]))) | ((with_reducible apply st_load (n := 32) (cs := nums .u8 (b)) (T := 45)); rfl; exact e3; exact Tryd.underlying45; rfl; kernel_rfl; (rw [nums_length, HBB.out.1]; exact Nat.le_refl _); (exact row_all _ _ (by rw [nums_length, HBB.out.1]))))); exact rfl); simp only [Act.put, List.setIfInBounds_toArray, List.set_cons_zero, List.set_cons_succ])
                    refine wd_l rfl rfl (by intro a w h; first | (obtain ⟨h, _⟩ := h; cases h; done) | (obtain ⟨_, h, _⟩ := h; cases h; done) | (obtain ⟨_, _, h, _⟩ := h; cases h; done) | (obtain ⟨_, _, _, h, _⟩ := h; cases h; done) | (rcases h with ⟨_, _, _, _, h, _⟩ | ⟨_, _, _, _, h, _⟩ <;> cases h; done)) ?_
                    go_wp2_with fail
                    go_at_call 49
                    refine (HCY.out _).mono ?_
                    rintro e w9 ⟨rfl, hb⟩
                    have hB8 := hB8.trans (hb.mono hB8.size)
                    have hS := hS.below hb (by have := hC.size; simp; omega)
                    have hC := hC.trans (hb.mono hC.size)
                    have har8 := har8.up hb
                    have hbr8 := hbr8.up hb
                    go_wp2_with fail
                    refine ⟨.inr hS, ?_⟩
                    refine wd_late rfl (by kernel_rfl) rfl rfl (by intro a w h; first | (obtain ⟨h, _⟩ := h; cases h; done) | (obtain ⟨_, h, _⟩ := h; cases h; done) | (obtain ⟨_, _, h, _⟩ := h; cases h; done) | (obtain ⟨_, _, _, h, _⟩ := h; cases h; done) | (rcases h with ⟨_, _, _, _, h, _⟩ | ⟨_, _, _, _, h, _⟩ <;> cases h; done)) ?_
                    go_wp2_with ((with_reducible apply st_storeW (off := 0) (vs := nums .u8 v) (cs := nums .u8 a) (T := 45)); rfl; rfl; exact har8; (rw [nums_length, HVO.out.1]; kernel_rfl); (rw [nums_length, nums_length, HVO.out.1, HA.out.1]; decide); exact nums_one _ _; intro w10 hd10 hw10; rw [laid_all _ _ (by rw [nums_length, nums_length, HVO.out.1, HA.out.1])] at hd10)
                    have hbr10 := hw10.blk hbr8 (by omega)
                    have hB10 := Wrote.below hB8 hw10 (Nat.le_refl _)
                    refine wd_last rfl (by kernel_rfl) rfl (by intro a w h; first | (obtain ⟨h, _⟩ := h; cases h; done) | (obtain ⟨_, h, _⟩ := h; cases h; done) | (obtain ⟨_, _, h, _⟩ := h; cases h; done) | (obtain ⟨_, _, _, h, _⟩ := h; cases h; done) | (rcases h with ⟨_, _, _, _, h, _⟩ | ⟨_, _, _, _, h, _⟩ <;> cases h; done)) ?_
                    go_wp2_with ((with_reducible apply st_storeW (off := 0) (vs := nums .u8 y) (cs := nums .u8 b) (T := 45)); rfl; rfl; exact hbr10; (rw [nums_length, HYO.out.1]; kernel_rfl); (rw [nums_length, nums_length, HYO.out.1, HBB.out.1]; decide); exact nums_one _ _; intro w11 hd11 hw11; rw [laid_all _ _ (by rw [nums_length, nums_length, HYO.out.1, HBB.out.1])] at hd11)
                    go_roundw
                    case rel => exact ⟨k + 1, v, y, by go_num, by go_num, by omega, HUP2.out.symm, HVO.out, HYO.out, Wrote.below hB10 hw11 (by omega), hw11.blk hd10 (by omega), hd11⟩
                    case measure => simp [intOf]; omega
                · have e : k = S.length := by omega
                  subst e
                  have HF := Lib.hid (HFIN.out a b HAB.out)
                  have HE1 := Lib.hid (run_eql_nums (P := Tryd.prog) (t := 45) Tryd.underlying45 Tryd.underlying5 (by kernel_rfl) (by kernel_rfl) a old HA.out.1 HOL.out.1)
                  have HE2 := Lib.hid (run_eql_nums (P := Tryd.prog) (t := 45) Tryd.underlying45 Tryd.underlying5 (by kernel_rfl) (by kernel_rfl) b root HBB.out.1 HRL.out)
                  have hold2 := hold1.below hBr hold1.lt
                  have hroot2 := hroot1.below hBr hroot1.lt
                  by_cases hao : a = old
                  · have he1 := HE1.out
                    rw [decide_eq_true hao] at he1
                    have he2 := HE2.out
                    have hf := HF.out
                    rw [decide_eq_true hao, Bool.true_and] at hf
                    have HFF := Lib.hid hf
                    clear hao hf
                    go_wp2_with (first | ((with_reducible apply st_load (n := 32) (cs := nums .u8 (a)) (T := 45)); rfl; exact har; exact Tryd.underlying45; rfl; kernel_rfl; (rw [nums_length, HA.out.1]; exact Nat.le_refl _); (exact row_all _ _ (by rw [nums_length, HA.out.1]))) | ((with_reducible apply st_load (n := 32) (cs := nums .u8 (old)) (T := 45)); rfl; exact hold2; exact Tryd.underlying45; rfl; kernel_rfl; (rw [nums_length, HOL.out.1]; exact Nat.le_refl _); (exact row_all _ _ (by rw [nums_length, HOL.out.1]))) | ((with_reducible apply st_load (n := 32) (cs := nums .u8 (b)) (T := 45)); rfl; exact hbr; exact Tryd.underlying45; rfl; kernel_rfl; (rw [nums_length, HBB.out.1]; exact Nat.le_refl _); (exact row_all _ _ (by rw [nums_length, HBB.out.1]))) | ((with_reducible apply st_load (n := 32) (cs := nums .u8 (root)) (T := 45)); rfl; exact hroot2; exact Tryd.underlying45; rfl; kernel_rfl; (rw [nums_length, HRL.out]; exact Nat.le_refl _); (exact row_all _ _ (by rw [nums_length, HRL.out]))) | ((with_reducible apply st_un); rfl))
                    go_ret
                    exact ⟨by rw [HFF.out]; rfl, hB1.trans (hBr.mono hB1.size)⟩
                  · have he1 := HE1.out
                    rw [decide_eq_false hao] at he1
                    have hf := HF.out
                    rw [decide_eq_false hao, Bool.false_and] at hf
                    have HFF := Lib.hid hf
                    clear hao hf
                    go_wp2_with (first | ((with_reducible apply st_load (n := 32) (cs := nums .u8 (a)) (T := 45)); rfl; exact har; exact Tryd.underlying45; rfl; kernel_rfl; (rw [nums_length, HA.out.1]; exact Nat.le_refl _); (exact row_all _ _ (by rw [nums_length, HA.out.1]))) | ((with_reducible apply st_load (n := 32) (cs := nums .u8 (old)) (T := 45)); rfl; exact hold2; exact Tryd.underlying45; rfl; kernel_rfl; (rw [nums_length, HOL.out.1]; exact Nat.le_refl _); (exact row_all _ _ (by rw [nums_length, HOL.out.1]))) | ((with_reducible apply st_load (n := 32) (cs := nums .u8 (b)) (T := 45)); rfl; exact hbr; exact Tryd.underlying45; rfl; kernel_rfl; (rw [nums_length, HBB.out.1]; exact Nat.le_refl _); (exact row_all _ _ (by rw [nums_length, HBB.out.1]))) | ((with_reducible apply st_load (n := 32) (cs := nums .u8 (root)) (T := 45)); rfl; exact hroot2; exact Tryd.underlying45; rfl; kernel_rfl; (rw [nums_length, HRL.out]; exact Nat.le_refl _); (exact row_all _ _ (by rw [nums_length, HRL.out]))) | ((with_reducible apply st_un); rfl))
                    go_ret
                    exact ⟨by rw [HFF.out]; rfl, hB1.trans (hBr.mono hB1.size)⟩
            · have hf := HCL.out (by rw [hnd]; exact hln)
              have hne : ((ps.length : Int) != (S.length : Int)) = true := by simp; omega
              have HF := Lib.hid hf
              clear hf
              go_wp2_with fail
              go_ret
              exact ⟨by rw [HF.out]; rfl, hB1⟩
end RefCheckG
end Go.Proofs.YtiogopneklmodaaDoor
