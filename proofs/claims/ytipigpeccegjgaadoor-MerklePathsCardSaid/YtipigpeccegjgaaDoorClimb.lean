/- What merkle.climb and merkle.CheckPath answer. Condition: the table of layer 2 reads as its text lays it. -/
import Derived.Test.YtipigpeccegjgaaDoorPure6
import Derived.Test.YtipigpeccegjgaaDoorCell2
namespace Go.Proofs.YtipigpeccegjgaaDoor
open Go.RowKit

theorem Same.alloc {S : List Nat} {w w' : World} (h : Same S w w') (hS : ∀ g, g ∈ S → g < w'.heap.size) (o : Obj) : Same S w (w'.alloc o) := fun g hg => (Below.heap_alloc w' o g (hS g hg)).trans (h g hg)
theorem spot_none {g off : Nat} : ∀ ad, some (⟨g, off, none⟩ : Addr) = some ad → ad.spot = none := fun ad he => by obtain rfl := Option.some.inj he; rfl
theorem nn_some {a : Addr} {c : Nat} : some a = none → c = 0 := fun h => by cases h
theorem Same.drewR {S : List Nat} {w w' : World} (h : Same S w w') : Same S w w'.drew := h
theorem Same.wrote {S : List Nat} {w w' w'' : World} {g : Nat} (h : Same S w w') (hw : Wrote w' w'' g) (hg : g ∉ S) : Same S w w'' := fun k hk => (hw.far k (fun e => hg (e ▸ hk))).trans (h k hk)
def GivesC (n : Nat) (i : Int) (leaf : List Int) (ps : List (List Int)) (z : Int) (w : World) (e : Ending) (w' : World) : Prop :=
  ∃ (d : List Int) (b : Bool), e = .returned (.tuple #[.agg (nums .u8 d).toArray, .bool b]) ∧ d.length = 32 ∧ U8 d ∧ Hid (b = decide (ps.length = (stepsF n i).length)) ∧ Hid (ps.length = (stepsF n i).length → d = upF leaf (stepsF n i).reverse ps z) ∧ Below w.heap.size w w'
theorem climb_left {n : Nat} {i z : Int} {leaf d last : List Int} {rest : List (List Int)} {b : Bool} (h : 2 ≤ n) (hi : i < kF n) (hb : b = decide (rest.length = (stepsF (kF n) i).length)) (hd : rest.length = (stepsF (kF n) i).length → d = upF leaf (stepsF (kF n) i).reverse rest z) :
    b = decide ((rest ++ [last]).length = (stepsF n i).length) ∧ ((rest ++ [last]).length = (stepsF n i).length → nodeF d last z = upF leaf (stepsF n i).reverse (rest ++ [last]) z) := by
  rw [stepsF_left n i h hi]
  constructor
  · rw [hb]; simp
  · intro hl
    have hl : rest.length = (stepsF (kF n) i).length := by simpa using hl
    rw [List.reverse_cons, upF_one _ _ _ _ _ _ (by simp [hl]), ← hd hl]; rfl
theorem climb_right {n : Nat} {i z : Int} {leaf d last : List Int} {rest : List (List Int)} {b : Bool} (h : 2 ≤ n) (hi : ¬ i < kF n) (hb : b = decide (rest.length = (stepsF (n - kF n) (i - kF n)).length)) (hd : rest.length = (stepsF (n - kF n) (i - kF n)).length → d = upF leaf (stepsF (n - kF n) (i - kF n)).reverse rest z) :
    b = decide ((rest ++ [last]).length = (stepsF n i).length) ∧ ((rest ++ [last]).length = (stepsF n i).length → nodeF last d z = upF leaf (stepsF n i).reverse (rest ++ [last]) z) := by
  rw [stepsF_right n i h hi]
  constructor
  · rw [hb]; simp
  · intro hl
    have hl : rest.length = (stepsF (n - kF n) (i - kF n)).length := by simpa using hl
    rw [List.reverse_cons, upF_one _ _ _ _ _ _ (by simp [hl]), ← hd hl]; rfl

/-- Digest{}. -/
theorem st_zeroD {ops : Array Oper} {rest : List Oper} {a : Act} {w : World} {Q : Exit → Act → World → Prop} {d' : Option Tmp} {tt : TypeId} {pos : String} {after : Array Edge}
    (h : ∀ Z : List Int, Hid (Z = List.replicate 32 0) → Z.length = 32 → wpList Tryd.prog ops Q rest (a.put d' (.agg (nums .u8 Z).toArray)) w) :
    wpList Tryd.prog ops Q (⟨d', .build 25 #[], tt, pos, after, none⟩ :: rest) a w :=
  wpList_plain rfl fun K hK => by
    unfold Oper.wp execOp
    simp only [Sem.run_bind, List.map_toArray, List.map_nil]
    rw [run_build w _ _ (nums .u8 (List.replicate 32 0)).toArray (by kernel_rfl)]
    exact hK _ _ (h _ rfl List.length_replicate)

def climb0 (w : World) (leaf : List Int) : World := (w.alloc (.cells (nums .u8 leaf).toArray 25)).alloc (.cells (nums .u8 (List.replicate 32 0)).toArray 25)
theorem climb0_x (w : World) (leaf : List Int) : Blk ((w.alloc (.cells (nums .u8 leaf).toArray 25)).alloc (.cells (nums .u8 (List.replicate 32 0)).toArray 25)) w.heap.size (nums .u8 leaf) 25 := (Blk.new' _ _ _ _ _ rfl rfl).alloc _
theorem climb0_r (w : World) (leaf : List Int) : Blk ((w.alloc (.cells (nums .u8 leaf).toArray 25)).alloc (.cells (nums .u8 (List.replicate 32 0)).toArray 25)) (w.heap.size + 1) (nums .u8 (List.replicate 32 0)) 25 := Blk.new' _ _ _ _ _ rfl (by simp)
theorem climb0_B (w : World) (leaf : List Int) : Below w.heap.size w ((w.alloc (.cells (nums .u8 leaf).toArray 25)).alloc (.cells (nums .u8 (List.replicate 32 0)).toArray 25)) := ((Below.refl _ _).alloc (Nat.le_refl _) _).alloc (by simp) _

set_option maxHeartbeats 1000000 in
theorem climb_one (w : World) (i : Int) (leaf : List Int) (ps : List (List Int)) (A : Option Addr) (c : Nat) (hlf : leaf.length = 32) (ulf : U8 leaf) (z : Int) :
    Calls Tryd.prog 43 #[.int .i64 1, .int .i64 i, .agg (nums .u8 leaf).toArray, .slice A ps.length c, .int .i64 z] w (GivesC 1 i leaf ps z w) := by
  have HLF := Lib.hid hlf
  have hx0 := climb0_x w leaf
  have hr0 := climb0_r w leaf
  have hB := climb0_B w leaf
  have hs := stepsF_small 1 i (by decide)
  have hb : ((ps.length : Int) == 0) = decide (ps.length = (stepsF 1 i).length) := by rw [hs, Bool.eq_iff_iff]; simp
  have hdd : ps.length = (stepsF 1 i).length → leaf = upF leaf (stepsF 1 i).reverse ps z := by
    rw [hs]; intro h
    rw [List.eq_nil_of_length_eq_zero h]; rfl
  have HBB := Lib.hid hb
  have HDD := Lib.hid hdd
  clear hs hb hdd
  go_enter Tryd.func43, Tryd.ntmps43
  go_wp2_with (first | ((with_reducible apply st_load (n := 32) (cs := nums .u8 (leaf)) (T := 25)); rfl; exact hx0; exact Tryd.underlying25; rfl; kernel_rfl; (rw [nums_length, HLF.out]; exact Nat.le_refl _); (exact row_all _ _ (by rw [nums_length, HLF.out]))) | (apply st_storeW (off := 0) (vs := nums .u8 (leaf)) (cs := nums .u8 (List.replicate 32 0)) (T := 25); rfl; rfl; exact hr0; (rw [nums_length, HLF.out]; kernel_rfl); (rw [nums_length, HLF.out]; decide); exact nums_one _ _; intro w1 hd1 hw1; rw [laid_all _ _ (by rw [nums_length, HLF.out]; rfl)] at hd1))
  refine bodyPost_ret (ret_row_tmp rfl _ _ _ (nums .u8 (leaf)) 25 _ rfl hd1 Tryd.underlying25 rfl (by rw [nums_length, HLF.out]; kernel_rfl)) rfl (⟨leaf, _, rfl, HLF.out, ulf, HBB.out, HDD.out, Wrote.below hB hw1 (by omega)⟩)

set_option maxHeartbeats 1000000 in
theorem climb_nil (n : Nat) (w : World) (i : Int) (leaf : List Int) (A : Option Addr) (c : Nat) (z : Int) (hn : 2 ≤ n) (hmax : n ≤ 9223372036854775807) :
    Calls Tryd.prog 43 #[.int .i64 n, .int .i64 i, .agg (nums .u8 leaf).toArray, .slice A 0 c, .int .i64 z] w (GivesC n i leaf [] z w) := by
  have hr0 := climb0_r w leaf
  have hB := climb0_B w leaf
  have hb : false = decide (([] : List (List Int)).length = (stepsF n i).length) := by
    symm; apply decide_eq_false
    by_cases hik : i < kF n
    · rw [stepsF_left n i (by omega) hik]; simp
    · rw [stepsF_right n i (by omega) hik]; simp
  have hdd : ([] : List (List Int)).length = (stepsF n i).length → List.replicate 32 0 = upF leaf (stepsF n i).reverse [] z := fun h => by
    rw [decide_eq_true h] at hb; cases hb
  have hzu : U8 (List.replicate 32 0) := U8.of fun x hx => by rw [(List.mem_replicate.1 hx).2]; omega
  have HBB := Lib.hid hb
  have HDD := Lib.hid hdd
  clear hb hdd
  go_enter Tryd.func43, Tryd.ntmps43
  go_wp2_with (first | (apply st_zeroD; intro Z HZ hzl; have HZL := Lib.hid hzl; clear hzl) | (apply st_storeW (off := 0) (vs := nums .u8 (Z)) (cs := nums .u8 (List.replicate 32 0)) (T := 25); rfl; rfl; exact hr0; (rw [nums_length, HZL.out]; kernel_rfl); (rw [nums_length, HZL.out]; decide); exact nums_one _ _; intro w1 hd1 hw1; rw [laid_all _ _ (by rw [nums_length, HZL.out]; rfl)] at hd1))
  refine bodyPost_ret (ret_row_tmp rfl _ _ _ (nums .u8 (Z)) 25 _ rfl hd1 Tryd.underlying25 rfl (by rw [nums_length, HZL.out]; kernel_rfl)) rfl (⟨Z, _, rfl, HZL.out, by rw [HZ.out]; exact hzu, HBB.out, by rw [HZ.out]; exact HDD.out, Wrote.below hB hw1 (by omega)⟩)
end Go.Proofs.YtipigpeccegjgaaDoor
