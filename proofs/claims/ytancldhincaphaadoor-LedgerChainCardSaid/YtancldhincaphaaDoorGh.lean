/- Lists of digests in memory, and the root of a list. No condition. What merkle.Root answers. Condition: the table of layer 2 reads as its text lays it. What the reference's Root answers. No condition. What the reference's Few and Same of layer 6 answer; what inquestlaw06.lives answers. What the reference's Same of layer 6 answers; what inquestlaw06.lives answers. -/
import Derived.Test.YtancldhincaphaaDoorGg
import Derived.Test.YtancldhincaphaaDoorGe
import Derived.Maps.AppendAt
namespace Go.Proofs.YtancldhincaphaaDoor
set_option maxRecDepth 100000
section Dig
open Go.RowKit

def Dgs (ds : List (List Int)) : Prop := ∀ d ∈ ds, d.length = 32 ∧ U8 d
theorem Dgs.take {ds : List (List Int)} (h : Dgs ds) (k : Nat) : Dgs (ds.take k) := fun d hd => h d (List.mem_of_mem_take hd)
theorem Dgs.drop {ds : List (List Int)} (h : Dgs ds) (k : Nat) : Dgs (ds.drop k) := fun d hd => h d (List.mem_of_mem_drop hd)
theorem Dgs.append {ds es : List (List Int)} (h : Dgs ds) (g : Dgs es) : Dgs (ds ++ es) := fun d hd => by
  rcases List.mem_append.1 hd with h1 | h1
  · exact h d h1
  · exact g d h1
theorem Dgs.one {d : List Int} (h : d.length = 32) (u : U8 d) : Dgs [d] := fun e he => by
  rw [List.mem_singleton] at he; subst he; exact ⟨h, u⟩
theorem Dgs.nil : Dgs [] := fun d hd => by cases hd
theorem Dgs.at {ds : List (List Int)} (h : Dgs ds) (i : Nat) (hi : i < ds.length) : (ds[i]).length = 32 ∧ U8 (ds[i]) := h _ (List.getElem_mem _)
theorem Dgs.flat {ds : List (List Int)} (h : Dgs ds) : ds.flatten.length = 32 * ds.length := by
  induction ds with
  | nil => rfl
  | cons d ds ih =>
    have h1 := (h d (by simp)).1
    have h2 := ih (fun e he => h e (by simp [he]))
    simp only [List.flatten_cons, List.length_append, List.length_cons, h1, h2]; omega
theorem Dgs.dropFlat {ds : List (List Int)} (h : Dgs ds) (k : Nat) (hk : k ≤ ds.length) : (ds.drop k).flatten = ds.flatten.drop (32 * k) := by
  induction k generalizing ds with
  | zero => simp
  | succ k ih =>
    cases ds with
    | nil => simp
    | cons d ds =>
      have h1 := (h d (by simp)).1
      rw [List.drop_succ_cons, ih (fun e he => h e (by simp [he])) (by simpa using hk), List.flatten_cons]
      rw [show 32 * (k + 1) = d.length + 32 * k by omega, List.drop_append]
      simp
theorem Dgs.takeFlat {ds : List (List Int)} (h : Dgs ds) (k : Nat) (hk : k ≤ ds.length) : (ds.take k).flatten = ds.flatten.take (32 * k) := by
  induction k generalizing ds with
  | zero => simp
  | succ k ih =>
    cases ds with
    | nil => simp
    | cons d ds =>
      have h1 := (h d (by simp)).1
      rw [List.take_succ_cons, List.flatten_cons, ih (fun e he => h e (by simp [he])) (by simpa using hk), List.flatten_cons]
      rw [show 32 * (k + 1) = d.length + 32 * k by omega, List.take_append, List.take_of_length_le (l := d) (by omega), Nat.add_sub_cancel_left]
theorem Dgs.atFlat {ds : List (List Int)} (h : Dgs ds) (i : Nat) (hi : i < ds.length) : (ds.flatten.drop (32 * i)).take 32 = ds[i] := by
  rw [← h.dropFlat i (by omega), List.drop_eq_getElem_cons hi, List.flatten_cons]
  have := (h.at i hi).1
  rw [← this, List.take_left']
  rfl

/-- A slice of digests. -/
structure Dg (w : World) (A : Option Addr) (c : Nat) (ds : List (List Int)) : Prop where
  rd : Rd w A (nums .u8 ds.flatten)
  le : ds.length ≤ c
  nn : A = none → c = 0
  u : Dgs ds
theorem Dg.nil (w : World) : Dg w none 0 [] := ⟨Rd.nil _ _, Nat.le_refl _, fun _ => rfl, Dgs.nil⟩
theorem Dg.up {w w' : World} {A : Option Addr} {c : Nat} {ds : List (List Int)} (h : Dg w A c ds) (hb : Below w.heap.size w w') : Dg w' A c ds := ⟨h.rd.up hb, h.le, h.nn, h.u⟩
theorem Dg.take {w : World} {A : Option Addr} {c : Nat} {ds : List (List Int)} (h : Dg w A c ds) (k : Nat) (hk : k ≤ ds.length) : Dg w A c (ds.take k) :=
  ⟨by rw [h.u.takeFlat k hk, nums_take]; exact h.rd.take _, by rw [List.length_take]; have := h.le; omega, h.nn, h.u.take k⟩
theorem Rd.from' {w : World} {A : Option Addr} {cs : List Value} (h : Rd w A cs) (i : Nat) : Rd w (A.map (·.add i)) (cs.drop i) := by
  rcases h with h | ⟨g, off, rfl, hr⟩
  · subst h; rw [List.drop_nil]; exact Rd.nil _ _
  · refine .inr ⟨g, off + i, ?_, fun j v hv => ?_⟩
    · simp only [Option.map_some, Option.some.injEq]; unfold Addr.add; split <;> simp_all
    · rw [List.getElem?_drop] at hv
      have := hr (i + j) v hv
      rwa [← Nat.add_assoc] at this
theorem Dg.drop {w : World} {A : Option Addr} {c : Nat} {ds : List (List Int)} (h : Dg w A c ds) (k : Nat) (hk : k ≤ ds.length) : Dg w (if c = k then A else A.map (·.add (k * 32))) (c - k) (ds.drop k) := by
  have hd : nums .u8 ((ds.drop k).flatten) = (nums .u8 ds.flatten).drop (k * 32) := by rw [h.u.dropFlat k hk, Nat.mul_comm, nums_drop]
  have hl := h.le
  refine ⟨?_, by rw [List.length_drop]; omega, ?_, h.u.drop k⟩
  · by_cases e : c = k
    · rw [if_pos e, List.drop_of_length_le (by omega)]; exact Rd.nil _ _
    · rw [if_neg e, hd]; exact h.rd.from' _
  · intro hA
    by_cases e : c = k
    · omega
    · rw [if_neg e] at hA
      have := h.nn (by cases A with | none => rfl | some a => cases hA)
      omega
theorem Dg.get {w : World} {A : Option Addr} {c : Nat} {ds : List (List Int)} (h : Dg w A c ds) (hl : 0 < ds.length) : ∃ g off, A = some ⟨g, off, none⟩ ∧ g < w.heap.size ∧ ∀ i (hi : i < ds.length) j v, (nums .u8 ds[i])[j]? = some v → w.cell? ⟨g, off + i * 32 + j, none⟩ = some v := by
  have hf := h.u.flat
  obtain ⟨g, off, rfl, hr⟩ := h.rd.get (by rw [nums_length, hf]; omega)
  refine ⟨g, off, rfl, h.rd.lt (by rw [nums_length, hf]; omega) _ rfl, fun i hi j v hv => ?_⟩
  rw [← h.u.atFlat i hi] at hv
  have h1 : (nums .u8 ds.flatten)[32 * i + j]? = some v := by
    have hj : j < 32 := by
      by_cases hj : j < 32
      · exact hj
      · rw [List.getElem?_eq_none (by rw [nums_length, List.length_take]; omega)] at hv; cases hv
    unfold nums at hv ⊢
    rw [List.map_take, List.map_drop, List.getElem?_take_of_lt hj, List.getElem?_drop] at hv
    exact hv
  have h2 := hr _ _ h1
  rw [show off + i * 32 + j = off + (32 * i + j) by omega]; exact h2

section
variable {P : Program} {ops : Array Oper} {Q : Exit → Act → World → Prop} {rest : List Oper} {a : Act} {w : World}
/-- x[i:] of a slice. -/
theorem st_fromD {d' : Option Tmp} {tt t e : TypeId} {x lo : Operand} {pos : String} {after : Array Edge} {A A2 : Option Addr} {n c i sz : Nat} {k : IntKind} {z : Int}
    (hu : P.underlying t = some (.slice e)) (hsz : (P.info? e).map (·.size) = some sz) (hx : a.eval x = .slice A n c) (hlo : a.eval lo = .int k z) (hz : z = i) (hi : i ≤ n) (hA2 : A2 = (if c = i then A else A.map (·.add (i * sz))))
    (h : wpList P ops Q rest (a.put d' (.slice A2 (n - i) (c - i))) w) :
    wpList P ops Q (⟨d', .slice t x (some lo) none none, tt, pos, after, none⟩ :: rest) a w :=
  wpList_plain rfl fun K hK => by
    subst hz hA2
    have hrun : (Instr.sliceAt t (.slice A n c) (some (.int k i)) none none).run P w = .ok (.slice (if c = i then A else A.map (·.add (i * sz))) (n - i) (c - i)) w := by
      cases hq : P.info? e with
      | none => simp [hq] at hsz
      | some info =>
        have hs : info.size = sz := by simpa [hq] using hsz
        simp [Instr.sliceAt, run_underlying hu, Instr.slice, Instr.sliceBounds, Instr.sliceBound, asIntOf, sizeOf, typeInfo, hq, hs, hi]
    unfold Oper.wp execOp
    simp only [Sem.run_bind, hx, Option.map_some, Option.map_none, hlo, hrun]
    exact hK _ _ h
/-- x[:i] of a slice. -/
theorem st_toD {d' : Option Tmp} {tt t e : TypeId} {x hi : Operand} {pos : String} {after : Array Edge} {A : Option Addr} {n c i sz : Nat} {k : IntKind} {z : Int}
    (hu : P.underlying t = some (.slice e)) (hsz : (P.info? e).map (·.size) = some sz) (hx : a.eval x = .slice A n c) (hlo : a.eval hi = .int k z) (hz : z = i) (hi' : i ≤ c) (hA : A = none → c = 0)
    (hA2 : ∀ ad, A = some ad → ad.spot = none)
    (h : wpList P ops Q rest (a.put d' (.slice A i c)) w) :
    wpList P ops Q (⟨d', .slice t x none (some hi) none, tt, pos, after, none⟩ :: rest) a w :=
  wpList_plain rfl fun K hK => by
    subst hz
    have hrun : (Instr.sliceAt t (.slice A n c) none (some (.int k i)) none).run P w = .ok (.slice A i c) w := by
      cases hq : P.info? e with
      | none => simp [hq] at hsz
      | some info =>
        simp [Instr.sliceAt, run_underlying hu, Instr.slice, Instr.sliceBounds, Instr.sliceBound, asIntOf, sizeOf, typeInfo, hq, hi']
        cases A with
        | none => simp
        | some ad => have := hA2 ad rfl; cases ad; simp_all [Addr.add]
    unfold Oper.wp execOp
    simp only [Sem.run_bind, hx, Option.map_some, Option.map_none, hlo, hrun]
    exact hK _ _ h
/-- A row of cells at an address, loaded as one value. -/
theorem st_loadCells {d' : Option Tmp} {ty tt : TypeId} {x : Operand} {pos : String} {after : Array Edge} {g off : Nat} {cs : List Value} {d : TypeDesc}
    (hx : a.eval x = .pointer (some ⟨g, off, none⟩)) (hcs : ∀ j v, cs[j]? = some v → w.cell? ⟨g, off + j, none⟩ = some v) (hu : P.underlying ty = some d) (hd : isRow d = true)
    (hi : (P.info? ty).map (·.size) = some cs.length) (h : wpList P ops Q rest (a.put d' (.agg cs.toArray)) w) :
    wpList P ops Q (⟨d', .load ty x, tt, pos, after, none⟩ :: rest) a w :=
  wpList_plain rfl fun K hK => by
    have hl : (loadCells ⟨g, off, none⟩ cs.length).run P w = .ok cs.toArray w :=
      run_loadCells_list (P := P) w ⟨g, off, none⟩ _ (fun j v hv => by
        have hadd : (⟨g, off, none⟩ : Addr).add j = ⟨g, off + j, none⟩ := by unfold Addr.add; split <;> simp_all
        rw [hadd]; exact hcs j v hv)
    have hrun : (loadVar ty ⟨g, off, none⟩).run P w = .ok (.agg cs.toArray) w := by
      cases hq : P.info? ty with
      | none => simp [hq] at hi
      | some i =>
        have hs : i.size = cs.length := by simpa [hq] using hi
        have hagg : (isAgg ty).run P w = .ok true w := by
          unfold isAgg
          rw [Sem.run_bind, run_underlying hu w]
          cases d <;> simp_all [isRow]
        simp [loadVar, Sem.run_bind, hagg, sizeOf, typeInfo, hq, hs, hl]
    unfold Oper.wp execOp
    simp only [hx, Instr.loadAt, Instr.sureAddr, Sem.run_bind, Sem.run_pure, Result.andThen_ok, hrun]
    exact hK _ _ h
end

def kF (n : Nat) : Nat := (splitF n).toNat
theorem kF_spec (n : Nat) (h : 2 ≤ n) : 1 ≤ kF n ∧ kF n < n ∧ n ≤ 2 * kF n ∧ splitF n = (kF n : Int) := by
  obtain ⟨a, h1, h2, h3⟩ := splitF_spec n (by omega)
  have hp : 0 < 2 ^ a := Nat.two_pow_pos a
  unfold kF
  rw [h1]
  omega
def rootF (ds : List (List Int)) (w : Int) : List Int :=
  if _h : ds.length < 2 then (match ds with | [] => cutF (sumF []) w | d :: _ => d)
  else nodeF (rootF (ds.take (kF ds.length)) w) (rootF (ds.drop (kF ds.length)) w) w
termination_by ds.length
decreasing_by
  all_goals
    have := kF_spec ds.length (by omega)
    simp only [List.length_take, List.length_drop]
    omega
theorem rootF_nil (w : Int) : rootF [] w = cutF (sumF []) w := by rw [rootF, dif_pos (by simp)]
theorem rootF_one (d : List Int) (w : Int) : rootF [d] w = d := by rw [rootF, dif_pos (by simp)]
theorem rootF_big (ds : List (List Int)) (w : Int) (h : 2 ≤ ds.length) : rootF ds w = nodeF (rootF (ds.take (kF ds.length)) w) (rootF (ds.drop (kF ds.length)) w) w := by
  rw [rootF, dif_neg (by omega)]
theorem rootF_ok (ds : List (List Int)) (w : Int) (hu : Dgs ds) : (rootF ds w).length = 32 ∧ U8 (rootF ds w) := by
  by_cases h : 2 ≤ ds.length
  · rw [rootF_big ds w h]; exact ⟨nodeF_len _ _ _, nodeF_range _ _ _⟩
  · match ds, h with
    | [], _ => rw [rootF_nil]; exact ⟨cutF_sum _ _, cutF_range _ _ (sumF_range _)⟩
    | [d], _ => rw [rootF_one]; exact hu d (by simp)
    | _ :: _ :: _, h => simp at h
end Dig
section Root
open Go.RowKit

set_option maxRecDepth 100000 in
set_option maxHeartbeats 4000000 in
theorem root_any (n : Nat) : ∀ (w : World) (ds : List (List Int)) (A : Option Addr) (c : Nat), ds.length = n → Dg w A c ds → ds.length ≤ 1000000 → ∀ (z : Int), KV w →
    Calls Tryd.prog 47 #[.slice A ds.length c, .int .i64 z] w fun e w' => e = .returned (.agg (nums .u8 (rootF ds z)).toArray) ∧ Below w.heap.size w w' := by
  induction n using Nat.strongRecOn with
  | ind n ih =>
    intro w ds A c hn hd hl z hk
    subst hn
    have HK := Lib.hid hk
    have hok := rootF_ok ds z hd.u
    have hB0 : Below w.heap.size w (w.alloc (.cells (nums .u8 (List.replicate 32 0)).toArray 24)) := (Below.refl _ _).alloc (Nat.le_refl _) _
    have hr0 : Blk (w.alloc (.cells (nums .u8 (List.replicate 32 0)).toArray 24)) w.heap.size (nums .u8 (List.replicate 32 0)) 24 := Blk.new' _ _ _ _ _ rfl rfl
    by_cases h0 : ds.length = 0
    · have hds : ds = [] := List.eq_nil_of_length_eq_zero h0
      subst hds
      obtain ⟨m, hm⟩ : ∃ m, m = rootF [] z := ⟨_, rfl⟩
      have hlf : cutF (sumF []) z = m := by rw [hm, rootF_nil]
      rw [← hm] at hok ⊢
      have HML := Lib.hid hok.1
      have HLF := Lib.hid hlf
      clear hk hlf hm hok ih
      go_enter Tryd.func47, Tryd.ntmps47
      go_wp2_with fail
      go_at_call 72
      refine (sum_any _ [] none 0 (Rd.nil _ _) (Nat.le_refl _) (fun _ => rfl) (by decide) (HK.out.below hB0 HK.out.lt)).mono ?_
      rintro e w1 ⟨rfl, hb1⟩
      have hB1 := hB0.trans (hb1.mono hB0.size)
      have hr1 := hr0.up hb1
      go_wp2_with fail
      go_at_call 67
      have hcall := cut_any w1 (sumF []) (sumF_len _) z
      rw [HLF.out] at hcall; refine hcall.mono ?_; clear hcall
      rintro e w2 ⟨rfl, hb2⟩
      have hB2 := hB1.trans (hb2.mono hB1.size)
      have hr2 := hr1.up hb2
      go_wp2_with ((with_reducible apply st_storeW (off := 0) (vs := nums .u8 (m)) (cs := nums .u8 (List.replicate 32 0)) (T := 24)); rfl; rfl; exact hr2; (rw [nums_length, HML.out]; kernel_rfl); (rw [nums_length, HML.out]; decide); exact nums_one _ _; intro w3 hd3 hw3; rw [laid_all _ _ (by rw [nums_length, HML.out]; rfl)] at hd3)
      refine bodyPost_ret (ret_row rfl _ _ _ (nums .u8 (m)) 24 _ rfl hd3 Tryd.underlying24 rfl (by rw [nums_length, HML.out]; kernel_rfl)) rfl ⟨rfl, Wrote.below hB2 hw3 (Nat.le_refl _)⟩
    · by_cases h1 : ds.length = 1
      · obtain ⟨d, hds⟩ := List.length_eq_one_iff.1 h1
        subst hds
        rw [rootF_one] at hok ⊢
        obtain ⟨g, off, rfl, hg, hcells⟩ := hd.get (by simp)
        have hc0 : ∀ j v, (nums .u8 d)[j]? = some v → w.cell? ⟨g, off + j, none⟩ = some v := fun j v hv => by
          have := hcells 0 (by simp) j v hv
          rwa [Nat.zero_mul, Nat.add_zero] at this
        have hc1 : ∀ j v, (nums .u8 d)[j]? = some v → (w.alloc (.cells (nums .u8 (List.replicate 32 0)).toArray 24)).cell? ⟨g, off + j, none⟩ = some v := fun j v hv => by
          rw [hB0.cell (p := ⟨g, off + j, none⟩) hg]; exact hc0 j v hv
        have HML := Lib.hid hok.1
        clear hk hc0 hcells hok ih
        go_enter Tryd.func47, Tryd.ntmps47
        go_wp2_with (first | (apply st_loadCells (cs := nums .u8 d); rfl; exact hc1; exact Tryd.underlying24; rfl; (rw [nums_length, HML.out]; kernel_rfl)) | ((with_reducible apply st_storeW (off := 0) (vs := nums .u8 (d)) (cs := nums .u8 (List.replicate 32 0)) (T := 24)); rfl; rfl; exact hr0; (rw [nums_length, HML.out]; kernel_rfl); (rw [nums_length, HML.out]; decide); exact nums_one _ _; intro w3 hd3 hw3; rw [laid_all _ _ (by rw [nums_length, HML.out]; rfl)] at hd3))
        refine bodyPost_ret (ret_row rfl _ _ _ (nums .u8 (d)) 24 _ rfl hd3 Tryd.underlying24 rfl (by rw [nums_length, HML.out]; kernel_rfl)) rfl ⟨rfl, Wrote.below hB0 hw3 (Nat.le_refl _)⟩
      · have hks := kF_spec ds.length (by omega)
        obtain ⟨k, hkk⟩ : ∃ k, k = kF ds.length := ⟨_, rfl⟩
        rw [← hkk] at hks
        obtain ⟨k1, k2, k3, k4⟩ := hks
        obtain ⟨m, hm⟩ : ∃ m, m = rootF ds z := ⟨_, rfl⟩
        have hm2 : nodeF (rootF (ds.take k) z) (rootF (ds.drop k) z) z = m := by rw [hm, hkk, rootF_big ds z (by omega)]
        rw [← hm] at hok ⊢
        have ht := hd.take k (by omega)
        have hdr := hd.drop k (by omega)
        have htl : (ds.take k).length = k := by rw [List.length_take]; omega
        have hdl : (ds.drop k).length = ds.length - k := by rw [List.length_drop]
        have hc1 := fun (w : World) (h : Dg w A c (ds.take k)) => ih k (by omega) w (ds.take k) A c htl h (by omega) z
        obtain ⟨A2, hA2⟩ : ∃ A2 : Option Addr, A2 = (if c = k then A else A.map (·.add (k * 32))) := ⟨_, rfl⟩
        rw [← hA2] at hdr
        have HA2 := Lib.hid hA2
        clear hA2
        have hc2 := fun (w : World) (h : Dg w A2 (c - k) (ds.drop k)) => ih (ds.length - k) (by omega) w (ds.drop k) A2 (c - k) hdl h (by omega) z
        rw [htl] at hc1
        rw [hdl] at hc2
        obtain ⟨x, hx⟩ : ∃ x, x = rootF (ds.take k) z := ⟨_, rfl⟩
        obtain ⟨y, hy⟩ : ∃ y, y = rootF (ds.drop k) z := ⟨_, rfl⟩
        have hxo := rootF_ok (ds.take k) z (hd.u.take k)
        have hyo := rootF_ok (ds.drop k) z (hd.u.drop k)
        rw [← hx] at hc1 hm2 hxo
        rw [← hy] at hc2 hm2 hyo
        have HC1 := Lib.hid hc1
        have HC2 := Lib.hid hc2
        have HM2 := Lib.hid hm2
        have HXO := Lib.hid hxo
        have HYO := Lib.hid hyo
        have HML := Lib.hid hok.1
        have HT := Lib.hid ht
        have HDR := Lib.hid hdr
        have HSP := Lib.hid k4
        have hdle := hd.le
        have hdnn := hd.nn
        have hspot : ∀ ad, A = some ad → ad.spot = none := fun ad he => by
          obtain ⟨g, off, hA, _⟩ := hd.get (by omega)
          rw [hA] at he; injection he with he; rw [← he]
        have HNN := Lib.hid hdnn
        have HSPOT := Lib.hid hspot
        clear ih hk hkk hm hm2 hc1 hc2 hx hy hxo hyo hok ht hdr htl hdl hd k4 hdnn hspot
        go_enter Tryd.func47, Tryd.ntmps47
        go_wp2_with fail
        go_at_call 73
        refine (split_any _ ds.length (by omega) (by omega)).mono ?_
        rw [HSP.out]
        rintro e w1 ⟨rfl, hw1⟩
        have hB1 : Below w.heap.size w w1 := by rw [← hw1]; exact hB0
        have hr1 : Blk w1 w.heap.size (nums .u8 (List.replicate 32 0)) 24 := by rw [← hw1]; exact hr0
        clear hw1 hB0 hr0
        go_wp2_with fail
        have hB1 := hB1.drew
        have hr1 := hr1.drew
        refine wp_region_C (Same [] w1) [4, 9, 11, 12] (by kernel_rfl) (by kernel_rfl) (by intro c a w h; first | (obtain ⟨_, h, _⟩ := h; cases h; done) | (obtain ⟨_, _, h, _⟩ := h; cases h; done) | (obtain ⟨_, _, _, h, _⟩ := h; cases h; done) | (obtain ⟨_, _, _, _, h, _⟩ := h; cases h; done) | (rcases h with ⟨_, ⟨_, _, _, _, h, _⟩ | ⟨_, _, _, _, h, _⟩⟩ <;> cases h; done)) (by intro a w h; first | (obtain ⟨h, _⟩ := h; cases h; done) | (obtain ⟨_, h, _⟩ := h; cases h; done) | (obtain ⟨_, _, h, _⟩ := h; cases h; done) | (obtain ⟨_, _, _, h, _⟩ := h; cases h; done) | (rcases h with ⟨_, _, _, _, h, _⟩ | ⟨_, _, _, _, h, _⟩ <;> cases h; done)) (Same.refl _ _) ?_
        repeat (refine wd_w (v := ?_) rfl rfl rfl rfl rfl rfl (fun w' hw' K hK => ?_) ?_; rotate_left; (skip; go_wp2_with ((apply st_toD (sz := 32) (i := k); exact Tryd.underlying66; kernel_rfl; rfl; rfl; rfl; omega; exact HNN.out; exact HSPOT.out)); exact rfl); simp only [Act.put, List.setIfInBounds_toArray, List.set_cons_zero, List.set_cons_succ])
        refine wd_l rfl rfl (by intro a w h; first | (obtain ⟨h, _⟩ := h; cases h; done) | (obtain ⟨_, h, _⟩ := h; cases h; done) | (obtain ⟨_, _, h, _⟩ := h; cases h; done) | (obtain ⟨_, _, _, h, _⟩ := h; cases h; done) | (rcases h with ⟨_, _, _, _, h, _⟩ | ⟨_, _, _, _, h, _⟩ <;> cases h; done)) ?_
        go_wp2_with fail
        go_at_call 47
        refine (HC1.out _ (HT.out.up hB1) (HK.out.below hB1 HK.out.lt)).mono ?_
        rintro e w2 ⟨rfl, hb2⟩
        have hB2 := hB1.trans (hb2.mono hB1.size)
        have hr2 := hr1.up hb2
        go_wp2_with fail
        refine ⟨.inr (fun g hg => by simp at hg), ?_⟩
        repeat (refine wd_w (v := ?_) rfl rfl rfl rfl rfl rfl (fun w' hw' K hK => ?_) ?_; rotate_left; (skip; go_wp2_with ((apply st_fromD (sz := 32) (A2 := A2) (i := k); exact Tryd.underlying66; kernel_rfl; rfl; rfl; rfl; omega; exact HA2.out)); exact rfl); simp only [Act.put, List.setIfInBounds_toArray, List.set_cons_zero, List.set_cons_succ])
        refine wd_l rfl rfl (by intro a w h; first | (obtain ⟨h, _⟩ := h; cases h; done) | (obtain ⟨_, h, _⟩ := h; cases h; done) | (obtain ⟨_, _, h, _⟩ := h; cases h; done) | (obtain ⟨_, _, _, h, _⟩ := h; cases h; done) | (rcases h with ⟨_, _, _, _, h, _⟩ | ⟨_, _, _, _, h, _⟩ <;> cases h; done)) ?_
        go_wp2_with fail
        go_at_call 47
        refine (HC2.out _ (HDR.out.up hB2) (HK.out.below hB2 HK.out.lt)).mono ?_
        rintro e w3 ⟨rfl, hb3⟩
        have hB3 := hB2.trans (hb3.mono hB2.size)
        have hr3 := hr2.up hb3
        go_wp2_with fail
        refine ⟨.inr (fun g hg => by simp at hg), ?_⟩
        repeat (refine wd_q (v := ?_) rfl rfl rfl rfl rfl rfl (fun w' hw' K hK => ?_) ?_; rotate_left; (skip; go_wp2; exact rfl); simp only [Act.put, List.setIfInBounds_toArray, List.set_cons_zero, List.set_cons_succ])
        refine wd_l rfl rfl (by intro a w h; first | (obtain ⟨h, _⟩ := h; cases h; done) | (obtain ⟨_, h, _⟩ := h; cases h; done) | (obtain ⟨_, _, h, _⟩ := h; cases h; done) | (obtain ⟨_, _, _, h, _⟩ := h; cases h; done) | (rcases h with ⟨_, _, _, _, h, _⟩ | ⟨_, _, _, _, h, _⟩ <;> cases h; done)) ?_
        go_wp2_with fail
        go_at_call 50
        have hcall := node_any w3 x y HXO.out.1 HYO.out.1 z (HK.out.below hB3 HK.out.lt)
        rw [HM2.out] at hcall; refine hcall.mono ?_; clear hcall
        rintro e w4 ⟨rfl, hb4⟩
        have hB4 := hB3.trans (hb4.mono hB3.size)
        have hr4 := hr3.up hb4
        go_wp2_with fail
        refine ⟨.inr (fun g hg => by simp at hg), ?_⟩
        repeat (refine wd_q (v := ?_) rfl rfl rfl rfl rfl rfl (fun w' hw' K hK => ?_) ?_; rotate_left; (skip; go_wp2; exact rfl); simp only [Act.put, List.setIfInBounds_toArray, List.set_cons_zero, List.set_cons_succ])
        refine wd_last rfl (by kernel_rfl) rfl (by intro a w h; first | (obtain ⟨h, _⟩ := h; cases h; done) | (obtain ⟨_, h, _⟩ := h; cases h; done) | (obtain ⟨_, _, h, _⟩ := h; cases h; done) | (obtain ⟨_, _, _, h, _⟩ := h; cases h; done) | (rcases h with ⟨_, _, _, _, h, _⟩ | ⟨_, _, _, _, h, _⟩ <;> cases h; done)) ?_
        go_wp2_with ((with_reducible apply st_storeW (off := 0) (vs := nums .u8 (m)) (cs := nums .u8 (List.replicate 32 0)) (T := 24)); rfl; rfl; exact hr4; (rw [nums_length, HML.out]; kernel_rfl); (rw [nums_length, HML.out]; decide); exact nums_one _ _; intro w5 hd5 hw5; rw [laid_all _ _ (by rw [nums_length, HML.out]; rfl)] at hd5)
        refine bodyPost_ret (ret_row rfl _ _ _ (nums .u8 (m)) 24 _ rfl hd5 Tryd.underlying24 rfl (by rw [nums_length, HML.out]; kernel_rfl)) rfl ⟨rfl, Wrote.below hB4 hw5 (Nat.le_refl _)⟩
end Root
section RefRoot
open Go.RowKit

set_option maxRecDepth 100000 in
set_option maxHeartbeats 4000000 in
theorem refroot_any (n : Nat) : ∀ (w : World) (ds : List (List Int)) (A : Option Addr) (c : Nat), ds.length = n → Dg w A c ds → ds.length ≤ 1000000 → ∀ (z : Int),
    Calls Tryd.prog 85 #[.slice A ds.length c, .int .i64 z] w fun e w' => e = .returned (.agg (nums .u8 (rootF ds z)).toArray) ∧ Below w.heap.size w w' := by
  induction n using Nat.strongRecOn with
  | ind n ih =>
    intro w ds A c hn hd hl z
    subst hn
    have hok := rootF_ok ds z hd.u
    have hB0 : Below w.heap.size w (w.alloc (.cells (nums .u8 (List.replicate 32 0)).toArray 24)) := (Below.refl _ _).alloc (Nat.le_refl _) _
    have hr0 : Blk (w.alloc (.cells (nums .u8 (List.replicate 32 0)).toArray 24)) w.heap.size (nums .u8 (List.replicate 32 0)) 24 := Blk.new' _ _ _ _ _ rfl rfl
    by_cases h0 : ds.length = 0
    · have hds : ds = [] := List.eq_nil_of_length_eq_zero h0
      subst hds
      obtain ⟨m, hm⟩ : ∃ m, m = rootF [] z := ⟨_, rfl⟩
      have hlf : cutF (sumF []) z = m := by rw [hm, rootF_nil]
      rw [← hm] at hok ⊢
      have HML := Lib.hid hok.1
      have HLF := Lib.hid hlf
      clear hlf hm hok ih
      go_enter Tryd.func85, Tryd.ntmps85
      go_wp2_with fail
      go_at_call 27
      refine (refsum_any _ [] none 0 (Rd.nil _ _) (fun _ => rfl) (by decide) U8.nil).mono ?_
      rintro e w1 ⟨rfl, hb1⟩
      have hB1 := hB0.trans (hb1.mono hB0.size)
      have hr1 := hr0.up hb1
      go_wp2_with fail
      go_at_call 53
      have hcall := refcutd_any w1 (sumF []) (sumF_len _) (sumF_range _) z
      rw [HLF.out] at hcall; refine hcall.mono ?_; clear hcall
      rintro e w2 ⟨rfl, hb2⟩
      have hB2 := hB1.trans (hb2.mono hB1.size)
      have hr2 := hr1.up hb2
      go_wp2_with ((with_reducible apply st_storeW (off := 0) (vs := nums .u8 (m)) (cs := nums .u8 (List.replicate 32 0)) (T := 24)); rfl; rfl; exact hr2; (rw [nums_length, HML.out]; kernel_rfl); (rw [nums_length, HML.out]; decide); exact nums_one _ _; intro w3 hd3 hw3; rw [laid_all _ _ (by rw [nums_length, HML.out]; rfl)] at hd3)
      refine bodyPost_ret (ret_row rfl _ _ _ (nums .u8 (m)) 24 _ rfl hd3 Tryd.underlying24 rfl (by rw [nums_length, HML.out]; kernel_rfl)) rfl ⟨rfl, Wrote.below hB2 hw3 (Nat.le_refl _)⟩
    · by_cases h1 : ds.length = 1
      · obtain ⟨d, hds⟩ := List.length_eq_one_iff.1 h1
        subst hds
        rw [rootF_one] at hok ⊢
        obtain ⟨g, off, rfl, hg, hcells⟩ := hd.get (by simp)
        have hc0 : ∀ j v, (nums .u8 d)[j]? = some v → w.cell? ⟨g, off + j, none⟩ = some v := fun j v hv => by
          have := hcells 0 (by simp) j v hv
          rwa [Nat.zero_mul, Nat.add_zero] at this
        have hc1 : ∀ j v, (nums .u8 d)[j]? = some v → (w.alloc (.cells (nums .u8 (List.replicate 32 0)).toArray 24)).cell? ⟨g, off + j, none⟩ = some v := fun j v hv => by
          rw [hB0.cell (p := ⟨g, off + j, none⟩) hg]; exact hc0 j v hv
        have HML := Lib.hid hok.1
        clear hc0 hcells hok ih
        go_enter Tryd.func85, Tryd.ntmps85
        go_wp2_with (first | (apply st_loadCells (cs := nums .u8 d); rfl; exact hc1; exact Tryd.underlying24; rfl; (rw [nums_length, HML.out]; kernel_rfl)) | ((with_reducible apply st_storeW (off := 0) (vs := nums .u8 (d)) (cs := nums .u8 (List.replicate 32 0)) (T := 24)); rfl; rfl; exact hr0; (rw [nums_length, HML.out]; kernel_rfl); (rw [nums_length, HML.out]; decide); exact nums_one _ _; intro w3 hd3 hw3; rw [laid_all _ _ (by rw [nums_length, HML.out]; rfl)] at hd3))
        refine bodyPost_ret (ret_row rfl _ _ _ (nums .u8 (d)) 24 _ rfl hd3 Tryd.underlying24 rfl (by rw [nums_length, HML.out]; kernel_rfl)) rfl ⟨rfl, Wrote.below hB0 hw3 (Nat.le_refl _)⟩
      · have hks := kF_spec ds.length (by omega)
        obtain ⟨k, hkk⟩ : ∃ k, k = kF ds.length := ⟨_, rfl⟩
        rw [← hkk] at hks
        obtain ⟨k1, k2, k3, k4⟩ := hks
        obtain ⟨m, hm⟩ : ∃ m, m = rootF ds z := ⟨_, rfl⟩
        have hm2 : nodeF (rootF (ds.take k) z) (rootF (ds.drop k) z) z = m := by rw [hm, hkk, rootF_big ds z (by omega)]
        rw [← hm] at hok ⊢
        have ht := hd.take k (by omega)
        have hdr := hd.drop k (by omega)
        have htl : (ds.take k).length = k := by rw [List.length_take]; omega
        have hdl : (ds.drop k).length = ds.length - k := by rw [List.length_drop]
        have hc1 := fun (w : World) (h : Dg w A c (ds.take k)) => ih k (by omega) w (ds.take k) A c htl h (by omega) z
        obtain ⟨A2, hA2⟩ : ∃ A2 : Option Addr, A2 = (if c = k then A else A.map (·.add (k * 32))) := ⟨_, rfl⟩
        rw [← hA2] at hdr
        have HA2 := Lib.hid hA2
        clear hA2
        have hc2 := fun (w : World) (h : Dg w A2 (c - k) (ds.drop k)) => ih (ds.length - k) (by omega) w (ds.drop k) A2 (c - k) hdl h (by omega) z
        rw [htl] at hc1
        rw [hdl] at hc2
        obtain ⟨x, hx⟩ : ∃ x, x = rootF (ds.take k) z := ⟨_, rfl⟩
        obtain ⟨y, hy⟩ : ∃ y, y = rootF (ds.drop k) z := ⟨_, rfl⟩
        have hxo := rootF_ok (ds.take k) z (hd.u.take k)
        have hyo := rootF_ok (ds.drop k) z (hd.u.drop k)
        rw [← hx] at hc1 hm2 hxo
        rw [← hy] at hc2 hm2 hyo
        have HC1 := Lib.hid hc1
        have HC2 := Lib.hid hc2
        have HM2 := Lib.hid hm2
        have HXO := Lib.hid hxo
        have HYO := Lib.hid hyo
        have HML := Lib.hid hok.1
        have HT := Lib.hid ht
        have HDR := Lib.hid hdr
        have HSP := Lib.hid k4
        have hdle := hd.le
        have hdnn := hd.nn
        have hspot : ∀ ad, A = some ad → ad.spot = none := fun ad he => by
          obtain ⟨g, off, hA, _⟩ := hd.get (by omega)
          rw [hA] at he; injection he with he; rw [← he]
        have HNN := Lib.hid hdnn
        have HSPOT := Lib.hid hspot
        clear ih hkk hm hm2 hc1 hc2 hx hy hxo hyo hok ht hdr htl hdl hd k4 hdnn hspot
        go_enter Tryd.func85, Tryd.ntmps85
        go_wp2_with fail
        go_at_call 92
        refine (refsplit_any _ ds.length (by omega) (by omega)).mono ?_
        rw [HSP.out]
        rintro e w1 ⟨rfl, hw1⟩
        have hB1 : Below w.heap.size w w1 := by rw [← hw1]; exact hB0
        have hr1 : Blk w1 w.heap.size (nums .u8 (List.replicate 32 0)) 24 := by rw [← hw1]; exact hr0
        clear hw1 hB0 hr0
        go_wp2_with fail
        have hB1 := hB1.drew
        have hr1 := hr1.drew
        refine wp_region_C (Same [] w1) [4, 9, 11, 12] (by kernel_rfl) (by kernel_rfl) (by intro c a w h; first | (obtain ⟨_, h, _⟩ := h; cases h; done) | (obtain ⟨_, _, h, _⟩ := h; cases h; done) | (obtain ⟨_, _, _, h, _⟩ := h; cases h; done) | (obtain ⟨_, _, _, _, h, _⟩ := h; cases h; done) | (rcases h with ⟨_, ⟨_, _, _, _, h, _⟩ | ⟨_, _, _, _, h, _⟩⟩ <;> cases h; done)) (by intro a w h; first | (obtain ⟨h, _⟩ := h; cases h; done) | (obtain ⟨_, h, _⟩ := h; cases h; done) | (obtain ⟨_, _, h, _⟩ := h; cases h; done) | (obtain ⟨_, _, _, h, _⟩ := h; cases h; done) | (rcases h with ⟨_, _, _, _, h, _⟩ | ⟨_, _, _, _, h, _⟩ <;> cases h; done)) (Same.refl _ _) ?_
        repeat (refine wd_w (v := ?_) rfl rfl rfl rfl rfl rfl (fun w' hw' K hK => ?_) ?_; rotate_left; (skip; go_wp2_with ((apply st_toD (sz := 32) (i := k); exact Tryd.underlying66; kernel_rfl; rfl; rfl; rfl; omega; exact HNN.out; exact HSPOT.out)); exact rfl); simp only [Act.put, List.setIfInBounds_toArray, List.set_cons_zero, List.set_cons_succ])
        refine wd_l rfl rfl (by intro a w h; first | (obtain ⟨h, _⟩ := h; cases h; done) | (obtain ⟨_, h, _⟩ := h; cases h; done) | (obtain ⟨_, _, h, _⟩ := h; cases h; done) | (obtain ⟨_, _, _, h, _⟩ := h; cases h; done) | (rcases h with ⟨_, _, _, _, h, _⟩ | ⟨_, _, _, _, h, _⟩ <;> cases h; done)) ?_
        go_wp2_with fail
        go_at_call 85
        refine (HC1.out _ (HT.out.up hB1)).mono ?_
        rintro e w2 ⟨rfl, hb2⟩
        have hB2 := hB1.trans (hb2.mono hB1.size)
        have hr2 := hr1.up hb2
        go_wp2_with fail
        refine ⟨.inr (fun g hg => by simp at hg), ?_⟩
        repeat (refine wd_w (v := ?_) rfl rfl rfl rfl rfl rfl (fun w' hw' K hK => ?_) ?_; rotate_left; (skip; go_wp2_with ((apply st_fromD (sz := 32) (A2 := A2) (i := k); exact Tryd.underlying66; kernel_rfl; rfl; rfl; rfl; omega; exact HA2.out)); exact rfl); simp only [Act.put, List.setIfInBounds_toArray, List.set_cons_zero, List.set_cons_succ])
        refine wd_l rfl rfl (by intro a w h; first | (obtain ⟨h, _⟩ := h; cases h; done) | (obtain ⟨_, h, _⟩ := h; cases h; done) | (obtain ⟨_, _, h, _⟩ := h; cases h; done) | (obtain ⟨_, _, _, h, _⟩ := h; cases h; done) | (rcases h with ⟨_, _, _, _, h, _⟩ | ⟨_, _, _, _, h, _⟩ <;> cases h; done)) ?_
        go_wp2_with fail
        go_at_call 85
        refine (HC2.out _ (HDR.out.up hB2)).mono ?_
        rintro e w3 ⟨rfl, hb3⟩
        have hB3 := hB2.trans (hb3.mono hB2.size)
        have hr3 := hr2.up hb3
        go_wp2_with fail
        refine ⟨.inr (fun g hg => by simp at hg), ?_⟩
        repeat (refine wd_q (v := ?_) rfl rfl rfl rfl rfl rfl (fun w' hw' K hK => ?_) ?_; rotate_left; (skip; go_wp2; exact rfl); simp only [Act.put, List.setIfInBounds_toArray, List.set_cons_zero, List.set_cons_succ])
        refine wd_l rfl rfl (by intro a w h; first | (obtain ⟨h, _⟩ := h; cases h; done) | (obtain ⟨_, h, _⟩ := h; cases h; done) | (obtain ⟨_, _, h, _⟩ := h; cases h; done) | (obtain ⟨_, _, _, h, _⟩ := h; cases h; done) | (rcases h with ⟨_, _, _, _, h, _⟩ | ⟨_, _, _, _, h, _⟩ <;> cases h; done)) ?_
        go_wp2_with fail
        go_at_call 76
        have hcall := refnode_any w3 x y HXO.out.1 HYO.out.1 HXO.out.2 HYO.out.2 z
        rw [HM2.out] at hcall; refine hcall.mono ?_; clear hcall
        rintro e w4 ⟨rfl, hb4⟩
        have hB4 := hB3.trans (hb4.mono hB3.size)
        have hr4 := hr3.up hb4
        go_wp2_with fail
        refine ⟨.inr (fun g hg => by simp at hg), ?_⟩
        repeat (refine wd_q (v := ?_) rfl rfl rfl rfl rfl rfl (fun w' hw' K hK => ?_) ?_; rotate_left; (skip; go_wp2; exact rfl); simp only [Act.put, List.setIfInBounds_toArray, List.set_cons_zero, List.set_cons_succ])
        refine wd_last rfl (by kernel_rfl) rfl (by intro a w h; first | (obtain ⟨h, _⟩ := h; cases h; done) | (obtain ⟨_, h, _⟩ := h; cases h; done) | (obtain ⟨_, _, h, _⟩ := h; cases h; done) | (obtain ⟨_, _, _, h, _⟩ := h; cases h; done) | (rcases h with ⟨_, _, _, _, h, _⟩ | ⟨_, _, _, _, h, _⟩ <;> cases h; done)) ?_
        go_wp2_with ((with_reducible apply st_storeW (off := 0) (vs := nums .u8 (m)) (cs := nums .u8 (List.replicate 32 0)) (T := 24)); rfl; rfl; exact hr4; (rw [nums_length, HML.out]; kernel_rfl); (rw [nums_length, HML.out]; decide); exact nums_one _ _; intro w5 hd5 hw5; rw [laid_all _ _ (by rw [nums_length, HML.out]; rfl)] at hd5)
        refine bodyPost_ret (ret_row rfl _ _ _ (nums .u8 (m)) 24 _ rfl hd5 Tryd.underlying24 rfl (by rw [nums_length, HML.out]; kernel_rfl)) rfl ⟨rfl, Wrote.below hB4 hw5 (Nat.le_refl _)⟩
end RefRoot
section Few
open Go.RowKit

theorem dinfo : (Tryd.prog.info? 24).map (fun i => (i.zero, i.size, i.bytes)) = some (some (.agg (nums .u8 (List.replicate 32 0)).toArray), 32, 32) := by kernel_rfl
/-- A slice of digests in memory of the call's own, from block base on. -/
def OwnD (w : World) (base : Nat) (v : Value) (ds : List (List Int)) : Prop := w.ownsRow base 24 32 v ds.length (nums .u8 ds.flatten) ∧ Dgs ds
theorem OwnD.nil (w : World) (base : Nat) : OwnD w base (.slice none 0 0) [] := ⟨World.ownsRow_nil w base _ _, Dgs.nil⟩
theorem OwnD.dg {w : World} {base : Nat} {v : Value} {ds : List (List Int)} (h : OwnD w base v ds) : ∃ A c, v = .slice A ds.length c ∧ Dg w A c ds ∧ ∀ a, A = some a → base ≤ a.block := by
  obtain ⟨⟨hl, h | ⟨g, cap, cur, hv, hg, hh, hn, hm, hsz, ht⟩⟩, hu⟩ := h
  · have : ds = [] := List.eq_nil_of_length_eq_zero h.2
    subst this
    exact ⟨none, 0, h.1, Dg.nil w, fun a ha => by cases ha⟩
  · refine ⟨some ⟨g, 0, none⟩, cap, hv, ⟨.inr ⟨g, 0, rfl, fun j v hv => ?_⟩, hn, fun h => (by cases h), hu⟩, fun a ha => by injection ha with ha; rw [← ha]; exact hg⟩
    rw [Nat.zero_add]
    simp only [World.cell?, hh]
    rw [← ht, List.getElem?_take] at hv
    split at hv
    · simpa using hv
    · cases hv
theorem OwnD.lt {w : World} {base : Nat} {v : Value} {ds : List (List Int)} (h : OwnD w base v ds) (k : Nat) (hk : v.ownBlock = some k) : base ≤ k ∧ k < w.heap.size := World.ownsRow.lt h.1 k hk
theorem OwnD.kept {w w' : World} {base : Nat} {v : Value} {ds : List (List Int)} (h : OwnD w base v ds) (hb : Below w.heap.size w w') : OwnD w' base v ds :=
  ⟨World.ownsRow.kept (row := none) h.1 ⟨hb.os, hb.tape, hb.output, hb.size, fun k hk _ => hb.block k hk⟩ (by cases hv : v.ownBlock <;> simp), h.2⟩
theorem OwnD.mono {w : World} {base base' : Nat} {v : Value} {ds : List (List Int)} (h : OwnD w base v ds) (hb : base' ≤ base) : OwnD w base' v ds := by
  obtain ⟨⟨hl, h | ⟨g, cap, cur, hv, hg, r⟩⟩, hu⟩ := h
  · exact ⟨⟨hl, .inl h⟩, hu⟩
  · exact ⟨⟨hl, .inr ⟨g, cap, cur, hv, by omega, r⟩⟩, hu⟩
theorem below_grownD {B base : Nat} {w0 w w' : World} {v : Value} {ds : List (List Int)} (hb : Below B w0 w) (ho : OwnD w base v ds) (hg : w.grownBy w' v.ownBlock) (hB : B ≤ base) (hbase : base ≤ w.heap.size) : Below B w0 w' :=
  hb.grown hg (by omega) (fun k hk => by have := World.ownsRow.lt ho.1 k hk; omega)

/-- append(x, y...) of digests, x the call's own. -/
theorem st_appendD {ops : Array Oper} {rest : List Oper} {a : Act} {w : World} {Q : Exit → Act → World → Prop} {d' : Option Tmp} {tt : TypeId} {s x : Operand} {pos : String} {after : Array Edge} {base : Nat} {v : Value} {A : Option Addr} {c : Nat} {xs ys : List (List Int)}
    (hs : a.eval s = v) (hx : a.eval x = .slice A ys.length c) (hown : OwnD w base v xs) (hy : Dg w A c ys) (hl : xs.length + ys.length ≤ 1000000) (hbase : base ≤ w.heap.size)
    (h : ∀ v' w', OwnD w' base v' (xs ++ ys) → w.grownBy w' v.ownBlock → (v'.ownBlock = v.ownBlock ∨ v'.ownBlock = some w.heap.size) → wpList Tryd.prog ops Q rest (a.put d' v') w') :
    wpList Tryd.prog ops Q (⟨d', .call ⟨.builtin .append, #[s, x], #[66, 66]⟩, tt, pos, after, none⟩ :: rest) a w := by
  obtain ⟨i0, hi, hz0, hz1, hz2⟩ := info_parts dinfo
  have hys := hy.u.flat
  by_cases hA : A = none
  · have hc := hy.nn hA
    have h0 : ys = [] := List.eq_nil_of_length_eq_zero (by have := hy.le; omega)
    subst hA; subst h0; subst hc
    refine wpList_append_own_none rfl s x 66 rfl base 24 i0 32 Tryd.underlying66 hi v _ _ hs hown.1 hx ?_
    exact h v w (by rw [List.append_nil]; exact hown) ⟨rfl, rfl, rfl, Nat.le_refl _, fun _ _ _ => rfl⟩ (.inl rfl)
  · obtain ⟨ad, hA⟩ := Option.ne_none_iff_exists'.1 hA
    subst hA
    refine wpList_append_own_at (w := w) rfl s x 66 rfl base 24 i0 (.agg (nums .u8 (List.replicate 32 0)).toArray) 32 32 Tryd.underlying66 hi hz0 hz1 hz2 rfl (by decide) v xs.length (nums .u8 xs.flatten) hs hown.1 ad ys.length c (nums .u8 ys.flatten) hx (by rw [nums_length, hys]; omega) ?_ (nums_one _ _) (by unfold maxLen; omega) (by omega) hbase ?_
    · intro j u hu
      rcases hy.rd with hr | ⟨g, off, hA2, hc⟩
      · rw [hr] at hu; simp at hu
      · injection hA2 with hA2
        subst hA2
        have : (⟨g, off, none⟩ : Addr).add j = ⟨g, off + j, none⟩ := by unfold Addr.add; split <;> simp_all
        rw [this]; exact hc j u hu
    · intro v' w' ho hg _ hat
      refine h v' w' ⟨?_, hown.2.append hy.u⟩ hg hat
      rw [List.length_append, show nums .u8 (xs ++ ys).flatten = nums .u8 xs.flatten ++ nums .u8 ys.flatten by simp [nums]]
      exact ho

def GivesD (ds : List (List Int)) (w : World) (e : Ending) (w' : World) : Prop := ∃ v, e = .returned v ∧ Below w.heap.size w w' ∧ OwnD w' w.heap.size v ds

end Few
section SameD
open Go.RowKit

theorem take_same {xs ys : List (List Int)} {k : Nat} (h1 : k < xs.length) (h2 : k < ys.length) (h : xs.take k = ys.take k) (he : xs[k] = ys[k]) : xs.take (k + 1) = ys.take (k + 1) := by
  rw [List.take_add_one, List.take_add_one, List.getElem?_eq_getElem h1, List.getElem?_eq_getElem h2, h, he]

set_option maxRecDepth 100000 in
set_option maxHeartbeats 4000000 in
theorem samed_any (w : World) (xs ys : List (List Int)) (A B : Option Addr) (c d : Nat) (ha : Dg w A c xs) (hb : Dg w B d ys) (hl : xs.length ≤ 1000000) (hl2 : ys.length ≤ 1000000) :
    Calls Tryd.prog 60 #[.slice A xs.length c, .slice B ys.length d] w fun e w' => e = .returned (.bool (decide (xs = ys))) ∧ Below w.heap.size w w' := by
  by_cases hlen : xs.length = ys.length
  · have HD := Lib.hid ha
    have HE := Lib.hid hb
    have HLEN := Lib.hid hlen
    have hres : xs.take ys.length = ys.take ys.length → decide (xs = ys) = true := fun h => by
      rw [List.take_of_length_le (by omega), List.take_of_length_le (Nat.le_refl _)] at h
      exact decide_eq_true h
    have hno : ∀ k (h1 : k < xs.length) (h2 : k < ys.length), xs[k] ≠ ys[k] → decide (xs = ys) = false := fun k h1 h2 h => decide_eq_false fun e => h (by subst e; rfl)
    have HRES := Lib.hid hres
    have HNO := Lib.hid hno
    obtain ⟨r, hr⟩ : ∃ r, r = decide (xs = ys) := ⟨_, rfl⟩
    rw [← hr] at HRES HNO ⊢
    rw [hlen]
    clear ha hb hres hno hr hlen
    go_enter Tryd.func60, Tryd.ntmps60
    go_wp2_with fail
    go_loopw [5] (fun i wr => ∃ k : Nat, i = .int .i64 k ∧ k ≤ ys.length ∧ Hid (xs.take k = ys.take k) ∧ Below w.heap.size w wr) (fun i _ => ys.length - (intOf i).toNat)
    case atStart => exact ⟨0, rfl, by omega, Lib.hid rfl, Below.refl _ _⟩
    case round =>
      obtain ⟨k, rfl, hk, HT, hB⟩ := hrel
      by_cases hlt : k < ys.length
      · have hka : k < xs.length := by rw [HLEN.out]; exact hlt
        obtain ⟨g, o, rfl, hg, hc1⟩ := HD.out.get (by omega)
        obtain ⟨g2, o2, rfl, hg2, hc2⟩ := HE.out.get (by omega)
        have c1 := hc1 k hka
        have c2 := hc2 k hlt
        have l1 := (HD.out.u.at k hka).1
        have l2 := (HE.out.u.at k hlt).1
        have hneq := run_neq_nums (P := Tryd.prog) (t := 24) Tryd.underlying24 Tryd.underlying5 (by kernel_rfl) (by kernel_rfl) xs[k] ys[k] l1 l2
        have hstep := fun he => take_same hka hlt HT.out he
        have hend := HNO.out k hka hlt
        obtain ⟨x, hx⟩ : ∃ x, x = xs[k] := ⟨_, rfl⟩
        obtain ⟨y, hy⟩ : ∃ y, y = ys[k] := ⟨_, rfl⟩
        rw [← hx] at c1 l1 hneq hstep hend
        rw [← hy] at c2 l2 hneq hstep hend
        have C1 := Lib.hid c1
        have C2 := Lib.hid c2
        have L1 := Lib.hid l1
        have L2 := Lib.hid l2
        have HSTEP := Lib.hid hstep
        have HEND := Lib.hid hend
        have hzg : g < w.heap.size := hg
        clear hx hy c1 c2 l1 l2 hc1 hc2 hstep hend
        by_cases hxy : x = y
        · rw [decide_eq_true hxy, Bool.not_true] at hneq
          have hnext := HSTEP.out hxy
          have HNEXT := Lib.hid hnext
          clear hxy hnext
          go_wp2_with fail
          refine wp_region_C (Same [g, g2] wr) [] (by kernel_rfl) (by kernel_rfl) (by intro c a w h; first | (obtain ⟨_, h, _⟩ := h; cases h; done) | (obtain ⟨_, _, h, _⟩ := h; cases h; done) | (obtain ⟨_, _, _, h, _⟩ := h; cases h; done) | (obtain ⟨_, _, _, _, h, _⟩ := h; cases h; done) | (rcases h with ⟨_, ⟨_, _, _, _, h, _⟩ | ⟨_, _, _, _, h, _⟩⟩ <;> cases h; done)) (by intro a w h; first | (obtain ⟨h, _⟩ := h; cases h; done) | (obtain ⟨_, h, _⟩ := h; cases h; done) | (obtain ⟨_, _, h, _⟩ := h; cases h; done) | (obtain ⟨_, _, _, h, _⟩ := h; cases h; done) | (rcases h with ⟨_, _, _, _, h, _⟩ | ⟨_, _, _, _, h, _⟩ <;> cases h; done)) (Same.refl _ _) ?_
          repeat (refine wd_w (v := ?_) rfl rfl rfl rfl rfl rfl (fun w' hw' K hK => ?_) ?_; rotate_left; (have e3 := hneq; have e1 : ∀ j v, (nums .u8 x)[j]? = some v → w'.cell? ⟨g, o + k * 32 + j, none⟩ = some v := fun j v hv => (hw'.cell g (by simp) _).trans ((hB.cell (p := ⟨g, o + k * 32 + j, none⟩) hg).trans (C1.out j v hv)); have e2 : ∀ j v, (nums .u8 y)[j]? = some v → w'.cell? ⟨g2, o2 + k * 32 + j, none⟩ = some v := fun j v hv => (hw'.cell g2 (by simp) _).trans ((hB.cell (p := ⟨g2, o2 + k * 32 + j, none⟩) hg2).trans (C2.out j v hv)); go_wp2_with ((first | (apply st_loadCells (cs := nums .u8 x); rfl; exact e1; exact Tryd.underlying24; rfl; (rw [nums_length, L1.out]; kernel_rfl)) | (apply st_loadCells (cs := nums .u8 y); rfl; exact e2; exact Tryd.underlying24; rfl; (rw [nums_length, L2.out]; kernel_rfl)))); exact rfl); simp only [Act.put, List.setIfInBounds_toArray, List.set_cons_zero, List.set_cons_succ])
          refine wd_nil ?_
          go_wp2_with fail
          go_roundw
          case rel => exact ⟨k + 1, by go_num, by omega, HNEXT, hB.drew⟩
          case measure => simp [intOf]; omega
        · have hq : decide (x = y) = false := decide_eq_false hxy
          rw [hq, Bool.not_false] at hneq
          have hf := HEND.out hxy
          have HF := Lib.hid hf
          clear hxy hq hf
          go_wp2_with fail
          refine wp_region_C (Same [g, g2] wr) [] (by kernel_rfl) (by kernel_rfl) (by intro c a w h; first | (obtain ⟨_, h, _⟩ := h; cases h; done) | (obtain ⟨_, _, h, _⟩ := h; cases h; done) | (obtain ⟨_, _, _, h, _⟩ := h; cases h; done) | (obtain ⟨_, _, _, _, h, _⟩ := h; cases h; done) | (rcases h with ⟨_, ⟨_, _, _, _, h, _⟩ | ⟨_, _, _, _, h, _⟩⟩ <;> cases h; done)) (by intro a w h; first | (obtain ⟨h, _⟩ := h; cases h; done) | (obtain ⟨_, h, _⟩ := h; cases h; done) | (obtain ⟨_, _, h, _⟩ := h; cases h; done) | (obtain ⟨_, _, _, h, _⟩ := h; cases h; done) | (rcases h with ⟨_, _, _, _, h, _⟩ | ⟨_, _, _, _, h, _⟩ <;> cases h; done)) (Same.refl _ _) ?_
          repeat (refine wd_w (v := ?_) rfl rfl rfl rfl rfl rfl (fun w' hw' K hK => ?_) ?_; rotate_left; (have e3 := hneq; have e1 : ∀ j v, (nums .u8 x)[j]? = some v → w'.cell? ⟨g, o + k * 32 + j, none⟩ = some v := fun j v hv => (hw'.cell g (by simp) _).trans ((hB.cell (p := ⟨g, o + k * 32 + j, none⟩) hg).trans (C1.out j v hv)); have e2 : ∀ j v, (nums .u8 y)[j]? = some v → w'.cell? ⟨g2, o2 + k * 32 + j, none⟩ = some v := fun j v hv => (hw'.cell g2 (by simp) _).trans ((hB.cell (p := ⟨g2, o2 + k * 32 + j, none⟩) hg2).trans (C2.out j v hv)); go_wp2_with ((first | (apply st_loadCells (cs := nums .u8 x); rfl; exact e1; exact Tryd.underlying24; rfl; (rw [nums_length, L1.out]; kernel_rfl)) | (apply st_loadCells (cs := nums .u8 y); rfl; exact e2; exact Tryd.underlying24; rfl; (rw [nums_length, L2.out]; kernel_rfl)))); exact rfl); simp only [Act.put, List.setIfInBounds_toArray, List.set_cons_zero, List.set_cons_succ])
          refine wd_nil ?_
          go_wp2_with fail
          go_ret
          exact ⟨by rw [HF.out]; rfl, hB.drew⟩
      · have e : k = ys.length := by omega
        have ht := HT.out
        rw [e] at ht
        have hf := HRES.out ht
        have HF := Lib.hid hf
        clear ht hf e
        go_wp2_with fail
        go_ret
        exact ⟨by rw [HF.out]; rfl, hB⟩
  · have hd : decide (xs = ys) = false := decide_eq_false fun e => hlen (by rw [e])
    rw [hd]
    clear ha hb hd
    have hne : ((xs.length : Int) != (ys.length : Int)) = true := by simp; omega
    go_enter Tryd.func60, Tryd.ntmps60
    go_wp2_with fail
    go_ret
    exact ⟨rfl, Below.refl _ _⟩
end SameD
end Go.Proofs.YtancldhincaphaaDoor
