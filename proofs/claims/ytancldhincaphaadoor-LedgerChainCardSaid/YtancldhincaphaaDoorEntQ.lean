/- What the reference's Cut of entries answers (for a seat without entry.Decode). No condition but the kinds' own bounds. -/
import Derived.Test.YtancldhincaphaaDoorGi
namespace Go.Proofs.YtancldhincaphaaDoor
open Go.RowKit
set_option maxRecDepth 100000

def entV (j t : Int) (h s : List Int) (k : Int) (v : Value) (r : Int) : List Value := .int .i64 j :: .int .i64 t :: (nums .u8 h ++ nums .u8 s ++ [.int .i64 k, v, .int .i64 r])
theorem entV_C (e : Ent) (A : Option Addr) (c : Nat) : entC e A c = entV e.job e.time e.h e.s e.kind (.slice A e.ord.length c) e.tries := rfl
def Z32 : List Int := List.replicate 32 0
theorem Z32_len : Z32.length = 32 := List.length_replicate
def entZ : List Value := entV 0 0 Z32 Z32 0 (.slice none 0 0) 0
theorem entV_len (j t : Int) (h s : List Int) (k : Int) (v : Value) (r : Int) (hh : h.length = 32) (hs : s.length = 32) : (entV j t h s k v r).length = 69 := by simp [entV, nums_length, hh, hs]
theorem entV_job (j j' t : Int) (h s : List Int) (k : Int) (v : Value) (r : Int) : (entV j t h s k v r).set 0 (.int .i64 j') = entV j' t h s k v r := rfl
theorem entV_time (j t t' : Int) (h s : List Int) (k : Int) (v : Value) (r : Int) : (entV j t h s k v r).set 1 (.int .i64 t') = entV j t' h s k v r := rfl
theorem entV_end (j t : Int) (h s : List Int) (k : Int) (v : Value) (r : Int) (hh : h.length = 32) (hs : s.length = 32) (i : Nat) (x : Value) : (entV j t h s k v r).set (66 + i) x = .int .i64 j :: .int .i64 t :: (nums .u8 h ++ nums .u8 s ++ [Value.int .i64 k, v, .int .i64 r].set i x) := by
  unfold entV
  rw [show 66 + i = (64 + i) + 1 + 1 by omega, List.set_cons_succ, List.set_cons_succ, List.set_append_right _ _ (by simp [nums_length, hh, hs])]
  congr 4
  simp [nums_length, hh, hs]
theorem entV_kind (j t : Int) (h s : List Int) (k k' : Int) (v : Value) (r : Int) (hh : h.length = 32) (hs : s.length = 32) : (entV j t h s k v r).set 66 (.int .i64 k') = entV j t h s k' v r := entV_end j t h s k v r hh hs 0 _
theorem entV_ord (j t : Int) (h s : List Int) (k : Int) (v v' : Value) (r : Int) (hh : h.length = 32) (hs : s.length = 32) : (entV j t h s k v r).set 67 v' = entV j t h s k v' r := entV_end j t h s k v r hh hs 1 _
theorem entV_tries (j t : Int) (h s : List Int) (k : Int) (v : Value) (r r' : Int) (hh : h.length = 32) (hs : s.length = 32) : (entV j t h s k v r).set 68 (.int .i64 r') = entV j t h s k v r' := entV_end j t h s k v r hh hs 2 _
theorem entV_h (j t : Int) (h h' s : List Int) (k : Int) (v : Value) (r : Int) (hh : h.length = 32) (hh' : h'.length = 32) : laid (entV j t h s k v r) 2 (nums .u8 h') = entV j t h' s k v r := by
  unfold laid entV
  rw [nums_length, hh']
  show _ :: _ :: (nums .u8 h ++ nums .u8 s ++ _).take 0 ++ nums .u8 h' ++ ((nums .u8 h ++ nums .u8 s) ++ _).drop 32 = _
  rw [List.take_zero, List.append_assoc (nums .u8 h), List.drop_left' (by rw [nums_length, hh])]
  simp
theorem entV_s (j t : Int) (h s s' : List Int) (k : Int) (v : Value) (r : Int) (hh : h.length = 32) (hs : s.length = 32) (hs' : s'.length = 32) : laid (entV j t h s k v r) 34 (nums .u8 s') = entV j t h s' k v r := by
  unfold laid entV
  rw [nums_length, hs']
  show _ :: _ :: (nums .u8 h ++ nums .u8 s ++ _).take 32 ++ nums .u8 s' ++ ((nums .u8 h ++ nums .u8 s) ++ _).drop 64 = _
  rw [List.append_assoc (nums .u8 h), List.take_left' (by rw [nums_length, hh]), ← List.append_assoc (nums .u8 h), List.drop_left' (by rw [List.length_append, nums_length, nums_length, hh, hs])]
  simp
theorem entV_at (j t : Int) (h s : List Int) (k : Int) (v : Value) (r : Int) (hh : h.length = 32) (hs : s.length = 32) (i : Nat) : (entV j t h s k v r)[66 + i]? = ([Value.int .i64 k, v, .int .i64 r] : List Value)[i]? := by
  unfold entV
  rw [show 66 + i = 64 + i + 1 + 1 by omega, List.getElem?_cons_succ, List.getElem?_cons_succ, List.getElem?_append_right (by simp [nums_length, hh, hs])]
  congr 1
  simp [nums_length, hh, hs]
theorem entV_one (j t : Int) (h s : List Int) (k : Int) (v : Value) (r : Int) (hv : v.oneCell' = true) : ∀ x ∈ entV j t h s k v r, x.oneCell' = true := by
  intro x hx
  simp only [entV, List.mem_cons, List.mem_append, List.not_mem_nil, or_false] at hx
  rcases hx with rfl | rfl | (hx | hx) | rfl | rfl | rfl
  · rfl
  · rfl
  · exact nums_one _ _ x hx
  · exact nums_one _ _ x hx
  · rfl
  · exact hv
  · rfl
theorem intInfo : (Tryd.prog.info? 3).map (fun i => (i.zero, i.size, i.bytes)) = some (some (.int .i64 0), 1, 8) := by kernel_rfl
/-- Whole numbers in memory of the call's own. -/
def GrowI (w : World) (l : List Int) (v : Value) (w' : World) : Prop := GrowC w 3 (nums .i64 l) v w'
theorem GrowI.nil (w : World) : GrowI w [] (.slice none 0 0) w := GrowC.nil _ _
theorem GrowI.up {w w' w'' : World} {l : List Int} {v : Value} (h : GrowI w l v w') (hb : Below w'.heap.size w' w'') : GrowI w l v w'' := GrowC.up h hb
theorem GrowI.alloc {w w' : World} {l : List Int} {v : Value} (h : GrowI w l v w') (o : Obj) : GrowI w l v (w'.alloc o) := GrowC.alloc h o
theorem GrowI.drew {w w' : World} {l : List Int} {v : Value} (h : GrowI w l v w') : GrowI w l v w'.drew := h.up (Below.refl _ _).drew
theorem GrowI.slot {w w' : World} {l : List Int} {v : Value} (h : GrowI w l v w') : ∃ A c, v = .slice A l.length c ∧ Nts w' A c l := by
  obtain ⟨A, c, h1, h2, h3, h4, _⟩ := OwnC.from h.2
  rw [nums_length] at h1 h2
  exact ⟨A, c, h1, h4, h2, h3⟩
theorem GrowI.one {w w' : World} {l : List Int} {v : Value} (h : GrowI w l v w') : v.oneCell' = true := by
  obtain ⟨A, c, h1, _⟩ := h.slot; rw [h1]; rfl
/-- append(x, n) of a whole number. -/
theorem st_growI {ops : Array Oper} {rest : List Oper} {a : Act} {w w0 : World} {Q : Exit → Act → World → Prop} {d' : Option Tmp} {tt : TypeId} {s x : Operand} {pos : String} {after : Array Edge} {v : Value} {g c : Nat} {l : List Int} {n : Int}
    (hs : a.eval s = v) (hx : a.eval x = .slice (some ⟨g, 0, none⟩) 1 c) (hg : GrowI w0 l v w) (hr : w.cell? ⟨g, 0, none⟩ = some (.int .i64 n)) (hl : l.length ≤ 1099511627775)
    (h : ∀ v' w', GrowI w0 (l ++ [n]) v' w' → wpList Tryd.prog ops Q rest (a.put d' v') w') :
    wpList Tryd.prog ops Q (⟨d', .call ⟨.builtin .append, #[s, x], #[35, 35]⟩, tt, pos, after, none⟩ :: rest) a w :=
  st_growC (xs := nums .i64 l) (ys := [.int .i64 n]) (e := 3) Tryd.underlying35 intInfo rfl (by decide) hs hx hg rfl
    (fun j u hu => by
      cases j with
      | zero =>
        have : (⟨g, 0, none⟩ : Addr).add 0 = ⟨g, 0, none⟩ := by simp [Addr.add]
        rw [this]; simp at hu; rw [hr, hu]
      | succ j => simp at hu)
    (fun u hu => by rw [List.mem_singleton.1 hu]; rfl) (by rw [nums_length]; omega)
    (fun v' w' hg' => h v' w' (by unfold GrowI; rw [show nums .i64 (l ++ [n]) = nums .i64 l ++ [.int .i64 n] by simp [nums]]; exact hg'))
theorem entZ_len : entZ.length = 69 := entV_len _ _ _ _ _ _ _ Z32_len Z32_len
theorem zeroE_run (w : World) : (zeroValue 39).run Tryd.prog w = .ok (.agg entZ.toArray) w := by kernel_rfl
/-- var e Entry. -/
theorem st_allocE {ops : Array Oper} {Q : Exit → Act → World → Prop} {rest : List Oper} {a : Act} {w : World} {d' : Option Tmp} {tt : TypeId} {pos : String} {after : Array Edge}
    (h : wpList Tryd.prog ops Q rest (a.put d' (.pointer (some ⟨w.heap.size, 0, none⟩))) (w.alloc (.cells entZ.toArray 39))) :
    wpList Tryd.prog ops Q (⟨d', .alloc 39, tt, pos, after, none⟩ :: rest) a w :=
  wpList_plain rfl fun K hK => by
    unfold Oper.wp execOp
    simp only [Sem.run_bind]
    exact hK _ _ h
theorem OwnC.farSet {w : World} {base : Nat} {e : TypeId} {v : Value} {cs : List Value} (h : OwnC w base e v cs) {p : Addr} (hp : p.block < base) (x : Value) : OwnC (w.setCell p x) base e v cs := by
  obtain ⟨hl, h | ⟨g, cap, cur, hv, hg, hh, r⟩⟩ := h
  · exact ⟨hl, .inl h⟩
  · exact ⟨hl, .inr ⟨g, cap, cur, hv, hg, (heap_setCell_other w p g x (by omega)).trans hh, r⟩⟩
theorem OwnC.farWrote {w w' : World} {base k : Nat} {e : TypeId} {v : Value} {cs : List Value} (h : OwnC w base e v cs) (hw : Wrote w w' k) (hk : k < base) : OwnC w' base e v cs := by
  obtain ⟨hl, h | ⟨g, cap, cur, hv, hg, hh, r⟩⟩ := h
  · exact ⟨hl, .inl h⟩
  · exact ⟨hl, .inr ⟨g, cap, cur, hv, hg, (hw.far g (by omega)).trans hh, r⟩⟩
theorem OwnC.mono {w : World} {base base' : Nat} {e : TypeId} {v : Value} {cs : List Value} (h : OwnC w base e v cs) (hb : base' ≤ base) : OwnC w base' e v cs := by
  obtain ⟨hl, h | ⟨g, cap, cur, hv, hg, r⟩⟩ := h
  · exact ⟨hl, .inl h⟩
  · exact ⟨hl, .inr ⟨g, cap, cur, hv, by omega, r⟩⟩
/-- append(x, n) of a whole number, from block base on. -/
theorem st_appendI {ops : Array Oper} {rest : List Oper} {a : Act} {w : World} {Q : Exit → Act → World → Prop} {d' : Option Tmp} {tt : TypeId} {s x : Operand} {pos : String} {after : Array Edge} {base : Nat} {v : Value} {g c : Nat} {l : List Int} {n : Int}
    (hs : a.eval s = v) (hx : a.eval x = .slice (some ⟨g, 0, none⟩) 1 c) (hown : OwnC w base 3 v (nums .i64 l)) (hr : w.cell? ⟨g, 0, none⟩ = some (.int .i64 n)) (hl : l.length ≤ 1099511627775) (hbase : base ≤ w.heap.size)
    (h : ∀ v' w', OwnC w' base 3 v' (nums .i64 (l ++ [n])) → Below base w w' → wpList Tryd.prog ops Q rest (a.put d' v') w') :
    wpList Tryd.prog ops Q (⟨d', .call ⟨.builtin .append, #[s, x], #[35, 35]⟩, tt, pos, after, none⟩ :: rest) a w := by
  obtain ⟨i0, hi, hz0, hz1, hz2⟩ := info_parts intInfo
  refine wpList_append_own_at (w := w) rfl s x 35 rfl base 3 i0 (.int .i64 0) 1 8 Tryd.underlying35 hi hz0 hz1 hz2 rfl (by decide) v (nums .i64 l).length (nums .i64 l) hs hown ⟨g, 0, none⟩ 1 c [.int .i64 n] hx rfl ?_ (fun u hu => by rw [List.mem_singleton.1 hu]; rfl) (by rw [nums_length]; unfold maxLen; omega) (by rw [nums_length]; omega) hbase ?_
  · intro j u hu
    cases j with
    | zero =>
      have : (⟨g, 0, none⟩ : Addr).add 0 = ⟨g, 0, none⟩ := by simp [Addr.add]
      rw [this]; simp at hu; rw [hr, hu]
    | succ j => simp at hu
  · intro v' w' ho hgr _ hat
    refine h v' w' ?_ ((Below.refl base w).grown hgr hbase (fun k hk => by have := World.ownsRow.lt hown k hk; omega))
    unfold OwnC
    rw [show nums .i64 (l ++ [n]) = nums .i64 l ++ [.int .i64 n] by simp [nums], List.length_append]
    exact ho

/-- An entry whose order is none too long. -/
def cutE (e : Ent) : Ent := { e with ord := e.ord.take 70 }
theorem cutE_B {e : Ent} (h : EntB e) : EntB (cutE e) := ⟨h.h, h.s, h.uh, h.us, h.job, h.time, h.kind, h.tries, fun x hx => h.ord x (List.mem_of_mem_take hx)⟩
theorem cutE_len (e : Ent) : (cutE e).ord.length ≤ 70 := by show (e.ord.take 70).length ≤ 70; rw [List.length_take]; omega
def GivesE (e : Ent) (w : World) (r : Ending) (w' : World) : Prop := ∃ A c, r = .returned (.agg (entC e A c).toArray) ∧ GrowI w e.ord (.slice A e.ord.length c) w'
theorem entC_V (e : Ent) (A : Option Addr) (c : Nat) : entC e A c = entV e.job e.time e.h e.s e.kind (.slice A e.ord.length c) e.tries := rfl

set_option maxRecDepth 100000 in
set_option maxHeartbeats 8000000 in
theorem cut20_any (w : World) (e : Ent) (he : EntB e) (A : Option Addr) (c : Nat) (ho : Nts w A c e.ord) (hl : e.ord.length ≤ 9223372036854775807) :
    Calls Tryd.prog 22 #[.agg (entC e A c).toArray] w (GivesE (cutE e) w) := by
  have HE := Lib.hid he
  have HO := Lib.hid ho
  have hhl := he.h
  have hsl := he.s
  have hx0 : Blk ((w.alloc (.cells (entC e A c).toArray 39)).alloc (.cells entZ.toArray 39)) w.heap.size (entC e A c) 39 := (Blk.new' _ _ _ _ _ rfl rfl).alloc _
  have hr0 : Blk ((w.alloc (.cells (entC e A c).toArray 39)).alloc (.cells entZ.toArray 39)) (w.heap.size + 1) entZ 39 := Blk.new' _ _ _ _ _ rfl (by simp)
  have hB0 : Below w.heap.size w ((w.alloc (.cells (entC e A c).toArray 39)).alloc (.cells entZ.toArray 39)) := ((Below.refl _ _).alloc (Nat.le_refl _) _).alloc (by simp) _
  have HHL := Lib.hid hhl
  have HSL := Lib.hid hsl
  clear he ho hhl hsl
  go_enter Tryd.func22, Tryd.ntmps22
  go_wp2_with (with_reducible apply st_allocE)
  have o0 := OwnC.nil ((w.alloc (.cells (entC e A c).toArray 39)).alloc (.cells entZ.toArray 39)) (w.heap.size + 2) 3
  go_loopw [3, 4] (fun v i wr => ∃ k : Nat, i = .int .i64 k ∧ k ≤ e.ord.length ∧ k ≤ 70 ∧ Blk wr w.heap.size (entC e A c) 39 ∧ Blk wr (w.heap.size + 1) entZ 39 ∧ Below w.heap.size w wr ∧ OwnC wr (w.heap.size + 2) 3 v (nums .i64 (e.ord.take k))) (fun _ i _ => 70 - (intOf i).toNat)
  case atStart => exact ⟨0, rfl, by omega, by omega, hx0, hr0, hB0, by rw [List.take_zero]; exact o0⟩
  case round =>
    clear hx0 hr0 hB0 o0
    obtain ⟨k, rfl, hk, hk70, hx, hr, hB, hown⟩ := hrel
    have c67 := (hx.cell 67).trans (entC_at HE.out A c 1)
    simp only [verC, List.getElem?_cons_zero, List.getElem?_cons_succ] at c67
    have hz := hr.lt
    by_cases hlt : k < e.ord.length ∧ k < 70
    · obtain ⟨hlt, hlt70⟩ := hlt
      obtain ⟨g, o, rfl, hg, hc⟩ := HO.out.get (by omega)
      have cx := (hB.cell (p := ⟨g, o + k, none⟩) hg).trans (hc k hlt)
      have htk := take_at e.ord k hlt
      rw [← ga_eq] at htk
      obtain ⟨x, hx'⟩ : ∃ x, x = ga e.ord k := ⟨_, rfl⟩
      rw [← hx'] at cx htk
      have HTK := Lib.hid htk
      clear hc htk hx'
      go_wp2_with ((with_reducible apply st_appendI (base := w.heap.size + 2) (l := e.ord.take k)); rfl; rfl; exact OwnC.kept hown ((Below.refl _ _).alloc (Nat.le_refl _) _); (exact (Blk.new' wr _ [.int .i64 x] 3 _ rfl rfl).cell 0); (rw [List.length_take]; omega); (simp; omega); intro v2 w2 ho2 hb2; have hx2 := (hx.alloc (.cells #[.int .i64 x] 3)).below hb2 (by omega); have hr2 := (hr.alloc (.cells #[.int .i64 x] 3)).below hb2 (by omega); have hB2 := (hB.alloc hB.size (.cells #[.int .i64 x] 3)).trans (hb2.mono (by omega)))
      go_roundw
      case rel => exact ⟨k + 1, by go_num, by omega, by omega, hx2, hr2, hB2, by rw [HTK.out]; exact ho2⟩
      case measure => simp [intOf]; omega
    · have e9 : e.ord.take k = e.ord.take 70 := by
        by_cases h : k = 70
        · rw [h]
        · rw [List.take_of_length_le (by omega), List.take_of_length_le (by omega)]
      rw [e9] at hown
      obtain ⟨L, hL⟩ : ∃ L, L = e.ord.take 70 := ⟨_, rfl⟩
      rw [← hL] at hown
      obtain ⟨A6, c6, hv, h6l, h6n, h6r, _⟩ := OwnC.from hown
      rw [nums_length] at hv
      have hcs : (entC e A c).set 67 (.slice A6 L.length c6) = entC (cutE e) A6 c6 := by
        rw [entC_V, entC_V, entV_ord _ _ _ _ _ _ _ _ HHL.out HSL.out, hL]; rfl
      subst hv
      have f67 := hx.frozen 67
      have hx2 := hx.set 67 (.slice A6 L.length c6)
      have hlen := entC_len (cutE_B HE.out) A6 c6
      have hone := entC_one (e := cutE e) A6 c6
      rw [hcs] at hx2
      obtain ⟨CS, hCS⟩ : ∃ CS, CS = entC (cutE e) A6 c6 := ⟨_, rfl⟩
      rw [← hCS] at hlen hone hx2
      have hr2 := hr.far ⟨w.heap.size, 67, none⟩ (.slice A6 L.length c6) (by simp)
      have hB2 := hB.setCell (p := ⟨w.heap.size, 67, none⟩) (Nat.le_refl _) (.slice A6 L.length c6)
      have ho2 := OwnC.farSet hown (p := ⟨w.heap.size, 67, none⟩) (by simp) (.slice A6 L.length c6)
      have hfin : ∀ W, OwnC W w.heap.size 3 (.slice A6 L.length c6) (nums .i64 L) → OwnC W w.heap.size 3 (.slice A6 (cutE e).ord.length c6) (nums .i64 (cutE e).ord) := fun W h => by
        show OwnC W _ _ (.slice A6 (e.ord.take 70).length c6) (nums .i64 (e.ord.take 70))
        rw [← hL]; exact h
      have HFIN := Lib.hid hfin
      have HLEN := Lib.hid hlen
      have HONE := Lib.hid hone
      have HCS := Lib.hid hCS
      have HOW := Lib.hid ho2
      clear hlen hone hCS hcs e9 hown h6l h6n h6r ho2 hfin hL
      by_cases hlt2 : k < e.ord.length
      · have h70 : ¬ k < 70 := fun h => hlt ⟨hlt2, h⟩
        clear hlt
        go_wp2_with (first | ((with_reducible apply st_load (n := 69) (cs := CS) (T := 39)); rfl; exact hx2; exact Tryd.underlying39; rfl; exact entSize; (rw [HLEN.out]; decide); exact row_all _ _ HLEN.out) | ((with_reducible apply st_storeW (off := 0) (vs := CS) (cs := entZ) (T := 39)); rfl; rfl; exact hr2; (rw [HLEN.out]; exact entSize); (rw [HLEN.out, entZ_len]; decide); exact HONE.out; intro w9 hd9 hw9; rw [laid_all _ _ (by rw [HLEN.out, entZ_len])] at hd9))
        refine bodyPost_ret (ret_row rfl _ _ _ CS 39 _ rfl hd9 Tryd.underlying39 rfl (by rw [HLEN.out]; exact entSize)) rfl ⟨A6, c6, by rw [HCS.out], Wrote.below hB2 hw9 (by omega), HFIN.out _ (OwnC.mono (OwnC.farWrote HOW.out hw9 (by omega)) (by omega))⟩
      · clear hlt
        go_wp2_with (first | ((with_reducible apply st_load (n := 69) (cs := CS) (T := 39)); rfl; exact hx2; exact Tryd.underlying39; rfl; exact entSize; (rw [HLEN.out]; decide); exact row_all _ _ HLEN.out) | ((with_reducible apply st_storeW (off := 0) (vs := CS) (cs := entZ) (T := 39)); rfl; rfl; exact hr2; (rw [HLEN.out]; exact entSize); (rw [HLEN.out, entZ_len]; decide); exact HONE.out; intro w9 hd9 hw9; rw [laid_all _ _ (by rw [HLEN.out, entZ_len])] at hd9))
        refine bodyPost_ret (ret_row rfl _ _ _ CS 39 _ rfl hd9 Tryd.underlying39 rfl (by rw [HLEN.out]; exact entSize)) rfl ⟨A6, c6, by rw [HCS.out], Wrote.below hB2 hw9 (by omega), HFIN.out _ (OwnC.mono (OwnC.farWrote HOW.out hw9 (by omega)) (by omega))⟩

end Go.Proofs.YtancldhincaphaaDoor
