/- What the reference's Cut of entries answers. No condition but the kinds' own bounds. -/
import Derived.Test.YtepicdcmcagipaaEntX
namespace Go.Proofs.Ytepicdcmcagipaa
open Go.RowKit

/-- An entry whose order is none too long. -/
def cutE (e : Ent) : Ent := { e with ord := e.ord.take 70 }
theorem cutE_B {e : Ent} (h : EntB e) : EntB (cutE e) := ⟨h.h, h.s, h.uh, h.us, h.job, h.time, h.kind, h.tries, fun x hx => h.ord x (List.mem_of_mem_take hx)⟩
theorem cutE_len (e : Ent) : (cutE e).ord.length ≤ 70 := by show (e.ord.take 70).length ≤ 70; rw [List.length_take]; omega
def GivesE (e : Ent) (w : World) (r : Ending) (w' : World) : Prop := ∃ A c, r = .returned (.agg (entC e A c).toArray) ∧ GrowI w e.ord (.slice A e.ord.length c) w'
theorem entC_V (e : Ent) (A : Option Addr) (c : Nat) : entC e A c = entV e.job e.time e.h e.s e.kind (.slice A e.ord.length c) e.tries := rfl

set_option maxRecDepth 100000 in
set_option maxHeartbeats 8000000 in
theorem cut20_any (w : World) (e : Ent) (he : EntB e) (A : Option Addr) (c : Nat) (ho : Nts w A c e.ord) (hl : e.ord.length ≤ 9223372036854775807) :
    Calls Try.prog 6 #[.agg (entC e A c).toArray] w (GivesE (cutE e) w) := by
  have HE := Lib.hid he
  have HO := Lib.hid ho
  have hhl := he.h
  have hsl := he.s
  have hx0 : Blk ((w.alloc (.cells (entC e A c).toArray 28)).alloc (.cells entZ.toArray 28)) w.heap.size (entC e A c) 28 := (Blk.new' _ _ _ _ _ rfl rfl).alloc _
  have hr0 : Blk ((w.alloc (.cells (entC e A c).toArray 28)).alloc (.cells entZ.toArray 28)) (w.heap.size + 1) entZ 28 := Blk.new' _ _ _ _ _ rfl (by simp)
  have hB0 : Below w.heap.size w ((w.alloc (.cells (entC e A c).toArray 28)).alloc (.cells entZ.toArray 28)) := ((Below.refl _ _).alloc (Nat.le_refl _) _).alloc (by simp) _
  have HHL := Lib.hid hhl
  have HSL := Lib.hid hsl
  clear he ho hhl hsl
  go_enter Try.func6, Try.ntmps6
  go_wp2_with (with_reducible apply st_allocE)
  have o0 := OwnC.nil ((w.alloc (.cells (entC e A c).toArray 28)).alloc (.cells entZ.toArray 28)) (w.heap.size + 2) 3
  go_loopw [3, 4] (fun v i wr => ∃ k : Nat, i = .int .i64 k ∧ k ≤ e.ord.length ∧ k ≤ 70 ∧ Blk wr w.heap.size (entC e A c) 28 ∧ Blk wr (w.heap.size + 1) entZ 28 ∧ Below w.heap.size w wr ∧ OwnC wr (w.heap.size + 2) 3 v (nums .i64 (e.ord.take k))) (fun _ i _ => 70 - (intOf i).toNat)
  case atStart => exact ⟨0, rfl, by omega, by omega, hx0, hr0, hB0, by rw [List.take_zero]; exact o0⟩
  case round =>
    clear hx0 hr0 hB0 o0
    obtain ⟨k, rfl, hk, hk70, hx, hr, hB, hown⟩ := hrel
    have c67 := (hx.cell 67).trans (entC_at HE.out A c 1)
    simp only [verC, List.getElem?_cons_zero, List.getElem?_cons_succ] at c67
    have hz := hr.lt
    by_cases hlt : k < e.ord.length ∧ k < 70
    · obtain ⟨hlt, hlt70⟩ := hlt
      obtain ⟨g, o, rfl, hg, hc⟩ := HO.out.get (by omega)
      have cx := (hB.cell (p := ⟨g, o + k, none⟩) hg).trans (hc k hlt)
      have htk := take_at e.ord k hlt
      rw [← ga_eq] at htk
      obtain ⟨x, hx'⟩ : ∃ x, x = ga e.ord k := ⟨_, rfl⟩
      rw [← hx'] at cx htk
      have HTK := Lib.hid htk
      clear hc htk hx'
      go_wp2_with ((with_reducible apply st_appendI (base := w.heap.size + 2) (l := e.ord.take k)); rfl; rfl; exact OwnC.kept hown ((Below.refl _ _).alloc (Nat.le_refl _) _); (exact (Blk.new' wr _ [.int .i64 x] 3 _ rfl rfl).cell 0); (rw [List.length_take]; omega); (simp; omega); intro v2 w2 ho2 hb2; have hx2 := (hx.alloc (.cells #[.int .i64 x] 3)).below hb2 (by omega); have hr2 := (hr.alloc (.cells #[.int .i64 x] 3)).below hb2 (by omega); have hB2 := (hB.alloc hB.size (.cells #[.int .i64 x] 3)).trans (hb2.mono (by omega)))
      go_roundw
      case rel => exact ⟨k + 1, by go_num, by omega, by omega, hx2, hr2, hB2, by rw [HTK.out]; exact ho2⟩
      case measure => simp [intOf]; omega
    · have e9 : e.ord.take k = e.ord.take 70 := by
        by_cases h : k = 70
        · rw [h]
        · rw [List.take_of_length_le (by omega), List.take_of_length_le (by omega)]
      rw [e9] at hown
      obtain ⟨L, hL⟩ : ∃ L, L = e.ord.take 70 := ⟨_, rfl⟩
      rw [← hL] at hown
      obtain ⟨A6, c6, hv, h6l, h6n, h6r, _⟩ := OwnC.from hown
      rw [nums_length] at hv
      have hcs : (entC e A c).set 67 (.slice A6 L.length c6) = entC (cutE e) A6 c6 := by
        rw [entC_V, entC_V, entV_ord _ _ _ _ _ _ _ _ HHL.out HSL.out, hL]; rfl
      subst hv
      have f67 := hx.frozen 67
      have hx2 := hx.set 67 (.slice A6 L.length c6)
      have hlen := entC_len (cutE_B HE.out) A6 c6
      have hone := entC_one (e := cutE e) A6 c6
      rw [hcs] at hx2
      obtain ⟨CS, hCS⟩ : ∃ CS, CS = entC (cutE e) A6 c6 := ⟨_, rfl⟩
      rw [← hCS] at hlen hone hx2
      have hr2 := hr.far ⟨w.heap.size, 67, none⟩ (.slice A6 L.length c6) (by simp)
      have hB2 := hB.setCell (p := ⟨w.heap.size, 67, none⟩) (Nat.le_refl _) (.slice A6 L.length c6)
      have ho2 := OwnC.farSet hown (p := ⟨w.heap.size, 67, none⟩) (by simp) (.slice A6 L.length c6)
      have hfin : ∀ W, OwnC W w.heap.size 3 (.slice A6 L.length c6) (nums .i64 L) → OwnC W w.heap.size 3 (.slice A6 (cutE e).ord.length c6) (nums .i64 (cutE e).ord) := fun W h => by
        show OwnC W _ _ (.slice A6 (e.ord.take 70).length c6) (nums .i64 (e.ord.take 70))
        rw [← hL]; exact h
      have HFIN := Lib.hid hfin
      have HLEN := Lib.hid hlen
      have HONE := Lib.hid hone
      have HCS := Lib.hid hCS
      have HOW := Lib.hid ho2
      clear hlen hone hCS hcs e9 hown h6l h6n h6r ho2 hfin hL
      by_cases hlt2 : k < e.ord.length
      · have h70 : ¬ k < 70 := fun h => hlt ⟨hlt2, h⟩
        clear hlt
        go_wp2_with (first | ((with_reducible apply st_load (n := 69) (cs := CS) (T := 28)); rfl; exact hx2; exact Try.underlying28; rfl; exact entSize; (rw [HLEN.out]; decide); exact row_all _ _ HLEN.out) | ((with_reducible apply st_storeW (off := 0) (vs := CS) (cs := entZ) (T := 28)); rfl; rfl; exact hr2; (rw [HLEN.out]; exact entSize); (rw [HLEN.out, entZ_len]; decide); exact HONE.out; intro w9 hd9 hw9; rw [laid_all _ _ (by rw [HLEN.out, entZ_len])] at hd9))
        refine bodyPost_ret (ret_row rfl _ _ _ CS 28 _ rfl hd9 Try.underlying28 rfl (by rw [HLEN.out]; exact entSize)) rfl ⟨A6, c6, by rw [HCS.out], Wrote.below hB2 hw9 (by omega), HFIN.out _ (OwnC.mono (OwnC.farWrote HOW.out hw9 (by omega)) (by omega))⟩
      · clear hlt
        go_wp2_with (first | ((with_reducible apply st_load (n := 69) (cs := CS) (T := 28)); rfl; exact hx2; exact Try.underlying28; rfl; exact entSize; (rw [HLEN.out]; decide); exact row_all _ _ HLEN.out) | ((with_reducible apply st_storeW (off := 0) (vs := CS) (cs := entZ) (T := 28)); rfl; rfl; exact hr2; (rw [HLEN.out]; exact entSize); (rw [HLEN.out, entZ_len]; decide); exact HONE.out; intro w9 hd9 hw9; rw [laid_all _ _ (by rw [HLEN.out, entZ_len])] at hd9))
        refine bodyPost_ret (ret_row rfl _ _ _ CS 28 _ rfl hd9 Try.underlying28 rfl (by rw [HLEN.out]; exact entSize)) rfl ⟨A6, c6, by rw [HCS.out], Wrote.below hB2 hw9 (by omega), HFIN.out _ (OwnC.mono (OwnC.farWrote HOW.out hw9 (by omega)) (by omega))⟩

end Go.Proofs.Ytepicdcmcagipaa
