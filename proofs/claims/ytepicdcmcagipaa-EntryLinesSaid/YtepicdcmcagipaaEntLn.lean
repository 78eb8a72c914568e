/- What entry.Line and the reference's Line answer. No condition but the kinds' own bounds. -/
import Derived.Test.YtepicdcmcagipaaEntW
import Derived.Test.YtepicdcmcagipaaEntD
namespace Go.Proofs.Ytepicdcmcagipaa
open Go.RowKit Go.Proofs.Ytepicdcmcagipaa.DecP

theorem verC_blk (w : World) (e : Ent) (A : Option Addr) (c : Nat) : Blk (w.alloc (.cells (verC e A c).toArray 26)) w.heap.size (verC e A c) 26 := Blk.new' _ _ _ _ _ rfl rfl
theorem str_no (l : List Int) (h : 1 ≤ l.length) : (strOfNums l).toList.isEmpty = false := by
  rw [ByteArray.toList_eq, strOfNums_data]
  cases l with
  | nil => simp at h
  | cons a r => rfl

set_option maxRecDepth 100000 in
set_option maxHeartbeats 4000000 in
theorem line_any (w : World) (e : Ent) (he : EntB e) (A : Option Addr) (c : Nat) (ho : Nts w A c e.ord) (hl : e.ord.length ≤ 1000) :
    Calls Try.prog 18 #[.agg (verC e A c).toArray] w fun r w' => r = .returned (.string (strOfNums (lineL e))) ∧ Below w.heap.size w w' := by
  have HE := Lib.hid he
  have HO := Lib.hid ho
  have hx0 := verC_blk w e A c
  have hB0 : Below w.heap.size w (w.alloc (.cells (verC e A c).toArray 26)) := (Below.refl _ _).alloc (Nat.le_refl _) _
  have o0 := OwnC.nil (w.alloc (.cells (verC e A c).toArray 26)) (w.heap.size + 1) 9
  clear he ho
  simp only [verC] at hx0 hB0 o0 ⊢
  go_enter Try.func18, Try.ntmps18
  go_wp2
  go_loopw [3, 10] (fun v i wr => ∃ k : Nat, i = .int .i64 k ∧ k ≤ e.ord.length ∧ Blk wr w.heap.size (verC e A c) 26 ∧ Below w.heap.size w wr ∧ OwnC wr (w.heap.size + 1) 9 v (strs (e.ord.take k))) (fun _ i _ => e.ord.length - (intOf i).toNat)
  case atStart => exact ⟨0, rfl, by omega, hx0, hB0, by rw [List.take_zero]; exact o0⟩
  case round =>
    clear hx0 hB0 o0
    obtain ⟨k, rfl, hk, hx, hB, hown⟩ := hrel
    have hz := hx.lt
    by_cases hlt : k < e.ord.length
    · obtain ⟨g, o, rfl, hg, hc⟩ := HO.out.get (by omega)
      have cx := (hB.cell (p := ⟨g, o + k, none⟩) hg).trans (hc k hlt)
      have htk := take_at e.ord k hlt
      rw [← ga_eq] at htk
      have hxb : B64 (ga e.ord k) := HE.out.ord _ (by rw [ga_eq, List.getD_eq_getElem?_getD, List.getElem?_eq_getElem hlt]; exact List.getElem_mem hlt)
      obtain ⟨x, hx'⟩ : ∃ x, x = ga e.ord k := ⟨_, rfl⟩
      rw [← hx'] at cx htk hxb
      have HTK := Lib.hid htk
      clear hc htk hx'
      go_wp2_with fail
      go_at_call 29
      refine (dec_any _ x hxb).mono ?_
      rintro r w1 ⟨rfl, hb1⟩
      have hx1 := hx.up hb1
      have hB1 := hB.trans (hb1.mono hB.size)
      have hown1 := OwnC.kept hown hb1
      have hz1 := hx1.lt
      clear hx hB hown cx hb1
      go_wp2_with ((with_reducible apply st_appendS (base := w.heap.size + 1) (l := e.ord.take k) (n := x)); rfl; rfl; exact OwnC.kept hown1 ((Below.refl _ _).alloc (Nat.le_refl _) _); (exact (Blk.new' w1 _ [.string (strOfNums (decS x))] 9 _ rfl rfl).cell 0); (rw [List.length_take]; omega); (simp; omega); intro v2 w2 ho2 hb2; have hx2 := (hx1.alloc (.cells #[.string (strOfNums (decS x))] 9)).below hb2 (by omega); have hB2 := (hB1.alloc hB1.size (.cells #[.string (strOfNums (decS x))] 9)).trans (hb2.mono (by omega)))
      --MARK2
      go_roundw
      case rel => exact ⟨k + 1, by go_num, by omega, hx2, hB2, by rw [HTK.out]; exact ho2⟩
      case measure => simp [intOf]; omega
    · have e9 : k = e.ord.length := by omega
      rw [e9, List.take_length] at hown
      clear e9
      go_wp2_with fail
      obtain ⟨A6, c6, rfl, h6l, h6n, h6r, _⟩ := OwnC.from hown
      rw [strs_length] at h6l ⊢
      go_at_call 30
      refine (join_any _ A6 c6 e.ord h6r h6l hl).mono ?_
      rintro r w1 ⟨rfl, hb1⟩
      have hx1 := hx.up hb1
      have hB1 := hB.trans (hb1.mono hB.size)
      clear hx hB hown hb1 h6r h6n
      have hjl := joinD_len e.ord
      have hwd := wordL_len e.kind
      have hdl := decS_len e.tries
      have hrl : (restL e.ord).length ≤ 22000 := by unfold restL; split <;> first | omega | (simp; done)
      have c0 := hx1.cell 0
      have c2 := hx1.cell 2
      simp only [verC, List.getElem?_cons_zero, List.getElem?_cons_succ] at c0 c2
      have hz1 := hx1.lt
      have hz0 := hB1.size
      have hs1 : (strOfNums (wordL e.kind)).size ≤ 20 := by rw [strOfNums_size]; omega
      have hs2 : (strOfNums (decS e.tries)).size ≤ 21 := by rw [strOfNums_size]; omega
      by_cases hem : e.ord = []
      · have hrest : restL e.ord = [45] := if_pos hem
        have hj0 : joinD e.ord = [] := by rw [hem]; rfl
        have hyes : (strOfNums []).toList.isEmpty = true := by rw [ByteArray.toList_eq, strOfNums_data]; rfl
        have hfin : strOfNums (wordL e.kind) ++ ⟨#[32]⟩ ++ strOfNums (decS e.tries) ++ ⟨#[32]⟩ ++ ⟨#[45]⟩ = strOfNums (lineL e) := by
          unfold lineL; rw [hrest, ← str_app, ← str_app, ← str_app, ← str_app]; rfl
        have HFIN := Lib.hid hfin
        rw [hj0]
        clear hj0 hrest hfin hrl hjl
        go_wp2_with fail
        refine wp_region_C (Same [w.heap.size] w1) [2, 6] (by kernel_rfl) (by kernel_rfl) (by intro c a w h; first | (obtain ⟨_, h, _⟩ := h; cases h; done) | (obtain ⟨_, _, h, _⟩ := h; cases h; done) | (obtain ⟨_, _, _, h, _⟩ := h; cases h; done) | (obtain ⟨_, _, _, _, h, _⟩ := h; cases h; done) | (rcases h with ⟨_, ⟨_, _, _, _, h, _⟩ | ⟨_, _, _, _, h, _⟩⟩ <;> cases h; done)) (by intro a w h; first | (obtain ⟨h, _⟩ := h; cases h; done) | (obtain ⟨_, h, _⟩ := h; cases h; done) | (obtain ⟨_, _, h, _⟩ := h; cases h; done) | (obtain ⟨_, _, _, h, _⟩ := h; cases h; done) | (rcases h with ⟨_, _, _, _, h, _⟩ | ⟨_, _, _, _, h, _⟩ <;> cases h; done)) (Same.refl _ _) ?_
        repeat (refine wd_q (v := ?_) rfl rfl rfl rfl rfl rfl (fun w' hw' K hK => ?_) ?_; rotate_left; (have e1 := (hw'.cell w.heap.size (by simp) _).trans c0; go_wp2; exact rfl); simp only [Act.put, List.setIfInBounds_toArray, List.set_cons_zero, List.set_cons_succ])
        refine wd_l rfl rfl (by intro a w h; first | (obtain ⟨h, _⟩ := h; cases h; done) | (obtain ⟨_, h, _⟩ := h; cases h; done) | (obtain ⟨_, _, h, _⟩ := h; cases h; done) | (obtain ⟨_, _, _, h, _⟩ := h; cases h; done) | (rcases h with ⟨_, _, _, _, h, _⟩ | ⟨_, _, _, _, h, _⟩ <;> cases h; done)) ?_
        go_wp2_with fail
        go_at_call 20
        refine (word_any _ e.kind).mono ?_
        rintro r w2 ⟨rfl, hb2⟩
        have hb2' : Below w1.heap.size w1 w2 := (Below.refl _ _).drew.trans (hb2.mono (Nat.le_refl _))
        go_wp2_with fail
        refine ⟨.inr (fun gg hg => hb2'.block gg (by simp at hg; omega)), ?_⟩
        repeat (refine wd_q (v := ?_) rfl rfl rfl rfl rfl rfl (fun w' hw' K hK => ?_) ?_; rotate_left; (have e1 := (hw'.cell w.heap.size (by simp) _).trans c2; go_wp2; exact rfl); simp only [Act.put, List.setIfInBounds_toArray, List.set_cons_zero, List.set_cons_succ])
        refine wd_l rfl rfl (by intro a w h; first | (obtain ⟨h, _⟩ := h; cases h; done) | (obtain ⟨_, h, _⟩ := h; cases h; done) | (obtain ⟨_, _, h, _⟩ := h; cases h; done) | (obtain ⟨_, _, _, h, _⟩ := h; cases h; done) | (rcases h with ⟨_, _, _, _, h, _⟩ | ⟨_, _, _, _, h, _⟩ <;> cases h; done)) ?_
        go_wp2_with fail
        go_at_call 29
        refine (dec_any _ e.tries HE.out.tries).mono ?_
        rintro r w3 ⟨rfl, hb3⟩
        have hb3' : Below w1.heap.size w1 w3 := hb2'.trans (hb3.mono hb2'.size)
        go_wp2_with fail
        refine ⟨.inr (fun gg hg => hb3'.block gg (by simp at hg; omega)), ?_⟩
        --MARK3
        repeat (refine wd_q (v := ?_) rfl rfl rfl rfl rfl rfl (fun w' hw' K hK => ?_) ?_; rotate_left; (skip; go_wp2; exact rfl); simp only [Act.put, List.setIfInBounds_toArray, List.set_cons_zero, List.set_cons_succ])
        refine wd_nil ?_
        go_wp2
        go_ret
        exact ⟨by rw [HFIN.out]; rfl, hB1.trans (hb3'.mono hB1.size)⟩
      · have hrest : restL e.ord = joinD e.ord := if_neg hem
        have hno : (strOfNums (joinD e.ord)).toList.isEmpty = false := str_no (joinD e.ord) (joinD_pos _ hem)
        have hs3 : (strOfNums (joinD e.ord)).size ≤ 22000 := by rw [strOfNums_size]; omega
        have hfin : strOfNums (wordL e.kind) ++ ⟨#[32]⟩ ++ strOfNums (decS e.tries) ++ ⟨#[32]⟩ ++ strOfNums (joinD e.ord) = strOfNums (lineL e) := by
          unfold lineL; rw [hrest, ← str_app, ← str_app, ← str_app, ← str_app]; rfl
        have HFIN := Lib.hid hfin
        clear hrest hfin hrl hjl
        go_wp2_with fail
        refine wp_region_C (Same [w.heap.size] w1) [2, 6] (by kernel_rfl) (by kernel_rfl) (by intro c a w h; first | (obtain ⟨_, h, _⟩ := h; cases h; done) | (obtain ⟨_, _, h, _⟩ := h; cases h; done) | (obtain ⟨_, _, _, h, _⟩ := h; cases h; done) | (obtain ⟨_, _, _, _, h, _⟩ := h; cases h; done) | (rcases h with ⟨_, ⟨_, _, _, _, h, _⟩ | ⟨_, _, _, _, h, _⟩⟩ <;> cases h; done)) (by intro a w h; first | (obtain ⟨h, _⟩ := h; cases h; done) | (obtain ⟨_, h, _⟩ := h; cases h; done) | (obtain ⟨_, _, h, _⟩ := h; cases h; done) | (obtain ⟨_, _, _, h, _⟩ := h; cases h; done) | (rcases h with ⟨_, _, _, _, h, _⟩ | ⟨_, _, _, _, h, _⟩ <;> cases h; done)) (Same.refl _ _) ?_
        repeat (refine wd_q (v := ?_) rfl rfl rfl rfl rfl rfl (fun w' hw' K hK => ?_) ?_; rotate_left; (have e1 := (hw'.cell w.heap.size (by simp) _).trans c0; go_wp2; exact rfl); simp only [Act.put, List.setIfInBounds_toArray, List.set_cons_zero, List.set_cons_succ])
        refine wd_l rfl rfl (by intro a w h; first | (obtain ⟨h, _⟩ := h; cases h; done) | (obtain ⟨_, h, _⟩ := h; cases h; done) | (obtain ⟨_, _, h, _⟩ := h; cases h; done) | (obtain ⟨_, _, _, h, _⟩ := h; cases h; done) | (rcases h with ⟨_, _, _, _, h, _⟩ | ⟨_, _, _, _, h, _⟩ <;> cases h; done)) ?_
        go_wp2_with fail
        go_at_call 20
        refine (word_any _ e.kind).mono ?_
        rintro r w2 ⟨rfl, hb2⟩
        have hb2' : Below w1.heap.size w1 w2 := (Below.refl _ _).drew.trans (hb2.mono (Nat.le_refl _))
        go_wp2_with fail
        refine ⟨.inr (fun gg hg => hb2'.block gg (by simp at hg; omega)), ?_⟩
        repeat (refine wd_q (v := ?_) rfl rfl rfl rfl rfl rfl (fun w' hw' K hK => ?_) ?_; rotate_left; (have e1 := (hw'.cell w.heap.size (by simp) _).trans c2; go_wp2; exact rfl); simp only [Act.put, List.setIfInBounds_toArray, List.set_cons_zero, List.set_cons_succ])
        refine wd_l rfl rfl (by intro a w h; first | (obtain ⟨h, _⟩ := h; cases h; done) | (obtain ⟨_, h, _⟩ := h; cases h; done) | (obtain ⟨_, _, h, _⟩ := h; cases h; done) | (obtain ⟨_, _, _, h, _⟩ := h; cases h; done) | (rcases h with ⟨_, _, _, _, h, _⟩ | ⟨_, _, _, _, h, _⟩ <;> cases h; done)) ?_
        go_wp2_with fail
        go_at_call 29
        refine (dec_any _ e.tries HE.out.tries).mono ?_
        rintro r w3 ⟨rfl, hb3⟩
        have hb3' : Below w1.heap.size w1 w3 := hb2'.trans (hb3.mono hb2'.size)
        go_wp2_with fail
        refine ⟨.inr (fun gg hg => hb3'.block gg (by simp at hg; omega)), ?_⟩
        --MARK4
        repeat (refine wd_q (v := ?_) rfl rfl rfl rfl rfl rfl (fun w' hw' K hK => ?_) ?_; rotate_left; (skip; go_wp2; exact rfl); simp only [Act.put, List.setIfInBounds_toArray, List.set_cons_zero, List.set_cons_succ])
        refine wd_nil ?_
        go_wp2
        go_ret
        exact ⟨by rw [HFIN.out]; rfl, hB1.trans (hb3'.mono hB1.size)⟩

def preL (e : Ent) : List Int := wordL e.kind ++ [32] ++ decS e.tries ++ [32]
theorem lineL_pre (e : Ent) : lineL e = preL e ++ restL e.ord := rfl
set_option maxRecDepth 100000 in
set_option maxHeartbeats 4000000 in
theorem refline_any (w : World) (e : Ent) (he : EntB e) (A : Option Addr) (c : Nat) (ho : Nts w A c e.ord) (hl : e.ord.length ≤ 1000) :
    Calls Try.prog 19 #[.agg (verC e A c).toArray] w fun r w' => r = .returned (.string (strOfNums (lineL e))) ∧ Below w.heap.size w w' := by
  have HE := Lib.hid he
  have HO := Lib.hid ho
  have hx0 := verC_blk w e A c
  have hB0 : Below w.heap.size w (w.alloc (.cells (verC e A c).toArray 26)) := (Below.refl _ _).alloc (Nat.le_refl _) _
  clear he ho
  have hwd := wordL_len e.kind
  have hdl := decS_len e.tries
  have hpl : (preL e).length ≤ 100 := by simp only [preL, List.length_append, List.length_cons, List.length_nil]; omega
  have hs1 : (strOfNums (wordL e.kind)).size ≤ 20 := by rw [strOfNums_size]; omega
  have hs2 : (strOfNums (decS e.tries)).size ≤ 21 := by rw [strOfNums_size]; omega
  have hpre : strOfNums (wordL e.kind) ++ ⟨#[32]⟩ ++ strOfNums (decS e.tries) ++ ⟨#[32]⟩ = strOfNums (preL e) := by
    unfold preL; rw [← str_app, ← str_app, ← str_app]; rfl
  have HPRE := Lib.hid hpre
  clear hpre hwd hdl
  simp only [verC] at hx0 hB0 ⊢
  go_enter Try.func19, Try.ntmps19
  go_wp2_with fail
  refine named_world ?_
  intro w1 hw1
  rw [← hw1] at hx0 hB0
  clear hw1
  have c0 := hx0.cell 0
  have c2 := hx0.cell 2
  simp only [List.getElem?_cons_zero, List.getElem?_cons_succ] at c0 c2
  have hz1 := hx0.lt
  have hz0 := hB0.size
  refine wp_region_C (Same [w.heap.size] w1) [2, 6] (by kernel_rfl) (by kernel_rfl) (by intro c a w h; first | (obtain ⟨_, h, _⟩ := h; cases h; done) | (obtain ⟨_, _, h, _⟩ := h; cases h; done) | (obtain ⟨_, _, _, h, _⟩ := h; cases h; done) | (obtain ⟨_, _, _, _, h, _⟩ := h; cases h; done) | (rcases h with ⟨_, ⟨_, _, _, _, h, _⟩ | ⟨_, _, _, _, h, _⟩⟩ <;> cases h; done)) (by intro a w h; first | (obtain ⟨h, _⟩ := h; cases h; done) | (obtain ⟨_, h, _⟩ := h; cases h; done) | (obtain ⟨_, _, h, _⟩ := h; cases h; done) | (obtain ⟨_, _, _, h, _⟩ := h; cases h; done) | (rcases h with ⟨_, _, _, _, h, _⟩ | ⟨_, _, _, _, h, _⟩ <;> cases h; done)) (Same.refl _ _) ?_
  repeat (refine wd_q (v := ?_) rfl rfl rfl rfl rfl rfl (fun w' hw' K hK => ?_) ?_; rotate_left; (have e1 := (hw'.cell w.heap.size (by simp) _).trans c0; go_wp2; exact rfl); simp only [Act.put, List.setIfInBounds_toArray, List.set_cons_zero, List.set_cons_succ])
  refine wd_l rfl rfl (by intro a w h; first | (obtain ⟨h, _⟩ := h; cases h; done) | (obtain ⟨_, h, _⟩ := h; cases h; done) | (obtain ⟨_, _, h, _⟩ := h; cases h; done) | (obtain ⟨_, _, _, h, _⟩ := h; cases h; done) | (rcases h with ⟨_, _, _, _, h, _⟩ | ⟨_, _, _, _, h, _⟩ <;> cases h; done)) ?_
  go_wp2_with fail
  go_at_call 21
  refine (refword_any _ e.kind).mono ?_
  rintro r w2 ⟨rfl, hb2⟩
  have hb2' : Below w1.heap.size w1 w2 := (Below.refl _ _).drew.trans (hb2.mono (Nat.le_refl _))
  go_wp2_with fail
  refine ⟨.inr (fun gg hg => hb2'.block gg (by simp at hg; omega)), ?_⟩
  repeat (refine wd_q (v := ?_) rfl rfl rfl rfl rfl rfl (fun w' hw' K hK => ?_) ?_; rotate_left; (have e1 := (hw'.cell w.heap.size (by simp) _).trans c2; go_wp2; exact rfl); simp only [Act.put, List.setIfInBounds_toArray, List.set_cons_zero, List.set_cons_succ])
  refine wd_l rfl rfl (by intro a w h; first | (obtain ⟨h, _⟩ := h; cases h; done) | (obtain ⟨_, h, _⟩ := h; cases h; done) | (obtain ⟨_, _, h, _⟩ := h; cases h; done) | (obtain ⟨_, _, _, h, _⟩ := h; cases h; done) | (rcases h with ⟨_, _, _, _, h, _⟩ | ⟨_, _, _, _, h, _⟩ <;> cases h; done)) ?_
  go_wp2_with fail
  go_at_call 31
  refine (refdec_any _ e.tries HE.out.tries).mono ?_
  rintro r w3 ⟨rfl, hb3⟩
  have hb3' : Below w1.heap.size w1 w3 := hb2'.trans (hb3.mono hb2'.size)
  go_wp2_with fail
  refine ⟨.inr (fun gg hg => hb3'.block gg (by simp at hg; omega)), ?_⟩
  repeat (refine wd_q (v := ?_) rfl rfl rfl rfl rfl rfl (fun w' hw' K hK => ?_) ?_; rotate_left; (skip; go_wp2; exact rfl); simp only [Act.put, List.setIfInBounds_toArray, List.set_cons_zero, List.set_cons_succ])
  refine wd_nil ?_
  rw [HPRE.out]
  have hx3 := hx0.up hb3'
  have hB3 := hB0.trans (hb3'.mono hB0.size)
  have c1 := hx3.cell 1
  simp only [List.getElem?_cons_zero, List.getElem?_cons_succ] at c1
  clear hx0 hB0 hb2 hb3 hb2' hb3' c0 c2 hz1 hz0 hs1 hs2
  have hps : (strOfNums (preL e)).size ≤ 100 := by rw [strOfNums_size]; omega
  by_cases hem : e.ord = []
  · have hfin : strOfNums (preL e) ++ ⟨#[45]⟩ = strOfNums (lineL e) := by
      rw [lineL_pre, ← str_app]; unfold restL; rw [if_pos hem]; rfl
    have hz : e.ord.length = 0 := by rw [hem]; rfl
    have HFIN := Lib.hid hfin
    clear hfin
    rw [hz] at c1
    go_wp2
    go_ret
    exact ⟨by rw [HFIN.out]; rfl, hB3⟩
  · have hfin : strOfNums (preL e ++ joinD e.ord) = strOfNums (lineL e) := by
      rw [lineL_pre]; unfold restL; rw [if_neg hem]
    have hz : 0 < e.ord.length := List.length_pos_iff.2 hem
    have hzb : ((e.ord.length : Int) == 0) = false := by rw [beq_eq_false_iff_ne]; omega
    have HFIN := Lib.hid hfin
    clear hfin
    go_wp2_with fail
    --MARK5
    go_loopw [3, 4] (fun v i wr => ∃ k : Nat, i = .int .i64 k ∧ k ≤ e.ord.length ∧ Blk wr w.heap.size (verC e A c) 26 ∧ Below w.heap.size w wr ∧ v = .string (strOfNums (preL e ++ joinD (e.ord.take k)))) (fun _ i _ => e.ord.length - (intOf i).toNat)
    case atStart => exact ⟨0, rfl, by omega, hx3, hB3, by rw [List.take_zero]; simp [joinD]⟩
    case round =>
      clear hx3 hB3 c1
      obtain ⟨k, rfl, hk, hx, hB, rfl⟩ := hrel
      have c1 := hx.cell 1
      simp only [verC, List.getElem?_cons_zero, List.getElem?_cons_succ] at c1
      have hjl := joinD_len (e.ord.take k)
      have htl : (e.ord.take k).length ≤ 1000 := by rw [List.length_take]; omega
      have hss : (strOfNums (preL e ++ joinD (e.ord.take k))).size ≤ 22100 := by rw [strOfNums_size, List.length_append]; omega
      by_cases hlt : k < e.ord.length
      · obtain ⟨g, o, rfl, hg, hc⟩ := HO.out.get (by omega)
        have cx := (hB.cell (p := ⟨g, o + k, none⟩) hg).trans (hc k hlt)
        have htk := take_at e.ord k hlt
        rw [← ga_eq] at htk
        have hxb : B64 (ga e.ord k) := HE.out.ord _ (by rw [ga_eq, List.getD_eq_getElem?_getD, List.getElem?_eq_getElem hlt]; exact List.getElem_mem hlt)
        obtain ⟨x, hx'⟩ : ∃ x, x = ga e.ord k := ⟨_, rfl⟩
        rw [← hx'] at cx htk hxb
        have hdx := decS_len x
        have hsx : (strOfNums (decS x)).size ≤ 21 := by rw [strOfNums_size]; omega
        clear hc hx' hjl htl hdx
        by_cases hk0 : k = 0
        · subst hk0
          rw [Nat.add_zero] at cx
          have hnext : strOfNums (preL e ++ joinD (e.ord.take 0)) ++ strOfNums (decS x) = strOfNums (preL e ++ joinD (e.ord.take (0 + 1))) := by
            rw [htk, List.take_zero, joinD_one, str_app]; simp [joinD]
          obtain ⟨S, hS⟩ : ∃ S, S = strOfNums (preL e ++ joinD (e.ord.take 0)) := ⟨_, rfl⟩
          rw [← hS] at hss hnext ⊢
          have HN := Lib.hid hnext
          clear hS hnext htk
          go_wp2_with fail
          --MARK6
          go_at_call 31
          refine (refdec_any _ x hxb).mono ?_
          rintro r w4 ⟨rfl, hb4⟩
          go_wp2
          go_roundw
          case rel => exact ⟨0 + 1, by go_num, by omega, hx.up hb4, hB.trans (hb4.mono hB.size), by rw [HN.out]⟩
          case measure => simp [intOf]; omega
        · have hnext : strOfNums (preL e ++ joinD (e.ord.take k)) ++ ⟨#[44]⟩ ++ strOfNums (decS x) = strOfNums (preL e ++ joinD (e.ord.take (k + 1))) := by
            have hne : e.ord.take k ≠ [] := by intro h; have h2 := congrArg List.length h; rw [List.length_take, List.length_nil, Nat.min_eq_left (by omega)] at h2; omega
            rw [htk, joinD_snoc _ _ hne, ← List.append_assoc, ← List.append_assoc, ← str_app _ (decS x), ← str_app (preL e ++ joinD (e.ord.take k)) [44]]; rfl
          obtain ⟨S, hS⟩ : ∃ S, S = strOfNums (preL e ++ joinD (e.ord.take k)) := ⟨_, rfl⟩
          rw [← hS] at hss hnext ⊢
          have HN := Lib.hid hnext
          clear hS hnext htk
          go_wp2_with fail
          go_at_call 31
          refine (refdec_any _ x hxb).mono ?_
          rintro r w4 ⟨rfl, hb4⟩
          --MARK7
          go_wp2
          go_roundw
          case rel => exact ⟨k + 1, by go_num, by omega, hx.up hb4, hB.trans (hb4.mono hB.size), by rw [HN.out]⟩
          case measure => simp [intOf]; omega
      · have e9 : k = e.ord.length := by omega
        rw [e9, List.take_length] at hss ⊢
        rw [HFIN.out] at hss ⊢
        clear e9 hjl htl
        go_wp2
        go_ret
        exact ⟨rfl, hB⟩

end Go.Proofs.Ytepicdcmcagipaa
