/- What the references' Ints, Same and Cut of entries answer. No condition but the kinds' own bounds. -/
import Derived.Test.YtepicdcmcagipaaEntX
namespace Go.Proofs.Ytepicdcmcagipaa
open Go.RowKit

set_option maxRecDepth 100000 in
set_option maxHeartbeats 1000000 in
theorem ints_any (w : World) (A B : Option Addr) (c d : Nat) (xs ys : List Int) (hA : Rd w A (nums .i64 xs)) (hB : Rd w B (nums .i64 ys)) (hy : ys.length ≤ 1099511627776) :
    Calls Try.prog 27 #[.slice A xs.length c, .slice B ys.length d] w fun e w' => e = .returned (.bool (decide (xs = ys))) ∧ Below w.heap.size w w' := by
  by_cases hl : xs.length = ys.length
  · have b1 : ((xs.length : Int) != (ys.length : Int)) = false := by simp [hl]
    rw [hl] at b1 ⊢
    have HL := Lib.hid hl
    clear hl
    go_enter Try.func27, Try.ntmps27
    go_wp2
    clear b1
    go_loopw [5] (fun i wr => ∃ k : Nat, i = .int .i64 k ∧ k ≤ ys.length ∧ xs.take k = ys.take k ∧ Below w.heap.size w wr) (fun i _ => ys.length - (intOf i).toNat)
    case atStart => exact ⟨0, rfl, by omega, rfl, Below.refl _ _⟩
    case round =>
      obtain ⟨k, rfl, hk, htk, hb⟩ := hrel
      have HT := Lib.hid htk
      clear htk
      by_cases hlt : k < ys.length
      · obtain ⟨g, o, rfl, hg⟩ := hA.get (by rw [nums_length, HL.out]; omega)
        obtain ⟨g2, o2, rfl, hg2⟩ := hB.get (by rw [nums_length]; omega)
        have l1 : g < w.heap.size := World.block_lt_of_cell? (h := hg k _ (nums_at .i64 xs k (by rw [HL.out]; exact hlt)))
        have l2 : g2 < w.heap.size := World.block_lt_of_cell? (h := hg2 k _ (nums_at .i64 ys k hlt))
        have c1 : wr.cell? ⟨g, o + k, none⟩ = some (.int .i64 (ga xs k)) := by
          rw [hb.cell (p := ⟨g, o + k, none⟩) l1]; exact hg k _ (nums_at .i64 xs k (by rw [HL.out]; exact hlt))
        have c2 : wr.cell? ⟨g2, o2 + k, none⟩ = some (.int .i64 (ga ys k)) := by
          rw [hb.cell (p := ⟨g2, o2 + k, none⟩) l2]; exact hg2 k _ (nums_at .i64 ys k hlt)
        have s1 : xs.take (k + 1) = xs.take k ++ [ga xs k] := by
          rw [List.take_add_one, List.getElem?_eq_getElem (by rw [HL.out]; exact hlt)]
          simp [ga, HL.out, hlt]
        have s2 : ys.take (k + 1) = ys.take k ++ [ga ys k] := by
          rw [List.take_add_one, List.getElem?_eq_getElem hlt]
          simp [ga, hlt]
        have S1 := Lib.hid s1
        have S2 := Lib.hid s2
        clear s1 s2 hg hg2
        by_cases he : ga xs k = ga ys k
        · have b1 : (ga xs k != ga ys k) = false := by simp [he]
          have HE := Lib.hid he
          clear he
          go_wp2
          refine wp_region_C (Same [g, g2] wr) [] (by kernel_rfl) (by kernel_rfl) (by intro c a w h; first | (obtain ⟨_, h, _⟩ := h; cases h; done) | (obtain ⟨_, _, h, _⟩ := h; cases h; done) | (obtain ⟨_, _, _, h, _⟩ := h; cases h; done) | (obtain ⟨_, _, _, _, h, _⟩ := h; cases h; done) | (rcases h with ⟨_, ⟨_, _, _, _, h, _⟩ | ⟨_, _, _, _, h, _⟩⟩ <;> cases h; done)) (by intro a w h; first | (obtain ⟨h, _⟩ := h; cases h; done) | (obtain ⟨_, h, _⟩ := h; cases h; done) | (obtain ⟨_, _, h, _⟩ := h; cases h; done) | (obtain ⟨_, _, _, h, _⟩ := h; cases h; done) | (rcases h with ⟨_, _, _, _, h, _⟩ | ⟨_, _, _, _, h, _⟩ <;> cases h; done)) (Same.refl _ _) ?_
          repeat (refine wd_q (v := ?_) rfl rfl rfl rfl rfl rfl (fun w' hw' K hK => ?_) ?_; rotate_left; (have e1 := hw'.cell g (by simp); have e2 := hw'.cell g2 (by simp); go_wp2; exact rfl); simp only [Act.put, List.setIfInBounds_toArray, List.set_cons_zero, List.set_cons_succ])
          refine wd_nil ?_
          go_wp2
          go_roundw
          case rel => exact ⟨k + 1, by go_num, by omega, by rw [S1.out, S2.out, HT.out, HE.out], hb.drew⟩
          case measure => simp [intOf]; omega
        · have b1 : (ga xs k != ga ys k) = true := by simp [he]
          have hne : decide (xs = ys) = false := by
            rw [decide_eq_false_iff_not]
            rintro rfl
            exact he rfl
          have HE := Lib.hid hne
          clear he hne
          go_wp2
          refine wp_region_C (Same [g, g2] wr) [] (by kernel_rfl) (by kernel_rfl) (by intro c a w h; first | (obtain ⟨_, h, _⟩ := h; cases h; done) | (obtain ⟨_, _, h, _⟩ := h; cases h; done) | (obtain ⟨_, _, _, h, _⟩ := h; cases h; done) | (obtain ⟨_, _, _, _, h, _⟩ := h; cases h; done) | (rcases h with ⟨_, ⟨_, _, _, _, h, _⟩ | ⟨_, _, _, _, h, _⟩⟩ <;> cases h; done)) (by intro a w h; first | (obtain ⟨h, _⟩ := h; cases h; done) | (obtain ⟨_, h, _⟩ := h; cases h; done) | (obtain ⟨_, _, h, _⟩ := h; cases h; done) | (obtain ⟨_, _, _, h, _⟩ := h; cases h; done) | (rcases h with ⟨_, _, _, _, h, _⟩ | ⟨_, _, _, _, h, _⟩ <;> cases h; done)) (Same.refl _ _) ?_
          repeat (refine wd_q (v := ?_) rfl rfl rfl rfl rfl rfl (fun w' hw' K hK => ?_) ?_; rotate_left; (have e1 := hw'.cell g (by simp); have e2 := hw'.cell g2 (by simp); go_wp2; exact rfl); simp only [Act.put, List.setIfInBounds_toArray, List.set_cons_zero, List.set_cons_succ])
          refine wd_nil ?_
          go_wp2
          go_ret
          exact ⟨by rw [HE.out]; rfl, hb.drew⟩
      · have e : k = ys.length := by omega
        have hne : decide (xs = ys) = true := by
          have := HT.out
          rw [e, List.take_length, ← HL.out, List.take_length] at this
          simp [this]
        have HE := Lib.hid hne
        clear hne
        go_wp2
        go_ret
        exact ⟨by rw [HE.out]; rfl, hb⟩
  · have b1 : ((xs.length : Int) != (ys.length : Int)) = true := by simp; omega
    have hne : decide (xs = ys) = false := by
      rw [decide_eq_false_iff_not]
      rintro rfl
      exact hl rfl
    go_enter Try.func27, Try.ntmps27
    go_wp2
    go_ret
    exact ⟨by rw [hne]; rfl, Below.refl _ _⟩

/-- A row of cells loaded as one value, behind a guard that is met. -/
theorem st_loadG {P : Program} {ops : Array Oper} {rest : List Oper} {a : Act} {w : World} {Q : Exit → Act → World → Prop} {d' : Option Tmp} {ty tt : TypeId} {x : Operand} {pos : String} {after : Array Edge} {gd : Nat × Bool} {g off n : Nat} {cs : List Value} {T : TypeId} {d : TypeDesc} {r : Array Value}
    (hx : a.eval x = .pointer (some ⟨g, off, none⟩)) (hg : Blk w g cs T) (hu : P.underlying ty = some d) (hd : isRow d = true) (hi : (P.info? ty).map (·.size) = some n) (hle : off + n ≤ cs.length)
    (hr : ((cs.drop off).take n).toArray = r) (hgd : Region.wanted ⟨d', .load ty x, tt, pos, after, some gd⟩ (yielded ops a.tmps) = true) (h : wpList P ops Q rest (a.put d' (.agg r)) w) : wpList P ops Q (⟨d', .load ty x, tt, pos, after, some gd⟩ :: rest) a w :=
  st_un hgd (st_load hx hg hu hd hi hle hr h)
theorem digSize : (Try.prog.info? 23).map (·.size) = some 32 := by kernel_rfl
def pair0 (w : World) (e f : Ent) (A B : Option Addr) (c d : Nat) : World := (w.alloc (.cells (entC e A c).toArray 28)).alloc (.cells (entC f B d).toArray 28)
theorem entC_at0 (e : Ent) (A : Option Addr) (c : Nat) : (entC e A c)[0]? = some (.int .i64 e.job) := rfl
theorem entC_at1 (e : Ent) (A : Option Addr) (c : Nat) : (entC e A c)[1]? = some (.int .i64 e.time) := rfl

set_option maxRecDepth 100000 in
set_option maxHeartbeats 8000000 in
theorem same20_any (w : World) (e f : Ent) (he : EntB e) (hf : EntB f) (A B : Option Addr) (c d : Nat) (ho : Nts w A c e.ord) (hp : Nts w B d f.ord) (hl : f.ord.length ≤ 1000) :
    Calls Try.prog 14 #[.agg (entC e A c).toArray, .agg (entC f B d).toArray] w fun r w' => r = .returned (.bool (decide (e = f))) ∧ Below w.heap.size w w' := by
  have HE := Lib.hid he
  have HF := Lib.hid hf
  have HO := Lib.hid ho
  have HP := Lib.hid hp
  have hx0 : Blk ((w.alloc (.cells (entC e A c).toArray 28)).alloc (.cells (entC f B d).toArray 28)) w.heap.size (entC e A c) 28 := (Blk.new' _ _ _ _ _ rfl rfl).alloc _
  have hy0 : Blk ((w.alloc (.cells (entC e A c).toArray 28)).alloc (.cells (entC f B d).toArray 28)) (w.heap.size + 1) (entC f B d) 28 := Blk.new' _ _ _ _ _ rfl (by simp)
  have hB0 : Below w.heap.size w ((w.alloc (.cells (entC e A c).toArray 28)).alloc (.cells (entC f B d).toArray 28)) := ((Below.refl _ _).alloc (Nat.le_refl _) _).alloc (by simp) _
  have x0 := (hx0.cell 0).trans (entC_at0 e A c)
  have x1 := (hx0.cell 1).trans (entC_at1 e A c)
  have x66 := (hx0.cell 66).trans (entC_at he A c 0)
  have x67 := (hx0.cell 67).trans (entC_at he A c 1)
  have x68 := (hx0.cell 68).trans (entC_at he A c 2)
  have y0 := (hy0.cell 0).trans (entC_at0 f B d)
  have y1 := (hy0.cell 1).trans (entC_at1 f B d)
  have y66 := (hy0.cell 66).trans (entC_at hf B d 0)
  have y67 := (hy0.cell 67).trans (entC_at hf B d 1)
  have y68 := (hy0.cell 68).trans (entC_at hf B d 2)
  simp only [verC, List.getElem?_cons_zero, List.getElem?_cons_succ] at x66 x67 x68 y66 y67 y68
  have eqh := fun w => run_eql_nums (P := Try.prog) (t := 23) Try.underlying23 Try.underlying5 (by kernel_rfl) (by kernel_rfl) e.h f.h he.h hf.h w
  have eqs := fun w => run_eql_nums (P := Try.prog) (t := 23) Try.underlying23 Try.underlying5 (by kernel_rfl) (by kernel_rfl) e.s f.s he.s hf.s w
  clear he hf ho hp
  by_cases h0 : e.job = f.job
  · have b0 : (e.job == f.job) = true := by rw [h0]; simp
    by_cases h1 : e.time = f.time
    · have b1 : (e.time == f.time) = true := by rw [h1]; simp
      by_cases h2 : e.h = f.h
      · rw [decide_eq_true h2] at eqh
        by_cases h3 : e.s = f.s
        · rw [decide_eq_true h3] at eqs
          by_cases h4 : e.kind = f.kind
          · have b4 : (e.kind == f.kind) = true := by rw [h4]; simp
            by_cases h5 : e.tries = f.tries
            · have b5 : (e.tries == f.tries) = true := by rw [h5]; simp
              have hres : decide (e = f) = decide (e.ord = f.ord) := by
                rw [decide_eq_decide]
                constructor
                · rintro rfl; rfl
                · intro h; cases e; cases f; simp only [Ent.mk.injEq] at *; exact ⟨h0, h1, h2, h3, h4, h, h5⟩
              rw [hres]
              clear hres h0 h1 h2 h3 h4 h5
              go_enter Try.func14, Try.ntmps14
              go_upto_region 1 with (fail)
              refine named_world ?_
              intro w0 hw0
              rw [← hw0] at hx0 hy0 hB0 x0 x1 x66 x67 x68 y0 y1 y66 y67 y68
              clear hw0
              have tok19 : True := trivial
              have tok21 : True := trivial
              have tok26 : True := trivial
              have tok28 : True := trivial
              go_wp2_with (first | (have _t := tok19; (with_reducible apply st_loadG (d' := some 19) (ty := 23) (n := 32) (cs := entC e A c) (T := 28)); rfl; exact hx0; exact Try.underlying23; rfl; exact digSize; (rw [entC_len HE.out]; decide); exact entC_h HE.out _ _; rfl; clear tok19) | (have _t := tok21; (with_reducible apply st_loadG (d' := some 21) (ty := 23) (n := 32) (cs := entC f B d) (T := 28)); rfl; exact hy0; exact Try.underlying23; rfl; exact digSize; (rw [entC_len HF.out]; decide); exact entC_h HF.out _ _; rfl; clear tok21) | (have _t := tok26; (with_reducible apply st_loadG (d' := some 26) (ty := 23) (n := 32) (cs := entC e A c) (T := 28)); rfl; exact hx0; exact Try.underlying23; rfl; exact digSize; (rw [entC_len HE.out]; decide); exact entC_s HE.out _ _; rfl; clear tok26) | (have _t := tok28; (with_reducible apply st_loadG (d' := some 28) (ty := 23) (n := 32) (cs := entC f B d) (T := 28)); rfl; exact hy0; exact Try.underlying23; rfl; exact digSize; (rw [entC_len HF.out]; decide); exact entC_s HF.out _ _; rfl; clear tok28))
              go_at_call 27
              refine (ints_any _ A B c d e.ord f.ord (HO.out.up hB0).rd (HP.out.up hB0).rd (by omega)).mono ?_
              rintro r w2 ⟨rfl, hb2⟩
              go_wp2_with fail
              go_ret
              exact ⟨rfl, hB0.trans (hb2.mono hB0.size)⟩
            · have hres : decide (e = f) = false := decide_eq_false fun h => h5 (by rw [h])
              rw [hres]
              have b5 : (e.tries == f.tries) = false := by simpa using h5
              clear hres h5 h0 h1 h2 h3 h4
              go_enter Try.func14, Try.ntmps14
              go_upto_region 1 with (fail)
              refine named_world ?_
              intro w0 hw0
              rw [← hw0] at hx0 hy0 hB0 x0 x1 x66 x67 x68 y0 y1 y66 y67 y68
              clear hw0
              have tok19 : True := trivial
              have tok21 : True := trivial
              have tok26 : True := trivial
              have tok28 : True := trivial
              go_wp2_with (first | (have _t := tok19; (with_reducible apply st_loadG (d' := some 19) (ty := 23) (n := 32) (cs := entC e A c) (T := 28)); rfl; exact hx0; exact Try.underlying23; rfl; exact digSize; (rw [entC_len HE.out]; decide); exact entC_h HE.out _ _; rfl; clear tok19) | (have _t := tok21; (with_reducible apply st_loadG (d' := some 21) (ty := 23) (n := 32) (cs := entC f B d) (T := 28)); rfl; exact hy0; exact Try.underlying23; rfl; exact digSize; (rw [entC_len HF.out]; decide); exact entC_h HF.out _ _; rfl; clear tok21) | (have _t := tok26; (with_reducible apply st_loadG (d' := some 26) (ty := 23) (n := 32) (cs := entC e A c) (T := 28)); rfl; exact hx0; exact Try.underlying23; rfl; exact digSize; (rw [entC_len HE.out]; decide); exact entC_s HE.out _ _; rfl; clear tok26) | (have _t := tok28; (with_reducible apply st_loadG (d' := some 28) (ty := 23) (n := 32) (cs := entC f B d) (T := 28)); rfl; exact hy0; exact Try.underlying23; rfl; exact digSize; (rw [entC_len HF.out]; decide); exact entC_s HF.out _ _; rfl; clear tok28))
              go_ret
              exact ⟨rfl, hB0⟩
          · have hres : decide (e = f) = false := decide_eq_false fun h => h4 (by rw [h])
            rw [hres]
            have b4 : (e.kind == f.kind) = false := by simpa using h4
            clear hres h4 h0 h1 h2 h3
            go_enter Try.func14, Try.ntmps14
            go_upto_region 1 with (fail)
            refine named_world ?_
            intro w0 hw0
            rw [← hw0] at hx0 hy0 hB0 x0 x1 x66 x67 x68 y0 y1 y66 y67 y68
            clear hw0
            have tok19 : True := trivial
            have tok21 : True := trivial
            have tok26 : True := trivial
            have tok28 : True := trivial
            go_wp2_with (first | (have _t := tok19; (with_reducible apply st_loadG (d' := some 19) (ty := 23) (n := 32) (cs := entC e A c) (T := 28)); rfl; exact hx0; exact Try.underlying23; rfl; exact digSize; (rw [entC_len HE.out]; decide); exact entC_h HE.out _ _; rfl; clear tok19) | (have _t := tok21; (with_reducible apply st_loadG (d' := some 21) (ty := 23) (n := 32) (cs := entC f B d) (T := 28)); rfl; exact hy0; exact Try.underlying23; rfl; exact digSize; (rw [entC_len HF.out]; decide); exact entC_h HF.out _ _; rfl; clear tok21) | (have _t := tok26; (with_reducible apply st_loadG (d' := some 26) (ty := 23) (n := 32) (cs := entC e A c) (T := 28)); rfl; exact hx0; exact Try.underlying23; rfl; exact digSize; (rw [entC_len HE.out]; decide); exact entC_s HE.out _ _; rfl; clear tok26) | (have _t := tok28; (with_reducible apply st_loadG (d' := some 28) (ty := 23) (n := 32) (cs := entC f B d) (T := 28)); rfl; exact hy0; exact Try.underlying23; rfl; exact digSize; (rw [entC_len HF.out]; decide); exact entC_s HF.out _ _; rfl; clear tok28))
            go_ret
            exact ⟨rfl, hB0⟩
        · have hres : decide (e = f) = false := decide_eq_false fun h => h3 (by rw [h])
          rw [hres]
          rw [decide_eq_false h3] at eqs
          clear hres h3 h0 h1 h2
          go_enter Try.func14, Try.ntmps14
          go_upto_region 1 with (fail)
          refine named_world ?_
          intro w0 hw0
          rw [← hw0] at hx0 hy0 hB0 x0 x1 x66 x67 x68 y0 y1 y66 y67 y68
          clear hw0
          have tok19 : True := trivial
          have tok21 : True := trivial
          have tok26 : True := trivial
          have tok28 : True := trivial
          go_wp2_with (first | (have _t := tok19; (with_reducible apply st_loadG (d' := some 19) (ty := 23) (n := 32) (cs := entC e A c) (T := 28)); rfl; exact hx0; exact Try.underlying23; rfl; exact digSize; (rw [entC_len HE.out]; decide); exact entC_h HE.out _ _; rfl; clear tok19) | (have _t := tok21; (with_reducible apply st_loadG (d' := some 21) (ty := 23) (n := 32) (cs := entC f B d) (T := 28)); rfl; exact hy0; exact Try.underlying23; rfl; exact digSize; (rw [entC_len HF.out]; decide); exact entC_h HF.out _ _; rfl; clear tok21) | (have _t := tok26; (with_reducible apply st_loadG (d' := some 26) (ty := 23) (n := 32) (cs := entC e A c) (T := 28)); rfl; exact hx0; exact Try.underlying23; rfl; exact digSize; (rw [entC_len HE.out]; decide); exact entC_s HE.out _ _; rfl; clear tok26) | (have _t := tok28; (with_reducible apply st_loadG (d' := some 28) (ty := 23) (n := 32) (cs := entC f B d) (T := 28)); rfl; exact hy0; exact Try.underlying23; rfl; exact digSize; (rw [entC_len HF.out]; decide); exact entC_s HF.out _ _; rfl; clear tok28))
          go_ret
          exact ⟨rfl, hB0⟩
      · have hres : decide (e = f) = false := decide_eq_false fun h => h2 (by rw [h])
        rw [hres]
        rw [decide_eq_false h2] at eqh
        clear hres h2 h0 h1
        go_enter Try.func14, Try.ntmps14
        go_upto_region 1 with (fail)
        refine named_world ?_
        intro w0 hw0
        rw [← hw0] at hx0 hy0 hB0 x0 x1 x66 x67 x68 y0 y1 y66 y67 y68
        clear hw0
        have tok19 : True := trivial
        have tok21 : True := trivial
        have tok26 : True := trivial
        have tok28 : True := trivial
        go_wp2_with (first | (have _t := tok19; (with_reducible apply st_loadG (d' := some 19) (ty := 23) (n := 32) (cs := entC e A c) (T := 28)); rfl; exact hx0; exact Try.underlying23; rfl; exact digSize; (rw [entC_len HE.out]; decide); exact entC_h HE.out _ _; rfl; clear tok19) | (have _t := tok21; (with_reducible apply st_loadG (d' := some 21) (ty := 23) (n := 32) (cs := entC f B d) (T := 28)); rfl; exact hy0; exact Try.underlying23; rfl; exact digSize; (rw [entC_len HF.out]; decide); exact entC_h HF.out _ _; rfl; clear tok21))
        go_ret
        exact ⟨rfl, hB0⟩
    · have hres : decide (e = f) = false := decide_eq_false fun h => h1 (by rw [h])
      rw [hres]
      have b1 : (e.time == f.time) = false := by simpa using h1
      clear hres h1 h0
      go_enter Try.func14, Try.ntmps14
      go_upto_region 1 with (fail)
      refine named_world ?_
      intro w0 hw0
      rw [← hw0] at hx0 hy0 hB0 x0 x1 x66 x67 x68 y0 y1 y66 y67 y68
      clear hw0
      have tok19 : True := trivial
      have tok21 : True := trivial
      have tok26 : True := trivial
      have tok28 : True := trivial
      go_wp2_with fail
      go_ret
      exact ⟨rfl, hB0⟩
  · have hres : decide (e = f) = false := decide_eq_false fun h => h0 (by rw [h])
    rw [hres]
    have b0 : (e.job == f.job) = false := by simpa using h0
    clear hres h0 
    go_enter Try.func14, Try.ntmps14
    go_upto_region 1 with (fail)
    refine named_world ?_
    intro w0 hw0
    rw [← hw0] at hx0 hy0 hB0 x0 x1 x66 x67 x68 y0 y1 y66 y67 y68
    clear hw0
    have tok19 : True := trivial
    have tok21 : True := trivial
    have tok26 : True := trivial
    have tok28 : True := trivial
    go_wp2_with fail
    go_ret
    exact ⟨rfl, hB0⟩

end Go.Proofs.Ytepicdcmcagipaa
