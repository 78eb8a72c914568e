/- What text.Dec answers. No condition but the kind's own bounds. -/
import Derived.Test.YtmfccnkjnkmgiaaDoorGg
import Derived.Test.YtmfccnkjnkmgiaaDoorPureText
import Derived.RegionTactic
namespace Go.Proofs.YtmfccnkjnkmgiaaDoor
open Go.RowKit Go.Proofs.YtmfccnkjnkmgiaaDoor.Pure

section
variable {P : Program} {ops : Array Oper} {C : World → Prop} {Q : Exit → Act → World → Prop} {E F : List Nat} {k : Nat} {rest : List Oper} {a : Act} {w : World} {o : Oper} {v : Value}
theorem wd_quietF (hE : E.contains k = false) (hg : Region.wanted o (yielded ops a.tmps) = true)
    (hv : ∀ w, (execOp a.eval o).run P w = .ok (.value v) w) (h : WD P ops C Q E F (k + 1) rest (a.put o.dst v) w) : WD P ops C Q E F k (o :: rest) a w := by
  simp only [WD]
  rw [if_neg (by rw [hE]; exact Bool.false_ne_true)]
  exact ⟨v, .inl ⟨hg, fun w _ => hv w⟩, h⟩
/-- A quiet operation that yields alike in every world, run as the walk runs it. -/
theorem wd_wf {d : Nat} (hE : E.contains k = false) (hg : o.guard = none) (hq : valueOp o.op = true) (hd : o.dst = some d) (hl0 : Nat.blt d a.tmps.size = true)
    (hv : ∀ w', ∀ K : Act → World → Prop, (∀ a', a' = a.put (some d) v → K a' w') → wpList P #[] (Exit.then K (fun _ _ _ => False)) [o] a w')
    (h : WD P ops C Q E F (k + 1) rest (a.put (some d) v) w) : WD P ops C Q E F k (o :: rest) a w := by
  have hl : d < a.tmps.size := Nat.le_of_ble_eq_true hl0
  refine wd_quietF hE (by simp [Region.wanted, hg]) (fun w' => ?_) (by rw [hd]; exact h)
  have h1 := hv w' (fun a' w'' => a' = a.put (some d) v ∧ w'' = w') (fun a' e => ⟨e, rfl⟩)
  unfold wpList at h1
  rw [if_pos (by simp [Region.wanted, hg])] at h1
  rcases h1 with h1 | ⟨_, a', w'', hl⟩
  · unfold Oper.wp at h1
    have hk := fun n w'' => valueOp_run (P := P) (a := a) (w := w') hq (n := n) (w' := w'')
    generalize (execOp a.eval o).run P w' = r at h1 hk ⊢
    cases r with
    | ok n w'' =>
      obtain ⟨u, rfl⟩ := hk n w'' rfl
      simp only [Oper.upon, wpList, Exit.then] at h1
      obtain ⟨h1, rfl⟩ := h1
      have h2 : (a.put o.dst u).tmps[d]? = (a.put (some d) v).tmps[d]? := by rw [h1]
      rw [hd] at h2
      simp [Act.put, hl] at h2
      rw [h2]
    | halt z w'' => cases z <;> simp only [Oper.upon, Exit.then] at h1
  · exact hl.elim
end

theorem wrapNeg (n : Int) (h : n < 0) (hl : -9223372036854775808 ≤ n) : IntKind.u64.wrap (-(IntKind.u64.wrap n)) = (n.natAbs : Int) := by rw [wu, wu]; omega
theorem wrapPos (n : Int) (h : 0 ≤ n) (hl : n ≤ 9223372036854775807) : IntKind.u64.wrap n = (n.natAbs : Int) := by rw [wu]; omega

/-- The row in which own bytes lie. -/
theorem Own.slot {w : World} {base : Nat} {v : Value} {X : List Int} (h : Own w base v X) (hp : 0 < X.length) : ∃ g cap tail, v = .slice (some ⟨g, 0, none⟩) X.length cap ∧ base ≤ g ∧ Blk w g (nums .u8 X ++ tail) 5 ∧ X.length ≤ cap := by
  obtain ⟨hl, h | ⟨g, cap, cur, hv, hg, hh, hn, hm, hsz, ht⟩⟩ := h
  · omega
  · refine ⟨g, cap, cur.toList.drop X.length, hv, hg, ?_, hn⟩
    unfold Blk
    rw [hh]
    congr 2
    apply Array.ext'
    simp only [Nat.mul_one] at ht
    rw [← ht, List.toList_toArray]
    exact (List.take_append_drop _ _).symm
theorem cells_set {X : List Int} {tail : List Value} (k : Nat) (x : Int) (h : k < X.length) : (nums .u8 X ++ tail).set k (.int .u8 x) = nums .u8 (X.set k x) ++ tail := by
  rw [List.set_append_left _ _ (by rw [nums_length]; exact h), nums_set]
theorem cells_at {X : List Int} {tail : List Value} (k : Nat) (h : k < X.length) : (nums .u8 X ++ tail)[k]? = some (.int .u8 (ga X k)) := by
  rw [List.getElem?_append_left (by rw [nums_length]; exact h), nums_at _ _ _ h, ga_eq]
theorem mid_at (A M C : List Int) (x : Int) : ga (A ++ x :: M ++ C) A.length = x := by simp [ga]
theorem mid_set (A M C : List Int) (x y : Int) : (A ++ x :: M ++ C).set A.length y = A ++ y :: M ++ C := by simp

/-- string(x) of bytes that lie in memory. -/
theorem st_strAt {P : Program} {ops : Array Oper} {Q : Exit → Act → World → Prop} {rest : List Oper} {a : Act} {w : World} {d' : Option Tmp} {tt src dst e : TypeId} {x : Operand} {pos : String} {after : Array Edge} {g off n c : Nat} {bs : List Int}
    (hs : P.underlying src = some (.slice e)) (he : P.underlying e = some (.int .u8)) (hd : P.underlying dst = some .string) (hx : a.eval x = .slice (some ⟨g, off, none⟩) n c) (hl : bs.length = n) (hc : ∀ i, i < bs.length → w.cell? ⟨g, off + i, none⟩ = some (.int .u8 (ga bs i)))
    (h : wpList P ops Q rest (a.put d' (.string (strOfNums bs))) w) :
    wpList P ops Q (⟨d', .convert src dst x, tt, pos, after, none⟩ :: rest) a w :=
  wpList_plain rfl fun K hK => by
    have hrun := run_convert_bytes_arg (P := P) w src e hs he g off n c bs hl (fun i hi => hc i (by omega)) dst hd
    unfold Oper.wp execOp
    simp only [Sem.run_bind, hx, hrun]
    exact hK _ _ h
theorem below_set_from {B : Nat} {w w' : World} (h : Below B w w') {p : Addr} (v : Value) (hp : B ≤ p.block) : Below B w (w'.setCell p v) :=
  ⟨h.os, h.tape, h.output, by simpa using h.size, fun k hk => (heap_setCell_other w' p k v (by omega)).trans (h.block k hk)⟩

/-- Bytes turned about in place, one step more. -/
theorem rev_step (A M C X : List Int) (m z : Int) (h : A ++ (m :: (M ++ [z])).reverse ++ C = X.reverse) : (A ++ [z]) ++ M.reverse ++ (m :: C) = X.reverse := by
  rw [← h]; simp

set_option maxHeartbeats 4000000 in
theorem dec_any (w : World) (n : Int) (h1 : -9223372036854775808 ≤ n) (h2 : n ≤ 9223372036854775807) :
    Calls Tryd.prog 34 #[.int .i64 n] w fun e w' => e = .returned (.string (strOfNums (decS n))) ∧ Below w.heap.size w w' := by
  by_cases h0 : n = 0
  · subst h0
    go_enter Tryd.func34, Tryd.ntmps34
    go_wp2
    go_ret
    exact ⟨rfl, Below.refl _ _⟩
  · have hdec : decS n = (if n < 0 then [45] else []) ++ (revDigs 20 n.natAbs).reverse := by unfold decS; rw [if_neg h0]
    obtain ⟨N, hN⟩ : ∃ N, N = n.natAbs := ⟨_, rfl⟩
    rw [← hN] at hdec
    have hnz : revDigs 20 N ≠ [] := by
      show (if N = 0 then [] else (48 + ((N % 10 : Nat) : Int)) :: revDigs 19 (N / 10)) ≠ []
      rw [if_neg (by omega)]; simp
    have HNZ := Lib.hid hnz
    have HDEC := Lib.hid hdec
    clear hnz hdec
    by_cases hneg : n < 0
    · have hw1 := wrapNeg n hneg h1
      rw [← hN] at hw1
      have hX : Hid (decS n = ((revDigs 20 N) ++ [45]).reverse) := by show decS n = _; rw [HDEC.out, if_pos hneg, List.reverse_append]; rfl
      have hN2 : N ≤ 9223372036854775808 := by omega
      have HN0 := Lib.hid (show N < 10 ^ 20 by omega)
      have hn0 : (n == 0) = false := by simp; omega
      go_enter Tryd.func34, Tryd.ntmps34
      go_wp2_with fail
      have hG0 : Grows w [] (.slice (some ⟨w.heap.size, 0, none⟩) 0 0) (w.alloc (.cells #[] 5)) := ⟨(Below.refl _ _).alloc (Nat.le_refl _) _, Own.ofBlk (Blk.new' _ _ [] _ _ rfl rfl) (Nat.le_refl _) (by decide)⟩
      go_loopw [3, 4] (fun vu vb wr => ∃ (m f : Nat) (done : List Int), vu = .int .u64 m ∧ done.length + f = 20 ∧ m ≤ 9223372036854775808 ∧ Hid (m < 10 ^ f) ∧ Hid (revDigs 20 N = done ++ revDigs f m) ∧ Grows w done vb wr) (fun vu _ _ => (intOf vu).toNat)
      case atStart => exact ⟨N, 20, [], by first | rw [hN] | rfl, rfl, hN2, HN0.out, rfl, hG0⟩
      case round =>
        clear hG0
        obtain ⟨m, f, done, rfl, hf, hm, HM, HE, hG⟩ := hrel
        by_cases hm0 : m = 0
        · subst hm0
          have hdd : revDigs 20 N = done := by have := HE.out; rwa [revDigs_zero, List.append_nil] at this
          have hdp : 0 < done.length := by
            rw [← hdd]; exact List.length_pos_iff.2 HNZ.out
          rw [hdd] at hX
          clear hdd
          obtain ⟨X, hXX⟩ : ∃ X, X = done ++ [45] := ⟨_, rfl⟩
          have hpl : 0 < X.length := by rw [hXX]; simp
          have hxl : X.length ≤ 21 := by rw [hXX, List.length_append, List.length_singleton]; omega
          rw [← hXX] at hX
          have HXX := Lib.hid hXX
          clear hXX
          go_wp2_with ((with_reducible apply st_grow (w0 := w) (xs := done) (ys := [45])); rfl; rfl; exact hG.alloc _; (intro h; cases h); exact Rd.ofBlk (Blk.new' _ _ _ 5 _ rfl rfl); (simp; omega); intro v2 w2 hG2; rw [← HXX.out] at hG2; obtain ⟨g, cap, tail, rfl, hg, hbk, hcap⟩ := Own.slot hG2.2 hpl; have hB := hG2.1)
          obtain ⟨t0, ht0⟩ : ∃ t0, X.length = t0 + 1 := ⟨X.length - 1, by omega⟩
          have hgwr := hbk.lt
          have hnd : decide (n < 0) = true := by exact decide_eq_true hneg
          have HT0 := Lib.hid ht0
          clear HE HM ht0
          try clear hG
          go_wp2_with fail
          go_loopw [5, 6] (fun vi vj wr => ∃ (A M C : List Int) (t : Nat), vi = .int .i64 A.length ∧ vj = .int .i64 t ∧ t + 1 = A.length + M.length ∧ A.length = C.length ∧ A.length + M.length + C.length = X.length ∧ Hid (A ++ M.reverse ++ C = X.reverse) ∧ Below w.heap.size w wr ∧ Blk wr g (nums .u8 (A ++ M ++ C) ++ tail) 5) (fun vi vj _ => (intOf vj - intOf vi).toNat)
          case atStart => exact ⟨[], X, [], t0, rfl, by (have := HT0.out; congr 1; omega), by (have := HT0.out; simp; omega), rfl, by simp, (show [] ++ X.reverse ++ [] = X.reverse by simp), hB, by simpa using hbk⟩
          case round =>
            clear hbk hB
            obtain ⟨A, M, C, t, rfl, rfl, htm, hac, hsum, HR, hB, hbk⟩ := hrel
            by_cases hlt : A.length < t
            · obtain ⟨m, M1, rfl⟩ : ∃ m M1, M = m :: M1 := by
                cases M with
                | nil => simp at htm; omega
                | cons m M1 => exact ⟨m, M1, rfl⟩
              obtain ⟨M2, z, rfl⟩ : ∃ M2 z, M1 = M2 ++ [z] := ⟨M1.dropLast, M1.getLast (by intro e; rw [e] at htm; simp at htm; omega), (List.dropLast_concat_getLast _).symm⟩
              have hrs := rev_step A M2 C X m z HR.out
              simp only [List.length_cons, List.length_append, List.length_nil] at htm hsum
              obtain ⟨p, hp⟩ : ∃ p, p = A.length := ⟨_, rfl⟩
              obtain ⟨Y, hY⟩ : ∃ Y, Y = A ++ m :: (M2 ++ [z]) ++ C := ⟨_, rfl⟩
              have y1 : ga Y p = m := by rw [hY, hp]; exact mid_at A (M2 ++ [z]) C m
              have hYe : Y = (A ++ m :: M2) ++ z :: [] ++ C := by rw [hY]; simp
              have htl : t = (A ++ m :: M2).length := by simp; omega
              have y2 : ga Y t = z := by rw [hYe, htl]; exact mid_at _ [] C z
              have hYl : Y.length = X.length := by rw [hY]; simp; omega
              have y3 : (Y.set p z).set t m = (A ++ [z]) ++ M2 ++ (m :: C) := by
                have e1 : Y.set p z = (A ++ z :: M2) ++ z :: [] ++ C := by rw [hY, hp, mid_set]; simp
                have e2 : t = (A ++ z :: M2).length := by simp; omega
                rw [e1, e2, mid_set]; simp
              have hA1 : (A ++ [z]).length = p + 1 := by simp [hp]
              have hC1 : (m :: C).length = C.length + 1 := rfl
              rw [← hY] at hbk
              rw [← hp]
              have hlt' : p < t := by omega
              have hpY : p < Y.length := by omega
              have htY : t < Y.length := by omega
              have c1 : wr.cell? ⟨g, p, none⟩ = some (.int .u8 m) := by rw [hbk.cell, cells_at p hpY, y1]
              have c2 : wr.cell? ⟨g, t, none⟩ = some (.int .u8 z) := by rw [hbk.cell, cells_at t htY, y2]
              have hb2 := hbk.set p (.int .u8 z)
              rw [cells_set p z hpY] at hb2
              have hb3 := hb2.set t (.int .u8 m)
              rw [cells_set t m (by simpa using htY), y3] at hb3
              have HB3 := Lib.hid hb3
              have HB2 := Lib.hid hb2
              have HRS := Lib.hid hrs
              have HPE := Lib.hid hp
              have HA1 := Lib.hid hA1
              have ff := hbk.frozen p
              have ff2 := hb2.frozen t
              have c3 : (wr.setCell ⟨g, p, none⟩ (.int .u8 z)).cell? ⟨g, t, none⟩ = some (.int .u8 z) := by
                rw [World.cell?_setCell_other (h := fun e => by injection e with _ e2; omega)]; exact c2
              have hm2 : M2.length + p + 1 = t := by omega
              have hac2 : p = C.length := by omega
              have HAC := Lib.hid hac2
              have HM2 := Lib.hid hm2
              have HSUM := Lib.hid hsum
              clear hrs hp y1 y2 y3 hYe htl hY hb2 hb3 hA1 htm hac HR hlt hac2 hm2 hsum hC1
              go_wp2_with fail
              go_region
              go_wp2_with fail
              go_roundw
              case rel => exact ⟨A ++ [z], M2, m :: C, t - 1, by rw [HA1.out]; go_num, by congr 1; omega, by have := HM2.out; rw [HA1.out]; omega, by have := HAC.out; rw [HA1.out, List.length_cons]; omega, by have := HSUM.out; have := HPE.out; rw [HA1.out, List.length_cons]; omega, HRS.out, (below_set_from (below_set_from hB (p := ⟨g, p, none⟩) _ hg) (p := ⟨g, t, none⟩) _ hg).drew, HB3.out.drew⟩
              case measure => simp [intOf]; omega
            · have hmr : M.reverse = M := by
                match M, htm with
                | [], _ => rfl
                | [_], _ => rfl
                | _ :: _ :: _, htm => simp at htm; omega
              have hXr := HR.out
              rw [hmr] at hXr
              rw [hXr] at hbk
              have hrl : X.reverse.length = X.length := List.length_reverse
              obtain ⟨R, hR⟩ : ∃ R, R = X.reverse := ⟨_, rfl⟩
              rw [← hR] at hbk hrl hX
              have HRL := Lib.hid hrl
              have hcl : ∀ i, i < R.length → wr.cell? ⟨g, 0 + i, none⟩ = some (.int .u8 (ga R i)) := fun i hi => by rw [Nat.zero_add, hbk.cell, cells_at i hi]
              have HCL := Lib.hid hcl
              clear hmr hXr hR hcl hrl HR hac htm hsum
              go_wp2_with (apply st_strAt (bs := R); exact Tryd.underlying22; exact Tryd.underlying5; exact Tryd.underlying9; rfl; exact HRL.out; exact HCL.out)
              go_ret
              exact ⟨by rw [hX.out]; rfl, hB⟩
        · obtain ⟨f, rfl⟩ : ∃ f', f = f' + 1 := ⟨f - 1, by
            have := HM.out
            cases f with
            | zero => simp at this; omega
            | succ f => omega⟩
          have hstep : revDigs 20 N = (done ++ [48 + (m : Int) % 10]) ++ revDigs f (m / 10) := by
            rw [HE.out]; simp only [revDigs, if_neg hm0]; simp
          have hm10 : m / 10 < 10 ^ f := by
            have := HM.out
            rw [Nat.pow_succ] at this; omega
          have HSTEP := Lib.hid hstep
          have HM10 := Lib.hid hm10
          clear hstep hm10
          go_wp2_with ((with_reducible apply st_grow (w0 := w) (xs := done) (ys := [48 + (m : Int) % 10])); rfl; rfl; exact hG.alloc _; (intro h; cases h); exact Rd.ofBlk (Blk.new' _ _ _ 5 _ rfl rfl); (simp; omega); intro v2 w2 hG2)
          go_roundw
          case rel => exact ⟨m / 10, f, done ++ [48 + (m : Int) % 10], by first | rfl | simp, by simp; omega, by omega, HM10.out, HSTEP.out, hG2⟩
          case measure => simp [intOf]; omega
    · have hw1 := wrapPos n (by omega) h2
      rw [← hN] at hw1
      have hX : Hid (decS n = (revDigs 20 N).reverse) := by show decS n = _; rw [HDEC.out, if_neg hneg]; rfl
      have hN2 : N ≤ 9223372036854775808 := by omega
      have HN0 := Lib.hid (show N < 10 ^ 20 by omega)
      have hn0 : (n == 0) = false := by simp; omega
      go_enter Tryd.func34, Tryd.ntmps34
      go_wp2_with fail
      have hG0 : Grows w [] (.slice (some ⟨w.heap.size, 0, none⟩) 0 0) (w.alloc (.cells #[] 5)) := ⟨(Below.refl _ _).alloc (Nat.le_refl _) _, Own.ofBlk (Blk.new' _ _ [] _ _ rfl rfl) (Nat.le_refl _) (by decide)⟩
      go_loopw [3, 4] (fun vu vb wr => ∃ (m f : Nat) (done : List Int), vu = .int .u64 m ∧ done.length + f = 20 ∧ m ≤ 9223372036854775808 ∧ Hid (m < 10 ^ f) ∧ Hid (revDigs 20 N = done ++ revDigs f m) ∧ Grows w done vb wr) (fun vu _ _ => (intOf vu).toNat)
      case atStart => exact ⟨N, 20, [], by first | rw [hN] | rfl, rfl, hN2, HN0.out, rfl, hG0⟩
      case round =>
        clear hG0
        obtain ⟨m, f, done, rfl, hf, hm, HM, HE, hG⟩ := hrel
        by_cases hm0 : m = 0
        · subst hm0
          have hdd : revDigs 20 N = done := by have := HE.out; rwa [revDigs_zero, List.append_nil] at this
          have hdp : 0 < done.length := by
            rw [← hdd]; exact List.length_pos_iff.2 HNZ.out
          rw [hdd] at hX
          clear hdd
          obtain ⟨g, cap, tail, rfl, hg, hbk, hcap⟩ := Own.slot hG.2 hdp
          have hB := hG.1
          obtain ⟨X, hXX⟩ : ∃ X, X = done := ⟨_, rfl⟩
          rw [← hXX] at hbk hX hcap ⊢
          have hpl : 0 < X.length := by rw [hXX]; exact hdp
          have hxl : X.length ≤ 21 := by rw [hXX]; omega
          obtain ⟨t0, ht0⟩ : ∃ t0, X.length = t0 + 1 := ⟨X.length - 1, by omega⟩
          have HXX := Lib.hid hXX
          clear hXX
          have hgwr := hbk.lt
          have hnd : decide (n < 0) = false := by exact decide_eq_false (by omega)
          have HT0 := Lib.hid ht0
          clear HE HM ht0
          try clear hG
          go_wp2_with fail
          go_loopw [5, 6] (fun vi vj wr => ∃ (A M C : List Int) (t : Nat), vi = .int .i64 A.length ∧ vj = .int .i64 t ∧ t + 1 = A.length + M.length ∧ A.length = C.length ∧ A.length + M.length + C.length = X.length ∧ Hid (A ++ M.reverse ++ C = X.reverse) ∧ Below w.heap.size w wr ∧ Blk wr g (nums .u8 (A ++ M ++ C) ++ tail) 5) (fun vi vj _ => (intOf vj - intOf vi).toNat)
          case atStart => exact ⟨[], X, [], t0, rfl, by (have := HT0.out; congr 1; omega), by (have := HT0.out; simp; omega), rfl, by simp, (show [] ++ X.reverse ++ [] = X.reverse by simp), hB, by simpa using hbk⟩
          case round =>
            clear hbk hB
            obtain ⟨A, M, C, t, rfl, rfl, htm, hac, hsum, HR, hB, hbk⟩ := hrel
            by_cases hlt : A.length < t
            · obtain ⟨m, M1, rfl⟩ : ∃ m M1, M = m :: M1 := by
                cases M with
                | nil => simp at htm; omega
                | cons m M1 => exact ⟨m, M1, rfl⟩
              obtain ⟨M2, z, rfl⟩ : ∃ M2 z, M1 = M2 ++ [z] := ⟨M1.dropLast, M1.getLast (by intro e; rw [e] at htm; simp at htm; omega), (List.dropLast_concat_getLast _).symm⟩
              have hrs := rev_step A M2 C X m z HR.out
              simp only [List.length_cons, List.length_append, List.length_nil] at htm hsum
              obtain ⟨p, hp⟩ : ∃ p, p = A.length := ⟨_, rfl⟩
              obtain ⟨Y, hY⟩ : ∃ Y, Y = A ++ m :: (M2 ++ [z]) ++ C := ⟨_, rfl⟩
              have y1 : ga Y p = m := by rw [hY, hp]; exact mid_at A (M2 ++ [z]) C m
              have hYe : Y = (A ++ m :: M2) ++ z :: [] ++ C := by rw [hY]; simp
              have htl : t = (A ++ m :: M2).length := by simp; omega
              have y2 : ga Y t = z := by rw [hYe, htl]; exact mid_at _ [] C z
              have hYl : Y.length = X.length := by rw [hY]; simp; omega
              have y3 : (Y.set p z).set t m = (A ++ [z]) ++ M2 ++ (m :: C) := by
                have e1 : Y.set p z = (A ++ z :: M2) ++ z :: [] ++ C := by rw [hY, hp, mid_set]; simp
                have e2 : t = (A ++ z :: M2).length := by simp; omega
                rw [e1, e2, mid_set]; simp
              have hA1 : (A ++ [z]).length = p + 1 := by simp [hp]
              have hC1 : (m :: C).length = C.length + 1 := rfl
              rw [← hY] at hbk
              rw [← hp]
              have hlt' : p < t := by omega
              have hpY : p < Y.length := by omega
              have htY : t < Y.length := by omega
              have c1 : wr.cell? ⟨g, p, none⟩ = some (.int .u8 m) := by rw [hbk.cell, cells_at p hpY, y1]
              have c2 : wr.cell? ⟨g, t, none⟩ = some (.int .u8 z) := by rw [hbk.cell, cells_at t htY, y2]
              have hb2 := hbk.set p (.int .u8 z)
              rw [cells_set p z hpY] at hb2
              have hb3 := hb2.set t (.int .u8 m)
              rw [cells_set t m (by simpa using htY), y3] at hb3
              have HB3 := Lib.hid hb3
              have HB2 := Lib.hid hb2
              have HRS := Lib.hid hrs
              have HPE := Lib.hid hp
              have HA1 := Lib.hid hA1
              have ff := hbk.frozen p
              have ff2 := hb2.frozen t
              have c3 : (wr.setCell ⟨g, p, none⟩ (.int .u8 z)).cell? ⟨g, t, none⟩ = some (.int .u8 z) := by
                rw [World.cell?_setCell_other (h := fun e => by injection e with _ e2; omega)]; exact c2
              have hm2 : M2.length + p + 1 = t := by omega
              have hac2 : p = C.length := by omega
              have HAC := Lib.hid hac2
              have HM2 := Lib.hid hm2
              have HSUM := Lib.hid hsum
              clear hrs hp y1 y2 y3 hYe htl hY hb2 hb3 hA1 htm hac HR hlt hac2 hm2 hsum hC1
              go_wp2_with fail
              go_region
              go_wp2_with fail
              go_roundw
              case rel => exact ⟨A ++ [z], M2, m :: C, t - 1, by rw [HA1.out]; go_num, by congr 1; omega, by have := HM2.out; rw [HA1.out]; omega, by have := HAC.out; rw [HA1.out, List.length_cons]; omega, by have := HSUM.out; have := HPE.out; rw [HA1.out, List.length_cons]; omega, HRS.out, (below_set_from (below_set_from hB (p := ⟨g, p, none⟩) _ hg) (p := ⟨g, t, none⟩) _ hg).drew, HB3.out.drew⟩
              case measure => simp [intOf]; omega
            · have hmr : M.reverse = M := by
                match M, htm with
                | [], _ => rfl
                | [_], _ => rfl
                | _ :: _ :: _, htm => simp at htm; omega
              have hXr := HR.out
              rw [hmr] at hXr
              rw [hXr] at hbk
              have hrl : X.reverse.length = X.length := List.length_reverse
              obtain ⟨R, hR⟩ : ∃ R, R = X.reverse := ⟨_, rfl⟩
              rw [← hR] at hbk hrl hX
              have HRL := Lib.hid hrl
              have hcl : ∀ i, i < R.length → wr.cell? ⟨g, 0 + i, none⟩ = some (.int .u8 (ga R i)) := fun i hi => by rw [Nat.zero_add, hbk.cell, cells_at i hi]
              have HCL := Lib.hid hcl
              clear hmr hXr hR hcl hrl HR hac htm hsum
              go_wp2_with (apply st_strAt (bs := R); exact Tryd.underlying22; exact Tryd.underlying5; exact Tryd.underlying9; rfl; exact HRL.out; exact HCL.out)
              go_ret
              exact ⟨by rw [hX.out]; rfl, hB⟩
        · obtain ⟨f, rfl⟩ : ∃ f', f = f' + 1 := ⟨f - 1, by
            have := HM.out
            cases f with
            | zero => simp at this; omega
            | succ f => omega⟩
          have hstep : revDigs 20 N = (done ++ [48 + (m : Int) % 10]) ++ revDigs f (m / 10) := by
            rw [HE.out]; simp only [revDigs, if_neg hm0]; simp
          have hm10 : m / 10 < 10 ^ f := by
            have := HM.out
            rw [Nat.pow_succ] at this; omega
          have HSTEP := Lib.hid hstep
          have HM10 := Lib.hid hm10
          clear hstep hm10
          go_wp2_with ((with_reducible apply st_grow (w0 := w) (xs := done) (ys := [48 + (m : Int) % 10])); rfl; rfl; exact hG.alloc _; (intro h; cases h); exact Rd.ofBlk (Blk.new' _ _ _ 5 _ rfl rfl); (simp; omega); intro v2 w2 hG2)
          go_roundw
          case rel => exact ⟨m / 10, f, done ++ [48 + (m : Int) % 10], by first | rfl | simp, by simp; omega, by omega, HM10.out, HSTEP.out, hG2⟩
          case measure => simp [intOf]; omega

end Go.Proofs.YtmfccnkjnkmgiaaDoor
