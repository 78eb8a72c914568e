/- What the reference's small functions answer that copy, cut and compare bytes (inquestref01), for seats without sha. No condition but lengths below 2^40. -/
import Derived.Test.YtabhilifliekmaaMore
namespace Go.Proofs.Ytabhilifliekmaa
open Go.RowKit

/-- It answers these bytes, in memory of its own. -/
def Gives (bs : List Int) (w : World) (e : Ending) (w' : World) : Prop := ∃ v, e = .returned v ∧ Below w.heap.size w w' ∧ Own w' w.heap.size v bs
/-- The call's own bytes, and all that was there is as it was. -/
def Grows (w : World) (bs : List Int) (v : Value) (w' : World) : Prop := Below w.heap.size w w' ∧ Own w' w.heap.size v bs
theorem Grows.alloc {w w' : World} {bs : List Int} {v : Value} (h : Grows w bs v w') (o : Obj) : Grows w bs v (w'.alloc o) :=
  ⟨h.1.alloc h.1.size _, h.2.kept ((Below.refl _ _).alloc (Nat.le_refl _) _)⟩
theorem Grows.nil (w : World) : Grows w [] (.slice none 0 0) w := ⟨Below.refl _ _, Own.nil _ _⟩
theorem Grows.drew {w w' : World} {bs : List Int} {v : Value} (h : Grows w bs v w') : Grows w bs v w'.drew := ⟨h.1.drew, h.2.kept (Below.refl _ _).drew⟩
theorem Grows.up {w w' w'' : World} {bs : List Int} {v : Value} (h : Grows w bs v w') (hb : Below w'.heap.size w' w'') : Grows w bs v w'' :=
  ⟨h.1.trans (hb.mono h.1.size), h.2.kept hb⟩
theorem Grows.gives {w w' : World} {bs : List Int} {v : Value} (h : Grows w bs v w') : Gives bs w (.returned v) w' := ⟨v, rfl, h.1, h.2⟩

/-- append(x, y...) of bytes, x the call's own: as it goes on. -/
theorem st_grow {ops : Array Oper} {rest : List Oper} {a : Act} {w w0 : World} {Q : Exit → Act → World → Prop} {d' : Option Tmp} {tt : TypeId} {s x : Operand} {pos : String} {after : Array Edge} {v : Value} {A : Option Addr} {c : Nat} {xs ys : List Int}
    (hs : a.eval s = v) (hx : a.eval x = .slice A ys.length c) (hg : Grows w0 xs v w) (hn : A = none → c = 0) (hr : Rd w A (nums .u8 ys)) (hl : xs.length + ys.length ≤ 1099511627776)
    (h : ∀ v' w', Grows w0 (xs ++ ys) v' w' → wpList Try.prog ops Q rest (a.put d' v') w') :
    wpList Try.prog ops Q (⟨d', .call ⟨.builtin .append, #[s, x], #[30, 30]⟩, tt, pos, after, none⟩ :: rest) a w :=
  st_append hs hx hg.2 hn hr hl hg.1.size fun v' w' ho hgr => h v' w' ⟨below_grown hg.1 hg.2 hgr (Nat.le_refl _) hg.1.size, ho⟩

set_option maxHeartbeats 1000000 in
theorem refcopy_any (w : World) (A : Option Addr) (c : Nat) (bs : List Int) (hA : A = none → c = 0) (hr : Rd w A (nums .u8 bs)) (hl : bs.length ≤ 549755813888) :
    Calls Try.prog 24 #[.slice A bs.length c] w (Gives bs w) := by
  go_enter Try.func24, Try.ntmps24
  go_wp2_with (apply st_append (base := w.heap.size) (xs := []) (ys := bs); rfl; rfl; exact Own.nil _ _; exact hA; exact hr; (simp; omega); exact Nat.le_refl _; intro v2 w2 hown2 hg2)
  go_ret
  exact ⟨v2, rfl, below_grown (Below.refl _ _) (Own.nil _ _) hg2 (Nat.le_refl _) (Nat.le_refl _), hown2⟩

set_option maxHeartbeats 1000000 in
theorem refcut_any (w : World) (A : Option Addr) (l c n : Nat) (hc : l ≤ c) :
    Calls Try.prog 23 #[.slice A l c, .int .i64 n] w fun e w' => e = .returned (.slice A (min l n) c) ∧ w = w' := by
  by_cases h : n < l
  · go_enter Try.func23, Try.ntmps23
    go_wp2
    go_ret
    exact ⟨by rw [Nat.min_eq_right (by omega)]; rfl, rfl⟩
  · go_enter Try.func23, Try.ntmps23
    go_wp2
    go_ret
    exact ⟨by rw [Nat.min_eq_left (by omega)]; rfl, rfl⟩

set_option maxHeartbeats 1000000 in
theorem refsame_any (w : World) (A B : Option Addr) (c d : Nat) (xs ys : List Int) (hA : Rd w A (nums .u8 xs)) (hB : Rd w B (nums .u8 ys)) (hy : ys.length ≤ 1099511627776) :
    Calls Try.prog 29 #[.slice A xs.length c, .slice B ys.length d] w fun e w' => e = .returned (.bool (decide (xs = ys))) ∧ Below w.heap.size w w' := by
  by_cases hl : xs.length = ys.length
  · have b1 : ((xs.length : Int) != (ys.length : Int)) = false := by simp [hl]
    rw [hl] at b1 ⊢
    have HL := Lib.hid hl
    clear hl
    go_enter Try.func29, Try.ntmps29
    go_wp2
    clear b1
    go_loopw [5] (fun i wr => ∃ k : Nat, i = .int .i64 k ∧ k ≤ ys.length ∧ xs.take k = ys.take k ∧ Below w.heap.size w wr) (fun i _ => ys.length - (intOf i).toNat)
    case atStart => exact ⟨0, rfl, by omega, rfl, Below.refl _ _⟩
    case round =>
      obtain ⟨k, rfl, hk, htk, hb⟩ := hrel
      have HT := Lib.hid htk
      clear htk
      by_cases hlt : k < ys.length
      · obtain ⟨g, o, rfl, hg⟩ := hA.get (by rw [nums_length, HL.out]; omega)
        obtain ⟨g2, o2, rfl, hg2⟩ := hB.get (by rw [nums_length]; omega)
        have l1 : g < w.heap.size := World.block_lt_of_cell? (h := hg k _ (nums_at .u8 xs k (by rw [HL.out]; exact hlt)))
        have l2 : g2 < w.heap.size := World.block_lt_of_cell? (h := hg2 k _ (nums_at .u8 ys k hlt))
        have c1 : wr.cell? ⟨g, o + k, none⟩ = some (.int .u8 (ga xs k)) := by
          rw [hb.cell (p := ⟨g, o + k, none⟩) l1]; exact hg k _ (nums_at .u8 xs k (by rw [HL.out]; exact hlt))
        have c2 : wr.cell? ⟨g2, o2 + k, none⟩ = some (.int .u8 (ga ys k)) := by
          rw [hb.cell (p := ⟨g2, o2 + k, none⟩) l2]; exact hg2 k _ (nums_at .u8 ys k hlt)
        have s1 : xs.take (k + 1) = xs.take k ++ [ga xs k] := by
          rw [List.take_add_one, List.getElem?_eq_getElem (by rw [HL.out]; exact hlt)]
          simp [ga, HL.out, hlt]
        have s2 : ys.take (k + 1) = ys.take k ++ [ga ys k] := by
          rw [List.take_add_one, List.getElem?_eq_getElem hlt]
          simp [ga, hlt]
        have S1 := Lib.hid s1
        have S2 := Lib.hid s2
        clear s1 s2 hg hg2
        by_cases he : ga xs k = ga ys k
        · have b1 : (ga xs k != ga ys k) = false := by simp [he]
          have HE := Lib.hid he
          clear he
          go_wp2
          refine wp_region_C (Same [g, g2] wr) [] (by kernel_rfl) (by kernel_rfl) (by rintro c a w ⟨_, h, _⟩; cases h) (by rintro a w ⟨h, _⟩; cases h) (Same.refl _ _) ?_
          repeat (refine wd_q (v := ?_) rfl rfl rfl rfl rfl rfl (fun w' hw' K hK => ?_) ?_; rotate_left; (have e1 := hw'.cell g (by simp); have e2 := hw'.cell g2 (by simp); go_wp2; exact rfl); simp only [Act.put, List.setIfInBounds_toArray, List.set_cons_zero, List.set_cons_succ])
          refine wd_nil ?_
          go_wp2
          go_roundw
          case rel => exact ⟨k + 1, by go_num, by omega, by rw [S1.out, S2.out, HT.out, HE.out], hb.drew⟩
          case measure => simp [intOf]; omega
        · have b1 : (ga xs k != ga ys k) = true := by simp [he]
          have hne : decide (xs = ys) = false := by
            rw [decide_eq_false_iff_not]
            rintro rfl
            exact he rfl
          have HE := Lib.hid hne
          clear he hne
          go_wp2
          refine wp_region_C (Same [g, g2] wr) [] (by kernel_rfl) (by kernel_rfl) (by rintro c a w ⟨_, h, _⟩; cases h) (by rintro a w ⟨h, _⟩; cases h) (Same.refl _ _) ?_
          repeat (refine wd_q (v := ?_) rfl rfl rfl rfl rfl rfl (fun w' hw' K hK => ?_) ?_; rotate_left; (have e1 := hw'.cell g (by simp); have e2 := hw'.cell g2 (by simp); go_wp2; exact rfl); simp only [Act.put, List.setIfInBounds_toArray, List.set_cons_zero, List.set_cons_succ])
          refine wd_nil ?_
          go_wp2
          go_ret
          exact ⟨by rw [HE.out]; rfl, hb.drew⟩
      · have e : k = ys.length := by omega
        have hne : decide (xs = ys) = true := by
          have := HT.out
          rw [e, List.take_length, ← HL.out, List.take_length] at this
          simp [this]
        have HE := Lib.hid hne
        clear hne
        go_wp2
        go_ret
        exact ⟨by rw [HE.out]; rfl, hb⟩
  · have b1 : ((xs.length : Int) != (ys.length : Int)) = true := by simp; omega
    have hne : decide (xs = ys) = false := by
      rw [decide_eq_false_iff_not]
      rintro rfl
      exact hl rfl
    go_enter Try.func29, Try.ntmps29
    go_wp2
    go_ret
    exact ⟨by rw [hne]; rfl, Below.refl _ _⟩
end Go.Proofs.Ytabhilifliekmaa
