/- That inquestlaw02.ShaParts returns true. Condition: the package's table k reads as its text lays it. -/
import Derived.Test.YtdbjenlmbgmflaaDoorKeep
import Derived.Test.YtdbjenlmbgmflaaDoorLives
namespace Go.Proofs.YtdbjenlmbgmflaaDoor
open Go.RowKit

/-- What was added behind so many of the rows. -/
def catTo (ls : List (List Int)) : Nat → List Int
  | 0 => []
  | k + 1 => catTo ls k ++ (ls.getD k []).take 300
theorem catTo_len (ls : List (List Int)) (k : Nat) : (catTo ls k).length ≤ 300 * k := by
  induction k with
  | zero => simp [catTo]
  | succ k ih => simp only [catTo, List.length_append, List.length_take]; omega
theorem catTo_range (ls : List (List Int)) (hu : ∀ l ∈ ls, U8 l) (k : Nat) : U8 (catTo ls k) := by
  induction k with
  | zero => exact U8.nil
  | succ k ih =>
    refine ih.append ?_
    by_cases h : k < ls.length
    · have e : ls.getD k [] = ls[k] := by rw [List.getD_eq_getElem?_getD, List.getElem?_eq_getElem h]; rfl
      rw [e]; exact (hu _ (List.getElem_mem h)).take _
    · have e : ls.getD k [] = [] := by rw [List.getD_eq_getElem?_getD, List.getElem?_eq_none (by omega)]; rfl
      rw [e]; exact U8.nil.take _
theorem RdS.u8 {w : World} {A : Option Addr} {ls : List (List Int)} (h : RdS w A ls) : ∀ l ∈ ls, U8 l := by
  intro l hl
  obtain ⟨i, hi, rfl⟩ := List.mem_iff_getElem.1 hl
  rcases h with h | ⟨g, off, _, hc⟩
  · subst h; simp at hi
  · obtain ⟨_, _, _, _, _, _, hu⟩ := hc i _ (List.getElem?_eq_getElem hi)
    exact hu

set_option maxHeartbeats 8000000 in
set_option maxRecDepth 100000 in
theorem lawparts_any (w : World) (ls0 : List (List Int)) (A : Option Addr) (c : Nat) (hs : RdS w A ls0) (hc : ls0.length ≤ c) (hk : KV w) :
    Calls Tryd.prog 8 #[.slice A ls0.length c] w fun e w' => e = .returned (.bool true) ∧ Below w.heap.size w w' := by
  obtain ⟨ls, hls⟩ : ∃ ls, ls = ls0.take 40 := ⟨_, rfl⟩
  have hll : ls.length ≤ 40 := by rw [hls, List.length_take]; omega
  have hrs : RdS w A ls := by rw [hls]; exact hs.take _
  have hus := hrs.u8
  have hX : (40 < ls0.length ∧ 40 ≤ c ∧ Value.slice A 40 c = .slice A ls.length c) ∨ (ls0.length ≤ 40 ∧ ls0.length ≤ c ∧ Value.slice A ls0.length c = .slice A ls.length c) := by
    rw [hls, List.length_take]
    rcases Nat.lt_or_ge 40 ls0.length with h | h
    · exact .inl ⟨h, by omega, by rw [Nat.min_eq_left (by omega)]⟩
    · exact .inr ⟨h, hc, by rw [Nat.min_eq_right (by omega)]⟩
  have HRS := Lib.hid hrs
  have HUS := Lib.hid hus
  have HK := Lib.hid hk
  clear hs hls hrs hus hk
  rcases hX with ⟨h40, h4c, he⟩ | ⟨h40, h4c, he⟩
  all_goals
    have HE := Lib.hid he
    clear he
    go_enter Tryd.func8, Tryd.ntmps8
    go_wp2_with fail
    rw [HE.out]
    clear HE
    go_wp2_with (first
      | (go_at_call 24; ((with_reducible refine (new_any w).mono ?_); rintro e w1 ⟨g, rfl, hg1, hb1, hH1⟩; have hHl1 := hH1.lt))
      | (go_at_call 24; ((with_reducible refine (new_any w1).mono ?_); rintro e w2 ⟨g2, rfl, hg2, hb2, hH2⟩; have hHl2 := hH2.lt)))
    have hB2 : Below w.heap.size w w2 := hb1.trans (hb2.mono hb1.size)
    have hH1' := hH1.up hb2
    have hgg : g ≠ g2 := by omega
    have hHl1' : g < w2.heap.size := by have := hb2.size; omega
    have hz1 := hb1.size
    have hz2 := hb2.size
    clear hb1 hb2 hH1
    go_loopw [5, 6] (fun v i wr => ∃ k : Nat, i = .int .i64 k ∧ k ≤ ls.length ∧ Below w.heap.size w wr ∧ IsHash wr g (catTo ls k) ∧ IsHash wr g2 [] ∧ Own wr w2.heap.size v (catTo ls k) ∧ w2.heap.size ≤ wr.heap.size) (fun _ i _ => ls.length - (intOf i).toNat)
    case atStart => exact ⟨0, rfl, by omega, hB2, hH1', hH2, Own.nil _ _, Nat.le_refl _⟩
    case round =>
      clear hB2 hH1' hH2
      obtain ⟨k, rfl, hk, hB, hH, hO, hW, hz⟩ := hrel
      rename World => wo
      have hxl := catTo_len ls k
      by_cases hlt : k < ls.length
      · obtain ⟨g0, off, rfl, hget⟩ : ∃ g0 off, A = some ⟨g0, off, none⟩ ∧ ∀ j l, ls[j]? = some l → ∃ Aj cj, w.cell? ⟨g0, off + j, none⟩ = some (.slice Aj l.length cj) ∧ l.length ≤ cj ∧ (Aj = none → cj = 0) ∧ Rd w Aj (nums .u8 l) ∧ U8 l := by
          rcases HRS.out with h | h
          · rw [h] at hlt; simp at hlt
          · exact h
        obtain ⟨l, hl⟩ : ∃ l, l = ls[k] := ⟨_, rfl⟩
        obtain ⟨Aj, cj, hcell, hlc, hAj, hRj, hUj⟩ := hget k l (by rw [hl]; exact List.getElem?_eq_getElem hlt)
        have hg0 : g0 < w.heap.size := World.block_lt_of_cell? (h := hcell)
        have c1 : wo.cell? ⟨g0, off + k, none⟩ = some (.slice Aj l.length cj) := by rw [hB.cell (p := ⟨g0, off + k, none⟩) hg0]; exact hcell
        obtain ⟨b, hb⟩ : ∃ b, b = l.take 300 := ⟨_, rfl⟩
        have hbl : b.length ≤ 300 := by rw [hb, List.length_take]; omega
        have hbc : b.length ≤ cj := by rw [hb, List.length_take]; omega
        have hcut := refcut_any wo Aj l.length cj 300 hlc
        rw [show min l.length 300 = b.length by rw [hb, List.length_take]; omega] at hcut
        have hrb : Rd w Aj (nums .u8 b) := by rw [hb, nums_take]; exact hRj.take _
        have hub : U8 b := by rw [hb]; exact hUj.take _
        obtain ⟨xs, hxs⟩ : ∃ xs, xs = catTo ls k := ⟨_, rfl⟩
        have hcat : catTo ls (k + 1) = xs ++ b := by
          rw [hxs, hb, hl]
          simp only [catTo]
          rw [List.getD_eq_getElem?_getD, List.getElem?_eq_getElem hlt]; rfl
        have hux : U8 xs := by rw [hxs]; exact catTo_range _ HUS.out _
        rw [← hxs] at hH hW hxl
        obtain ⟨ys, hys⟩ : ∃ ys, xs ++ b = ys := ⟨_, rfl⟩
        have hyl : ys.length ≤ 300 * k + 300 := by rw [← hys, List.length_append]; omega
        have huy : U8 ys := by rw [← hys]; exact hux.append hub
        rw [hys] at hcat
        have HYS := Lib.hid hys
        have HUY := Lib.hid huy
        clear hys huy
        have hneq := run_neq_nums (P := Tryd.prog) (t := 26) Tryd.underlying26 Tryd.underlying5 (by kernel_rfl) (by kernel_rfl) (sumF ys) (sumF ys) (sumF_len _) (sumF_len _)
        rw [decide_eq_true rfl, Bool.not_true] at hneq
        have HCAT := Lib.hid hcat
        have HCUT := Lib.hid hcut
        have HRB := Lib.hid hrb
        have HAJ := Lib.hid hAj
        have HNEQ := Lib.hid hneq
        have HH := Lib.hid hH
        have HO := Lib.hid hO
        have HW := Lib.hid hW
        clear hget hcell hRj hUj hl hb hcut hrb hub hxs hcat hux hAj hneq hH hO hW hlc
        go_wp2_with (first
          | (go_at_call 11; refine HCUT.out.mono ?_; rintro e w' ⟨rfl, rfl⟩)
          | (go_at_call 12; refine (refcopy_any _ Aj cj b HAJ.out (HRB.out.up hB) (by omega)).mono ?_; rintro e w3 ⟨v3, rfl, hb3, ho3⟩;
             obtain ⟨g3, A3, c3, rfl, hg3, hc3, hA3, hR3, hx3, hm3⟩ := ho3.mine)
          | (go_at_call 25; refine (add_any w3 g xs b A3 c3 (HH.out.up hb3) hR3 hc3 hA3 (fun _ a ha => (by have := hx3 a ha; omega)) (by omega) (HK.out.below (hB.trans (hb3.mono hB.size)) HK.out.lt)).mono ?_;
             rintro e w4 ⟨rfl, hBut4, hH4⟩; rw [HYS.out] at hH4))
        have hz3 := hb3.size
        have hz4 := hBut4.size
        have hglt := HH.out.lt
        have hg2lt := HO.out.lt
        have hH24 : IsHash w4 g2 [] := (HO.out.up hb3).butFar hBut4 (by omega) (Ne.symm hgg)
        have hW4 : Own w4 w2.heap.size u5 xs := (HW.out.kept hb3).butFar hBut4 hHl1'
        have hWk : ∀ q, u5.ownBlock = some q → q ≠ g3 := fun q hq => by have := (HW.out.lt q hq).2; omega
        have hm4 : Hid (0 < b.length → A3 = some ⟨g3, 0, none⟩ ∧ g3 < w4.heap.size ∧ ∃ cur, Blk w4 g3 cur 5 ∧ b.length ≤ cur.length) := fun h => by
          obtain ⟨e1, e2, cur, e3, e4⟩ := hm3 h
          exact ⟨e1, by omega, cur, e3.butFar hBut4 (by omega) (by omega), e4⟩
        have hB4 : Below w.heap.size w w4 := (hB.trans (hb3.mono hB.size)).trans (hBut4.below' (by omega) (by have := hB.size; omega))
        have hzo := hB.size
        have HW4 := Lib.hid hW4
        have HWK := Lib.hid hWk
        clear hBut4 hm3 hx3 hR3 hA3 ho3 hb3 HH HO HW hB hW4 hWk
        go_loopw [9] (fun i wr => ∃ m : Nat, i = .int .i64 m ∧ m ≤ b.length ∧ But g3 w4.heap.size w4 wr ∧ Hid (0 < b.length → A3 = some ⟨g3, 0, none⟩ ∧ g3 < w4.heap.size ∧ ∃ cur, Blk wr g3 cur 5 ∧ b.length ≤ cur.length)) (fun i _ => b.length - (intOf i).toNat)
        case atStart => exact ⟨0, rfl, by omega, But.refl _ _ _, hm4⟩
        case round =>
          clear hm4
          obtain ⟨m, rfl, hm, hB, hmq⟩ := hrel
          by_cases hlm : m < b.length
          · obtain ⟨rfl, hg3lt, cur, hcb, hcl⟩ := hmq.out (by omega)
            have cc : wr.cell? ⟨g3, m, none⟩ = some (cur[m]'(by omega)) := by rw [hcb.cell]; simp
            have ff := hcb.frozen m
            clear hmq
            go_wp2
            go_roundw
            case rel => exact ⟨m + 1, by go_num, by omega, hB.set _ _, fun _ => ⟨by trivial, hg3lt, _, hcb.set _ _, by rw [List.length_set]; exact hcl⟩⟩
            case measure => simp [intOf]; omega
          · have hzr := hB.size
            have hHq : IsHash wr g ys := hH4.butFar hB hH4.lt (by omega)
            have hH2q : IsHash wr g2 [] := hH24.butFar hB hH24.lt (by omega)
            have hWq : Own wr w2.heap.size u5 xs := HW4.out.butNew hB HWK.out (Nat.le_refl _)
            have hBq : Below w.heap.size w wr := hB4.trans (hB.below' (by omega) (by omega))
            clear hH4 hH24 hB4 hB hmq hm
            go_wp2_with (first
              | (apply st_append (base := w2.heap.size) (xs := xs) (ys := b); rfl; rfl; exact hWq; exact HAJ.out; exact HRB.out.up hBq; omega; omega; intro v5 w5 ho5 hg5;
                 have hB5 : Below w2.heap.size wr w5 := below_grown (Below.refl _ _) hWq hg5 (Nat.le_refl _) (by omega);
                 have hH5 := hHq.below hB5 hHl1'; have hH25 := hH2q.below hB5 hHl2; have hB5w := hBq.trans (hB5.mono (by omega));
                 rw [HYS.out] at ho5; obtain ⟨A5, c5, rfl, h5, hA5, hR5, hx5⟩ := ho5.from; clear hg5)
              | (go_at_call 26; refine (count_any w5 g ys hH5).mono ?_; rintro e w' ⟨rfl, rfl⟩)
              | (go_at_call 27; refine (hsum_any w5 g ys hH5 (by omega) (HK.out.below hB5w HK.out.lt)).mono ?_; rintro e w6 ⟨rfl, hb6⟩)
              | (go_at_call 14; refine (refsum_any w6 ys A5 c5 (hR5.up hb6) hA5 (by omega) HUY.out).mono ?_; rintro e w7 ⟨rfl, hb7⟩; have hneq := HNEQ.out))
            have hb57 : Below w5.heap.size w5 w7 := hb6.trans (hb7.mono hb6.size)
            have h25 := hB5.size
            go_roundw
            case rel =>
              refine ⟨k + 1, by go_num, by omega, hB5w.trans (hb57.mono hB5w.size), ?_, hH25.up hb57, ?_, by have := hb57.size; omega⟩
              · rw [HCAT.out]; exact hH5.up hb57
              · rw [HCAT.out]; exact ho5.kept hb57
            case measure => simp [intOf]; omega
      · have heq := run_eql_nums (P := Tryd.prog) (t := 26) Tryd.underlying26 Tryd.underlying5 (by kernel_rfl) (by kernel_rfl) (sumF []) (sumF []) (sumF_len _) (sumF_len _)
        rw [decide_eq_true rfl] at heq
        have HEQ := Lib.hid heq
        clear heq hH hW hxl hk
        go_wp2_with (first
          | (go_at_call 26; refine (count_any wo g2 [] hO).mono ?_; rintro e w' ⟨rfl, rfl⟩)
          | (go_at_call 27; refine (hsum_any wo g2 [] hO (by decide) (HK.out.below hB HK.out.lt)).mono ?_; rintro e w6 ⟨rfl, hb6⟩; have hB6 := hB.trans (hb6.mono hB.size))
          | (go_at_call 14; refine (refsum_any w6 [] none 0 (Rd.nil _ _) (fun _ => rfl) (by decide) U8.nil).mono ?_; rintro e w7 ⟨rfl, hb7⟩; have hB7 := hB6.trans (hb7.mono hB6.size); have heq := HEQ.out)
          | (go_at_call 16; refine (lives_any _ (HK.out.below hB7 HK.out.lt)).mono ?_; rintro e w8 ⟨rfl, hb8⟩))
        go_ret
        exact ⟨rfl, hB7.trans (hb8.mono hB7.size)⟩
end Go.Proofs.YtdbjenlmbgmflaaDoor
