/- What inquestref04.letter, Hex and Unhex answer. No condition but lengths below 2^30. -/
import Derived.Test.YtabhilifliekmaaTHex
namespace Go.Proofs.Ytabhilifliekmaa
open Go.RowKit

theorem letter_str (n : Nat) (h : n < 16) : L16.extract n (n + 1) = strOfNums [hexd (n : Int)] := by
  have h2 : ∀ m : Fin 16, L16.extract m.val (m.val + 1) = strOfNums [hexd ((m.val : Nat) : Int)] := by decide +kernel
  exact h2 ⟨n, h⟩
set_option maxHeartbeats 1000000 in
theorem refletter_any (w : World) (n : Nat) (h : n < 16) : Calls Try.prog 30 #[.int .i64 n] w fun e w' => e = .returned (.string (strOfNums [hexd (n : Int)])) ∧ w = w' := by
  have hs : (⟨#[48, 49, 50, 51, 52, 53, 54, 55, 56, 57, 97, 98, 99, 100, 101, 102]⟩ : ByteArray).size = 16 := rfl
  have HL := Lib.hid (letter_str n h)
  go_enter Try.func30, Try.ntmps30
  go_wp2
  go_ret
  exact ⟨by rw [← HL.out]; rfl, rfl⟩
theorem refletter_int (w : World) (n : Int) (h0 : 0 ≤ n) (h : n < 16) : Calls Try.prog 30 #[.int .i64 n] w fun e w' => e = .returned (.string (strOfNums [hexd n])) ∧ w = w' := by
  obtain ⟨m, rfl⟩ := Int.eq_ofNat_of_zero_le h0
  exact refletter_any w m (by omega)
theorem str_app (a b : List Int) : strOfNums a ++ strOfNums b = strOfNums (a ++ b) := by
  apply ByteArray.ext
  apply Array.ext'
  rw [ByteArray.data_append, Array.toList_append, strOfNums_data, strOfNums_data, strOfNums_data, List.map_append]

set_option maxHeartbeats 2000000 in
theorem refhex_any (w : World) (A : Option Addr) (c : Nat) (bs : List Int) (hr : Rd w A (nums .u8 bs)) (hl : bs.length ≤ 1000000000) (hu : ∀ i, 0 ≤ ga bs i ∧ ga bs i < 256) :
    Calls Try.prog 28 #[.slice A bs.length c] w fun e w' => e = .returned (.string (strOfNums (hexF bs))) ∧ Below w.heap.size w w' := by
  have HR := Lib.hid hr
  have HU := Lib.hid hu
  clear hr hu
  go_enter Try.func28, Try.ntmps28
  go_wp2
  go_loopw [3, 4] (fun v i wr => ∃ k : Nat, i = .int .i64 k ∧ k ≤ bs.length ∧ v = .string (strOfNums (hexF (bs.take k))) ∧ Below w.heap.size w wr) (fun _ i _ => bs.length - (intOf i).toNat)
  case atStart => exact ⟨0, rfl, by omega, rfl, Below.refl _ _⟩
  case round =>
    obtain ⟨k, rfl, hk, rfl, hB⟩ := hrel
    by_cases hlt : k < bs.length
    · obtain ⟨g, o, rfl, hrd⟩ := HR.out.get (by rw [nums_length]; omega)
      have c1 := hrd k _ (nums_at .u8 bs k hlt)
      rw [← ga_eq] at c1
      have hg : g < w.heap.size := World.block_lt_of_cell? (h := c1)
      have c2 : wr.cell? ⟨g, o + k, none⟩ = some (.int .u8 (ga bs k)) := by rw [hB.cell (p := ⟨g, o + k, none⟩) hg]; exact c1
      have hx := HU.out k
      have hst := hexF_step bs k hlt
      have hln : (hexF (bs.take k)).length ≤ 2000000000 := by rw [hexF_len, List.length_take]; omega
      obtain ⟨x, hx2⟩ : ∃ x, x = ga bs k := ⟨_, rfl⟩
      rw [← hx2] at c2 hx hst
      obtain ⟨pre, hpre⟩ : ∃ l, l = hexF (bs.take k) := ⟨_, rfl⟩
      rw [← hpre] at hst hln ⊢
      have hadd : strOfNums pre ++ strOfNums [hexd (x / 16)] ++ strOfNums [hexd (x % 16)] = strOfNums (hexF (bs.take (k + 1))) := by
        rw [str_app, str_app, List.append_assoc, ← hst]; rfl
      have hsz1 : (strOfNums pre).size + (strOfNums [hexd (x / 16)]).size ≤ 9223372036854775807 := by rw [strOfNums_size, strOfNums_size]; simp; omega
      have hsz2 : (strOfNums pre ++ strOfNums [hexd (x / 16)]).size + (strOfNums [hexd (x % 16)]).size ≤ 9223372036854775807 := by rw [str_app, strOfNums_size, strOfNums_size]; simp; omega
      have HADD := Lib.hid hadd
      clear hst c1 hrd hx2 hpre hadd
      go_wp2
      refine wp_region_C (Same [g] wr) [7, 15] (by kernel_rfl) (by kernel_rfl) (by intro c a w h; first | (obtain ⟨_, h, _⟩ := h; cases h; done) | (obtain ⟨_, _, h, _⟩ := h; cases h; done)) (by intro a w h; first | (obtain ⟨h, _⟩ := h; cases h; done) | (obtain ⟨_, h, _⟩ := h; cases h; done)) (Same.refl _ _) ?_
      repeat (refine wd_q (v := ?_) rfl rfl rfl rfl rfl rfl (fun w' hw' K hK => ?_) ?_; rotate_left; (have e1 := hw'.cell g (by simp); go_wp2; exact rfl); simp only [Act.put, List.setIfInBounds_toArray, List.set_cons_zero, List.set_cons_succ])
      refine wd_l rfl rfl (by intro a w h; first | (obtain ⟨h, _⟩ := h; cases h; done) | (obtain ⟨_, h, _⟩ := h; cases h; done)) ?_
      go_wp2_with (go_at_call 30; refine (refletter_int _ (x / 16) (by omega) (by omega)).mono ?_; rintro e w' ⟨rfl, rfl⟩)
      refine ⟨.inr (Same.refl _ _), ?_⟩
      repeat (refine wd_q (v := ?_) rfl rfl rfl rfl rfl rfl (fun w' hw' K hK => ?_) ?_; rotate_left; (have e1 := hw'.cell g (by simp); go_wp2; exact rfl); simp only [Act.put, List.setIfInBounds_toArray, List.set_cons_zero, List.set_cons_succ])
      refine wd_l rfl rfl (by intro a w h; first | (obtain ⟨h, _⟩ := h; cases h; done) | (obtain ⟨_, h, _⟩ := h; cases h; done)) ?_
      go_wp2_with (go_at_call 30; refine (refletter_int _ (x % 16) (by omega) (by omega)).mono ?_; rintro e w' ⟨rfl, rfl⟩)
      refine ⟨.inr (Same.refl _ _), ?_⟩
      repeat (refine wd_q (v := ?_) rfl rfl rfl rfl rfl rfl (fun w' hw' K hK => ?_) ?_; rotate_left; (skip; go_wp2; exact rfl); simp only [Act.put, List.setIfInBounds_toArray, List.set_cons_zero, List.set_cons_succ])
      refine wd_nil ?_
      go_wp2
      rw [HADD.out]
      go_roundw
      case rel => exact ⟨k + 1, by go_num, by omega, rfl, hB.drew⟩
      case measure => simp [intOf]; omega
    · have e : k = bs.length := by omega
      rw [e, List.take_length]
      clear e
      go_wp2
      go_ret
      exact ⟨rfl, hB⟩

/-- The last place below k whose letter is c; -1: none. -/
def fnd : Nat → Int → Int
  | 0, _ => -1
  | k + 1, c => if hexd (k : Int) = c then (k : Int) else fnd k c
theorem fnd_range (k : Nat) (c : Int) : -1 ≤ fnd k c ∧ fnd k c < k := by
  induction k with
  | zero => simp [fnd]
  | succ k ih => simp only [fnd]; split <;> omega
theorem fnd_dgt (c : Int) (h0 : 0 ≤ c) (h1 : c ≤ 255) : fnd 16 c = if 15 < dgt c then -1 else dgt c := by
  obtain ⟨m, rfl⟩ := Int.eq_ofNat_of_zero_le h0
  have h : ∀ m : Fin 256, fnd 16 ((m.val : Nat) : Int) = if 15 < dgt ((m.val : Nat) : Int) then -1 else dgt ((m.val : Nat) : Int) := by decide +kernel
  exact h ⟨m, by omega⟩
theorem hexd_range (n : Nat) (h : n < 16) : 0 ≤ hexd (n : Int) ∧ hexd (n : Int) < 256 := by unfold hexd; split <;> omega
theorem one_letter (s : ByteArray) (i : Nat) (h : i < s.size) (x : Int) (hx : 0 ≤ x ∧ x < 256) : ((strOfNums [x]).toList == (s.extract i (i + 1)).toList) = decide (x = sb s (i : Int)) := by
  have e1 : (strOfNums [x]).toList = [UInt8.ofNat x.toNat] := by rw [ByteArray.toList_eq, strOfNums_data]; rfl
  have e2 : (s.extract i (i + 1)).toList = [s[i]] := by
    rw [ByteArray.toList_eq]
    have hl : (s.extract i (i + 1)).size = 1 := by simp; omega
    have hd : (s.extract i (i + 1)).data.toList.length = 1 := by rw [Array.length_toList]; exact hl
    obtain ⟨b, hb⟩ : ∃ b, (s.extract i (i + 1)).data.toList = [b] := List.length_eq_one_iff.1 hd
    have h0 : (s.extract i (i + 1))[0]'(by omega) = s[i] := by simp [ByteArray.getElem_extract]
    have h1 : (s.extract i (i + 1)).data.toList[0]? = some s[i] := by rw [List.getElem?_eq_getElem (by omega), ← h0]; rfl
    rw [hb] at h1 ⊢
    simp at h1
    rw [h1]
  have e3 : sb s (i : Int) = ((s[i]).toNat : Int) := by unfold sb; simp only [Int.toNat_natCast]; rw [dif_pos h]
  rw [e1, e2, e3, Bool.eq_iff_iff, beq_iff_eq, decide_eq_true_eq]
  have h4 := (s[i]).toNat_lt
  constructor
  · intro he
    injection he with he
    rw [← he, UInt8.toNat_ofNat']; omega
  · intro he
    rw [he, Int.toNat_natCast, UInt8.ofNat_toNat]

theorem unhexR_odd2 (s : ByteArray) (n : Nat) (h : s.size = 2 * n + 1) : unhexR s = ([], false) := unhexR_odd s (by omega)
theorem unhexR_bad (s : ByteArray) (n : Nat) (h : 2 * n ≤ s.size) (hm : s.size ≤ 2 * n + 1) (h2 : unhexT s n 0 = none) : unhexR s = ([], false) := by
  by_cases ho : s.size % 2 = 1
  · exact unhexR_odd s ho
  · exact unhexR_none s ho (by rw [show s.size / 2 = n by omega]; exact h2)
theorem unhexR_good (s : ByteArray) (n : Nat) (l : List Int) (h : s.size = 2 * n) (h2 : unhexT s n 0 = some l) : unhexR s = (l, true) :=
  unhexR_some s l (by omega) (by rw [show s.size / 2 = n by omega]; exact h2)

set_option maxHeartbeats 4000000 in
theorem refunhex_any (w : World) (s : ByteArray) (hl : s.size ≤ 1000000000) : Calls Try.prog 26 #[.string s] w (GivesB (unhexR s) w) := by
  obtain ⟨n, h2n, h2m⟩ : ∃ n, 2 * n ≤ s.size ∧ s.size ≤ 2 * n + 1 := ⟨s.size / 2, by omega, by omega⟩
  go_enter Try.func26, Try.ntmps26
  go_wp2
  go_loopw [4, 5] (fun v i wr => ∃ (k : Nat) (done : List Int), i = .int .i64 (2 * k) ∧ k ≤ n ∧ done.length = k ∧ Grows w done v wr ∧ Hid (unhexT s n 0 = (unhexT s (n - k) (2 * k)).map fun l => done ++ l)) (fun _ i _ => s.size - (intOf i).toNat)
  case atStart => exact ⟨0, [], rfl, by omega, rfl, Grows.nil _, by show unhexT s n 0 = (unhexT s (n - 0) (2 * 0)).map fun l => [] ++ l; simp⟩
  case round =>
    obtain ⟨k, done, rfl, hk, hdl, hG, HT⟩ := hrel
    by_cases hlt : k < n
    · have hlt2 : 2 * (k : Int) < (s.size : Int) := by omega
      have b1 : (2 * (k : Int) + 1 == (s.size : Int)) = false := by rw [beq_eq_false_iff_ne]; omega
      have hx0 := sb_range s (2 * (k : Int))
      have hy0 := sb_range s (2 * (k : Int) + 1)
      have hst : unhexT s (n - k) (2 * k) = if 15 < dgt (sb s (2 * (k : Int))) ∨ 15 < dgt (sb s (2 * (k : Int) + 1)) then none else (unhexT s (n - (k + 1)) (2 * (k + 1))).map fun l => (16 * dgt (sb s (2 * (k : Int))) + dgt (sb s (2 * (k : Int) + 1))) :: l := by
        obtain ⟨m, hm⟩ : ∃ m, n - k = m + 1 := ⟨n - k - 1, by omega⟩
        rw [hm, show n - (k + 1) = m by omega]
        have e1 : ((2 * k : Nat) : Int) = 2 * (k : Int) := by omega
        have e2 : ((2 * k + 1 : Nat) : Int) = 2 * (k : Int) + 1 := by omega
        simp only [unhexT, e1, e2]
        rfl
      have hl1 : ∀ j : Nat, j < 16 → ((strOfNums [hexd (j : Int)]).toList == (s.extract (2 * k) (2 * k + 1)).toList) = decide (hexd (j : Int) = sb s (2 * (k : Int))) := fun j hj => by
        rw [one_letter s (2 * k) (by omega) _ (hexd_range j hj)]; congr 2
      have hl2 : ∀ j : Nat, j < 16 → ((strOfNums [hexd (j : Int)]).toList == (s.extract (2 * k + 1) (2 * k + 2)).toList) = decide (hexd (j : Int) = sb s (2 * (k : Int) + 1)) := fun j hj => by
        rw [one_letter s (2 * k + 1) (by omega) _ (hexd_range j hj)]; congr 2
      obtain ⟨cx, hcx⟩ : ∃ c, c = sb s (2 * (k : Int)) := ⟨_, rfl⟩
      obtain ⟨cy, hcy⟩ : ∃ c, c = sb s (2 * (k : Int) + 1) := ⟨_, rfl⟩
      rw [← hcx] at hx0 hst hl1
      rw [← hcy] at hy0 hst hl2
      have HX := Lib.hid (fnd_dgt cx hx0.1 hx0.2)
      have HY := Lib.hid (fnd_dgt cy hy0.1 hy0.2)
      have HST := Lib.hid hst
      have HDL := Lib.hid hdl
      have HL1 := Lib.hid hl1
      have HL2 := Lib.hid hl2
      clear hst hdl hl1 hl2 hcx hcy
      go_wp2
      rename World => wo
      go_loopw [6, 7, 8] (fun a b i wr => ∃ j : Nat, i = .int .i64 j ∧ j ≤ 16 ∧ a = .int .i64 (fnd j cx) ∧ b = .int .i64 (fnd j cy) ∧ Grows w done u4 wr) (fun _ _ i _ => 16 - (intOf i).toNat)
      case atStart => exact ⟨0, rfl, by omega, rfl, rfl, hG⟩
      case round =>
        clear hG
        obtain ⟨j, rfl, hj, rfl, rfl, hG⟩ := hrel
        by_cases hj16 : j < 16
        · have e1 := HL1.out j hj16
          have e2 := HL2.out j hj16
          have hfx := fnd_range j cx
          have hfy := fnd_range j cy
          have hsx : fnd (j + 1) cx = if hexd (j : Int) = cx then (j : Int) else fnd j cx := rfl
          have hsy : fnd (j + 1) cy = if hexd (j : Int) = cy then (j : Int) else fnd j cy := rfl
          obtain ⟨fx, hfx2⟩ : ∃ f, f = fnd j cx := ⟨_, rfl⟩
          obtain ⟨fy, hfy2⟩ : ∃ f, f = fnd j cy := ⟨_, rfl⟩
          rw [← hfx2] at hfx hsx ⊢
          rw [← hfy2] at hfy hsy ⊢
          obtain ⟨lt, hlt2⟩ : ∃ l, l = strOfNums [hexd (j : Int)] := ⟨_, rfl⟩
          have hlet := refletter_any (n := j) (h := hj16)
          rw [← hlt2] at e1 e2 hlet
          have HLET := Lib.hid hlet
          clear hfx2 hfy2 hlt2 hlet
          have HSX := Lib.hid hsx
          have HSY := Lib.hid hsy
          clear hsx hsy
          by_cases hcx : hexd (j : Int) = cx <;> by_cases hcy : hexd (j : Int) = cy
          all_goals
            have HCX := Lib.hid hcx
            have HCY := Lib.hid hcy
            first | rw [decide_eq_true hcx] at e1 | rw [decide_eq_false hcx] at e1
            first | rw [decide_eq_true hcy] at e2 | rw [decide_eq_false hcy] at e2
            clear hcx hcy
            go_wp2
            refine wp_region_C (Same [] wr) [1] (by kernel_rfl) (by kernel_rfl) (by intro c a w h; first | (obtain ⟨_, h, _⟩ := h; cases h; done) | (obtain ⟨_, _, h, _⟩ := h; cases h; done)) (by intro a w h; first | (obtain ⟨h, _⟩ := h; cases h; done) | (obtain ⟨_, h, _⟩ := h; cases h; done)) (Same.refl _ _) ?_
            repeat (refine wd_q (v := ?_) rfl rfl rfl rfl rfl rfl (fun w' hw' K hK => ?_) ?_; rotate_left; (skip; go_wp2; exact rfl); simp only [Act.put, List.setIfInBounds_toArray, List.set_cons_zero, List.set_cons_succ])
            refine wd_l rfl rfl (by intro a w h; first | (obtain ⟨h, _⟩ := h; cases h; done) | (obtain ⟨_, h, _⟩ := h; cases h; done)) ?_
            go_wp2_with (go_at_call 30; refine (HLET.out _).mono ?_; rintro e w' ⟨rfl, rfl⟩)
            refine ⟨.inr (Same.refl _ _), ?_⟩
            repeat (refine wd_q (v := ?_) rfl rfl rfl rfl rfl rfl (fun w' hw' K hK => ?_) ?_; rotate_left; (have e3 := e1; go_wp2; exact rfl); simp only [Act.put, List.setIfInBounds_toArray, List.set_cons_zero, List.set_cons_succ])
            refine wd_nil ?_
            go_wp2
            refine wp_region_C (Same [] wr.drew) [1] (by kernel_rfl) (by kernel_rfl) (by intro c a w h; first | (obtain ⟨_, h, _⟩ := h; cases h; done) | (obtain ⟨_, _, h, _⟩ := h; cases h; done)) (by intro a w h; first | (obtain ⟨h, _⟩ := h; cases h; done) | (obtain ⟨_, h, _⟩ := h; cases h; done)) (Same.refl _ _) ?_
            repeat (refine wd_q (v := ?_) rfl rfl rfl rfl rfl rfl (fun w' hw' K hK => ?_) ?_; rotate_left; (skip; go_wp2; exact rfl); simp only [Act.put, List.setIfInBounds_toArray, List.set_cons_zero, List.set_cons_succ])
            refine wd_l rfl rfl (by intro a w h; first | (obtain ⟨h, _⟩ := h; cases h; done) | (obtain ⟨_, h, _⟩ := h; cases h; done)) ?_
            go_wp2_with (go_at_call 30; refine (HLET.out _).mono ?_; rintro e w' ⟨rfl, rfl⟩)
            refine ⟨.inr (Same.refl _ _), ?_⟩
            repeat (refine wd_q (v := ?_) rfl rfl rfl rfl rfl rfl (fun w' hw' K hK => ?_) ?_; rotate_left; (have e3 := e2; go_wp2; exact rfl); simp only [Act.put, List.setIfInBounds_toArray, List.set_cons_zero, List.set_cons_succ])
            refine wd_nil ?_
            go_wp2
            go_roundw
            case rel =>
              refine ⟨j + 1, by go_num, by omega, ?_, ?_, hG.drew.drew⟩
              · rw [HSX.out]; first | rw [if_pos HCX.out] | rw [if_neg HCX.out]
              · rw [HSY.out]; first | rw [if_pos HCY.out] | rw [if_neg HCY.out]
            case measure => simp [intOf]; omega
        · have e : j = 16 := by omega
          rw [e, HX.out, HY.out]
          clear e hj16 hj
          have hx := dgt_range cx
          have hy := dgt_range cy
          have hst := HST.out
          obtain ⟨x, hdx⟩ : ∃ x, x = dgt cx := ⟨_, rfl⟩
          obtain ⟨y, hdy⟩ : ∃ y, y = dgt cy := ⟨_, rfl⟩
          rw [← hdx] at hx hst ⊢
          rw [← hdy] at hy hst ⊢
          have HS2 := Lib.hid hst
          clear hst hdx hdy HST HX HY HL1 HL2
          by_cases hbx : 15 < x
          · have hnone : unhexT s n 0 = none := by rw [HT.out, HS2.out, if_pos (.inl hbx)]; rfl
            have HR := Lib.hid (unhexR_bad s n h2n h2m hnone)
            rw [if_pos hbx]
            clear hnone
            go_wp2
            all_goals
              go_ret2
              rw [HR.out]
              exact Grows.givesB (v := .slice none 0 0) ⟨hG.1, Own.nil _ _⟩ rfl
          · by_cases hby : 15 < y
            · have hnone : unhexT s n 0 = none := by rw [HT.out, HS2.out, if_pos (.inr hby)]; rfl
              have HR := Lib.hid (unhexR_bad s n h2n h2m hnone)
              rw [if_neg hbx, if_pos hby]
              clear hnone
              have hbx2 : x ≤ 15 := by omega
              go_wp2
              go_ret2
              rw [HR.out]
              exact Grows.givesB (v := .slice none 0 0) ⟨hG.1, Own.nil _ _⟩ rfl
            · rw [if_neg hbx, if_neg hby]
              have hbx2 : x ≤ 15 := by omega
              have hby2 : y ≤ 15 := by omega
              have HBX := Lib.hid hbx
              have HBY := Lib.hid hby
              clear hbx hby
              go_wp2_with (apply st_grow (w0 := w) (xs := done) (ys := [16 * x + y]); rfl; rfl; exact hG.alloc _; (intro h; cases h); exact Rd.ofBlk (Blk.new' wr _ _ 5 _ rfl rfl); (rw [HDL.out]; simp; omega); intro v2 w2 hG2)
              go_roundw
              case rel =>
                refine ⟨k + 1, done ++ [16 * x + y], ?_, by omega, by rw [List.length_append, HDL.out]; rfl, hG2, ?_⟩
                · congr 1
                · show unhexT s n 0 = (unhexT s (n - (k + 1)) (2 * (k + 1))).map fun l => (done ++ [16 * x + y]) ++ l
                  rw [HT.out, HS2.out, if_neg (fun h => h.elim HBX.out HBY.out)]
                  cases unhexT s (n - (k + 1)) (2 * (k + 1)) <;> simp
              case measure => simp [intOf]; omega
    · have e : k = n := by omega
      have hsome : unhexT s n 0 = some done := by
        rw [HT.out, e, Nat.sub_self]; simp [unhexT]
      by_cases ho : s.size = 2 * n
      · have HR := Lib.hid (unhexR_good s n done ho hsome)
        have hge : (s.size : Int) ≤ 2 * (k : Int) := by omega
        clear e hsome hdl ho
        go_wp2
        go_ret2
        rw [HR.out]
        exact hG.givesB (r := (done, true)) rfl
      · have HR := Lib.hid (unhexR_odd2 s n (by omega))
        have hge : 2 * (k : Int) < (s.size : Int) := by omega
        have b1 : (2 * (k : Int) + 1 == (s.size : Int)) = true := by rw [beq_iff_eq]; omega
        clear e hsome hdl ho
        go_wp2
        go_ret2
        rw [HR.out]
        exact Grows.givesB (v := .slice none 0 0) ⟨hG.1, Own.nil _ _⟩ rfl
end Go.Proofs.Ytabhilifliekmaa
