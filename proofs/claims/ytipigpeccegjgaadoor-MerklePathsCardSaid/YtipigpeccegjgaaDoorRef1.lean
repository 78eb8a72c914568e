/- What the reference's small functions answer (inquestref01). No condition but the kinds' own bounds and lengths below 2^40. -/
import Derived.Test.YtipigpeccegjgaaDoorPad
import Derived.Lib.EndianBits
namespace Go.Proofs.YtipigpeccegjgaaDoor
open Go.RowKit

/-- One place to the right. -/
def turn1 (x : Int) : Int := if x % 2 = 1 then x / 2 + 2147483648 else x / 2
def rotZ (x : Int) : Nat → Int
  | 0 => x
  | i + 1 => turn1 (rotZ x i)
theorem turn1_range (x : Int) (h0 : 0 ≤ x) (h1 : x < 4294967296) : 0 ≤ turn1 x ∧ turn1 x < 4294967296 := by unfold turn1; split <;> omega
theorem rotZ_range (x : Int) (h0 : 0 ≤ x) (h1 : x < 4294967296) (i : Nat) : 0 ≤ rotZ x i ∧ rotZ x i < 4294967296 := by
  induction i with
  | zero => exact ⟨h0, h1⟩
  | succ i ih => exact turn1_range _ ih.1 ih.2
theorem rotZ_nat (x i : Nat) (hi : i ≤ 32) : rotZ x i = ((x / 2 ^ i + x % 2 ^ i * 2 ^ (32 - i) : Nat) : Int) := by
  induction i with
  | zero => simp [rotZ, Nat.mod_one]
  | succ i ih =>
    have ih := ih (by omega)
    obtain ⟨a, ha⟩ : ∃ a, a = x / 2 ^ i := ⟨_, rfl⟩
    obtain ⟨b, hb⟩ : ∃ b, b = x % 2 ^ i := ⟨_, rfl⟩
    obtain ⟨p, hp⟩ : ∃ p, p = 2 ^ (31 - i) := ⟨_, rfl⟩
    have e1 : 2 ^ (32 - i) = 2 * p := by rw [hp, ← Nat.pow_succ', show 32 - i = (31 - i).succ by omega]
    have e2 : x / 2 ^ (i + 1) = a / 2 := by rw [ha, Nat.pow_succ, Nat.div_div_eq_div_mul]
    have e3 : x % 2 ^ (i + 1) = b + 2 ^ i * (a % 2) := by rw [hb, ha, Nat.pow_succ, Nat.mod_mul]
    have e4 : 2 ^ i * p = 2147483648 := by rw [hp, ← Nat.pow_add, show i + (31 - i) = 31 by omega]
    rw [rotZ, ih, ← ha, ← hb, e1, e2, e3, show 32 - (i + 1) = 31 - i by omega, ← hp]
    rw [Nat.add_mul, show 2 ^ i * (a % 2) * p = a % 2 * 2147483648 by rw [Nat.mul_right_comm, e4, Nat.mul_comm]]
    have e5 : b * (2 * p) = 2 * (b * p) := by rw [← Nat.mul_assoc, Nat.mul_comm b 2, Nat.mul_assoc]
    rw [e5]
    obtain ⟨c, hc⟩ : ∃ c, c = b * p := ⟨_, rfl⟩
    rw [← hc]
    unfold turn1
    split <;> omega
theorem turnZ_rot (x : Int) (n : Nat) (h0 : 0 ≤ x) (h1 : x < 4294967296) (hn : n < 32) : turnZ x n = rotZ x n := by
  obtain ⟨x, rfl⟩ := Int.eq_ofNat_of_zero_le h0
  have hx : x < 4294967296 := by omega
  rw [rotZ_nat x n (by omega)]
  unfold turnZ
  have e0 : ((n : Int)).toNat = n := rfl
  have e1 : (32 - (n : Int)).toNat = 32 - n := by omega
  rw [e0, e1]
  have p1 : (2 : Nat) ^ n * 2 ^ (32 - n) = 4294967296 := by rw [← Nat.pow_add, show n + (32 - n) = 32 by omega]
  have e2 : ((x : Int) / 2 ^ n) = ((x / 2 ^ n : Nat) : Int) := by simp
  have e3 : ((x : Int) * 2 ^ (32 - n) % 4294967296) = ((x % 2 ^ n * 2 ^ (32 - n) : Nat) : Int) := by
    rw [← Nat.mul_mod_mul_right, p1]; simp
  have lt1 : x / 2 ^ n < 2 ^ (32 - n) := by
    rw [Nat.div_lt_iff_lt_mul (Nat.two_pow_pos n), Nat.mul_comm, p1]; exact hx
  have lt2 : x % 2 ^ n * 2 ^ (32 - n) < 4294967296 := by
    rw [← p1]; exact Nat.mul_lt_mul_of_pos_right (Nat.mod_lt _ (Nat.two_pow_pos n)) (Nat.two_pow_pos _)
  have lt3 : x / 2 ^ n ≤ x := Nat.div_le_self _ _
  have lt4 : (x % 2 ^ n * 2 ^ (32 - n)) % 2 ^ (32 - n) = 0 := Nat.mul_mod_left _ _
  rw [e2, e3]
  obtain ⟨c, hc⟩ : ∃ c, c = x % 2 ^ n * 2 ^ (32 - n) := ⟨_, rfl⟩
  obtain ⟨d, hd⟩ : ∃ d, d = x / 2 ^ n := ⟨_, rfl⟩
  rw [← hc] at lt2 lt4 ⊢
  rw [← hd] at lt1 lt3 ⊢
  rw [bits_join_low .u32 32 (by decide) wraps_u32 (32 - n) (d : Int) (c : Int) (by omega) (by exact_mod_cast lt1) (by omega) (by omega) (by exact_mod_cast lt4) (by omega)]
  simp

set_option maxHeartbeats 1000000 in
theorem refturn_any (w : World) (x n : Int) (h0 : 0 ≤ x) (h1 : x < 4294967296) (hn0 : 0 ≤ n) (hn : n < 32) :
    Calls Tryd.prog 55 #[.int .u32 x, .int .i64 n] w fun e w' => e = .returned (.int .u32 (turnZ x n)) ∧ w = w' := by
  obtain ⟨n, rfl⟩ := Int.eq_ofNat_of_zero_le hn0
  have e1 : (((n : Int) % 32 + 32) % 32) = n := by omega
  have HR := Lib.hid (turnZ_rot x n h0 h1 (by omega))
  have HX := Lib.hid (rotZ_range x h0 h1)
  clear h0 h1
  go_enter Tryd.func55, Tryd.ntmps55
  go_wp2
  rw [e1]
  clear e1
  go_loopw [0, 5] (fun y i wr => ∃ k : Nat, i = .int .i64 k ∧ k ≤ n ∧ y = .int .u32 (rotZ x k) ∧ w = wr) (fun _ i _ => n - (intOf i).toNat)
  case atStart => exact ⟨0, rfl, by omega, rfl, rfl⟩
  case round =>
    obtain ⟨k, rfl, hk, rfl, rfl⟩ := hrel
    have hx := HX.out k
    obtain ⟨y, hy⟩ : ∃ y, y = rotZ x k := ⟨_, rfl⟩
    rw [← hy] at hx ⊢
    have HY := Lib.hid hy
    clear hy
    by_cases hlt : k < n
    · by_cases hb : y % 2 = 1
      · have b1 : (y % 2 == 1) = true := by simp [hb]
        go_wp2
        go_roundw
        case rel =>
          refine ⟨k + 1, by go_num, by omega, ?_, by trivial⟩
          rw [rotZ, ← HY.out, turn1, if_pos hb]
          try rfl
        case measure => simp [intOf]; omega
      · have b1 : (y % 2 == 1) = false := by simp [hb]
        go_wp2
        go_roundw
        case rel =>
          refine ⟨k + 1, by go_num, by omega, ?_, by trivial⟩
          rw [rotZ, ← HY.out, turn1, if_neg hb]
        case measure => simp [intOf]; omega
    · have e : k = n := by omega
      rw [e] at HY
      clear e
      go_wp2
      go_ret
      exact ⟨by rw [HR.out, HY.out]; rfl, rfl⟩

set_option maxHeartbeats 1000000 in
theorem refcopy_any (w : World) (A : Option Addr) (c : Nat) (bs : List Int) (hA : A = none → c = 0) (hr : Rd w A (nums .u8 bs)) (hl : bs.length ≤ 549755813888) :
    Calls Tryd.prog 19 #[.slice A bs.length c] w (Gives bs w) := by
  go_enter Tryd.func19, Tryd.ntmps19
  go_wp2_with (apply st_append (base := w.heap.size) (xs := []) (ys := bs); rfl; rfl; exact Own.nil _ _; exact hA; exact hr; (simp; omega); exact Nat.le_refl _; intro v2 w2 hown2 hg2)
  go_ret
  exact ⟨v2, rfl, below_grown (Below.refl _ _) (Own.nil _ _) hg2 (Nat.le_refl _) (Nat.le_refl _), hown2⟩

set_option maxHeartbeats 1000000 in
theorem refcut_any (w : World) (A : Option Addr) (l c n : Nat) (hc : l ≤ c) :
    Calls Tryd.prog 18 #[.slice A l c, .int .i64 n] w fun e w' => e = .returned (.slice A (min l n) c) ∧ w = w' := by
  by_cases h : n < l
  · go_enter Tryd.func18, Tryd.ntmps18
    go_wp2
    go_ret
    exact ⟨by rw [Nat.min_eq_right (by omega)]; rfl, rfl⟩
  · go_enter Tryd.func18, Tryd.ntmps18
    go_wp2
    go_ret
    exact ⟨by rw [Nat.min_eq_left (by omega)]; rfl, rfl⟩


set_option maxHeartbeats 1000000 in
theorem refsame_any (w : World) (A B : Option Addr) (c d : Nat) (xs ys : List Int) (hA : Rd w A (nums .u8 xs)) (hB : Rd w B (nums .u8 ys)) (hy : ys.length ≤ 1099511627776) :
    Calls Tryd.prog 22 #[.slice A xs.length c, .slice B ys.length d] w fun e w' => e = .returned (.bool (decide (xs = ys))) ∧ Below w.heap.size w w' := by
  by_cases hl : xs.length = ys.length
  · have b1 : ((xs.length : Int) != (ys.length : Int)) = false := by simp [hl]
    rw [hl] at b1 ⊢
    have HL := Lib.hid hl
    clear hl
    go_enter Tryd.func22, Tryd.ntmps22
    go_wp2
    clear b1
    go_loopw [5] (fun i wr => ∃ k : Nat, i = .int .i64 k ∧ k ≤ ys.length ∧ xs.take k = ys.take k ∧ Below w.heap.size w wr) (fun i _ => ys.length - (intOf i).toNat)
    case atStart => exact ⟨0, rfl, by omega, rfl, Below.refl _ _⟩
    case round =>
      obtain ⟨k, rfl, hk, htk, hb⟩ := hrel
      have HT := Lib.hid htk
      clear htk
      by_cases hlt : k < ys.length
      · obtain ⟨g, o, rfl, hg⟩ := hA.get (by rw [nums_length, HL.out]; omega)
        obtain ⟨g2, o2, rfl, hg2⟩ := hB.get (by rw [nums_length]; omega)
        have l1 : g < w.heap.size := World.block_lt_of_cell? (h := hg k _ (nums_at .u8 xs k (by rw [HL.out]; exact hlt)))
        have l2 : g2 < w.heap.size := World.block_lt_of_cell? (h := hg2 k _ (nums_at .u8 ys k hlt))
        have c1 : wr.cell? ⟨g, o + k, none⟩ = some (.int .u8 (ga xs k)) := by
          rw [hb.cell (p := ⟨g, o + k, none⟩) l1]; exact hg k _ (nums_at .u8 xs k (by rw [HL.out]; exact hlt))
        have c2 : wr.cell? ⟨g2, o2 + k, none⟩ = some (.int .u8 (ga ys k)) := by
          rw [hb.cell (p := ⟨g2, o2 + k, none⟩) l2]; exact hg2 k _ (nums_at .u8 ys k hlt)
        have s1 : xs.take (k + 1) = xs.take k ++ [ga xs k] := by
          rw [List.take_add_one, List.getElem?_eq_getElem (by rw [HL.out]; exact hlt)]
          simp [ga, HL.out, hlt]
        have s2 : ys.take (k + 1) = ys.take k ++ [ga ys k] := by
          rw [List.take_add_one, List.getElem?_eq_getElem hlt]
          simp [ga, hlt]
        have S1 := Lib.hid s1
        have S2 := Lib.hid s2
        clear s1 s2 hg hg2
        by_cases he : ga xs k = ga ys k
        · have b1 : (ga xs k != ga ys k) = false := by simp [he]
          have HE := Lib.hid he
          clear he
          go_wp2
          refine wp_region_C (Same [g, g2] wr) [] (by kernel_rfl) (by kernel_rfl) (by intro c a w h; first | (obtain ⟨_, h, _⟩ := h; cases h; done) | (obtain ⟨_, _, h, _⟩ := h; cases h; done)) (by intro a w h; first | (obtain ⟨h, _⟩ := h; cases h; done) | (obtain ⟨_, h, _⟩ := h; cases h; done)) (Same.refl _ _) ?_
          repeat (refine wd_q (v := ?_) rfl rfl rfl rfl rfl rfl (fun w' hw' K hK => ?_) ?_; rotate_left; (have e1 := hw'.cell g (by simp); have e2 := hw'.cell g2 (by simp); go_wp2; exact rfl); simp only [Act.put, List.setIfInBounds_toArray, List.set_cons_zero, List.set_cons_succ])
          refine wd_nil ?_
          go_wp2
          go_roundw
          case rel => exact ⟨k + 1, by go_num, by omega, by rw [S1.out, S2.out, HT.out, HE.out], hb.drew⟩
          case measure => simp [intOf]; omega
        · have b1 : (ga xs k != ga ys k) = true := by simp [he]
          have hne : decide (xs = ys) = false := by
            rw [decide_eq_false_iff_not]
            rintro rfl
            exact he rfl
          have HE := Lib.hid hne
          clear he hne
          go_wp2
          refine wp_region_C (Same [g, g2] wr) [] (by kernel_rfl) (by kernel_rfl) (by intro c a w h; first | (obtain ⟨_, h, _⟩ := h; cases h; done) | (obtain ⟨_, _, h, _⟩ := h; cases h; done)) (by intro a w h; first | (obtain ⟨h, _⟩ := h; cases h; done) | (obtain ⟨_, h, _⟩ := h; cases h; done)) (Same.refl _ _) ?_
          repeat (refine wd_q (v := ?_) rfl rfl rfl rfl rfl rfl (fun w' hw' K hK => ?_) ?_; rotate_left; (have e1 := hw'.cell g (by simp); have e2 := hw'.cell g2 (by simp); go_wp2; exact rfl); simp only [Act.put, List.setIfInBounds_toArray, List.set_cons_zero, List.set_cons_succ])
          refine wd_nil ?_
          go_wp2
          go_ret
          exact ⟨by rw [HE.out]; rfl, hb.drew⟩
      · have e : k = ys.length := by omega
        have hne : decide (xs = ys) = true := by
          have := HT.out
          rw [e, List.take_length, ← HL.out, List.take_length] at this
          simp [this]
        have HE := Lib.hid hne
        clear hne
        go_wp2
        go_ret
        exact ⟨by rw [HE.out]; rfl, hb⟩
  · have b1 : ((xs.length : Int) != (ys.length : Int)) = true := by simp; omega
    have hne : decide (xs = ys) = false := by
      rw [decide_eq_false_iff_not]
      rintro rfl
      exact hl rfl
    go_enter Tryd.func22, Tryd.ntmps22
    go_wp2
    go_ret
    exact ⟨by rw [hne]; rfl, Below.refl _ _⟩
end Go.Proofs.YtipigpeccegjgaaDoor
