/- What the reference's small functions answer (inquestref01). No condition but the kinds' own bounds and lengths below 2^40. What the reference's Put and Get answer (inquestref01). No condition but the kinds' own bounds. What the reference's key answers (inquestref02). No condition. What the reference's First, three and Pad answer (inquestref02). No condition but the kinds' own bounds. -/
import Derived.Test.YtancldhincaphaaDoorGb
import Derived.Lib.EndianBits
import Derived.Test.YtancldhincaphaaDoorGc
namespace Go.Proofs.YtancldhincaphaaDoor
set_option maxRecDepth 100000
section Ref1
open Go.RowKit

/-- One place to the right. -/
def turn1 (x : Int) : Int := if x % 2 = 1 then x / 2 + 2147483648 else x / 2
def rotZ (x : Int) : Nat → Int
  | 0 => x
  | i + 1 => turn1 (rotZ x i)
theorem turn1_range (x : Int) (h0 : 0 ≤ x) (h1 : x < 4294967296) : 0 ≤ turn1 x ∧ turn1 x < 4294967296 := by unfold turn1; split <;> omega
theorem rotZ_range (x : Int) (h0 : 0 ≤ x) (h1 : x < 4294967296) (i : Nat) : 0 ≤ rotZ x i ∧ rotZ x i < 4294967296 := by
  induction i with
  | zero => exact ⟨h0, h1⟩
  | succ i ih => exact turn1_range _ ih.1 ih.2
theorem rotZ_nat (x i : Nat) (hi : i ≤ 32) : rotZ x i = ((x / 2 ^ i + x % 2 ^ i * 2 ^ (32 - i) : Nat) : Int) := by
  induction i with
  | zero => simp [rotZ, Nat.mod_one]
  | succ i ih =>
    have ih := ih (by omega)
    obtain ⟨a, ha⟩ : ∃ a, a = x / 2 ^ i := ⟨_, rfl⟩
    obtain ⟨b, hb⟩ : ∃ b, b = x % 2 ^ i := ⟨_, rfl⟩
    obtain ⟨p, hp⟩ : ∃ p, p = 2 ^ (31 - i) := ⟨_, rfl⟩
    have e1 : 2 ^ (32 - i) = 2 * p := by rw [hp, ← Nat.pow_succ', show 32 - i = (31 - i).succ by omega]
    have e2 : x / 2 ^ (i + 1) = a / 2 := by rw [ha, Nat.pow_succ, Nat.div_div_eq_div_mul]
    have e3 : x % 2 ^ (i + 1) = b + 2 ^ i * (a % 2) := by rw [hb, ha, Nat.pow_succ, Nat.mod_mul]
    have e4 : 2 ^ i * p = 2147483648 := by rw [hp, ← Nat.pow_add, show i + (31 - i) = 31 by omega]
    rw [rotZ, ih, ← ha, ← hb, e1, e2, e3, show 32 - (i + 1) = 31 - i by omega, ← hp]
    rw [Nat.add_mul, show 2 ^ i * (a % 2) * p = a % 2 * 2147483648 by rw [Nat.mul_right_comm, e4, Nat.mul_comm]]
    have e5 : b * (2 * p) = 2 * (b * p) := by rw [← Nat.mul_assoc, Nat.mul_comm b 2, Nat.mul_assoc]
    rw [e5]
    obtain ⟨c, hc⟩ : ∃ c, c = b * p := ⟨_, rfl⟩
    rw [← hc]
    unfold turn1
    split <;> omega
theorem turnZ_rot (x : Int) (n : Nat) (h0 : 0 ≤ x) (h1 : x < 4294967296) (hn : n < 32) : turnZ x n = rotZ x n := by
  obtain ⟨x, rfl⟩ := Int.eq_ofNat_of_zero_le h0
  have hx : x < 4294967296 := by omega
  rw [rotZ_nat x n (by omega)]
  unfold turnZ
  have e0 : ((n : Int)).toNat = n := rfl
  have e1 : (32 - (n : Int)).toNat = 32 - n := by omega
  rw [e0, e1]
  have p1 : (2 : Nat) ^ n * 2 ^ (32 - n) = 4294967296 := by rw [← Nat.pow_add, show n + (32 - n) = 32 by omega]
  have e2 : ((x : Int) / 2 ^ n) = ((x / 2 ^ n : Nat) : Int) := by simp
  have e3 : ((x : Int) * 2 ^ (32 - n) % 4294967296) = ((x % 2 ^ n * 2 ^ (32 - n) : Nat) : Int) := by
    rw [← Nat.mul_mod_mul_right, p1]; simp
  have lt1 : x / 2 ^ n < 2 ^ (32 - n) := by
    rw [Nat.div_lt_iff_lt_mul (Nat.two_pow_pos n), Nat.mul_comm, p1]; exact hx
  have lt2 : x % 2 ^ n * 2 ^ (32 - n) < 4294967296 := by
    rw [← p1]; exact Nat.mul_lt_mul_of_pos_right (Nat.mod_lt _ (Nat.two_pow_pos n)) (Nat.two_pow_pos _)
  have lt3 : x / 2 ^ n ≤ x := Nat.div_le_self _ _
  have lt4 : (x % 2 ^ n * 2 ^ (32 - n)) % 2 ^ (32 - n) = 0 := Nat.mul_mod_left _ _
  rw [e2, e3]
  obtain ⟨c, hc⟩ : ∃ c, c = x % 2 ^ n * 2 ^ (32 - n) := ⟨_, rfl⟩
  obtain ⟨d, hd⟩ : ∃ d, d = x / 2 ^ n := ⟨_, rfl⟩
  rw [← hc] at lt2 lt4 ⊢
  rw [← hd] at lt1 lt3 ⊢
  rw [bits_join_low .u32 32 (by decide) wraps_u32 (32 - n) (d : Int) (c : Int) (by omega) (by exact_mod_cast lt1) (by omega) (by omega) (by exact_mod_cast lt4) (by omega)]
  simp

set_option maxRecDepth 100000 in
set_option maxHeartbeats 1000000 in
theorem refturn_any (w : World) (x n : Int) (h0 : 0 ≤ x) (h1 : x < 4294967296) (hn0 : 0 ≤ n) (hn : n < 32) :
    Calls Tryd.prog 78 #[.int .u32 x, .int .i64 n] w fun e w' => e = .returned (.int .u32 (turnZ x n)) ∧ w = w' := by
  obtain ⟨n, rfl⟩ := Int.eq_ofNat_of_zero_le hn0
  have e1 : (((n : Int) % 32 + 32) % 32) = n := by omega
  have HR := Lib.hid (turnZ_rot x n h0 h1 (by omega))
  have HX := Lib.hid (rotZ_range x h0 h1)
  clear h0 h1
  go_enter Tryd.func78, Tryd.ntmps78
  go_wp2
  rw [e1]
  clear e1
  go_loopw [0, 5] (fun y i wr => ∃ k : Nat, i = .int .i64 k ∧ k ≤ n ∧ y = .int .u32 (rotZ x k) ∧ w = wr) (fun _ i _ => n - (intOf i).toNat)
  case atStart => exact ⟨0, rfl, by omega, rfl, rfl⟩
  case round =>
    obtain ⟨k, rfl, hk, rfl, rfl⟩ := hrel
    have hx := HX.out k
    obtain ⟨y, hy⟩ : ∃ y, y = rotZ x k := ⟨_, rfl⟩
    rw [← hy] at hx ⊢
    have HY := Lib.hid hy
    clear hy
    by_cases hlt : k < n
    · by_cases hb : y % 2 = 1
      · have b1 : (y % 2 == 1) = true := by simp [hb]
        go_wp2
        go_roundw
        case rel =>
          refine ⟨k + 1, by go_num, by omega, ?_, by trivial⟩
          rw [rotZ, ← HY.out, turn1, if_pos hb]
          try rfl
        case measure => simp [intOf]; omega
      · have b1 : (y % 2 == 1) = false := by simp [hb]
        go_wp2
        go_roundw
        case rel =>
          refine ⟨k + 1, by go_num, by omega, ?_, by trivial⟩
          rw [rotZ, ← HY.out, turn1, if_neg hb]
        case measure => simp [intOf]; omega
    · have e : k = n := by omega
      rw [e] at HY
      clear e
      go_wp2
      go_ret
      exact ⟨by rw [HR.out, HY.out]; rfl, rfl⟩

set_option maxRecDepth 100000 in
set_option maxHeartbeats 1000000 in
theorem refcopy_any (w : World) (A : Option Addr) (c : Nat) (bs : List Int) (hA : A = none → c = 0) (hr : Rd w A (nums .u8 bs)) (hl : bs.length ≤ 549755813888) :
    Calls Tryd.prog 28 #[.slice A bs.length c] w (Gives bs w) := by
  go_enter Tryd.func28, Tryd.ntmps28
  go_wp2_with (apply st_append (base := w.heap.size) (xs := []) (ys := bs); rfl; rfl; exact Own.nil _ _; exact hA; exact hr; (simp; omega); exact Nat.le_refl _; intro v2 w2 hown2 hg2)
  go_ret
  exact ⟨v2, rfl, below_grown (Below.refl _ _) (Own.nil _ _) hg2 (Nat.le_refl _) (Nat.le_refl _), hown2⟩

set_option maxRecDepth 100000 in
set_option maxHeartbeats 1000000 in
theorem refcut_any (w : World) (A : Option Addr) (l c n : Nat) (hc : l ≤ c) :
    Calls Tryd.prog 9 #[.slice A l c, .int .i64 n] w fun e w' => e = .returned (.slice A (min l n) c) ∧ w = w' := by
  by_cases h : n < l
  · go_enter Tryd.func9, Tryd.ntmps9
    go_wp2
    go_ret
    exact ⟨by rw [Nat.min_eq_right (by omega)]; rfl, rfl⟩
  · go_enter Tryd.func9, Tryd.ntmps9
    go_wp2
    go_ret
    exact ⟨by rw [Nat.min_eq_left (by omega)]; rfl, rfl⟩


set_option maxRecDepth 100000 in
set_option maxHeartbeats 1000000 in
theorem refsame_any (w : World) (A B : Option Addr) (c d : Nat) (xs ys : List Int) (hA : Rd w A (nums .u8 xs)) (hB : Rd w B (nums .u8 ys)) (hy : ys.length ≤ 1099511627776) :
    Calls Tryd.prog 12 #[.slice A xs.length c, .slice B ys.length d] w fun e w' => e = .returned (.bool (decide (xs = ys))) ∧ Below w.heap.size w w' := by
  by_cases hl : xs.length = ys.length
  · have b1 : ((xs.length : Int) != (ys.length : Int)) = false := by simp [hl]
    rw [hl] at b1 ⊢
    have HL := Lib.hid hl
    clear hl
    go_enter Tryd.func12, Tryd.ntmps12
    go_wp2
    clear b1
    go_loopw [5] (fun i wr => ∃ k : Nat, i = .int .i64 k ∧ k ≤ ys.length ∧ xs.take k = ys.take k ∧ Below w.heap.size w wr) (fun i _ => ys.length - (intOf i).toNat)
    case atStart => exact ⟨0, rfl, by omega, rfl, Below.refl _ _⟩
    case round =>
      obtain ⟨k, rfl, hk, htk, hb⟩ := hrel
      have HT := Lib.hid htk
      clear htk
      by_cases hlt : k < ys.length
      · obtain ⟨g, o, rfl, hg⟩ := hA.get (by rw [nums_length, HL.out]; omega)
        obtain ⟨g2, o2, rfl, hg2⟩ := hB.get (by rw [nums_length]; omega)
        have l1 : g < w.heap.size := World.block_lt_of_cell? (h := hg k _ (nums_at .u8 xs k (by rw [HL.out]; exact hlt)))
        have l2 : g2 < w.heap.size := World.block_lt_of_cell? (h := hg2 k _ (nums_at .u8 ys k hlt))
        have c1 : wr.cell? ⟨g, o + k, none⟩ = some (.int .u8 (ga xs k)) := by
          rw [hb.cell (p := ⟨g, o + k, none⟩) l1]; exact hg k _ (nums_at .u8 xs k (by rw [HL.out]; exact hlt))
        have c2 : wr.cell? ⟨g2, o2 + k, none⟩ = some (.int .u8 (ga ys k)) := by
          rw [hb.cell (p := ⟨g2, o2 + k, none⟩) l2]; exact hg2 k _ (nums_at .u8 ys k hlt)
        have s1 : xs.take (k + 1) = xs.take k ++ [ga xs k] := by
          rw [List.take_add_one, List.getElem?_eq_getElem (by rw [HL.out]; exact hlt)]
          simp [ga, HL.out, hlt]
        have s2 : ys.take (k + 1) = ys.take k ++ [ga ys k] := by
          rw [List.take_add_one, List.getElem?_eq_getElem hlt]
          simp [ga, hlt]
        have S1 := Lib.hid s1
        have S2 := Lib.hid s2
        clear s1 s2 hg hg2
        by_cases he : ga xs k = ga ys k
        · have b1 : (ga xs k != ga ys k) = false := by simp [he]
          have HE := Lib.hid he
          clear he
          go_wp2
          refine wp_region_C (Same [g, g2] wr) [] (by kernel_rfl) (by kernel_rfl) (by intro c a w h; first | (obtain ⟨_, h, _⟩ := h; cases h; done) | (obtain ⟨_, _, h, _⟩ := h; cases h; done) | (obtain ⟨_, _, _, h, _⟩ := h; cases h; done) | (obtain ⟨_, _, _, _, h, _⟩ := h; cases h; done) | (rcases h with ⟨_, ⟨_, _, _, _, h, _⟩ | ⟨_, _, _, _, h, _⟩⟩ <;> cases h; done)) (by intro a w h; first | (obtain ⟨h, _⟩ := h; cases h; done) | (obtain ⟨_, h, _⟩ := h; cases h; done) | (obtain ⟨_, _, h, _⟩ := h; cases h; done) | (obtain ⟨_, _, _, h, _⟩ := h; cases h; done) | (rcases h with ⟨_, _, _, _, h, _⟩ | ⟨_, _, _, _, h, _⟩ <;> cases h; done)) (Same.refl _ _) ?_
          repeat (refine wd_q (v := ?_) rfl rfl rfl rfl rfl rfl (fun w' hw' K hK => ?_) ?_; rotate_left; (have e1 := hw'.cell g (by simp); have e2 := hw'.cell g2 (by simp); go_wp2; exact rfl); simp only [Act.put, List.setIfInBounds_toArray, List.set_cons_zero, List.set_cons_succ])
          refine wd_nil ?_
          go_wp2
          go_roundw
          case rel => exact ⟨k + 1, by go_num, by omega, by rw [S1.out, S2.out, HT.out, HE.out], hb.drew⟩
          case measure => simp [intOf]; omega
        · have b1 : (ga xs k != ga ys k) = true := by simp [he]
          have hne : decide (xs = ys) = false := by
            rw [decide_eq_false_iff_not]
            rintro rfl
            exact he rfl
          have HE := Lib.hid hne
          clear he hne
          go_wp2
          refine wp_region_C (Same [g, g2] wr) [] (by kernel_rfl) (by kernel_rfl) (by intro c a w h; first | (obtain ⟨_, h, _⟩ := h; cases h; done) | (obtain ⟨_, _, h, _⟩ := h; cases h; done) | (obtain ⟨_, _, _, h, _⟩ := h; cases h; done) | (obtain ⟨_, _, _, _, h, _⟩ := h; cases h; done) | (rcases h with ⟨_, ⟨_, _, _, _, h, _⟩ | ⟨_, _, _, _, h, _⟩⟩ <;> cases h; done)) (by intro a w h; first | (obtain ⟨h, _⟩ := h; cases h; done) | (obtain ⟨_, h, _⟩ := h; cases h; done) | (obtain ⟨_, _, h, _⟩ := h; cases h; done) | (obtain ⟨_, _, _, h, _⟩ := h; cases h; done) | (rcases h with ⟨_, _, _, _, h, _⟩ | ⟨_, _, _, _, h, _⟩ <;> cases h; done)) (Same.refl _ _) ?_
          repeat (refine wd_q (v := ?_) rfl rfl rfl rfl rfl rfl (fun w' hw' K hK => ?_) ?_; rotate_left; (have e1 := hw'.cell g (by simp); have e2 := hw'.cell g2 (by simp); go_wp2; exact rfl); simp only [Act.put, List.setIfInBounds_toArray, List.set_cons_zero, List.set_cons_succ])
          refine wd_nil ?_
          go_wp2
          go_ret
          exact ⟨by rw [HE.out]; rfl, hb.drew⟩
      · have e : k = ys.length := by omega
        have hne : decide (xs = ys) = true := by
          have := HT.out
          rw [e, List.take_length, ← HL.out, List.take_length] at this
          simp [this]
        have HE := Lib.hid hne
        clear hne
        go_wp2
        go_ret
        exact ⟨by rw [HE.out]; rfl, hb⟩
  · have b1 : ((xs.length : Int) != (ys.length : Int)) = true := by simp; omega
    have hne : decide (xs = ys) = false := by
      rw [decide_eq_false_iff_not]
      rintro rfl
      exact hl rfl
    go_enter Tryd.func12, Tryd.ntmps12
    go_wp2
    go_ret
    exact ⟨by rw [hne]; rfl, Below.refl _ _⟩
end Ref1
section RefP
open Go.RowKit

theorem putF_len (x : Int) (n : Nat) : (putF x n).length = n := putTo_len x n n
theorem putF_at (x : Int) (n i : Nat) (h : i < n) : (putF x n).take (i + 1) = (putF x n).take i ++ [x / 256 ^ (n - 1 - i) % 256] := by
  rw [List.take_add_one, List.getElem?_eq_getElem (by rw [putF_len]; exact h)]
  simp [putF, putTo]

/-- The call's own bytes, and all that was there is as it was. -/
def Grows (w : World) (bs : List Int) (v : Value) (w' : World) : Prop := Below w.heap.size w w' ∧ Own w' w.heap.size v bs
theorem Grows.alloc {w w' : World} {bs : List Int} {v : Value} (h : Grows w bs v w') (o : Obj) : Grows w bs v (w'.alloc o) :=
  ⟨h.1.alloc h.1.size _, h.2.kept ((Below.refl _ _).alloc (Nat.le_refl _) _)⟩
theorem Grows.nil (w : World) : Grows w [] (.slice none 0 0) w := ⟨Below.refl _ _, Own.nil _ _⟩
theorem Grows.drew {w w' : World} {bs : List Int} {v : Value} (h : Grows w bs v w') : Grows w bs v w'.drew := ⟨h.1.drew, h.2.kept (Below.refl _ _).drew⟩
theorem Grows.up {w w' w'' : World} {bs : List Int} {v : Value} (h : Grows w bs v w') (hb : Below w'.heap.size w' w'') : Grows w bs v w'' :=
  ⟨h.1.trans (hb.mono h.1.size), h.2.kept hb⟩
theorem Grows.gives {w w' : World} {bs : List Int} {v : Value} (h : Grows w bs v w') : Gives bs w (.returned v) w' := ⟨v, rfl, h.1, h.2⟩

/-- append(x, y...) of bytes, x the call's own: as it goes on. -/
theorem st_grow {ops : Array Oper} {rest : List Oper} {a : Act} {w w0 : World} {Q : Exit → Act → World → Prop} {d' : Option Tmp} {tt : TypeId} {s x : Operand} {pos : String} {after : Array Edge} {v : Value} {A : Option Addr} {c : Nat} {xs ys : List Int}
    (hs : a.eval s = v) (hx : a.eval x = .slice A ys.length c) (hg : Grows w0 xs v w) (hn : A = none → c = 0) (hr : Rd w A (nums .u8 ys)) (hl : xs.length + ys.length ≤ 1099511627776)
    (h : ∀ v' w', Grows w0 (xs ++ ys) v' w' → wpList Tryd.prog ops Q rest (a.put d' v') w') :
    wpList Tryd.prog ops Q (⟨d', .call ⟨.builtin .append, #[s, x], #[22, 22]⟩, tt, pos, after, none⟩ :: rest) a w :=
  st_append hs hx hg.2 hn hr hl hg.1.size fun v' w' ho hgr => h v' w' ⟨below_grown hg.1 hg.2 hgr (Nat.le_refl _) hg.1.size, ho⟩

set_option maxRecDepth 100000 in
set_option maxHeartbeats 1000000 in
theorem refput_any (w : World) (x : Int) (n : Nat) (hx : 0 ≤ x) (hx2 : x < 18446744073709551616) (h1 : 1 ≤ n) (h8 : n ≤ 8) :
    Calls Tryd.prog 38 #[.int .u64 x, .int .i64 n] w (Gives (putF x n) w) := by
  have hdec : ∀ k, 0 ≤ x / 256 ^ k ∧ x / 256 ^ k < 18446744073709551616 := by
    intro k
    have hp : (0 : Int) < 256 ^ k := Int.pow_pos (by decide)
    refine ⟨Int.ediv_nonneg hx (Int.le_of_lt hp), ?_⟩
    have : x / 256 ^ k ≤ x := Int.ediv_le_self _ hx
    omega
  have HD := Lib.hid hdec
  have HX := Lib.hid hx
  have HX2 := Lib.hid hx2
  clear hx hx2 hdec
  go_enter Tryd.func38, Tryd.ntmps38
  go_wp2
  go_loopw [5, 6] (fun v i wr => ∃ k : Nat, i = .int .i64 k ∧ k ≤ n ∧ Grows w ((putF x n).take k) v wr) (fun _ i _ => n - (intOf i).toNat)
  case atStart => exact ⟨0, rfl, by omega, by rw [List.take_zero]; exact Grows.nil _⟩
  case round =>
    obtain ⟨k, rfl, hk, hG⟩ := hrel
    by_cases hlt : k < n
    · go_wp2
      go_loopw [7, 8] (fun y j wr' => ∃ m : Nat, j = .int .i64 m ∧ k + 1 ≤ m ∧ m ≤ n ∧ y = .int .u64 (x / 256 ^ (m - (k + 1))) ∧ wr = wr') (fun _ j _ => n - (intOf j).toNat)
      case atStart => exact ⟨k + 1, by simp, by omega, by omega, by simp, rfl⟩
      case round =>
        obtain ⟨m, rfl, hm1, hm2, rfl, rfl⟩ := hrel
        have hy := HD.out (m - (k + 1))
        obtain ⟨y, hy2⟩ : ∃ y, y = x / 256 ^ (m - (k + 1)) := ⟨_, rfl⟩
        rw [← hy2] at hy ⊢
        have HY := Lib.hid hy2
        clear hy2
        by_cases hlm : m < n
        · go_wp2
          go_roundw
          case rel =>
            refine ⟨m + 1, by go_num, by omega, by omega, ?_, by trivial⟩
            rw [HY.out, pow_step, show m - (k + 1) + 1 = m + 1 - (k + 1) by omega]
          case measure => simp [intOf]; omega
        · have e : m = n := by omega
          subst e
          go_wp2_with (first
            | (apply st_grow (w0 := w) (xs := (putF x m).take k) (ys := [y % 256]); rfl; rfl; exact hG.alloc _; (intro h; cases h); exact Rd.ofBlk (Blk.new' _ _ _ 5 _ rfl rfl); (rw [List.length_take, putF_len]; simp; omega); intro v2 w2 hG2))
          go_roundw
          case rel =>
            refine ⟨k + 1, by go_num, by omega, ?_⟩
            rw [putF_at _ _ _ hlt, show m - 1 - k = m - (k + 1) by omega, ← HY.out]
            exact hG2
          case measure => simp [intOf]; omega
    · have e : k = n := by omega
      rw [e, List.take_of_length_le (by rw [putF_len]; exact Nat.le_refl _)] at hG
      clear e
      go_wp2
      go_ret
      exact hG.gives

/-- The number that the first so many bytes are. -/
def getTo (bs : List Int) : Nat → Int
  | 0 => 0
  | k + 1 => (256 * getTo bs k + ga bs k) % 18446744073709551616

set_option maxRecDepth 100000 in
set_option maxHeartbeats 1000000 in
theorem refget_any (w : World) (A : Option Addr) (c : Nat) (bs : List Int) (hr : Rd w A (nums .u8 bs)) (h1 : 1 ≤ bs.length) (h8 : bs.length ≤ 8) :
    Calls Tryd.prog 77 #[.slice A bs.length c] w fun e w' => e = .returned (.tuple #[.int .u64 (getTo bs bs.length), .bool true]) ∧ w = w' := by
  obtain ⟨g, o, rfl, hg⟩ := hr.get (by rw [nums_length]; omega)
  have HG := Lib.hid hg
  clear hg hr
  go_enter Tryd.func77, Tryd.ntmps77
  go_wp2
  go_loopw [4, 5] (fun x i wr => ∃ k : Nat, i = .int .i64 k ∧ k ≤ bs.length ∧ x = .int .u64 (getTo bs k) ∧ w = wr) (fun _ i _ => bs.length - (intOf i).toNat)
  case atStart => exact ⟨0, rfl, by omega, rfl, rfl⟩
  case round =>
    obtain ⟨k, rfl, hk, rfl, rfl⟩ := hrel
    obtain ⟨y, hy⟩ : ∃ y, y = getTo bs k := ⟨_, rfl⟩
    rw [← hy]
    have HY := Lib.hid hy
    clear hy
    by_cases hlt : k < bs.length
    · have c1 := HG.out k _ (nums_at .u8 bs k hlt)
      rw [← ga_eq] at c1
      go_wp2
      go_roundw
      case rel =>
        refine ⟨k + 1, by go_num, by omega, ?_, by trivial⟩
        rw [getTo, ← HY.out, wu, wu, wu]
        congr 1
        omega
      case measure => simp [intOf]; omega
    · have e : k = bs.length := by omega
      rw [e] at HY
      clear e
      go_wp2
      go_ret2
      exact ⟨by rw [← HY.out]; rfl, rfl⟩
end RefP
section RefK
open Go.RowKit

theorem KS_len : KS.length = 64 := rfl
set_option maxRecDepth 100000 in
set_option maxHeartbeats 1000000 in
set_option maxRecDepth 100000 in
theorem refkey_any (w : World) (i : Nat) (hi : i < 64) :
    Calls Tryd.prog 80 #[.int .i64 i] w fun e w' => e = .returned (.int .u32 (ga KS i)) ∧ Below w.heap.size w w' := by
  go_enter Tryd.func80, Tryd.ntmps80
  go_wp2_with (first
    | (apply st_storeW (off := 0) (vs := nums .u32 KS) (cs := nums .u32 (List.replicate 64 0)) (T := 126); rfl; rfl; exact Blk.new' _ _ _ _ _ rfl rfl; (rw [nums_length, KS_len]; kernel_rfl); (rw [nums_length, nums_length, KS_len]; decide); exact nums_one _ _;
       intro w1 hb1 hw1; rw [laid_all _ _ (by rw [nums_length, nums_length, KS_len]; rfl)] at hb1;
       have c1 := hb1.num i (by rw [KS_len]; exact hi); have hB1 := Wrote.below ((Below.refl w.heap.size w).alloc (Nat.le_refl _) _) hw1 (Nat.le_refl _)))
  go_ret
  exact ⟨rfl, hB1⟩
end RefK
section Ref2
open Go.RowKit

set_option maxRecDepth 100000 in
set_option maxHeartbeats 400000 in
theorem reffirst_any (w : World) :
    Calls Tryd.prog 55 #[] w fun e w' => e = .returned (.agg (nums .u32 FIRST).toArray) ∧ Below w.heap.size w w' := by
  go_enter Tryd.func55, Tryd.ntmps55
  go_wp2
  refine bodyPost_ret (ret_row rfl _ _ _ (nums .u32 FIRST) 91 _ rfl (Blk.new' _ _ _ _ _ rfl rfl) Tryd.underlying91 rfl (by kernel_rfl)) rfl ⟨rfl, (Below.refl _ _).alloc (Nat.le_refl _) _⟩

set_option maxRecDepth 100000 in
set_option maxHeartbeats 400000 in
theorem refthree_any (w : World) (x a b c : Int) (h0 : 0 ≤ x) (h1 : x < 4294967296) (ha : 0 ≤ a) (ha2 : a < 32) (hb : 0 ≤ b) (hb2 : b < 32) (hc : 0 ≤ c) (hc2 : c < 32) :
    Calls Tryd.prog 79 #[.int .u32 x, .int .i64 a, .int .i64 b, .int .i64 c] w fun e w' => e = .returned (.int .u32 (bits .xor .u32 (bits .xor .u32 (turnZ x a) (turnZ x b)) (turnZ x c))) ∧ w = w' := by
  go_enter Tryd.func79, Tryd.ntmps79
  go_wp2_with (go_at_call 78; refine (refturn_any _ _ _ h0 h1 (by assumption) (by assumption)).mono ?_; rintro e w' ⟨rfl, rfl⟩)
  go_ret
  exact ⟨rfl, rfl⟩

set_option maxRecDepth 100000 in
set_option maxHeartbeats 1000000 in
theorem refpad_any (w : World) (n : Int) :
    Calls Tryd.prog 54 #[.int .u64 n] w (Gives (padF n) w) := by
  obtain ⟨q, hq⟩ : ∃ q, q = noughts n := ⟨_, rfl⟩
  have hq2 : (q : Int) = (119 - n % 64) % 64 := by rw [hq]; unfold noughts; omega
  have hq63 : q < 64 := by omega
  go_enter Tryd.func54, Tryd.ntmps54
  go_wp2
  go_loopw [3] (fun v wr => ∃ (k : Nat) (A : Option Addr) (c : Nat), v = .slice A (1 + k : Nat) c ∧ k ≤ q ∧ Grows w (128 :: List.replicate k 0) v wr) (fun v _ => q + 1 - lenV v)
  case atStart => exact ⟨0, _, _, rfl, by omega, (Below.refl _ _).alloc (Nat.le_refl _) _, Own.ofBlk (bs := [128]) (Blk.new' _ _ _ _ _ rfl rfl) (Nat.le_refl _) (by decide)⟩
  case round =>
    obtain ⟨k, A, c, rfl, hk, hG⟩ := hrel
    by_cases hlt : k < q
    · have b1 : ((IntKind.u64.wrap (IntKind.u64.wrap (n + (1 + (k : Int))) + 8)).tmod 64 != 0) = true := by
        rw [wu, wu, Int.tmod_eq_emod_of_nonneg (by omega)]; simp; omega
      have HQ := Lib.hid hq2
      clear hq2
      go_wp2_with (apply st_grow (w0 := w) (xs := 128 :: List.replicate k 0) (ys := [0]); rfl; rfl; exact hG.alloc _; (intro h; cases h); exact Rd.ofBlk (Blk.new' _ _ _ 5 _ rfl rfl); (simp; omega); intro v2 w2 hG2)
      go_roundw
      case rel =>
        obtain ⟨A2, c2, rfl, h2, _, _, _⟩ := hG2.2.from
        refine ⟨k + 1, A2, c2, ?_, by omega, ?_⟩
        · congr 1; simp; omega
        · have : (128 :: List.replicate k 0 ++ [0] : List Int) = 128 :: List.replicate (k + 1) 0 := by
            rw [List.cons_append, List.replicate_succ']
          rw [← this]; exact hG2
      case measure =>
        obtain ⟨A2, c2, rfl, h2, _, _, _⟩ := hG2.2.from
        simp [lenV]; omega
    · have e : k = q := by omega
      have b1 : ((IntKind.u64.wrap (IntKind.u64.wrap (n + (1 + (k : Int))) + 8)).tmod 64 != 0) = false := by
        rw [wu, wu, Int.tmod_eq_emod_of_nonneg (by omega)]; simp; omega
      have HE := Lib.hid (e.trans hq)
      clear hq2 e hq hlt
      go_wp2_with (first
        | (go_at_call 38; refine (refput_any _ (IntKind.u64.wrap (8 * n)) 8 (by rw [wu]; omega) (by rw [wu]; omega) (by omega) (by omega)).mono ?_; rintro e w2 ⟨v2, rfl, hb2, ho2⟩;
           obtain ⟨A2, c2, rfl, h2, hA2, hR2, _⟩ := ho2.from)
        | (apply st_grow (w0 := w) (xs := 128 :: List.replicate k 0) (ys := putF (IntKind.u64.wrap (8 * n)) 8); rfl; rfl; exact hG.up hb2; exact hA2; exact hR2; (rw [putF_len]; simp; omega); intro v3 w3 hG3))
      rw [wu, HE.out] at hG3
      go_ret
      exact hG3.gives
end Ref2
end Go.Proofs.YtancldhincaphaaDoor
