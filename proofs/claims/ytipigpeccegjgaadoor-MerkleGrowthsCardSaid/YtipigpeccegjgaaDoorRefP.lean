/- What the reference's Put and Get answer (inquestref01). No condition but the kinds' own bounds. -/
import Derived.Test.YtipigpeccegjgaaDoorRef1
namespace Go.Proofs.YtipigpeccegjgaaDoor
open Go.RowKit

theorem putF_len (x : Int) (n : Nat) : (putF x n).length = n := putTo_len x n n
theorem putF_at (x : Int) (n i : Nat) (h : i < n) : (putF x n).take (i + 1) = (putF x n).take i ++ [x / 256 ^ (n - 1 - i) % 256] := by
  rw [List.take_add_one, List.getElem?_eq_getElem (by rw [putF_len]; exact h)]
  simp [putF, putTo]

/-- The call's own bytes, and all that was there is as it was. -/
def Grows (w : World) (bs : List Int) (v : Value) (w' : World) : Prop := Below w.heap.size w w' ∧ Own w' w.heap.size v bs
theorem Grows.alloc {w w' : World} {bs : List Int} {v : Value} (h : Grows w bs v w') (o : Obj) : Grows w bs v (w'.alloc o) :=
  ⟨h.1.alloc h.1.size _, h.2.kept ((Below.refl _ _).alloc (Nat.le_refl _) _)⟩
theorem Grows.nil (w : World) : Grows w [] (.slice none 0 0) w := ⟨Below.refl _ _, Own.nil _ _⟩
theorem Grows.drew {w w' : World} {bs : List Int} {v : Value} (h : Grows w bs v w') : Grows w bs v w'.drew := ⟨h.1.drew, h.2.kept (Below.refl _ _).drew⟩
theorem Grows.up {w w' w'' : World} {bs : List Int} {v : Value} (h : Grows w bs v w') (hb : Below w'.heap.size w' w'') : Grows w bs v w'' :=
  ⟨h.1.trans (hb.mono h.1.size), h.2.kept hb⟩
theorem Grows.gives {w w' : World} {bs : List Int} {v : Value} (h : Grows w bs v w') : Gives bs w (.returned v) w' := ⟨v, rfl, h.1, h.2⟩

/-- append(x, y...) of bytes, x the call's own: as it goes on. -/
theorem st_grow {ops : Array Oper} {rest : List Oper} {a : Act} {w w0 : World} {Q : Exit → Act → World → Prop} {d' : Option Tmp} {tt : TypeId} {s x : Operand} {pos : String} {after : Array Edge} {v : Value} {A : Option Addr} {c : Nat} {xs ys : List Int}
    (hs : a.eval s = v) (hx : a.eval x = .slice A ys.length c) (hg : Grows w0 xs v w) (hn : A = none → c = 0) (hr : Rd w A (nums .u8 ys)) (hl : xs.length + ys.length ≤ 1099511627776)
    (h : ∀ v' w', Grows w0 (xs ++ ys) v' w' → wpList Tryd.prog ops Q rest (a.put d' v') w') :
    wpList Tryd.prog ops Q (⟨d', .call ⟨.builtin .append, #[s, x], #[32, 32]⟩, tt, pos, after, none⟩ :: rest) a w :=
  st_append hs hx hg.2 hn hr hl hg.1.size fun v' w' ho hgr => h v' w' ⟨below_grown hg.1 hg.2 hgr (Nat.le_refl _) hg.1.size, ho⟩

set_option maxHeartbeats 1000000 in
theorem refput_any (w : World) (x : Int) (n : Nat) (hx : 0 ≤ x) (hx2 : x < 18446744073709551616) (h1 : 1 ≤ n) (h8 : n ≤ 8) :
    Calls Tryd.prog 49 #[.int .u64 x, .int .i64 n] w (Gives (putF x n) w) := by
  have hdec : ∀ k, 0 ≤ x / 256 ^ k ∧ x / 256 ^ k < 18446744073709551616 := by
    intro k
    have hp : (0 : Int) < 256 ^ k := Int.pow_pos (by decide)
    refine ⟨Int.ediv_nonneg hx (Int.le_of_lt hp), ?_⟩
    have : x / 256 ^ k ≤ x := Int.ediv_le_self _ hx
    omega
  have HD := Lib.hid hdec
  have HX := Lib.hid hx
  have HX2 := Lib.hid hx2
  clear hx hx2 hdec
  go_enter Tryd.func49, Tryd.ntmps49
  go_wp2
  go_loopw [5, 6] (fun v i wr => ∃ k : Nat, i = .int .i64 k ∧ k ≤ n ∧ Grows w ((putF x n).take k) v wr) (fun _ i _ => n - (intOf i).toNat)
  case atStart => exact ⟨0, rfl, by omega, by rw [List.take_zero]; exact Grows.nil _⟩
  case round =>
    obtain ⟨k, rfl, hk, hG⟩ := hrel
    by_cases hlt : k < n
    · go_wp2
      go_loopw [7, 8] (fun y j wr' => ∃ m : Nat, j = .int .i64 m ∧ k + 1 ≤ m ∧ m ≤ n ∧ y = .int .u64 (x / 256 ^ (m - (k + 1))) ∧ wr = wr') (fun _ j _ => n - (intOf j).toNat)
      case atStart => exact ⟨k + 1, by simp, by omega, by omega, by simp, rfl⟩
      case round =>
        obtain ⟨m, rfl, hm1, hm2, rfl, rfl⟩ := hrel
        have hy := HD.out (m - (k + 1))
        obtain ⟨y, hy2⟩ : ∃ y, y = x / 256 ^ (m - (k + 1)) := ⟨_, rfl⟩
        rw [← hy2] at hy ⊢
        have HY := Lib.hid hy2
        clear hy2
        by_cases hlm : m < n
        · go_wp2
          go_roundw
          case rel =>
            refine ⟨m + 1, by go_num, by omega, by omega, ?_, by trivial⟩
            rw [HY.out, pow_step, show m - (k + 1) + 1 = m + 1 - (k + 1) by omega]
          case measure => simp [intOf]; omega
        · have e : m = n := by omega
          subst e
          go_wp2_with (first
            | (apply st_grow (w0 := w) (xs := (putF x m).take k) (ys := [y % 256]); rfl; rfl; exact hG.alloc _; (intro h; cases h); exact Rd.ofBlk (Blk.new' _ _ _ 5 _ rfl rfl); (rw [List.length_take, putF_len]; simp; omega); intro v2 w2 hG2))
          go_roundw
          case rel =>
            refine ⟨k + 1, by go_num, by omega, ?_⟩
            rw [putF_at _ _ _ hlt, show m - 1 - k = m - (k + 1) by omega, ← HY.out]
            exact hG2
          case measure => simp [intOf]; omega
    · have e : k = n := by omega
      rw [e, List.take_of_length_le (by rw [putF_len]; exact Nat.le_refl _)] at hG
      clear e
      go_wp2
      go_ret
      exact hG.gives

/-- The number that the first so many bytes are. -/
def getTo (bs : List Int) : Nat → Int
  | 0 => 0
  | k + 1 => (256 * getTo bs k + ga bs k) % 18446744073709551616

set_option maxHeartbeats 1000000 in
theorem refget_any (w : World) (A : Option Addr) (c : Nat) (bs : List Int) (hr : Rd w A (nums .u8 bs)) (h1 : 1 ≤ bs.length) (h8 : bs.length ≤ 8) :
    Calls Tryd.prog 54 #[.slice A bs.length c] w fun e w' => e = .returned (.tuple #[.int .u64 (getTo bs bs.length), .bool true]) ∧ w = w' := by
  obtain ⟨g, o, rfl, hg⟩ := hr.get (by rw [nums_length]; omega)
  have HG := Lib.hid hg
  clear hg hr
  go_enter Tryd.func54, Tryd.ntmps54
  go_wp2
  go_loopw [4, 5] (fun x i wr => ∃ k : Nat, i = .int .i64 k ∧ k ≤ bs.length ∧ x = .int .u64 (getTo bs k) ∧ w = wr) (fun _ i _ => bs.length - (intOf i).toNat)
  case atStart => exact ⟨0, rfl, by omega, rfl, rfl⟩
  case round =>
    obtain ⟨k, rfl, hk, rfl, rfl⟩ := hrel
    obtain ⟨y, hy⟩ : ∃ y, y = getTo bs k := ⟨_, rfl⟩
    rw [← hy]
    have HY := Lib.hid hy
    clear hy
    by_cases hlt : k < bs.length
    · have c1 := HG.out k _ (nums_at .u8 bs k hlt)
      rw [← ga_eq] at c1
      go_wp2
      go_roundw
      case rel =>
        refine ⟨k + 1, by go_num, by omega, ?_, by trivial⟩
        rw [getTo, ← HY.out, wu, wu, wu]
        congr 1
        omega
      case measure => simp [intOf]; omega
    · have e : k = bs.length := by omega
      rw [e] at HY
      clear e
      go_wp2
      go_ret2
      exact ⟨by rw [← HY.out]; rfl, rfl⟩
end Go.Proofs.YtipigpeccegjgaaDoor
