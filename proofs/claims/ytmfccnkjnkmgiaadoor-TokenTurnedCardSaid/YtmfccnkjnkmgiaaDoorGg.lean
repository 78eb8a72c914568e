/- What text.Hex, text.digit and text.Unhex answer. No condition but lengths below 2^39. What inquestref04.letter, Hex and Unhex answer. No condition but lengths below 2^30. -/
import Derived.Test.YtmfccnkjnkmgiaaDoorGd
import Derived.Test.YtmfccnkjnkmgiaaDoorGc
import Derived.Laws.BytesArg
import Derived.OwnWalk
namespace Go.Proofs.YtmfccnkjnkmgiaaDoor
section THex
open Go.RowKit

/-- A byte of a text, by its place. -/
def sb (s : ByteArray) (i : Int) : Int := if h : i.toNat < s.size then ((s[i.toNat]'h).toNat : Int) else 0
theorem sb_range (s : ByteArray) (i : Int) : 0 ≤ sb s i ∧ sb s i ≤ 255 := by
  unfold sb; split
  · have := (s[i.toNat]).toNat_lt; omega
  · omega
theorem index_sb {P : Program} {t : TypeId} (ht : P.underlying t = some .string) (s : ByteArray) (k : IntKind) (i : Int) (h0 : 0 ≤ i) (h1 : i < s.size) (w : World) : (Instr.index t (.string s) (.int k i)).run P w = .ok (.int .u8 (sb s i)) w := by
  rw [run_index_string w t s k i ht, dif_pos ⟨h0, h1⟩]
  unfold sb
  rw [dif_pos (by omega)]

/-- The letter of a number below 16. -/
def hexd (n : Int) : Int := if n < 10 then 48 + n else 87 + n
def L16 : ByteArray := ⟨#[48, 49, 50, 51, 52, 53, 54, 55, 56, 57, 97, 98, 99, 100, 101, 102]⟩
theorem sb_L16 (n : Int) (h0 : 0 ≤ n) (h1 : n < 16) : sb L16 n = hexd n := by
  obtain ⟨m, rfl⟩ := Int.eq_ofNat_of_zero_le h0
  have h : ∀ m : Fin 16, sb L16 ((m.val : Nat) : Int) = hexd ((m.val : Nat) : Int) := by decide +kernel
  exact h ⟨m, by omega⟩
theorem and15 (n : Int) (h0 : 0 ≤ n) (h1 : n < 256) : bits BinOp.and IntKind.u8 n 15 = n % 16 := by
  obtain ⟨m, rfl⟩ := Int.eq_ofNat_of_zero_le h0
  have h : ∀ m : Fin 256, bits BinOp.and IntKind.u8 ((m.val : Nat) : Int) 15 = ((m.val : Nat) : Int) % 16 := by decide +kernel
  exact h ⟨m, by omega⟩
/-- The letters of bytes. -/
def hexF : List Int → List Int
  | [] => []
  | x :: l => hexd (x / 16) :: hexd (x % 16) :: hexF l
theorem hexF_len (l : List Int) : (hexF l).length = 2 * l.length := by
  induction l with
  | nil => rfl
  | cons x l ih => simp [hexF, ih]; omega
theorem hexF_append (l m : List Int) : hexF (l ++ m) = hexF l ++ hexF m := by
  induction l with
  | nil => rfl
  | cons x l ih => simp [hexF, ih]
theorem take_snoc (l : List Int) (k : Nat) (h : k < l.length) : l.take (k + 1) = l.take k ++ [ga l k] := by
  rw [List.take_add_one, List.getElem?_eq_getElem h]
  simp [ga, h]
theorem hexF_step (l : List Int) (k : Nat) (h : k < l.length) : hexF (l.take k) ++ [hexd (ga l k / 16), hexd (ga l k % 16)] = hexF (l.take (k + 1)) := by
  rw [take_snoc l k h, hexF_append]; rfl

section
variable {ops : Array Oper} {Q : Exit → Act → World → Prop} {rest : List Oper} {a : Act} {w : World}
/-- make(T, 0, c) of bytes. -/
theorem st_makeOwn {d' : Option Tmp} {tt : TypeId} {l c : Operand} {pos : String} {after : Array Edge} {kl kc : IntKind} {C : Int} {n : Nat}
    (hl : a.eval l = .int kl 0) (hc : a.eval c = .int kc C) (hC : C = n) (hn : n ≤ 1099511627776)
    (h : ∀ v' w', Grows w [] v' w' → wpList Tryd.prog ops Q rest (a.put d' v') w') :
    wpList Tryd.prog ops Q (⟨d', .makeSlice 22 l c, tt, pos, after, none⟩ :: rest) a w := by
  obtain ⟨i0, hi, hz0, hz1, hz2⟩ := info_parts u8info
  refine wpList_make_own (P := Tryd.prog) w rfl l c 22 rfl w.heap.size 5 i0 (.int .u8 0) 1 Tryd.underlying22 hi hz0 hz1 kl kc C n hl hc hC (by rw [hz2]; omega) (by unfold maxLen; omega) (Nat.le_refl _) fun w' ho hg => ?_
  refine h _ _ ⟨?_, ?_⟩
  · exact (Below.refl _ _).grown hg (Nat.le_refl _) (fun k hk => by cases hk)
  · exact ho
/-- string(x) of bytes of the call's own. -/
theorem st_ownStr {d' : Option Tmp} {tt dst : TypeId} {x : Operand} {pos : String} {after : Array Edge} {base : Nat} {v : Value} {bs : List Int}
    (hd : Tryd.prog.underlying dst = some .string) (hx : a.eval x = v) (ho : Own w base v bs)
    (h : wpList Tryd.prog ops Q rest (a.put d' (.string (strOfNums bs))) w) :
    wpList Tryd.prog ops Q (⟨d', .convert 22 dst x, tt, pos, after, none⟩ :: rest) a w :=
  wpList_plain rfl fun K hK => by
    have hrun : (convert 22 dst v).run Tryd.prog w = .ok (.string (strOfNums bs)) w := by
      obtain ⟨A, c, h1, h2, h3, h4⟩ := ho.bytes
      rw [h1]
      rcases h4 with h4 | ⟨g, off, hA, hc⟩
      · have e : bs = [] := List.eq_nil_of_length_eq_zero (by rw [← nums_length .u8 bs, h4]; rfl)
        subst e
        cases A with
        | none => exact run_convert_bytes_nil w _ _ Tryd.underlying22 Tryd.underlying5 _ _ dst hd
        | some ad =>
          have had : ad = ⟨ad.block, 0, none⟩ := by
            obtain ⟨_, h5 | ⟨g, cap, cur, hv, _⟩⟩ := ho
            · rw [h5.1] at h1; cases h1
            · rw [hv] at h1; injection h1 with h1; injection h1 with h1; rw [← h1]
          rw [had]
          exact run_convert_bytes_arg (P := Tryd.prog) w 22 5 Tryd.underlying22 Tryd.underlying5 ad.block 0 0 c [] rfl (fun i hi => by omega) dst hd
      · rw [hA]
        exact run_convert_bytes_arg (P := Tryd.prog) w 22 5 Tryd.underlying22 Tryd.underlying5 g off bs.length c bs rfl (fun i hi => hc i _ (nums_at .u8 bs i hi)) dst hd
    unfold Oper.wp execOp
    simp only [Sem.run_bind, hx, hrun]
    exact hK _ _ h
end

set_option maxHeartbeats 2000000 in
theorem hex_any (w : World) (A : Option Addr) (c : Nat) (bs : List Int) (hr : Rd w A (nums .u8 bs)) (hl : bs.length ≤ 1000000000) (hu : ∀ i, 0 ≤ ga bs i ∧ ga bs i < 256) :
    Calls Tryd.prog 26 #[.slice A bs.length c] w fun e w' => e = .returned (.string (strOfNums (hexF bs))) ∧ Below w.heap.size w w' := by
  have HR := Lib.hid hr
  have HU := Lib.hid hu
  clear hr hu
  go_enter Tryd.func26, Tryd.ntmps26
  go_wp2_with (apply st_makeOwn (n := 2 * bs.length); rfl; rfl; (simp); omega; intro v1 w1 hG1)
  go_loopw [3, 12] (fun v i wr => ∃ k : Nat, i = .int .i64 k ∧ k ≤ bs.length ∧ Grows w (hexF (bs.take k)) v wr) (fun _ i _ => bs.length - (intOf i).toNat)
  case atStart => exact ⟨0, rfl, by omega, hG1⟩
  case round =>
    clear hG1
    obtain ⟨k, rfl, hk, hG⟩ := hrel
    by_cases hlt : k < bs.length
    · obtain ⟨g, o, rfl, hrd⟩ := HR.out.get (by rw [nums_length]; omega)
      have c1 := hrd k _ (nums_at .u8 bs k hlt)
      rw [← ga_eq] at c1
      have hg : g < w.heap.size := World.block_lt_of_cell? (h := c1)
      have c2 : wr.cell? ⟨g, o + k, none⟩ = some (.int .u8 (ga bs k)) := by rw [hG.1.cell (p := ⟨g, o + k, none⟩) hg]; exact c1
      have hx := HU.out k
      have hst := hexF_step bs k hlt
      have hln : (hexF (bs.take k)).length ≤ 1099511627000 := by rw [hexF_len, List.length_take]; omega
      obtain ⟨x, hx2⟩ : ∃ x, x = ga bs k := ⟨_, rfl⟩
      rw [← hx2] at c2 hx hst
      have hi1 := index_sb (P := Tryd.prog) Tryd.underlying9 L16 .u8 (x / 16) (by omega) (by show x / 16 < 16; omega)
      have hi2 := index_sb (P := Tryd.prog) Tryd.underlying9 L16 .u8 (x % 16) (by omega) (by show x % 16 < 16; omega)
      rw [sb_L16 _ (by omega) (by omega)] at hi1 hi2
      unfold L16 at hi1 hi2
      have ha := and15 x hx.1 hx.2
      have HST := Lib.hid hst
      clear hst c1 hrd hx2
      go_wp2
      refine wp_region_CF (Same [] wr) [7, 8] [9] (by kernel_rfl) (by kernel_rfl) (by intro c a w h; first | (obtain ⟨_, h, _⟩ := h; cases h; done) | (obtain ⟨_, _, h, _⟩ := h; cases h; done) | (obtain ⟨_, _, _, h, _⟩ := h; cases h; done) | (obtain ⟨_, _, _, _, h, _⟩ := h; cases h; done)) (by intro a w h; first | (obtain ⟨h, _⟩ := h; cases h; done) | (obtain ⟨_, h, _⟩ := h; cases h; done) | (obtain ⟨_, _, h, _⟩ := h; cases h; done) | (obtain ⟨_, _, _, h, _⟩ := h; cases h; done)) (Same.refl _ _) ?_
      repeat (refine wd_q (v := ?_) rfl rfl rfl rfl rfl rfl (fun w' hw' K hK => ?_) ?_; rotate_left; (have e1 := hi1; have e2 := hi2; have e3 := ha; go_wp2; exact rfl); simp only [Act.put, List.setIfInBounds_toArray, List.set_cons_zero, List.set_cons_succ])
      refine wd_l rfl rfl (by intro a w h; first | (obtain ⟨h, _⟩ := h; cases h; done) | (obtain ⟨_, h, _⟩ := h; cases h; done) | (obtain ⟨_, _, h, _⟩ := h; cases h; done) | (obtain ⟨_, _, _, h, _⟩ := h; cases h; done)) ?_
      go_wp2
      refine ⟨.inr (fun g hg => by cases hg), ?_⟩
      refine wd_late rfl (by kernel_rfl) rfl rfl (by intro a w h; first | (obtain ⟨h, _⟩ := h; cases h; done) | (obtain ⟨_, h, _⟩ := h; cases h; done) | (obtain ⟨_, _, h, _⟩ := h; cases h; done) | (obtain ⟨_, _, _, h, _⟩ := h; cases h; done)) ?_
      go_wp2_with (apply st_grow (w0 := w) (xs := hexF (bs.take k)) (ys := [hexd (x / 16), hexd (x % 16)]); rfl; rfl; exact hG.drew.alloc _; (intro h; cases h); exact Rd.ofBlk (Blk.new' _ _ _ 5 _ rfl rfl); (simp; omega); intro v2 w2 hG2)
      refine wd_assign rfl rfl rfl rfl ?_
      refine wd_nil ?_
      simp only [Act.put, List.setIfInBounds_toArray, List.set_cons_zero, List.set_cons_succ]
      go_wp2
      rw [HST.out] at hG2
      go_roundw
      case rel => exact ⟨k + 1, by go_num, by omega, hG2⟩
      case measure => simp [intOf]; omega
    · have e : k = bs.length := by omega
      rw [e, List.take_length] at hG
      clear e
      go_wp2_with (apply st_ownStr; exact Tryd.underlying9; rfl; exact hG.2)
      go_ret
      exact ⟨rfl, hG.1⟩

theorem bits_join8 (x y : Int) (hx : 0 ≤ x ∧ x < 16) (hy : 0 ≤ y ∧ y < 16) : bits BinOp.or IntKind.u8 (x * 16) y = 16 * x + y := by
  obtain ⟨m, rfl⟩ := Int.eq_ofNat_of_zero_le hx.1
  obtain ⟨n, rfl⟩ := Int.eq_ofNat_of_zero_le hy.1
  have h : ∀ m n : Fin 16, bits BinOp.or IntKind.u8 (((m.val : Nat) : Int) * 16) ((n.val : Nat) : Int) = 16 * ((m.val : Nat) : Int) + ((n.val : Nat) : Int) := by decide +kernel
  exact h ⟨m, by omega⟩ ⟨n, by omega⟩

/-- What a letter counts; 16: nothing. -/
def dgt (c : Int) : Int := if 48 ≤ c ∧ c ≤ 57 then c - 48 else if 97 ≤ c ∧ c ≤ 102 then c - 97 + 10 else 16
theorem dgt_range (c : Int) : 0 ≤ dgt c ∧ dgt c ≤ 16 := by unfold dgt; split; omega; split <;> omega
set_option maxHeartbeats 1000000 in
theorem digit_any (w : World) (c : Int) (h0 : 0 ≤ c) (h1 : c ≤ 255) : Calls Tryd.prog 52 #[.int .u8 c] w fun e w' => e = .returned (.int .u8 (dgt c)) ∧ w = w' := by
  by_cases a1 : 48 ≤ c
  · by_cases a2 : c ≤ 57
    · go_enter Tryd.func52, Tryd.ntmps52
      go_wp2
      go_ret
      exact ⟨by unfold dgt; rw [if_pos ⟨a1, a2⟩]; rfl, rfl⟩
    · by_cases a3 : 97 ≤ c
      · by_cases a4 : c ≤ 102
        · go_enter Tryd.func52, Tryd.ntmps52
          go_wp2
          go_ret
          exact ⟨by unfold dgt; rw [if_neg (by omega), if_pos ⟨a3, a4⟩]; rfl, rfl⟩
        · go_enter Tryd.func52, Tryd.ntmps52
          go_wp2
          go_ret
          exact ⟨by unfold dgt; rw [if_neg (by omega), if_neg (by omega)]; rfl, rfl⟩
      · go_enter Tryd.func52, Tryd.ntmps52
        go_wp2
        go_ret
        exact ⟨by unfold dgt; rw [if_neg (by omega), if_neg (by omega)]; rfl, rfl⟩
  · go_enter Tryd.func52, Tryd.ntmps52
    go_wp2
    go_ret
    exact ⟨by unfold dgt; rw [if_neg (by omega), if_neg (by omega)]; rfl, rfl⟩

/-- The bytes of the next d pairs of letters. -/
def unhexT (s : ByteArray) : Nat → Nat → Option (List Int)
  | 0, _ => some []
  | d + 1, i => if 15 < dgt (sb s i) ∨ 15 < dgt (sb s (i + 1 : Nat)) then none else (unhexT s d (i + 2)).map fun l => (16 * dgt (sb s i) + dgt (sb s (i + 1 : Nat))) :: l
/-- What text.Unhex answers. -/
def unhexR (s : ByteArray) : List Int × Bool := if s.size % 2 = 1 then ([], false) else match unhexT s (s.size / 2) 0 with
  | some l => (l, true)
  | none => ([], false)
theorem unhexR_odd (s : ByteArray) (h : s.size % 2 = 1) : unhexR s = ([], false) := by unfold unhexR; rw [if_pos h]
theorem unhexR_none (s : ByteArray) (h : s.size % 2 ≠ 1) (h2 : unhexT s (s.size / 2) 0 = none) : unhexR s = ([], false) := by unfold unhexR; rw [if_neg h, h2]
theorem unhexR_some (s : ByteArray) (l : List Int) (h : s.size % 2 ≠ 1) (h2 : unhexT s (s.size / 2) 0 = some l) : unhexR s = (l, true) := by unfold unhexR; rw [if_neg h, h2]

/-- It answers bytes in memory of its own, and whether they are any. -/
def GivesB (r : List Int × Bool) (w : World) (e : Ending) (w' : World) : Prop := ∃ v, e = .returned (.tuple #[v, .bool r.2]) ∧ Below w.heap.size w w' ∧ Own w' w.heap.size v r.1
theorem Grows.givesB {w w' : World} {r : List Int × Bool} {v : Value} {b : Bool} (h : Grows w r.1 v w') (hb : b = r.2) : GivesB r w (.returned (.tuple #[v, .bool b])) w' := ⟨v, by rw [hb], h.1, h.2⟩

set_option maxHeartbeats 2000000 in
theorem unhex_any (w : World) (s : ByteArray) (hl : s.size ≤ 1000000000) : Calls Tryd.prog 41 #[.string s] w (GivesB (unhexR s) w) := by
  by_cases hodd : s.size % 2 = 1
  · have b1 : ((s.size : Int) % 2 == 1) = true := by rw [beq_iff_eq]; omega
    have HR := Lib.hid (unhexR_odd s hodd)
    clear hodd
    go_enter Tryd.func41, Tryd.ntmps41
    go_wp2
    go_ret2
    rw [HR.out]
    exact (Grows.nil w).givesB rfl
  · have b1 : ((s.size : Int) % 2 == 1) = false := by rw [beq_eq_false_iff_ne]; omega
    obtain ⟨n, hn⟩ : ∃ n, s.size = 2 * n := ⟨s.size / 2, by omega⟩
    have hn2 : s.size / 2 = n := by omega
    have HODD := Lib.hid hodd
    have HN := Lib.hid hn
    have HN2 := Lib.hid hn2
    have h2n : 2 * n ≤ s.size := by omega
    have h2m : s.size ≤ 2 * n := by omega
    clear hodd hn hn2
    go_enter Tryd.func41, Tryd.ntmps41
    go_wp2_with (apply st_makeOwn (n := n); rfl; rfl; omega; omega; intro v1 w1 hG1)
    go_loopw [4, 5] (fun v i wr => ∃ (k : Nat) (done : List Int), i = .int .i64 (2 * k) ∧ k ≤ n ∧ done.length = k ∧ Grows w done v wr ∧ Hid (unhexT s n 0 = (unhexT s (n - k) (2 * k)).map fun l => done ++ l)) (fun _ i _ => s.size - (intOf i).toNat)
    case atStart => exact ⟨0, [], rfl, by omega, rfl, hG1, by show unhexT s n 0 = (unhexT s (n - 0) (2 * 0)).map fun l => [] ++ l; simp⟩
    case round =>
      clear hG1
      obtain ⟨k, done, rfl, hk, hdl, hG, HT⟩ := hrel
      by_cases hlt : k < n
      · have hi1 := index_sb (P := Tryd.prog) Tryd.underlying9 s .i64 (2 * (k : Int)) (by omega) (by omega)
        have hi2 := index_sb (P := Tryd.prog) Tryd.underlying9 s .i64 (2 * (k : Int) + 1) (by omega) (by omega)
        have hx0 := sb_range s (2 * (k : Int))
        have hy0 := sb_range s (2 * (k : Int) + 1)
        have hst : unhexT s (n - k) (2 * k) = if 15 < dgt (sb s (2 * (k : Int))) ∨ 15 < dgt (sb s (2 * (k : Int) + 1)) then none else (unhexT s (n - (k + 1)) (2 * (k + 1))).map fun l => (16 * dgt (sb s (2 * (k : Int))) + dgt (sb s (2 * (k : Int) + 1))) :: l := by
          obtain ⟨m, hm⟩ : ∃ m, n - k = m + 1 := ⟨n - k - 1, by omega⟩
          rw [hm, show n - (k + 1) = m by omega]
          have e1 : ((2 * k : Nat) : Int) = 2 * (k : Int) := by omega
          have e2 : ((2 * k + 1 : Nat) : Int) = 2 * (k : Int) + 1 := by omega
          simp only [unhexT, e1, e2]
          rfl
        obtain ⟨cx, hcx⟩ : ∃ c, c = sb s (2 * (k : Int)) := ⟨_, rfl⟩
        obtain ⟨cy, hcy⟩ : ∃ c, c = sb s (2 * (k : Int) + 1) := ⟨_, rfl⟩
        rw [← hcx] at hi1 hx0 hst
        rw [← hcy] at hi2 hy0 hst
        have hx := dgt_range cx
        have hy := dgt_range cy
        have HDX := digit_any (c := cx)
        obtain ⟨x, hdx⟩ : ∃ x, x = dgt cx := ⟨_, rfl⟩
        obtain ⟨y, hdy⟩ : ∃ y, y = dgt cy := ⟨_, rfl⟩
        rw [← hdx] at hx hst
        rw [← hdy] at hy hst
        have HST := Lib.hid hst
        have HX := Lib.hid hdx
        have HY := Lib.hid hdy
        have HDL := Lib.hid hdl
        clear hst hdx hdy hcx hcy HDX hdl
        go_wp2
        refine wp_region_C (Same [] wr) [3, 8] (by kernel_rfl) (by kernel_rfl) (by intro c a w h; first | (obtain ⟨_, h, _⟩ := h; cases h; done) | (obtain ⟨_, _, h, _⟩ := h; cases h; done) | (obtain ⟨_, _, _, h, _⟩ := h; cases h; done) | (obtain ⟨_, _, _, _, h, _⟩ := h; cases h; done)) (by intro a w h; first | (obtain ⟨h, _⟩ := h; cases h; done) | (obtain ⟨_, h, _⟩ := h; cases h; done) | (obtain ⟨_, _, h, _⟩ := h; cases h; done) | (obtain ⟨_, _, _, h, _⟩ := h; cases h; done)) (Same.refl _ _) ?_
        repeat (refine wd_q (v := ?_) rfl rfl rfl rfl rfl rfl (fun w' hw' K hK => ?_) ?_; rotate_left; (have e1 := hi1; have e2 := hi2; go_wp2; exact rfl); simp only [Act.put, List.setIfInBounds_toArray, List.set_cons_zero, List.set_cons_succ])
        refine wd_l rfl rfl (by intro a w h; first | (obtain ⟨h, _⟩ := h; cases h; done) | (obtain ⟨_, h, _⟩ := h; cases h; done) | (obtain ⟨_, _, h, _⟩ := h; cases h; done) | (obtain ⟨_, _, _, h, _⟩ := h; cases h; done)) ?_
        go_wp2_with (go_at_call 52; refine (digit_any _ cx (by omega) (by omega)).mono ?_; rintro e w' ⟨rfl, rfl⟩)
        refine ⟨.inr (fun g hg => by cases hg), ?_⟩
        repeat (refine wd_q (v := ?_) rfl rfl rfl rfl rfl rfl (fun w' hw' K hK => ?_) ?_; rotate_left; (have e1 := hi1; have e2 := hi2; go_wp2; exact rfl); simp only [Act.put, List.setIfInBounds_toArray, List.set_cons_zero, List.set_cons_succ])
        refine wd_l rfl rfl (by intro a w h; first | (obtain ⟨h, _⟩ := h; cases h; done) | (obtain ⟨_, h, _⟩ := h; cases h; done) | (obtain ⟨_, _, h, _⟩ := h; cases h; done) | (obtain ⟨_, _, _, h, _⟩ := h; cases h; done)) ?_
        go_wp2_with (go_at_call 52; refine (digit_any _ cy (by omega) (by omega)).mono ?_; rintro e w' ⟨rfl, rfl⟩)
        refine ⟨.inr (fun g hg => by cases hg), ?_⟩
        repeat (refine wd_q (v := ?_) rfl rfl rfl rfl rfl rfl (fun w' hw' K hK => ?_) ?_; rotate_left; (skip; go_wp2; exact rfl); simp only [Act.put, List.setIfInBounds_toArray, List.set_cons_zero, List.set_cons_succ])
        refine wd_nil ?_
        rw [← HX.out, ← HY.out]
        by_cases hbad : 15 < x ∨ 15 < y
        · have hnone : unhexT s n 0 = none := by rw [HT.out, HST.out, if_pos hbad]; rfl
          have HR := Lib.hid (unhexR_none s HODD.out (by rw [HN2.out]; exact hnone))
          clear hnone
          rcases Int.lt_or_le 15 x with hx15 | hx15
          · go_wp2
            go_ret2
            rw [HR.out]
            exact Grows.givesB (v := .slice none 0 0) ⟨hG.1.drew, Own.nil _ _⟩ rfl
          · have hy15 : 15 < y := by omega
            clear hbad
            go_wp2
            go_ret2
            rw [HR.out]
            exact Grows.givesB (v := .slice none 0 0) ⟨hG.1.drew, Own.nil _ _⟩ rfl
        · have hj := bits_join8 x y (by omega) (by omega)
          have hxb : x ≤ 15 := by omega
          have hyb : y ≤ 15 := by omega
          have HB := Lib.hid hbad
          clear hbad
          go_wp2_with (apply st_grow (w0 := w) (xs := done) (ys := [16 * x + y]); rfl; rfl; exact (hG.alloc _).drew; (intro h; cases h); exact Rd.ofBlk (Blk.new' wr _ _ 5 _ rfl rfl).drew; (rw [HDL.out]; simp; omega); intro v2 w2 hG2)
          go_roundw
          case rel =>
            refine ⟨k + 1, done ++ [16 * x + y], ?_, by omega, by rw [List.length_append, HDL.out]; rfl, hG2, ?_⟩
            · congr 1
            · show unhexT s n 0 = (unhexT s (n - (k + 1)) (2 * (k + 1))).map fun l => (done ++ [16 * x + y]) ++ l
              rw [HT.out, HST.out, if_neg HB.out]
              cases unhexT s (n - (k + 1)) (2 * (k + 1)) <;> simp
          case measure => simp [intOf]; omega
      · have e : k = n := by omega
        have hsome : unhexT s n 0 = some done := by
          rw [HT.out, e, Nat.sub_self]; simp [unhexT]
        have HR := Lib.hid (unhexR_some s done HODD.out (by rw [HN2.out]; exact hsome))
        clear e hsome hdl
        go_wp2
        go_ret2
        rw [HR.out]
        exact hG.givesB (r := (done, true)) rfl

theorem unhexT_len (s : ByteArray) (d : Nat) : ∀ i l, unhexT s d i = some l → l.length = d ∧ ∀ x ∈ l, 0 ≤ x ∧ x < 256 := by
  induction d with
  | zero => intro i l h; simp [unhexT] at h; subst h; exact ⟨rfl, by simp⟩
  | succ d ih =>
    intro i l h
    simp only [unhexT] at h
    by_cases hb : 15 < dgt (sb s i) ∨ 15 < dgt (sb s (i + 1 : Nat))
    · rw [if_pos hb] at h; cases h
    · rw [if_neg hb] at h
      cases hu : unhexT s d (i + 2) with
      | none => rw [hu] at h; cases h
      | some m =>
        rw [hu] at h
        simp only [Option.map_some, Option.some.injEq] at h
        subst h
        obtain ⟨h1, h2⟩ := ih _ _ hu
        refine ⟨by simp [h1], fun x hx => ?_⟩
        rcases List.mem_cons.1 hx with rfl | hx
        · have a1 := dgt_range (sb s i)
          have a2 := dgt_range (sb s (i + 1 : Nat))
          omega
        · exact h2 x hx
theorem unhexR_fits (s : ByteArray) : (unhexR s).1.length ≤ s.size ∧ ∀ x ∈ (unhexR s).1, 0 ≤ x ∧ x < 256 := by
  unfold unhexR
  split
  · exact ⟨by simp, by simp⟩
  · split
    · rename_i l h
      obtain ⟨h1, h2⟩ := unhexT_len s _ _ _ h
      exact ⟨by show l.length ≤ _; omega, h2⟩
    · exact ⟨by simp, by simp⟩
theorem ga_range {l : List Int} (h : ∀ x ∈ l, 0 ≤ x ∧ x < 256) (i : Nat) : 0 ≤ ga l i ∧ ga l i < 256 := by
  unfold ga
  by_cases hi : i < l.length
  · rw [List.getD_eq_getElem?_getD, List.getElem?_eq_getElem hi]; exact h _ (List.getElem_mem hi)
  · rw [List.getD_eq_getElem?_getD, List.getElem?_eq_none (by omega)]; simp

theorem sb_str (l : List Int) (h : ∀ x ∈ l, 0 ≤ x ∧ x < 256) (i : Nat) : sb (strOfNums l) (i : Int) = ga l i := by
  unfold sb
  simp only [Int.toNat_natCast]
  by_cases hi : i < l.length
  · rw [dif_pos (by rw [strOfNums_size]; exact hi)]
    have e : (strOfNums l).data.toList[i]? = some (UInt8.ofNat (ga l i).toNat) := by
      rw [strOfNums_data, List.getElem?_map, List.getElem?_eq_getElem hi]
      simp [ga, hi]
    have e2 : (strOfNums l)[i]'(by rw [strOfNums_size]; exact hi) = UInt8.ofNat (ga l i).toNat := by
      have h3 : (strOfNums l).data.toList[i]? = some ((strOfNums l)[i]'(by rw [strOfNums_size]; exact hi)) := by
        rw [List.getElem?_eq_getElem (by rw [Array.length_toList]; show i < (strOfNums l).size; rw [strOfNums_size]; exact hi)]; rfl
      rw [h3] at e
      exact Option.some.inj e
    have := ga_range h i
    rw [e2, UInt8.toNat_ofNat']; omega
  · rw [dif_neg (by rw [strOfNums_size]; exact hi)]
    unfold ga; rw [List.getD_eq_getElem?_getD, List.getElem?_eq_none (by omega)]; rfl
theorem dgt_hexd (n : Int) (h0 : 0 ≤ n) (h1 : n < 16) : dgt (hexd n) = n := by unfold hexd dgt; split <;> (split <;> (try split) <;> omega)
theorem hexF_range (l : List Int) (h : ∀ x ∈ l, 0 ≤ x ∧ x < 256) : ∀ x ∈ hexF l, 0 ≤ x ∧ x < 256 := by
  induction l with
  | nil => intro x hx; cases hx
  | cons y l ih =>
    have hy := h y (by simp)
    intro x hx
    simp only [hexF, List.mem_cons] at hx
    rcases hx with rfl | rfl | hx
    · unfold hexd; split <;> omega
    · unfold hexd; split <;> omega
    · exact ih (fun z hz => h z (by simp [hz])) x hx
theorem hexF_at (l : List Int) : ∀ j, j < l.length → ga (hexF l) (2 * j) = hexd (ga l j / 16) ∧ ga (hexF l) (2 * j + 1) = hexd (ga l j % 16) := by
  induction l with
  | nil => intro j h; simp at h
  | cons y l ih =>
    intro j h
    cases j with
    | zero => exact ⟨rfl, rfl⟩
    | succ j => exact ih j (by simpa using h)
/-- What is written as letters is read. -/
theorem unhex_hex (l : List Int) (h : ∀ x ∈ l, 0 ≤ x ∧ x < 256) : unhexR (strOfNums (hexF l)) = (l, true) := by
  have hs : (strOfNums (hexF l)).size = 2 * l.length := by rw [strOfNums_size, hexF_len]
  have key : ∀ d i, i + d = l.length → unhexT (strOfNums (hexF l)) d (2 * i) = some (l.drop i) := by
    intro d
    induction d with
    | zero => intro i hi; rw [List.drop_of_length_le (by omega)]; rfl
    | succ d ih =>
      intro i hi
      have hd : l.drop i = ga l i :: l.drop (i + 1) := by
        rw [List.drop_eq_getElem_cons (by omega)]; congr 1
        unfold ga; rw [List.getD_eq_getElem?_getD, List.getElem?_eq_getElem (by omega)]; rfl
      obtain ⟨a1, a2⟩ := hexF_at l i (by omega)
      have hr := ga_range h i
      simp only [unhexT]
      rw [sb_str _ (hexF_range l h), sb_str _ (hexF_range l h), a1, a2, dgt_hexd _ (by omega) (by omega), dgt_hexd _ (by omega) (by omega), if_neg (by omega), show 2 * i + 2 = 2 * (i + 1) by omega, ih (i + 1) (by omega), hd, Option.map_some]
      congr 2
      omega
  exact unhexR_some _ _ (by omega) (by rw [hs, show 2 * l.length / 2 = l.length by omega]; exact key l.length 0 (by omega))

theorem hexd_dgt (c : Int) (h0 : 0 ≤ c) (h1 : c ≤ 255) (h : dgt c ≤ 15) : hexd (dgt c) = c := by
  obtain ⟨m, rfl⟩ := Int.eq_ofNat_of_zero_le h0
  have h2 : ∀ m : Fin 256, dgt ((m.val : Nat) : Int) ≤ 15 → hexd (dgt ((m.val : Nat) : Int)) = ((m.val : Nat) : Int) := by decide +kernel
  exact h2 ⟨m, by omega⟩ h
/-- The bytes of a text from place i on. -/
def sbs (s : ByteArray) : Nat → Nat → List Int
  | 0, _ => []
  | d + 1, i => sb s i :: sbs s d (i + 1)
theorem sbs_str (s : ByteArray) (d : Nat) : ∀ i, i + d = s.size → (sbs s d i).map (fun n => UInt8.ofNat n.toNat) = s.data.toList.drop i := by
  induction d with
  | zero => intro i h; rw [List.drop_of_length_le (by rw [Array.length_toList]; show s.size ≤ i; omega)]; rfl
  | succ d ih =>
    intro i h
    have hi : i < s.data.toList.length := by rw [Array.length_toList]; show i < s.size; omega
    rw [List.drop_eq_getElem_cons hi, ← ih (i + 1) (by omega)]
    simp only [sbs, List.map_cons]
    congr 1
    unfold sb
    have hs : i < s.size := by omega
    simp only [Int.toNat_natCast]
    rw [dif_pos hs, Int.toNat_natCast, UInt8.ofNat_toNat, Array.getElem_toList]; rfl
theorem str_sbs (s : ByteArray) : strOfNums (sbs s s.size 0) = s := by
  apply ByteArray.ext
  apply Array.ext'
  rw [strOfNums_data, sbs_str s s.size 0 (by omega), List.drop_zero]
theorem hex_unhexT (s : ByteArray) (d : Nat) : ∀ i l, unhexT s d i = some l → hexF l = sbs s (2 * d) i := by
  induction d with
  | zero => intro i l h; simp [unhexT] at h; subst h; rfl
  | succ d ih =>
    intro i l h
    simp only [unhexT] at h
    by_cases hb : 15 < dgt (sb s i) ∨ 15 < dgt (sb s (i + 1 : Nat))
    · rw [if_pos hb] at h; cases h
    · rw [if_neg hb] at h
      cases hu : unhexT s d (i + 2) with
      | none => rw [hu] at h; cases h
      | some m =>
        rw [hu] at h
        simp only [Option.map_some, Option.some.injEq] at h
        subst h
        have a1 := dgt_range (sb s i)
        have a2 := dgt_range (sb s (i + 1 : Nat))
        have b1 := sb_range s i
        have b2 := sb_range s (i + 1 : Nat)
        have e1 : (16 * dgt (sb s i) + dgt (sb s (i + 1 : Nat))) / 16 = dgt (sb s i) := by omega
        have e2 : (16 * dgt (sb s i) + dgt (sb s (i + 1 : Nat))) % 16 = dgt (sb s (i + 1 : Nat)) := by omega
        simp only [hexF]
        rw [e1, e2, hexd_dgt _ b1.1 b1.2 (by omega), hexd_dgt _ b2.1 b2.2 (by omega), ih _ _ hu]
        rfl
/-- What is read was written so. -/
theorem hex_unhex (s : ByteArray) (l : List Int) (h : unhexR s = (l, true)) : strOfNums (hexF l) = s := by
  unfold unhexR at h
  split at h
  · cases h
  · rename_i ho
    split at h
    · rename_i m hm
      obtain rfl : m = l := by simpa using congrArg Prod.fst h
      rw [hex_unhexT s _ _ _ hm, show 2 * (s.size / 2) = s.size by omega, str_sbs]
    · cases h
end THex
section TRef
open Go.RowKit

theorem letter_str (n : Nat) (h : n < 16) : L16.extract n (n + 1) = strOfNums [hexd (n : Int)] := by
  have h2 : ∀ m : Fin 16, L16.extract m.val (m.val + 1) = strOfNums [hexd ((m.val : Nat) : Int)] := by decide +kernel
  exact h2 ⟨n, h⟩
set_option maxHeartbeats 1000000 in
theorem refletter_any (w : World) (n : Nat) (h : n < 16) : Calls Tryd.prog 43 #[.int .i64 n] w fun e w' => e = .returned (.string (strOfNums [hexd (n : Int)])) ∧ w = w' := by
  have hs : (⟨#[48, 49, 50, 51, 52, 53, 54, 55, 56, 57, 97, 98, 99, 100, 101, 102]⟩ : ByteArray).size = 16 := rfl
  have HL := Lib.hid (letter_str n h)
  go_enter Tryd.func43, Tryd.ntmps43
  go_wp2
  go_ret
  exact ⟨by rw [← HL.out]; rfl, rfl⟩
theorem refletter_int (w : World) (n : Int) (h0 : 0 ≤ n) (h : n < 16) : Calls Tryd.prog 43 #[.int .i64 n] w fun e w' => e = .returned (.string (strOfNums [hexd n])) ∧ w = w' := by
  obtain ⟨m, rfl⟩ := Int.eq_ofNat_of_zero_le h0
  exact refletter_any w m (by omega)
theorem str_app (a b : List Int) : strOfNums a ++ strOfNums b = strOfNums (a ++ b) := by
  apply ByteArray.ext
  apply Array.ext'
  rw [ByteArray.data_append, Array.toList_append, strOfNums_data, strOfNums_data, strOfNums_data, List.map_append]

set_option maxHeartbeats 2000000 in
theorem refhex_any (w : World) (A : Option Addr) (c : Nat) (bs : List Int) (hr : Rd w A (nums .u8 bs)) (hl : bs.length ≤ 1000000000) (hu : ∀ i, 0 ≤ ga bs i ∧ ga bs i < 256) :
    Calls Tryd.prog 31 #[.slice A bs.length c] w fun e w' => e = .returned (.string (strOfNums (hexF bs))) ∧ Below w.heap.size w w' := by
  have HR := Lib.hid hr
  have HU := Lib.hid hu
  clear hr hu
  go_enter Tryd.func31, Tryd.ntmps31
  go_wp2
  go_loopw [3, 4] (fun v i wr => ∃ k : Nat, i = .int .i64 k ∧ k ≤ bs.length ∧ v = .string (strOfNums (hexF (bs.take k))) ∧ Below w.heap.size w wr) (fun _ i _ => bs.length - (intOf i).toNat)
  case atStart => exact ⟨0, rfl, by omega, rfl, Below.refl _ _⟩
  case round =>
    obtain ⟨k, rfl, hk, rfl, hB⟩ := hrel
    by_cases hlt : k < bs.length
    · obtain ⟨g, o, rfl, hrd⟩ := HR.out.get (by rw [nums_length]; omega)
      have c1 := hrd k _ (nums_at .u8 bs k hlt)
      rw [← ga_eq] at c1
      have hg : g < w.heap.size := World.block_lt_of_cell? (h := c1)
      have c2 : wr.cell? ⟨g, o + k, none⟩ = some (.int .u8 (ga bs k)) := by rw [hB.cell (p := ⟨g, o + k, none⟩) hg]; exact c1
      have hx := HU.out k
      have hst := hexF_step bs k hlt
      have hln : (hexF (bs.take k)).length ≤ 2000000000 := by rw [hexF_len, List.length_take]; omega
      obtain ⟨x, hx2⟩ : ∃ x, x = ga bs k := ⟨_, rfl⟩
      rw [← hx2] at c2 hx hst
      obtain ⟨pre, hpre⟩ : ∃ l, l = hexF (bs.take k) := ⟨_, rfl⟩
      rw [← hpre] at hst hln ⊢
      have hadd : strOfNums pre ++ strOfNums [hexd (x / 16)] ++ strOfNums [hexd (x % 16)] = strOfNums (hexF (bs.take (k + 1))) := by
        rw [str_app, str_app, List.append_assoc, ← hst]; rfl
      have hsz1 : (strOfNums pre).size + (strOfNums [hexd (x / 16)]).size ≤ 9223372036854775807 := by rw [strOfNums_size, strOfNums_size]; simp; omega
      have hsz2 : (strOfNums pre ++ strOfNums [hexd (x / 16)]).size + (strOfNums [hexd (x % 16)]).size ≤ 9223372036854775807 := by rw [str_app, strOfNums_size, strOfNums_size]; simp; omega
      have HADD := Lib.hid hadd
      clear hst c1 hrd hx2 hpre hadd
      go_wp2
      refine wp_region_C (Same [g] wr) [7, 15] (by kernel_rfl) (by kernel_rfl) (by intro c a w h; first | (obtain ⟨_, h, _⟩ := h; cases h; done) | (obtain ⟨_, _, h, _⟩ := h; cases h; done) | (obtain ⟨_, _, _, h, _⟩ := h; cases h; done) | (obtain ⟨_, _, _, _, h, _⟩ := h; cases h; done)) (by intro a w h; first | (obtain ⟨h, _⟩ := h; cases h; done) | (obtain ⟨_, h, _⟩ := h; cases h; done) | (obtain ⟨_, _, h, _⟩ := h; cases h; done) | (obtain ⟨_, _, _, h, _⟩ := h; cases h; done)) (Same.refl _ _) ?_
      repeat (refine wd_q (v := ?_) rfl rfl rfl rfl rfl rfl (fun w' hw' K hK => ?_) ?_; rotate_left; (have e1 := hw'.cell g (by simp); go_wp2; exact rfl); simp only [Act.put, List.setIfInBounds_toArray, List.set_cons_zero, List.set_cons_succ])
      refine wd_l rfl rfl (by intro a w h; first | (obtain ⟨h, _⟩ := h; cases h; done) | (obtain ⟨_, h, _⟩ := h; cases h; done) | (obtain ⟨_, _, h, _⟩ := h; cases h; done) | (obtain ⟨_, _, _, h, _⟩ := h; cases h; done)) ?_
      go_wp2_with (go_at_call 43; refine (refletter_int _ (x / 16) (by omega) (by omega)).mono ?_; rintro e w' ⟨rfl, rfl⟩)
      refine ⟨.inr (Same.refl _ _), ?_⟩
      repeat (refine wd_q (v := ?_) rfl rfl rfl rfl rfl rfl (fun w' hw' K hK => ?_) ?_; rotate_left; (have e1 := hw'.cell g (by simp); go_wp2; exact rfl); simp only [Act.put, List.setIfInBounds_toArray, List.set_cons_zero, List.set_cons_succ])
      refine wd_l rfl rfl (by intro a w h; first | (obtain ⟨h, _⟩ := h; cases h; done) | (obtain ⟨_, h, _⟩ := h; cases h; done) | (obtain ⟨_, _, h, _⟩ := h; cases h; done) | (obtain ⟨_, _, _, h, _⟩ := h; cases h; done)) ?_
      go_wp2_with (go_at_call 43; refine (refletter_int _ (x % 16) (by omega) (by omega)).mono ?_; rintro e w' ⟨rfl, rfl⟩)
      refine ⟨.inr (Same.refl _ _), ?_⟩
      repeat (refine wd_q (v := ?_) rfl rfl rfl rfl rfl rfl (fun w' hw' K hK => ?_) ?_; rotate_left; (skip; go_wp2; exact rfl); simp only [Act.put, List.setIfInBounds_toArray, List.set_cons_zero, List.set_cons_succ])
      refine wd_nil ?_
      go_wp2
      rw [HADD.out]
      go_roundw
      case rel => exact ⟨k + 1, by go_num, by omega, rfl, hB.drew⟩
      case measure => simp [intOf]; omega
    · have e : k = bs.length := by omega
      rw [e, List.take_length]
      clear e
      go_wp2
      go_ret
      exact ⟨rfl, hB⟩

/-- The last place below k whose letter is c; -1: none. -/
def fnd : Nat → Int → Int
  | 0, _ => -1
  | k + 1, c => if hexd (k : Int) = c then (k : Int) else fnd k c
theorem fnd_range (k : Nat) (c : Int) : -1 ≤ fnd k c ∧ fnd k c < k := by
  induction k with
  | zero => simp [fnd]
  | succ k ih => simp only [fnd]; split <;> omega
theorem fnd_dgt (c : Int) (h0 : 0 ≤ c) (h1 : c ≤ 255) : fnd 16 c = if 15 < dgt c then -1 else dgt c := by
  obtain ⟨m, rfl⟩ := Int.eq_ofNat_of_zero_le h0
  have h : ∀ m : Fin 256, fnd 16 ((m.val : Nat) : Int) = if 15 < dgt ((m.val : Nat) : Int) then -1 else dgt ((m.val : Nat) : Int) := by decide +kernel
  exact h ⟨m, by omega⟩
theorem hexd_range (n : Nat) (h : n < 16) : 0 ≤ hexd (n : Int) ∧ hexd (n : Int) < 256 := by unfold hexd; split <;> omega
theorem one_letter (s : ByteArray) (i : Nat) (h : i < s.size) (x : Int) (hx : 0 ≤ x ∧ x < 256) : ((strOfNums [x]).toList == (s.extract i (i + 1)).toList) = decide (x = sb s (i : Int)) := by
  have e1 : (strOfNums [x]).toList = [UInt8.ofNat x.toNat] := by rw [ByteArray.toList_eq, strOfNums_data]; rfl
  have e2 : (s.extract i (i + 1)).toList = [s[i]] := by
    rw [ByteArray.toList_eq]
    have hl : (s.extract i (i + 1)).size = 1 := by simp; omega
    have hd : (s.extract i (i + 1)).data.toList.length = 1 := by rw [Array.length_toList]; exact hl
    obtain ⟨b, hb⟩ : ∃ b, (s.extract i (i + 1)).data.toList = [b] := List.length_eq_one_iff.1 hd
    have h0 : (s.extract i (i + 1))[0]'(by omega) = s[i] := by simp [ByteArray.getElem_extract]
    have h1 : (s.extract i (i + 1)).data.toList[0]? = some s[i] := by rw [List.getElem?_eq_getElem (by omega), ← h0]; rfl
    rw [hb] at h1 ⊢
    simp at h1
    rw [h1]
  have e3 : sb s (i : Int) = ((s[i]).toNat : Int) := by unfold sb; simp only [Int.toNat_natCast]; rw [dif_pos h]
  rw [e1, e2, e3, Bool.eq_iff_iff, beq_iff_eq, decide_eq_true_eq]
  have h4 := (s[i]).toNat_lt
  constructor
  · intro he
    injection he with he
    rw [← he, UInt8.toNat_ofNat']; omega
  · intro he
    rw [he, Int.toNat_natCast, UInt8.ofNat_toNat]

theorem unhexR_odd2 (s : ByteArray) (n : Nat) (h : s.size = 2 * n + 1) : unhexR s = ([], false) := unhexR_odd s (by omega)
theorem unhexR_bad (s : ByteArray) (n : Nat) (h : 2 * n ≤ s.size) (hm : s.size ≤ 2 * n + 1) (h2 : unhexT s n 0 = none) : unhexR s = ([], false) := by
  by_cases ho : s.size % 2 = 1
  · exact unhexR_odd s ho
  · exact unhexR_none s ho (by rw [show s.size / 2 = n by omega]; exact h2)
theorem unhexR_good (s : ByteArray) (n : Nat) (l : List Int) (h : s.size = 2 * n) (h2 : unhexT s n 0 = some l) : unhexR s = (l, true) :=
  unhexR_some s l (by omega) (by rw [show s.size / 2 = n by omega]; exact h2)

set_option maxHeartbeats 4000000 in
theorem refunhex_any (w : World) (s : ByteArray) (hl : s.size ≤ 1000000000) : Calls Tryd.prog 33 #[.string s] w (GivesB (unhexR s) w) := by
  obtain ⟨n, h2n, h2m⟩ : ∃ n, 2 * n ≤ s.size ∧ s.size ≤ 2 * n + 1 := ⟨s.size / 2, by omega, by omega⟩
  go_enter Tryd.func33, Tryd.ntmps33
  go_wp2
  go_loopw [4, 5] (fun v i wr => ∃ (k : Nat) (done : List Int), i = .int .i64 (2 * k) ∧ k ≤ n ∧ done.length = k ∧ Grows w done v wr ∧ Hid (unhexT s n 0 = (unhexT s (n - k) (2 * k)).map fun l => done ++ l)) (fun _ i _ => s.size - (intOf i).toNat)
  case atStart => exact ⟨0, [], rfl, by omega, rfl, Grows.nil _, by show unhexT s n 0 = (unhexT s (n - 0) (2 * 0)).map fun l => [] ++ l; simp⟩
  case round =>
    obtain ⟨k, done, rfl, hk, hdl, hG, HT⟩ := hrel
    by_cases hlt : k < n
    · have hlt2 : 2 * (k : Int) < (s.size : Int) := by omega
      have b1 : (2 * (k : Int) + 1 == (s.size : Int)) = false := by rw [beq_eq_false_iff_ne]; omega
      have hx0 := sb_range s (2 * (k : Int))
      have hy0 := sb_range s (2 * (k : Int) + 1)
      have hst : unhexT s (n - k) (2 * k) = if 15 < dgt (sb s (2 * (k : Int))) ∨ 15 < dgt (sb s (2 * (k : Int) + 1)) then none else (unhexT s (n - (k + 1)) (2 * (k + 1))).map fun l => (16 * dgt (sb s (2 * (k : Int))) + dgt (sb s (2 * (k : Int) + 1))) :: l := by
        obtain ⟨m, hm⟩ : ∃ m, n - k = m + 1 := ⟨n - k - 1, by omega⟩
        rw [hm, show n - (k + 1) = m by omega]
        have e1 : ((2 * k : Nat) : Int) = 2 * (k : Int) := by omega
        have e2 : ((2 * k + 1 : Nat) : Int) = 2 * (k : Int) + 1 := by omega
        simp only [unhexT, e1, e2]
        rfl
      have hl1 : ∀ j : Nat, j < 16 → ((strOfNums [hexd (j : Int)]).toList == (s.extract (2 * k) (2 * k + 1)).toList) = decide (hexd (j : Int) = sb s (2 * (k : Int))) := fun j hj => by
        rw [one_letter s (2 * k) (by omega) _ (hexd_range j hj)]; congr 2
      have hl2 : ∀ j : Nat, j < 16 → ((strOfNums [hexd (j : Int)]).toList == (s.extract (2 * k + 1) (2 * k + 2)).toList) = decide (hexd (j : Int) = sb s (2 * (k : Int) + 1)) := fun j hj => by
        rw [one_letter s (2 * k + 1) (by omega) _ (hexd_range j hj)]; congr 2
      obtain ⟨cx, hcx⟩ : ∃ c, c = sb s (2 * (k : Int)) := ⟨_, rfl⟩
      obtain ⟨cy, hcy⟩ : ∃ c, c = sb s (2 * (k : Int) + 1) := ⟨_, rfl⟩
      rw [← hcx] at hx0 hst hl1
      rw [← hcy] at hy0 hst hl2
      have HX := Lib.hid (fnd_dgt cx hx0.1 hx0.2)
      have HY := Lib.hid (fnd_dgt cy hy0.1 hy0.2)
      have HST := Lib.hid hst
      have HDL := Lib.hid hdl
      have HL1 := Lib.hid hl1
      have HL2 := Lib.hid hl2
      clear hst hdl hl1 hl2 hcx hcy
      go_wp2
      rename World => wo
      go_loopw [6, 7, 8] (fun a b i wr => ∃ j : Nat, i = .int .i64 j ∧ j ≤ 16 ∧ a = .int .i64 (fnd j cx) ∧ b = .int .i64 (fnd j cy) ∧ Grows w done u4 wr) (fun _ _ i _ => 16 - (intOf i).toNat)
      case atStart => exact ⟨0, rfl, by omega, rfl, rfl, hG⟩
      case round =>
        clear hG
        obtain ⟨j, rfl, hj, rfl, rfl, hG⟩ := hrel
        by_cases hj16 : j < 16
        · have e1 := HL1.out j hj16
          have e2 := HL2.out j hj16
          have hfx := fnd_range j cx
          have hfy := fnd_range j cy
          have hsx : fnd (j + 1) cx = if hexd (j : Int) = cx then (j : Int) else fnd j cx := rfl
          have hsy : fnd (j + 1) cy = if hexd (j : Int) = cy then (j : Int) else fnd j cy := rfl
          obtain ⟨fx, hfx2⟩ : ∃ f, f = fnd j cx := ⟨_, rfl⟩
          obtain ⟨fy, hfy2⟩ : ∃ f, f = fnd j cy := ⟨_, rfl⟩
          rw [← hfx2] at hfx hsx ⊢
          rw [← hfy2] at hfy hsy ⊢
          obtain ⟨lt, hlt2⟩ : ∃ l, l = strOfNums [hexd (j : Int)] := ⟨_, rfl⟩
          have hlet := refletter_any (n := j) (h := hj16)
          rw [← hlt2] at e1 e2 hlet
          have HLET := Lib.hid hlet
          clear hfx2 hfy2 hlt2 hlet
          have HSX := Lib.hid hsx
          have HSY := Lib.hid hsy
          clear hsx hsy
          by_cases hcx : hexd (j : Int) = cx <;> by_cases hcy : hexd (j : Int) = cy
          all_goals
            have HCX := Lib.hid hcx
            have HCY := Lib.hid hcy
            first | rw [decide_eq_true hcx] at e1 | rw [decide_eq_false hcx] at e1
            first | rw [decide_eq_true hcy] at e2 | rw [decide_eq_false hcy] at e2
            clear hcx hcy
            go_wp2
            refine wp_region_C (Same [] wr) [1] (by kernel_rfl) (by kernel_rfl) (by intro c a w h; first | (obtain ⟨_, h, _⟩ := h; cases h; done) | (obtain ⟨_, _, h, _⟩ := h; cases h; done) | (obtain ⟨_, _, _, h, _⟩ := h; cases h; done) | (obtain ⟨_, _, _, _, h, _⟩ := h; cases h; done)) (by intro a w h; first | (obtain ⟨h, _⟩ := h; cases h; done) | (obtain ⟨_, h, _⟩ := h; cases h; done) | (obtain ⟨_, _, h, _⟩ := h; cases h; done) | (obtain ⟨_, _, _, h, _⟩ := h; cases h; done)) (Same.refl _ _) ?_
            repeat (refine wd_q (v := ?_) rfl rfl rfl rfl rfl rfl (fun w' hw' K hK => ?_) ?_; rotate_left; (skip; go_wp2; exact rfl); simp only [Act.put, List.setIfInBounds_toArray, List.set_cons_zero, List.set_cons_succ])
            refine wd_l rfl rfl (by intro a w h; first | (obtain ⟨h, _⟩ := h; cases h; done) | (obtain ⟨_, h, _⟩ := h; cases h; done) | (obtain ⟨_, _, h, _⟩ := h; cases h; done) | (obtain ⟨_, _, _, h, _⟩ := h; cases h; done)) ?_
            go_wp2_with (go_at_call 43; refine (HLET.out _).mono ?_; rintro e w' ⟨rfl, rfl⟩)
            refine ⟨.inr (Same.refl _ _), ?_⟩
            repeat (refine wd_q (v := ?_) rfl rfl rfl rfl rfl rfl (fun w' hw' K hK => ?_) ?_; rotate_left; (have e3 := e1; go_wp2; exact rfl); simp only [Act.put, List.setIfInBounds_toArray, List.set_cons_zero, List.set_cons_succ])
            refine wd_nil ?_
            go_wp2
            refine wp_region_C (Same [] wr.drew) [1] (by kernel_rfl) (by kernel_rfl) (by intro c a w h; first | (obtain ⟨_, h, _⟩ := h; cases h; done) | (obtain ⟨_, _, h, _⟩ := h; cases h; done) | (obtain ⟨_, _, _, h, _⟩ := h; cases h; done) | (obtain ⟨_, _, _, _, h, _⟩ := h; cases h; done)) (by intro a w h; first | (obtain ⟨h, _⟩ := h; cases h; done) | (obtain ⟨_, h, _⟩ := h; cases h; done) | (obtain ⟨_, _, h, _⟩ := h; cases h; done) | (obtain ⟨_, _, _, h, _⟩ := h; cases h; done)) (Same.refl _ _) ?_
            repeat (refine wd_q (v := ?_) rfl rfl rfl rfl rfl rfl (fun w' hw' K hK => ?_) ?_; rotate_left; (skip; go_wp2; exact rfl); simp only [Act.put, List.setIfInBounds_toArray, List.set_cons_zero, List.set_cons_succ])
            refine wd_l rfl rfl (by intro a w h; first | (obtain ⟨h, _⟩ := h; cases h; done) | (obtain ⟨_, h, _⟩ := h; cases h; done) | (obtain ⟨_, _, h, _⟩ := h; cases h; done) | (obtain ⟨_, _, _, h, _⟩ := h; cases h; done)) ?_
            go_wp2_with (go_at_call 43; refine (HLET.out _).mono ?_; rintro e w' ⟨rfl, rfl⟩)
            refine ⟨.inr (Same.refl _ _), ?_⟩
            repeat (refine wd_q (v := ?_) rfl rfl rfl rfl rfl rfl (fun w' hw' K hK => ?_) ?_; rotate_left; (have e3 := e2; go_wp2; exact rfl); simp only [Act.put, List.setIfInBounds_toArray, List.set_cons_zero, List.set_cons_succ])
            refine wd_nil ?_
            go_wp2
            go_roundw
            case rel =>
              refine ⟨j + 1, by go_num, by omega, ?_, ?_, hG.drew.drew⟩
              · rw [HSX.out]; first | rw [if_pos HCX.out] | rw [if_neg HCX.out]
              · rw [HSY.out]; first | rw [if_pos HCY.out] | rw [if_neg HCY.out]
            case measure => simp [intOf]; omega
        · have e : j = 16 := by omega
          rw [e, HX.out, HY.out]
          clear e hj16 hj
          have hx := dgt_range cx
          have hy := dgt_range cy
          have hst := HST.out
          obtain ⟨x, hdx⟩ : ∃ x, x = dgt cx := ⟨_, rfl⟩
          obtain ⟨y, hdy⟩ : ∃ y, y = dgt cy := ⟨_, rfl⟩
          rw [← hdx] at hx hst ⊢
          rw [← hdy] at hy hst ⊢
          have HS2 := Lib.hid hst
          clear hst hdx hdy HST HX HY HL1 HL2
          by_cases hbx : 15 < x
          · have hnone : unhexT s n 0 = none := by rw [HT.out, HS2.out, if_pos (.inl hbx)]; rfl
            have HR := Lib.hid (unhexR_bad s n h2n h2m hnone)
            rw [if_pos hbx]
            clear hnone
            go_wp2
            all_goals
              go_ret2
              rw [HR.out]
              exact Grows.givesB (v := .slice none 0 0) ⟨hG.1, Own.nil _ _⟩ rfl
          · by_cases hby : 15 < y
            · have hnone : unhexT s n 0 = none := by rw [HT.out, HS2.out, if_pos (.inr hby)]; rfl
              have HR := Lib.hid (unhexR_bad s n h2n h2m hnone)
              rw [if_neg hbx, if_pos hby]
              clear hnone
              have hbx2 : x ≤ 15 := by omega
              go_wp2
              go_ret2
              rw [HR.out]
              exact Grows.givesB (v := .slice none 0 0) ⟨hG.1, Own.nil _ _⟩ rfl
            · rw [if_neg hbx, if_neg hby]
              have hbx2 : x ≤ 15 := by omega
              have hby2 : y ≤ 15 := by omega
              have HBX := Lib.hid hbx
              have HBY := Lib.hid hby
              clear hbx hby
              go_wp2_with (apply st_grow (w0 := w) (xs := done) (ys := [16 * x + y]); rfl; rfl; exact hG.alloc _; (intro h; cases h); exact Rd.ofBlk (Blk.new' wr _ _ 5 _ rfl rfl); (rw [HDL.out]; simp; omega); intro v2 w2 hG2)
              go_roundw
              case rel =>
                refine ⟨k + 1, done ++ [16 * x + y], ?_, by omega, by rw [List.length_append, HDL.out]; rfl, hG2, ?_⟩
                · congr 1
                · show unhexT s n 0 = (unhexT s (n - (k + 1)) (2 * (k + 1))).map fun l => (done ++ [16 * x + y]) ++ l
                  rw [HT.out, HS2.out, if_neg (fun h => h.elim HBX.out HBY.out)]
                  cases unhexT s (n - (k + 1)) (2 * (k + 1)) <;> simp
              case measure => simp [intOf]; omega
    · have e : k = n := by omega
      have hsome : unhexT s n 0 = some done := by
        rw [HT.out, e, Nat.sub_self]; simp [unhexT]
      by_cases ho : s.size = 2 * n
      · have HR := Lib.hid (unhexR_good s n done ho hsome)
        have hge : (s.size : Int) ≤ 2 * (k : Int) := by omega
        clear e hsome hdl ho
        go_wp2
        go_ret2
        rw [HR.out]
        exact hG.givesB (r := (done, true)) rfl
      · have HR := Lib.hid (unhexR_odd2 s n (by omega))
        have hge : 2 * (k : Int) < (s.size : Int) := by omega
        have b1 : (2 * (k : Int) + 1 == (s.size : Int)) = true := by rw [beq_iff_eq]; omega
        clear e hsome hdl ho
        go_wp2
        go_ret2
        rw [HR.out]
        exact Grows.givesB (v := .slice none 0 0) ⟨hG.1, Own.nil _ _⟩ rfl
end TRef
end Go.Proofs.YtmfccnkjnkmgiaaDoor
