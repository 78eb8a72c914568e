/- What mac.Same, mac.Check and mac.Key answer, and the reference's padded, with, Sum and Key (inquestref03). Condition: the table of layer 2 reads as its text lays it; lengths below 2^38. -/
import Derived.Test.YtjmoaalchefdnaaDoorMac
import Derived.Test.YtjmoaalchefdnaaDoorGuard
import Derived.Lib.ConvBytes
namespace Go.Proofs.YtjmoaalchefdnaaDoor
open Go.RowKit

theorem bits_u8_range (op : BinOp) (a b : Int) : 0 ≤ bits op .u8 a b ∧ bits op .u8 a b < 256 := by
  unfold bits
  have : ∀ n : Int, IntKind.u8.wrap n = n % 256 := fun n => by simp [IntKind.wrap, IntKind.signed, IntKind.bits]
  rw [this]
  omega
theorem xorL_range (l : List Int) (x : Int) : U8 (xorL l x) := U8.of fun y hy => by
  obtain ⟨z, _, rfl⟩ := List.mem_map.1 hy
  exact bits_u8_range _ _ _
theorem ofInt8 (v : BitVec 8) : BitVec.ofInt 8 (v.toNat : Int) = v := by
  rw [BitVec.ofInt_natCast, BitVec.ofNat_toNat]; simp
theorem bits_u8 (op : BinOp) (x y : Int) : bits op .u8 x y = ((match op with
    | .and => BitVec.ofInt 8 x &&& BitVec.ofInt 8 y
    | .or => BitVec.ofInt 8 x ||| BitVec.ofInt 8 y
    | .xor => BitVec.ofInt 8 x ^^^ BitVec.ofInt 8 y
    | _ => BitVec.ofInt 8 x &&& ~~~BitVec.ofInt 8 y).toNat : Int) := by
  unfold bits
  have hw : ∀ v : BitVec 8, IntKind.u8.wrap (v.toNat : Int) = (v.toNat : Int) := fun v => by
    have := v.isLt
    simp [IntKind.wrap, IntKind.signed, IntKind.bits]; omega
  exact hw _
theorem ofInt8_inj (a b : Int) (ha : 0 ≤ a ∧ a < 256) (hb : 0 ≤ b ∧ b < 256) (h : BitVec.ofInt 8 a = BitVec.ofInt 8 b) : a = b := by
  have := congrArg BitVec.toNat h
  rw [BitVec.toNat_ofInt, BitVec.toNat_ofInt] at this
  omega
theorem or_xor_zero (z a b : Int) (hz : 0 ≤ z ∧ z < 256) (ha : 0 ≤ a ∧ a < 256) (hb : 0 ≤ b ∧ b < 256) : bits .or .u8 z (bits .xor .u8 a b) = 0 ↔ z = 0 ∧ a = b := by
  rw [bits_u8 .xor, bits_u8 .or]
  simp only [ofInt8]
  constructor
  · intro h
    have h0 : (BitVec.ofInt 8 z ||| (BitVec.ofInt 8 a ^^^ BitVec.ofInt 8 b)) = 0#8 := BitVec.eq_of_toNat_eq (by simpa using h)
    obtain ⟨h1, h2⟩ := BitVec.or_eq_zero_iff.1 h0
    exact ⟨ofInt8_inj z 0 hz (by omega) (by rw [h1]; rfl), ofInt8_inj a b ha hb (BitVec.xor_eq_zero_iff.1 h2)⟩
  · rintro ⟨rfl, rfl⟩
    simp

set_option maxHeartbeats 1000000 in
theorem macsame_any (w : World) (A B : Option Addr) (c d : Nat) (xs ys : List Int) (hA : Rd w A (nums .u8 xs)) (hB : Rd w B (nums .u8 ys)) (hy : ys.length ≤ 1099511627776) (ux : U8 xs) (uy : U8 ys) :
    Calls Tryd.prog 15 #[.slice A xs.length c, .slice B ys.length d] w fun e w' => e = .returned (.bool (decide (xs = ys))) ∧ Below w.heap.size w w' := by
  by_cases hl : xs.length = ys.length
  · have b1 : ((xs.length : Int) != (ys.length : Int)) = false := by simp [hl]
    rw [hl] at b1 ⊢
    have HL := Lib.hid hl
    have HUX := Lib.hid ux
    have HUY := Lib.hid uy
    clear hl ux uy
    go_enter Tryd.func15, Tryd.ntmps15
    go_wp2
    clear b1
    go_loopw [5, 6, 14] (fun v _ i wr => ∃ (k : Nat) (z : Int), i = .int .i64 k ∧ k ≤ ys.length ∧ v = .int .u8 z ∧ (0 ≤ z ∧ z < 256) ∧ Hid (z = 0 ↔ xs.take k = ys.take k) ∧ Below w.heap.size w wr) (fun _ _ i _ => ys.length - (intOf i).toNat)
    case atStart => exact ⟨0, 0, rfl, by omega, rfl, by omega, by show (0 : Int) = 0 ↔ xs.take 0 = ys.take 0; simp, Below.refl _ _⟩
    case round =>
      obtain ⟨k, z, rfl, hk, rfl, hz, HZ, hb⟩ := hrel
      by_cases hlt : k < ys.length
      · obtain ⟨g, o, rfl, hg⟩ := hA.get (by rw [nums_length, HL.out]; omega)
        obtain ⟨g2, o2, rfl, hg2⟩ := hB.get (by rw [nums_length]; omega)
        have l1 : g < w.heap.size := World.block_lt_of_cell? (h := hg k _ (nums_at .u8 xs k (by rw [HL.out]; exact hlt)))
        have l2 : g2 < w.heap.size := World.block_lt_of_cell? (h := hg2 k _ (nums_at .u8 ys k hlt))
        have c1 : wr.cell? ⟨g, o + k, none⟩ = some (.int .u8 (ga xs k)) := by
          rw [hb.cell (p := ⟨g, o + k, none⟩) l1]; exact hg k _ (nums_at .u8 xs k (by rw [HL.out]; exact hlt))
        have c2 : wr.cell? ⟨g2, o2 + k, none⟩ = some (.int .u8 (ga ys k)) := by
          rw [hb.cell (p := ⟨g2, o2 + k, none⟩) l2]; exact hg2 k _ (nums_at .u8 ys k hlt)
        have s1 : xs.take (k + 1) = xs.take k ++ [ga xs k] := by
          rw [List.take_add_one, List.getElem?_eq_getElem (by rw [HL.out]; exact hlt)]
          simp [ga, HL.out, hlt]
        have s2 : ys.take (k + 1) = ys.take k ++ [ga ys k] := by
          rw [List.take_add_one, List.getElem?_eq_getElem hlt]
          simp [ga, hlt]
        have hrel : bits .or .u8 z (bits .xor .u8 (ga xs k) (ga ys k)) = 0 ↔ xs.take (k + 1) = ys.take (k + 1) := by
          rw [or_xor_zero _ _ _ hz (HUX.out k) (HUY.out k), s1, s2, HZ.out]
          constructor
          · rintro ⟨h1, h2⟩; rw [h1, h2]
          · intro h
            have hlen : (xs.take k).length = (ys.take k).length := by rw [List.length_take, List.length_take, HL.out]
            obtain ⟨h1, h2⟩ := List.append_inj h hlen
            exact ⟨h1, by simpa using h2⟩
        have hzr := bits_u8_range .or z (bits .xor .u8 (ga xs k) (ga ys k))
        have HREL := Lib.hid hrel
        clear s1 s2 hg hg2 hrel
        go_wp2
        refine wp_region_C (Same [g, g2] wr) [] (by kernel_rfl) (by kernel_rfl) (by intro c a w h; first | (obtain ⟨_, h, _⟩ := h; cases h; done) | (obtain ⟨_, _, h, _⟩ := h; cases h; done)) (by intro a w h; first | (obtain ⟨h, _⟩ := h; cases h; done) | (obtain ⟨_, h, _⟩ := h; cases h; done)) (Same.refl _ _) ?_
        repeat (refine wd_q (v := ?_) rfl rfl rfl rfl rfl rfl (fun w' hw' K hK => ?_) ?_; rotate_left; (have e1 := hw'.cell g (by simp); have e2 := hw'.cell g2 (by simp); go_wp2; exact rfl); simp only [Act.put, List.setIfInBounds_toArray, List.set_cons_zero, List.set_cons_succ])
        refine wd_nil ?_
        go_wp2
        go_roundw
        case rel => exact ⟨k + 1, _, by go_num, by omega, rfl, hzr, HREL, hb.drew⟩
        case measure => simp [intOf]; omega
      · have e : k = ys.length := by omega
        have hz2 : z = 0 ↔ xs = ys := by
          have := HZ.out
          rw [e, List.take_length, ← HL.out, List.take_length] at this
          exact this
        have hd : decide (xs = ys) = decide (z = 0) := by rw [decide_eq_decide]; exact hz2.symm
        have hbz : (z == 0) = decide (z = 0) := by rw [Bool.eq_iff_iff]; simp
        have HD := Lib.hid hd
        have HBZ := Lib.hid hbz
        clear hz2 hd hbz e
        go_wp2
        go_ret
        exact ⟨by rw [HD.out, ← HBZ.out]; rfl, hb⟩
  · have b1 : ((xs.length : Int) != (ys.length : Int)) = true := by simp; omega
    have hne : decide (xs = ys) = false := by
      rw [decide_eq_false_iff_not]
      rintro rfl
      exact hl rfl
    go_enter Tryd.func15, Tryd.ntmps15
    go_wp2
    go_ret
    exact ⟨by rw [hne]; rfl, Below.refl _ _⟩
end Go.Proofs.YtjmoaalchefdnaaDoor
