/- What mac.Check and mac.Key answer, and the reference's padded, with, Sum and Key (inquestref03). Condition: the table of layer 2 reads as its text lays it; lengths below 2^38. -/
import Derived.Test.YtjmoaalchefdnaaDoorMacS
namespace Go.Proofs.YtjmoaalchefdnaaDoor
open Go.RowKit

theorem bytesF_range (l : List Int) : U8 (bytesF l) := by
  induction l with
  | nil => exact U8.nil
  | cons x l ih => exact (putF_range x 4).append ih
theorem sumF_range (l : List Int) : U8 (sumF l) := bytesF_range _
/-- A text's bytes. -/
def strL (s : ByteArray) : List Int := s.data.toList.map fun b => (b.toNat : Int)
theorem strL_len (s : ByteArray) : (strL s).length = s.size := by unfold strL; rw [List.length_map, Array.length_toList]; rfl
theorem strL_range (s : ByteArray) : U8 (strL s) := U8.of fun x hx => by
  obtain ⟨b, _, rfl⟩ := List.mem_map.1 hx
  have := b.toNat_lt
  omega
/-- The bytes of a text in memory of their own: the world behind the conversion. -/
theorem bytes_world {w : World} {s : ByteArray} : Below w.heap.size w (Lib.bytesWorld w 5 s) ∧ Rd (Lib.bytesWorld w 5 s) (some ⟨w.heap.size, 0, none⟩) (nums .u8 (strL s)) := by
  refine ⟨⟨rfl, rfl, rfl, ?_, fun k hk => Lib.bytesWorld_at_old w _ s k hk⟩, .inr ⟨_, _, rfl, fun j v hv => ?_⟩⟩
  · rw [Lib.bytesWorld_size]; omega
  · have hj : j < s.size := by
      have := (List.getElem?_eq_some_iff.1 hv).1
      rwa [nums_length, strL_len] at this
    rw [Nat.zero_add, Lib.bytesWorld_cell w _ s j hj, ← hv, nums_at _ _ _ (by rw [strL_len]; exact hj)]
    congr 2
    unfold strL
    rw [List.getD_eq_getElem?_getD, List.getD_eq_getElem?_getD, List.getElem?_map]
    cases s.data.toList[j]? <;> rfl
/-- []byte(s). -/
theorem st_bytes {ops : Array Oper} {Q : Exit → Act → World → Prop} {rest : List Oper} {a : Act} {w : World} {d' : Option Tmp} {tt src : TypeId} {x : Operand} {pos : String} {after : Array Edge} {s : ByteArray} {u : TypeDesc}
    (hs : Tryd.prog.underlying src = some u) (hx : a.eval x = .string s)
    (h : ∀ w' c, Below w.heap.size w w' → Rd w' (some ⟨w.heap.size, 0, none⟩) (nums .u8 (strL s)) → s.size ≤ c → wpList Tryd.prog ops Q rest (a.put d' (.slice (some ⟨w.heap.size, 0, none⟩) s.size c)) w') :
    wpList Tryd.prog ops Q (⟨d', .convert src 22 x, tt, pos, after, none⟩ :: rest) a w :=
  wpList_plain rfl fun K hK => by
    have hrun := Lib.run_convert_string_bytes (P := Tryd.prog) w src 22 5 s hs Tryd.underlying22 Tryd.underlying5
    unfold Oper.wp execOp
    simp only [Sem.run_bind, hx, hrun]
    exact hK _ _ (h _ _ bytes_world.1 bytes_world.2 (grownCap_ge _ _ _ _))

set_option maxHeartbeats 2000000 in
theorem maccheck_any (w : World) (key : List Int) (A : Option Addr) (c : Nat) (hr : Rd w A (nums .u8 key)) (hc : key.length ≤ c) (hA : A = none → c = 0) (hl : key.length ≤ 274877906944)
    (text : List Int) (B : Option Addr) (d : Nat) (hr2 : Rd w B (nums .u8 text)) (hd : text.length ≤ d) (hB : B = none → d = 0) (hl2 : text.length ≤ 274877906944)
    (s : List Int) (D : Option Addr) (e : Nat) (hr3 : Rd w D (nums .u8 s)) (hl3 : s.length ≤ 274877906944) (us : U8 s) (hk : KV w) :
    Calls Tryd.prog 18 #[.slice A key.length c, .slice B text.length d, .slice D s.length e] w fun e w' => e = .returned (.bool (decide (macF key text = s))) ∧ Below w.heap.size w w' := by
  have hmu : U8 (macF key text) := sumF_range _
  have HR3 := Lib.hid hr3
  have HU := Lib.hid us
  have HMU := Lib.hid hmu
  have hmac := mac_any w key A c hr hc hA hl text B d hr2 hd hB hl2 hk
  obtain ⟨m, hm⟩ : ∃ m, m = macF key text := ⟨_, rfl⟩
  have hml : m.length = 32 := by rw [hm, macF_len]
  rw [← hm] at hmac HMU ⊢
  have HMAC := Lib.hid hmac
  have HML := Lib.hid hml
  clear hr3 us hmu hmac hm hml hr hc hA hl hr2 hd hB hl2 hk
  go_enter Tryd.func18, Tryd.ntmps18
  go_wp2_with (first
    | (go_at_call 11; refine HMAC.out.mono ?_; rintro e w1 ⟨rfl, hb1⟩)
    | (apply st_storeW (off := 0) (vs := nums .u8 m) (cs := nums .u8 (List.replicate 32 0)) (T := 26); rfl; rfl; exact Blk.new' w1 _ _ _ _ rfl rfl; (rw [nums_length, HML.out]; kernel_rfl); (rw [nums_length, HML.out]; decide); exact nums_one _ _; intro w2 hb2 hw2; rw [laid_all _ _ (by rw [nums_length, HML.out]; rfl)] at hb2; have hB2 := Wrote.below (hb1.alloc hb1.size _) hw2 hb1.size)
    | (apply st_allArr; exact Tryd.underlying26; kernel_rfl; rfl)
    | (go_at_call 15; have hcall := macsame_any w2 (some ⟨w1.heap.size, 0, none⟩) D 32 e m s (Rd.ofBlk hb2) (HR3.out.up hB2) (by omega) HMU.out HU.out; rw [HML.out] at hcall; refine hcall.mono ?_; clear hcall; rintro e w3 ⟨rfl, hb3⟩))
  go_ret
  exact ⟨rfl, hB2.trans (hb3.mono hB2.size)⟩

/-- It answers a row of its own: an array, cut whole. -/
def GivesArr (bs : List Int) (T : TypeId) (w : World) (e : Ending) (w' : World) : Prop := ∃ g, e = .returned (.slice (some ⟨g, 0, none⟩) bs.length bs.length) ∧ w.heap.size ≤ g ∧ Below w.heap.size w w' ∧ Blk w' g (nums .u8 bs) T

set_option maxHeartbeats 2000000 in
theorem mackey_any (w : World) (key : List Int) (A : Option Addr) (c : Nat) (hr : Rd w A (nums .u8 key)) (hc : key.length ≤ c) (hA : A = none → c = 0) (hl : key.length ≤ 274877906944)
    (s : ByteArray) (hs : s.size ≤ 274877906944) (hk : KV w) :
    Calls Tryd.prog 19 #[.slice A key.length c, .string s] w (GivesArr (macF key (strL s)) 26 w) := by
  have hml := macF_len key (strL s)
  have HML := Lib.hid hml
  have HR := Lib.hid hr
  have HC := Lib.hid hc
  have HA := Lib.hid hA
  have HK := Lib.hid hk
  have hsl := strL_len s
  have HSL := Lib.hid hsl
  clear hml hr hc hA hk hsl
  go_enter Tryd.func19, Tryd.ntmps19
  go_wp2_with (first
    | (apply st_bytes; exact Tryd.underlying9; rfl; intro w1 c1 hB1 hR1 hc1)
    | (go_at_call 11; have hcall := mac_any w1 key A c (HR.out.up hB1) HC.out HA.out hl (strL s) (some ⟨w.heap.size, 0, none⟩) c1 hR1 (by rw [HSL.out]; exact hc1) (fun h => by cases h) (by rw [HSL.out]; exact hs) (HK.out.below hB1 HK.out.lt); rw [HSL.out] at hcall; refine hcall.mono ?_; clear hcall; rintro e w2 ⟨rfl, hb2⟩; have hB2 := hB1.trans (hb2.mono hB1.size))
    | (apply st_storeW (off := 0) (vs := nums .u8 (macF key (strL s))) (cs := nums .u8 (List.replicate 32 0)) (T := 26); rfl; rfl; exact Blk.new' w2 _ _ _ _ rfl rfl; (rw [nums_length, HML.out]; kernel_rfl); (rw [nums_length, HML.out]; decide); exact nums_one _ _; intro w3 hb3 hw3; rw [laid_all _ _ (by rw [nums_length, HML.out]; rfl)] at hb3; have hB3 := Wrote.below (hB2.alloc hB2.size _) hw3 hB2.size)
    | (apply st_allArr; exact Tryd.underlying26; kernel_rfl; rfl))
  go_ret
  exact ⟨_, by rw [HML.out]; rfl, hB2.size, hB3, hb3⟩

set_option maxHeartbeats 2000000 in
theorem refwith_any (w : World) (bs : List Int) (A : Option Addr) (c : Nat) (hr : Rd w A (nums .u8 bs)) (hl : bs.length ≤ 274877906944) (x : Int) :
    Calls Tryd.prog 27 #[.slice A bs.length c, .int .u8 x] w (Gives (xorL bs x) w) := by
  have HR := Lib.hid hr
  clear hr
  go_enter Tryd.func27, Tryd.ntmps27
  go_wp2
  go_loopw [5, 6] (fun v i wr => ∃ k : Nat, i = .int .i64 k ∧ k ≤ bs.length ∧ Grows w (xorL (bs.take k) x) v wr) (fun _ i _ => bs.length - (intOf i).toNat)
  case atStart => exact ⟨0, rfl, by omega, Grows.nil _⟩
  case round =>
    obtain ⟨k, rfl, hk, hG⟩ := hrel
    by_cases hlt : k < bs.length
    · obtain ⟨g, o, rfl, hrd⟩ := HR.out.get (by rw [nums_length]; omega)
      have c1 := hrd k _ (nums_at .u8 bs k hlt)
      rw [← ga_eq] at c1
      have hg : g < w.heap.size := World.block_lt_of_cell? (h := c1)
      have c2 : wr.cell? ⟨g, o + k, none⟩ = some (.int .u8 (ga bs k)) := by rw [hG.1.cell (p := ⟨g, o + k, none⟩) hg]; exact c1
      have hst : xorL (bs.take k) x ++ [bits .xor .u8 (ga bs k) x] = xorL (bs.take (k + 1)) x := by
        have e1 : bs.take (k + 1) = bs.take k ++ [ga bs k] := by
          rw [List.take_add_one, List.getElem?_eq_getElem hlt]; simp [ga, hlt]
        rw [e1]; simp [xorL]
      have hln : (xorL (bs.take k) x).length ≤ 274877906944 := by rw [xorL_len, List.length_take]; omega
      have HST := Lib.hid hst
      clear hst c1 hrd
      go_wp2_with (apply st_grow (w0 := w) (xs := xorL (bs.take k) x) (ys := [bits .xor .u8 (ga bs k) x]); rfl; rfl; exact hG.alloc _; (intro h; cases h); exact Rd.ofBlk (Blk.new' _ _ _ 5 _ rfl rfl); (simp; omega); intro v2 w2 hG2)
      rw [HST.out] at hG2
      go_roundw
      case rel => exact ⟨k + 1, by go_num, by omega, hG2⟩
      case measure => simp [intOf]; omega
    · have e : k = bs.length := by omega
      rw [e, List.take_length] at hG
      clear e
      go_wp2
      go_ret
      exact hG.gives

set_option maxHeartbeats 4000000 in
theorem refpadded_any (w : World) (key : List Int) (A : Option Addr) (c : Nat) (hr : Rd w A (nums .u8 key)) (hA : A = none → c = 0) (hl : key.length ≤ 274877906944) (hu : U8 key) :
    Calls Tryd.prog 25 #[.slice A key.length c] w (Gives (k64 key) w) := by
  have HR := Lib.hid hr
  have HA := Lib.hid hA
  have HU := Lib.hid hu
  have hk64 : k64 key = kS key ++ List.replicate (64 - (kS key).length) 0 := rfl
  have hksl := kS_len key
  have hX : (64 < key.length ∧ kS key = sumF key) ∨ (key.length ≤ 64 ∧ kS key = key) := by
    unfold kS
    split
    · rename_i h; exact .inl ⟨h, rfl⟩
    · rename_i h; exact .inr ⟨by omega, rfl⟩
  obtain ⟨ks, hks⟩ : ∃ ks, ks = kS key := ⟨_, rfl⟩
  rw [← hks] at hk64 hksl hX
  have HK64 := Lib.hid hk64
  clear hr hA hu hks hk64
  rcases hX with ⟨h64, he⟩ | ⟨h64, he⟩
  · have hk32 : ks.length = 32 := by rw [he, sumF_len]
    have HE := Lib.hid he
    have HL := Lib.hid hk32
    clear he hk32
    go_enter Tryd.func25, Tryd.ntmps25
    have tok1 : True := trivial
    go_wp2_with (first
      | (go_at_call 10; have _t := tok1; refine (refcopy_any w A c key HA.out HR.out (by omega)).mono ?_; rintro e w1 ⟨v1, rfl, hb1, ho1⟩; clear tok1 _t; obtain ⟨A1, c1, rfl, h1, hA1, hR1, hx1⟩ := ho1.from)
      | (go_at_call 26; refine (refsum_any w1 key A1 c1 hR1 hA1 (by omega) HU.out).mono ?_; rintro e w2 ⟨rfl, hb2⟩; rw [← HE.out]; have hB2 := hb1.trans (hb2.mono hb1.size))
      | (apply st_storeW (off := 0) (vs := nums .u8 ks) (cs := nums .u8 (List.replicate 32 0)) (T := 26); rfl; rfl; exact Blk.new' w2 _ _ _ _ rfl rfl; (rw [nums_length, HL.out]; kernel_rfl); (rw [nums_length, HL.out]; decide); exact nums_one _ _; intro w3 hb3 hw3; rw [laid_all _ _ (by rw [nums_length, HL.out]; rfl)] at hb3; have hB3 := Wrote.below (hB2.alloc hB2.size _) hw3 hB2.size)
      | (apply st_allArr; exact Tryd.underlying26; kernel_rfl; rfl)
      | (go_at_call 10; have hcall := refcopy_any w3 (some ⟨w2.heap.size, 0, none⟩) 32 ks (fun h => by cases h) (Rd.ofBlk hb3) (by rw [HL.out]; decide); rw [HL.out] at hcall; refine hcall.mono ?_; clear hcall; rintro e w4 ⟨v4, rfl, hb4, ho4⟩))
    have hG : Grows w ks v4 w4 := ⟨hB3.trans (hb4.mono hB3.size), ho4.mono hB3.size⟩
    have hlen : ks.length ≤ 64 := hksl
    clear hB3 hb4 ho4 hb3 hw3 hB2 hb2 ho1 hR1 hx1 hb1
    go_loopw [3] (fun v wr => ∃ (k : Nat) (A : Option Addr) (c : Nat), v = .slice A (ks.length + k) c ∧ ks.length + k ≤ 64 ∧ Grows w (ks ++ List.replicate k 0) v wr) (fun v _ => 64 - lenV v)
    case atStart =>
      obtain ⟨A2, c2, e2, _⟩ := hG.2.from
      refine ⟨0, A2, c2, e2, hlen, ?_⟩
      simpa using hG
    case round =>
      clear hG
      obtain ⟨k, A2, c2, rfl, hk, hG⟩ := hrel
      by_cases hlt : ks.length + k < 64
      · go_wp2_with (apply st_grow (w0 := w) (xs := ks ++ List.replicate k 0) (ys := [0]); rfl; rfl; exact hG.alloc _; (intro h; cases h); exact Rd.ofBlk (Blk.new' _ _ _ 5 _ rfl rfl); (simp; omega); intro v2 w2 hG2)
        go_roundw
        case rel =>
          obtain ⟨A3, c3, rfl, h3, _, _, _⟩ := hG2.2.from
          refine ⟨k + 1, A3, c3, ?_, by omega, ?_⟩
          · congr 1; simp
          · have : (ks ++ List.replicate k 0 ++ [0] : List Int) = ks ++ List.replicate (k + 1) 0 := by
              rw [List.append_assoc, List.replicate_succ']
            rw [← this]; exact hG2
        case measure =>
          obtain ⟨A3, c3, rfl, h3, _, _, _⟩ := hG2.2.from
          simp [lenV]; omega
      · have e : k = 64 - ks.length := by omega
        have HE2 := Lib.hid e
        clear e
        go_wp2
        go_ret
        rw [HK64.out, ← HE2.out]
        exact hG.gives
  · subst he
    go_enter Tryd.func25, Tryd.ntmps25
    go_wp2_with (go_at_call 10; refine (refcopy_any w A c ks HA.out HR.out (by omega)).mono ?_; rintro e w4 ⟨v4, rfl, hb4, ho4⟩; obtain ⟨A4, c4, rfl, h4, _, _, _⟩ := ho4.from)
    have hG : Grows w ks (.slice A4 ks.length c4) w4 := ⟨hb4, ho4⟩
    have hlen : ks.length ≤ 64 := hksl
    clear hb4 ho4
    go_loopw [3] (fun v wr => ∃ (k : Nat) (A : Option Addr) (c : Nat), v = .slice A (ks.length + k) c ∧ ks.length + k ≤ 64 ∧ Grows w (ks ++ List.replicate k 0) v wr) (fun v _ => 64 - lenV v)
    case atStart =>
      obtain ⟨A2, c2, e2, _⟩ := hG.2.from
      refine ⟨0, A2, c2, e2, hlen, ?_⟩
      simpa using hG
    case round =>
      clear hG
      obtain ⟨k, A2, c2, rfl, hk, hG⟩ := hrel
      by_cases hlt : ks.length + k < 64
      · go_wp2_with (apply st_grow (w0 := w) (xs := ks ++ List.replicate k 0) (ys := [0]); rfl; rfl; exact hG.alloc _; (intro h; cases h); exact Rd.ofBlk (Blk.new' _ _ _ 5 _ rfl rfl); (simp; omega); intro v2 w2 hG2)
        go_roundw
        case rel =>
          obtain ⟨A3, c3, rfl, h3, _, _, _⟩ := hG2.2.from
          refine ⟨k + 1, A3, c3, ?_, by omega, ?_⟩
          · congr 1; simp
          · have : (ks ++ List.replicate k 0 ++ [0] : List Int) = ks ++ List.replicate (k + 1) 0 := by
              rw [List.append_assoc, List.replicate_succ']
            rw [← this]; exact hG2
        case measure =>
          obtain ⟨A3, c3, rfl, h3, _, _, _⟩ := hG2.2.from
          simp [lenV]; omega
      · have e : k = 64 - ks.length := by omega
        have HE2 := Lib.hid e
        clear e
        go_wp2
        go_ret
        rw [HK64.out, ← HE2.out]
        exact hG.gives
end Go.Proofs.YtjmoaalchefdnaaDoor
