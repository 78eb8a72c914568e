/- What word.Var, word.ReadVar and the reference's Var and ReadVar answer. No condition but the kinds' own bounds. -/
import Derived.Test.YtepicdcmcagipaaGb
import Derived.Lib.EndianBits
namespace Go.Proofs.Ytepicdcmcagipaa
open Go.RowKit

@[go_sem] theorem run_shl64 {P : Program} (x y : Int) (yk : IntKind) (h : 0 ≤ y) (w : World) : (Op.shift .shl .u64 x yk y).run P w = .ok (.int .u64 (IntKind.u64.wrap (x * 2 ^ min y.toNat 64))) w := by
  unfold Op.shift
  rw [if_neg (by omega)]
  rfl
@[go_sem] theorem run_shr64 {P : Program} (x y : Int) (yk : IntKind) (h : 0 ≤ y) (w : World) : (Op.shift .shr .u64 x yk y).run P w = .ok (.int .u64 (x.fdiv (2 ^ min y.toNat 64))) w := by
  unfold Op.shift
  rw [if_neg (by omega)]
  rfl
theorem or128 (x : Int) (h0 : 0 ≤ x) (h1 : x < 256) : bits .or .u8 x 128 = 128 + x % 128 := by
  obtain ⟨m, rfl⟩ := Int.eq_ofNat_of_zero_le h0
  have h : ∀ m : Fin 256, bits .or .u8 ((m.val : Nat) : Int) 128 = 128 + ((m.val : Nat) : Int) % 128 := by decide +kernel
  exact h ⟨m, by omega⟩
theorem and127 (x : Int) (h0 : 0 ≤ x) (h1 : x < 256) : bits .and .u8 x 127 = x % 128 := by
  obtain ⟨m, rfl⟩ := Int.eq_ofNat_of_zero_le h0
  have h : ∀ m : Fin 256, bits .and .u8 ((m.val : Nat) : Int) 127 = ((m.val : Nat) : Int) % 128 := by decide +kernel
  exact h ⟨m, by omega⟩

set_option maxRecDepth 100000 in
set_option maxHeartbeats 1000000 in
theorem var_any (w : World) (X : Nat) (hx : X ≤ 1099511627776) :
    Calls Try.prog 22 #[.int .u64 X] w (Gives (varL X) w) := by
  obtain ⟨all, hall⟩ : ∃ all, all = varL X := ⟨_, rfl⟩
  rw [← hall]
  have HA := Lib.hid hall
  clear hall
  go_enter Try.func22, Try.ntmps22
  go_wp2_with fail
  go_loopw [0, 3] (fun vx vb wr => ∃ (m f : Nat) (done : List Int), vx = .int .u64 m ∧ done.length + f = 10 ∧ 1 ≤ f ∧ m ≤ 1099511627776 ∧ Hid (m < 128 ^ f) ∧ Hid (all = done ++ varT f m) ∧ Grows w done vb wr) (fun vx _ _ => (intOf vx).toNat)
  case atStart => exact ⟨X, 10, [], rfl, rfl, by omega, hx, Lib.hid (by omega), HA, Grows.nil w⟩
  case round =>
    obtain ⟨m, f, done, rfl, hf, hf1, hm, HM, HE, hG⟩ := hrel
    obtain ⟨f, rfl⟩ : ∃ g, f = g + 1 := ⟨f - 1, by omega⟩
    by_cases hlt : m < 128
    · have he : all = done ++ [(m : Int)] := by rw [HE.out]; unfold varT; rw [if_pos hlt]
      have HN := Lib.hid he
      clear he HE HM
      have hw8 : (m : Int) % 256 = m := by omega
      go_wp2_with ((with_reducible apply st_grow (w0 := w) (xs := done) (ys := [(m : Int)])); rfl; rfl; exact hG.alloc _; (intro h; cases h); exact Rd.ofBlk (Blk.new' _ _ _ 5 _ rfl rfl); (simp; omega); intro v2 w2 hG2; rw [← HN.out] at hG2)
      go_ret
      exact hG2.gives
    · have hg : 128 ≤ m := by omega
      have he : all = (done ++ [((128 + m % 128 : Nat) : Int)]) ++ varT f (m / 128) := by rw [HE.out]; conv => lhs; unfold varT
                                                                                          rw [if_neg hlt]; simp
      have hm2 : m / 128 < 128 ^ f := by have := HM.out; rw [Nat.pow_succ] at this; omega
      have hfp : 1 ≤ f := by
        cases f with
        | zero => simp at hm2; omega
        | succ f => omega
      have hor := or128 ((m : Int) % 256) (by omega) (by omega)
      rw [show (m : Int) % 256 % 128 = ((m % 128 : Nat) : Int) by omega] at hor
      have hor2 : bits .or .u8 ((m : Int) % 256) 128 = ((128 + m % 128 : Nat) : Int) := by rw [hor]; omega
      obtain ⟨y, hy⟩ : ∃ y, y = ((128 + m % 128 : Nat) : Int) := ⟨_, rfl⟩
      rw [← hy] at he hor2
      have HN := Lib.hid he
      have HM2 := Lib.hid hm2
      clear he HE HM hm2 hor hy
      go_wp2_with ((with_reducible apply st_grow (w0 := w) (xs := done) (ys := [y])); rfl; rfl; exact hG.alloc _; (intro h; cases h); exact Rd.ofBlk (Blk.new' _ _ _ 5 _ rfl rfl); (simp; omega); intro v2 w2 hG2)
      go_roundw
      case rel => exact ⟨m / 128, f, done ++ [y], by first | rfl | (congr 1; omega), by simp; omega, hfp, by omega, HM2.out, HN.out, hG2⟩
      case measure => simp [intOf]; omega

theorem refvar_step (m f : Nat) (h : ¬ m < 128) : varT (f + 1) m = [((128 + m % 128 : Nat) : Int)] ++ varT f (m / 128) := by
  conv => lhs; unfold varT
  rw [if_neg h]; rfl
set_option maxRecDepth 100000 in
set_option maxHeartbeats 1000000 in
theorem refvarT_any (f : Nat) : ∀ (w : World) (m : Nat), m ≤ 1099511627776 → 1 ≤ f → f ≤ 10 → m < 128 ^ f →
    Calls Try.prog 23 #[.int .u64 m] w (Gives (varT f m) w) := by
  induction f with
  | zero => intro w m _ h; omega
  | succ f ih =>
    intro w m hm h1 h10 hp
    by_cases hlt : m < 128
    · have he : varT (f + 1) m = [(m : Int)] := by unfold varT; rw [if_pos hlt]
      have hw8 : (m : Int) % 256 = m := by omega
      rw [he]
      clear he ih hp
      go_enter Try.func23, Try.ntmps23
      go_wp2_with fail
      go_ret
      exact ⟨_, rfl, (Below.refl _ _).alloc (Nat.le_refl _) _, Own.ofBlk (bs := [(m : Int)]) (Blk.new' _ _ _ _ _ rfl rfl) (Nat.le_refl _) (by rw [List.length_singleton]; decide)⟩
    · have he := refvar_step m f hlt
      have hm2 : m / 128 < 128 ^ f := by rw [Nat.pow_succ] at hp; omega
      have hfp : 1 ≤ f := by
        cases f with
        | zero => simp at hm2; omega
        | succ f => omega
      have hr := fun w => ih w (m / 128) (by omega) hfp (by omega) hm2
      have hvl := varT_len f (m / 128)
      obtain ⟨y, hy⟩ : ∃ y, y = ((128 + m % 128 : Nat) : Int) := ⟨_, rfl⟩
      obtain ⟨T, hT⟩ : ∃ T, T = varT f (m / 128) := ⟨_, rfl⟩
      rw [← hT] at hr he hvl
      rw [he, ← hy]
      have hw8 : 128 + (m : Int) % 128 = y := by rw [hy]; omega
      rw [show ((m / 128 : Nat) : Int) = (m : Int) / 128 by omega] at hr
      have HR := Lib.hid hr
      clear hr he hy hT ih hp hm2
      go_enter Try.func23, Try.ntmps23
      go_wp2_with fail
      go_at_call 23
      refine (HR.out _).mono ?_
      rintro e w1 ⟨v1, rfl, hb1, ho1⟩
      obtain ⟨A1, c1, rfl, h2, h3, h4, h5⟩ := ho1.from
      have hB0 : Below w.heap.size w (w.alloc (.cells #[.int .u8 y] 5)) := (Below.refl _ _).alloc (Nat.le_refl _) _
      have hB := hB0.trans (hb1.mono hB0.size)
      have hblk : Blk w1 w.heap.size (nums .u8 [y]) 5 := (Blk.new' w _ (nums .u8 [y]) 5 _ rfl rfl).up hb1
      have hG : Grows w [y] (.slice (some ⟨w.heap.size, 0, none⟩) 1 1) w1 := ⟨hB, Own.ofBlk (bs := [y]) hblk (Nat.le_refl _) (by rw [List.length_singleton]; decide)⟩
      clear ho1 h2 h5
      go_wp2_with ((with_reducible apply st_grow (w0 := w) (xs := [y]) (ys := T)); rfl; rfl; exact hG; exact h3; exact h4; (simp; omega); intro v2 w2 hG2)
      go_ret
      exact hG2.gives
theorem refvar_any (w : World) (m : Nat) (hm : m ≤ 1099511627776) : Calls Try.prog 23 #[.int .u64 m] w (Gives (varL m) w) :=
  refvarT_any 10 w m hm (by decide) (by decide) (by omega)

theorem valV_at (bs : List Int) (n p : Nat) (hp : p < n) (hl : n ≤ bs.length) : valV ((bs.take n).drop p) = (bs.getD p 0).toNat % 128 + 128 * valV ((bs.take n).drop (p + 1)) := by
  have h : p < (bs.take n).length := by rw [List.length_take]; omega
  rw [drop_at _ p h]
  show (((bs.take n).getD p 0).toNat % 128 + 128 * _) = _
  rw [List.getD_eq_getElem?_getD, List.getElem?_take_of_lt hp, ← List.getD_eq_getElem?_getD]
theorem valV_drop (l : List Int) : ∀ p, valV (l.drop p) ≤ valV l := by
  induction l with
  | nil => intro p; rw [List.drop_nil]; exact Nat.le_refl _
  | cons x l ih =>
    intro p
    cases p with
    | zero => exact Nat.le_refl _
    | succ p => have := ih p; simp only [List.drop_succ_cons, valV]; omega
/-- What a call that reads a short number answers. -/
def RdPost (bs : List Int) (w : World) (e : Ending) (w' : World) : Prop :=
  (∃ x n : Nat, rdV 0 bs = some (x, n) ∧ e = .returned (.tuple #[.int .u64 x, .int .i64 n, .int .i64 0]) ∧ w = w') ∨
  (∃ f : Int, rdV 0 bs = none ∧ f ≠ 0 ∧ e = .returned (.tuple #[.int .u64 0, .int .i64 0, .int .i64 f]) ∧ w = w')
theorem RdPost.bad {bs : List Int} {w : World} (f : Int) (h : rdV 0 bs = none) (hf : f ≠ 0) : RdPost bs w (.returned (.tuple #[.int .u64 0, .int .i64 0, .int .i64 f])) w := .inr ⟨f, h, hf, rfl, rfl⟩
theorem RdPost.hit {bs : List Int} {w : World} {x : Int} (n m : Nat) (z : Int) (h : rdV 0 bs = some (n, m)) (hx : x = n) (hz : z = m) : RdPost bs w (.returned (.tuple #[.int .u64 x, .int .i64 z, .int .i64 0])) w := .inl ⟨n, m, h, by rw [hx, hz], rfl⟩
theorem RdPost.none {bs : List Int} {w : World} {e : Ending} {w' : World} (hr : RdPost bs w e w') (h : rdV 0 bs = none) : ∃ f : Int, f ≠ 0 ∧ e = .returned (.tuple #[.int .u64 0, .int .i64 0, .int .i64 f]) ∧ w = w' := by
  rcases hr with ⟨x, n, h1, h2⟩ | ⟨f, h1, h2⟩
  · rw [h] at h1; cases h1
  · exact ⟨f, h2⟩
theorem RdPost.some {bs : List Int} {w : World} {e : Ending} {w' : World} {x n : Nat} (hr : RdPost bs w e w') (h : rdV 0 bs = some (x, n)) : e = .returned (.tuple #[.int .u64 x, .int .i64 n, .int .i64 0]) ∧ w = w' := by
  rcases hr with ⟨y, m, h1, h2⟩ | ⟨f, h1, h2⟩
  · rw [h] at h1; injection h1 with h1; injection h1 with h3 h4; subst h3; subst h4; exact h2
  · rw [h] at h1; cases h1

theorem or_at (acc k : Nat) (c : Int) (hk : k ≤ 9) (ha : acc < 128 ^ k) (h0 : 0 ≤ c) (h1 : c < 128) (h9 : k = 9 → c ≤ 1) :
    bits .or .u64 (acc : Int) (IntKind.u64.wrap (c * 2 ^ (7 * k))) = ((acc + 128 ^ k * c.toNat : Nat) : Int) := by
  obtain ⟨d, rfl⟩ := Int.eq_ofNat_of_zero_le h0
  have e2 : (2 : Nat) ^ (7 * k) = 128 ^ k := by rw [Nat.pow_mul]
  have hp : 128 ^ k * d < 2 ^ 64 := by
    by_cases h : k = 9
    · subst h; have := h9 rfl; have : d ≤ 1 := by omega
      have : 128 ^ 9 * d ≤ 128 ^ 9 * 1 := Nat.mul_le_mul_left _ this
      omega
    · have h3 : 128 ^ k ≤ 128 ^ 8 := Nat.pow_le_pow_right (by decide) (by omega)
      have := Nat.mul_le_mul h3 (show d ≤ 127 by omega)
      omega
  have ha2 : acc < 2 ^ 64 := by
    have h3 : 128 ^ k ≤ 128 ^ 9 := Nat.pow_le_pow_right (by decide) (by omega)
    omega
  have e3 : ((d : Int) * 2 ^ (7 * k)) = ((128 ^ k * d : Nat) : Int) := by
    rw [← e2, Nat.mul_comm (2 ^ (7 * k)) d]; simp
  rw [e3, wraps_u64 _ (by omega) (by exact_mod_cast hp)]
  have := bits_join_low .u64 64 (by decide) wraps_u64 (7 * k) (acc : Int) ((128 ^ k * d : Nat) : Int) (by omega) (by rw [← e2] at ha; exact_mod_cast ha) (by exact_mod_cast ha2) (by omega)
    (by rw [← e2]; exact_mod_cast Nat.mul_mod_right _ _) (by exact_mod_cast hp)
  rw [this]; simp

set_option maxRecDepth 100000 in
set_option maxHeartbeats 4000000 in
theorem readvar_any (w : World) (A : Option Addr) (c : Nat) (bs : List Int) (hb : Byt w A c bs) (hl : bs.length ≤ 1099511627776) :
    Calls Try.prog 37 #[.slice A bs.length c] w (RdPost bs w) := by
  have HB := Lib.hid hb
  clear hb
  go_enter Try.func37, Try.ntmps37
  go_wp2_with fail
  go_loopw [5, 10] (fun x i wr => ∃ k acc : Nat, i = .int .i64 k ∧ k ≤ bs.length ∧ k ≤ 9 ∧ x = .int .u64 acc ∧ Hid (acc = valV (bs.take k)) ∧ Hid (RdAt bs k) ∧ w = wr) (fun _ i _ => bs.length - (intOf i).toNat)
  case atStart => exact ⟨0, 0, rfl, by omega, by omega, rfl, rfl, RdAt.zero bs, rfl⟩
  case round =>
    obtain ⟨k, acc, rfl, hk, hk9, rfl, HV, HR, rfl⟩ := hrel
    by_cases hlt : k < bs.length
    · obtain ⟨g, o, rfl, hg⟩ := HB.out.rd.get (by rw [nums_length]; omega)
      have c1 := hg k _ (nums_at .u8 bs k hlt)
      have hu := HB.out.u k
      have hd := and127 (ga bs k) hu.1 hu.2
      have hbad := fun h => HR.out.bad hlt h
      have hhit := fun h => HR.out.hit hlt h
      have hstep := fun h => HR.out.step hlt h
      have hva := valV_lt (bs.take k)
      rw [← HV.out, List.length_take, Nat.min_eq_left (by omega)] at hva
      have hor := or_at acc k (ga bs k % 128) hk9 hva (by omega) (by omega)
      rw [← ga_eq] at c1 hbad hhit hstep
      obtain ⟨x, hx⟩ : ∃ x, x = ga bs k := ⟨_, rfl⟩
      rw [← hx] at c1 hu hd hbad hhit hstep hor
      clear hg
      by_cases h9 : k = 9
      · have b9 : ((k : Int) == 9) = true := by simp; omega
        have hkp : 0 < k := by omega
        by_cases h1 : 1 < x
        · have hh := hbad (by omega)
          have HH := Lib.hid hh
          clear hh hbad hhit hstep hva hor hx
          try clear h9
          try clear h0
          go_wp2_with fail
          go_ret3
          exact RdPost.bad 4 HH.out (by decide)
        · by_cases h0 : x = 0
          · have b0 : (x == 0) = true := by simp; omega
            have hh := hbad (by omega)
            have HH := Lib.hid hh
            have hor := hor (by omega)
            obtain ⟨V, hV⟩ : ∃ V : Nat, V = acc + 128 ^ k * (x % 128).toNat := ⟨_, rfl⟩
            rw [← hV] at hor
            clear hh hbad hhit hstep hva hV hx
            try clear h9
            try clear h0
            go_wp2_with fail
            go_ret3
            exact RdPost.bad 4 HH.out (by decide)
          · have b0 : (x == 0) = false := by simp; omega
            have hh := hhit (by omega) (by omega) (by omega)
            have hor := hor (by omega)
            have hx2 : x % 128 = x := by omega
            have htk := take_at bs k hlt
            have hvs := valV_snoc (bs.take k) x
            rw [← ga_eq, ← hx] at htk
            rw [List.length_take, Nat.min_eq_left (by omega), ← HV.out] at hvs
            have hval : ((acc + 128 ^ k * (x % 128).toNat : Nat) : Int) = (valV (bs.take (k + 1)) : Nat) := by
              rw [htk, hvs]; congr 3; omega
            obtain ⟨V, hV⟩ : ∃ V, V = valV (bs.take (k + 1)) := ⟨_, rfl⟩
            rw [← hV] at hh hval
            rw [hval] at hor
            have HH := Lib.hid hh
            have HX2 := Lib.hid hx2
            clear hh hbad hhit hstep hva hval hvs htk hV hx2 hx
            try clear h9
            try clear h0
            go_wp2_with fail
            go_ret3
            exact RdPost.hit V (k + 1) _ HH.out rfl (by omega)
      · have b9 : ((k : Int) == 9) = false := by simp; omega
        have hk8 : k ≤ 8 := by omega
        by_cases h1 : x < 128
        · by_cases h0 : x = 0
          · have b0 : (x == 0) = true := by simp; omega
            by_cases hk0 : 0 < k
            · have hh := hbad (by omega)
              have HH := Lib.hid hh
              have hor := hor (by omega)
              obtain ⟨V, hV⟩ : ∃ V : Nat, V = acc + 128 ^ k * (x % 128).toNat := ⟨_, rfl⟩
              rw [← hV] at hor
              clear hh hbad hhit hstep hva hV hx
              try clear h9
              try clear h0
              go_wp2_with fail
              go_ret3
              exact RdPost.bad 4 HH.out (by decide)
            · have hh := hhit (by omega) (by omega) (by omega)
              have hor := hor (by omega)
              have hx2 : x % 128 = x := by omega
              have htk := take_at bs k hlt
              have hvs := valV_snoc (bs.take k) x
              rw [← ga_eq, ← hx] at htk
              rw [List.length_take, Nat.min_eq_left (by omega), ← HV.out] at hvs
              have hval : ((acc + 128 ^ k * (x % 128).toNat : Nat) : Int) = (valV (bs.take (k + 1)) : Nat) := by
                rw [htk, hvs]; congr 3; omega
              obtain ⟨V, hV⟩ : ∃ V, V = valV (bs.take (k + 1)) := ⟨_, rfl⟩
              rw [← hV] at hh hval
              rw [hval] at hor
              have HH := Lib.hid hh
              have HX2 := Lib.hid hx2
              clear hh hbad hhit hstep hva hval hvs htk hV hx2 hx
              try clear h9
              try clear h0
              go_wp2_with fail
              go_ret3
              exact RdPost.hit V (k + 1) _ HH.out rfl (by omega)
          · have b0 : (x == 0) = false := by simp; omega
            have hh := hhit (by omega) (by omega) (by omega)
            have hor := hor (by omega)
            have hx2 : x % 128 = x := by omega
            have htk := take_at bs k hlt
            have hvs := valV_snoc (bs.take k) x
            rw [← ga_eq, ← hx] at htk
            rw [List.length_take, Nat.min_eq_left (by omega), ← HV.out] at hvs
            have hval : ((acc + 128 ^ k * (x % 128).toNat : Nat) : Int) = (valV (bs.take (k + 1)) : Nat) := by
              rw [htk, hvs]; congr 3; omega
            obtain ⟨V, hV⟩ : ∃ V, V = valV (bs.take (k + 1)) := ⟨_, rfl⟩
            rw [← hV] at hh hval
            rw [hval] at hor
            have HH := Lib.hid hh
            have HX2 := Lib.hid hx2
            clear hh hbad hhit hstep hva hval hvs htk hV hx2 hx
            try clear h9
            try clear h0
            go_wp2_with fail
            go_ret3
            exact RdPost.hit V (k + 1) _ HH.out rfl (by omega)
        · have hh := hstep (by omega) (by omega)
          have hor := hor (by omega)
          have htk := take_at bs k hlt
          have hvs := valV_snoc (bs.take k) x
          rw [← ga_eq, ← hx] at htk
          rw [List.length_take, Nat.min_eq_left (by omega), ← HV.out] at hvs
          have hval : ((acc + 128 ^ k * (x % 128).toNat : Nat) : Int) = (valV (bs.take (k + 1)) : Nat) := by
            rw [htk, hvs]; congr 3; omega
          obtain ⟨V, hV⟩ : ∃ V, V = valV (bs.take (k + 1)) := ⟨_, rfl⟩
          rw [← hV] at hval
          rw [hval] at hor
          have HH := Lib.hid hh
          have HV2 := Lib.hid hV
          clear hh hbad hhit hstep hva hval hvs htk hV hx
          try clear h9
          try clear h0
          go_wp2_with fail
          go_roundw
          case rel => exact ⟨k + 1, V, by go_num, by omega, by omega, rfl, HV2.out, HH.out, by trivial⟩
          case measure => simp [intOf]; omega
    · have hn := HR.out.done (by omega)
      have HN := Lib.hid hn
      clear hn
      go_wp2_with fail
      go_ret3
      exact RdPost.bad 3 HN.out (by decide)

set_option maxRecDepth 100000 in
set_option maxHeartbeats 4000000 in
theorem refreadvar_any (w : World) (A : Option Addr) (c : Nat) (bs : List Int) (hb : Byt w A c bs) (hl : bs.length ≤ 1099511627776) :
    Calls Try.prog 26 #[.slice A bs.length c] w (RdPost bs w) := by
  have HB := Lib.hid hb
  clear hb
  go_enter Try.func26, Try.ntmps26
  go_wp2_with fail
  go_loopw [5] (fun i wr => ∃ k : Nat, i = .int .i64 (k + 1) ∧ k ≤ bs.length ∧ k ≤ 9 ∧ Hid (RdAt bs k) ∧ w = wr) (fun i _ => bs.length + 1 - (intOf i).toNat)
  case atStart => exact ⟨0, rfl, by omega, by omega, RdAt.zero bs, rfl⟩
  case round =>
    obtain ⟨k, rfl, hk, hk9, HR, rfl⟩ := hrel
    by_cases hlt : k < bs.length
    · obtain ⟨g, o, rfl, hg⟩ := HB.out.rd.get (by rw [nums_length]; omega)
      have c1 := hg k _ (nums_at .u8 bs k hlt)
      have hu := HB.out.u k
      have hbad := fun h => HR.out.bad hlt h
      have hhit := fun h => HR.out.hit hlt h
      have hstep := fun h => HR.out.step hlt h
      rw [← ga_eq] at c1 hbad hhit hstep
      obtain ⟨x, hx⟩ : ∃ x, x = ga bs k := ⟨_, rfl⟩
      rw [← hx] at c1 hu hbad hhit hstep
      have htop : x < 128 → ¬ (k = 9 ∧ 1 < x) → valV (bs.take (k + 1)) < 18446744073709551616 := fun h1 h2 => by
        have h3 := take_at bs k hlt
        rw [← ga_eq, ← hx] at h3
        have h4 := valV_snoc (bs.take k) x
        have h5 := valV_lt (bs.take k)
        rw [List.length_take, Nat.min_eq_left (by omega)] at h4 h5
        rw [h3, h4]
        by_cases h9 : k = 9
        · subst h9; have : x.toNat % 128 ≤ 1 := by omega
          have := Nat.mul_le_mul_left (128 ^ 9) this
          omega
        · have h6 : 128 ^ k ≤ 128 ^ 8 := Nat.pow_le_pow_right (by decide) (by omega)
          have := Nat.mul_le_mul h6 (show x.toNat % 128 ≤ 127 by omega)
          omega
      have HG := Lib.hid hg
      clear hg hx
      by_cases h9 : k = 9
      · have b9 : ((k : Int) + 1 == 10) = true := by simp; omega
        have hkp : 0 < k := by omega
        by_cases h1 : 1 < x
        · have hh := hbad (by omega)
          have HH := Lib.hid hh
          clear hh hbad hhit hstep htop
          try clear h9
          try clear h0
          go_wp2_with fail
          go_ret3
          exact RdPost.bad 4 HH.out (by decide)
        · by_cases h0 : x = 0
          · have b0 : (x == 0) = true := by simp; omega
            have hh := hbad (by omega)
            have HH := Lib.hid hh
            clear hh hbad hhit hstep htop
            try clear h9
            try clear h0
            go_wp2_with fail
            go_ret3
            exact RdPost.bad 4 HH.out (by decide)
          · have b0 : (x == 0) = false := by simp; omega
            have hh := hhit (by omega) (by omega) (by omega)
            have htop := htop (by omega) (by omega)
            have HH := Lib.hid hh
            have HTOP := Lib.hid htop
            clear hh hbad hhit hstep htop
            try clear h9
            try clear h0
            go_wp2_with fail
            go_loopw [7, 8] (fun y i wr => ∃ (m V : Nat), i = .int .i64 (m - 1) ∧ m ≤ k + 1 ∧ y = .int .u64 V ∧ Hid (V = valV ((bs.take (k + 1)).drop m)) ∧ w = wr) (fun _ i _ => (intOf i + 1).toNat)
            case atStart => exact ⟨k + 1, 0, by go_num, by omega, rfl, (by show 0 = valV _; rw [List.drop_eq_nil_of_le (by rw [List.length_take]; omega)]; rfl), rfl⟩
            case round =>
              obtain ⟨m, V, rfl, hm, rfl, HV, rfl⟩ := hrel
              by_cases hm0 : 1 ≤ m
              · obtain ⟨p, rfl⟩ : ∃ p, m = p + 1 := ⟨m - 1, by omega⟩
                have c2 := HG.out p _ (nums_at .u8 bs p (by omega))
                have hu2 := HB.out.u p
                have hv := valV_at bs (k + 1) p (by omega) (by omega)
                have hle := valV_drop (bs.take (k + 1)) p
                rw [hv, ← HV.out, ← ga_eq] at hle
                rw [← HV.out, ← ga_eq] at hv
                have hle := Nat.lt_of_le_of_lt hle HTOP.out
                rw [← ga_eq] at c2
                obtain ⟨y, hy⟩ : ∃ y, y = ga bs p := ⟨_, rfl⟩
                rw [← hy] at c2 hu2 hv hle
                have HLE := Lib.hid hle
                have HVN := Lib.hid hv
                clear hy hv hle
                go_wp2_with fail
                go_roundw
                case rel => exact ⟨p, y.toNat % 128 + 128 * V, by go_num, by omega, (by congr 1; omega), HVN.out.symm, by trivial⟩
                case measure => first | (simp [intOf]; done) | (simp [intOf]; omega)
              · have hm1 : m = 0 := by omega
                have hv := HV.out
                rw [hm1, List.drop_zero] at hv
                have HVN := Lib.hid hv
                clear hv hm1
                go_wp2_with fail
                go_ret3
                exact RdPost.hit V (k + 1) _ (by rw [HH.out, ← HVN.out]) rfl (by omega)
      · have b9 : ((k : Int) + 1 == 10) = false := by simp; omega
        have hk8 : k ≤ 8 := by omega
        by_cases hk0 : 0 < k
        · by_cases h1 : x < 128
          · by_cases h0 : x = 0
            · have b0 : (x == 0) = true := by simp; omega
              have hh := hbad (by omega)
              have HH := Lib.hid hh
              clear hh hbad hhit hstep htop
              try clear h9
              try clear h0
              go_wp2_with fail
              go_ret3
              exact RdPost.bad 4 HH.out (by decide)
            · have b0 : (x == 0) = false := by simp; omega
              have hh := hhit (by omega) (by omega) (by omega)
              have htop := htop (by omega) (by omega)
              have HH := Lib.hid hh
              have HTOP := Lib.hid htop
              clear hh hbad hhit hstep htop
              try clear h9
              try clear h0
              go_wp2_with fail
              go_loopw [7, 8] (fun y i wr => ∃ (m V : Nat), i = .int .i64 (m - 1) ∧ m ≤ k + 1 ∧ y = .int .u64 V ∧ Hid (V = valV ((bs.take (k + 1)).drop m)) ∧ w = wr) (fun _ i _ => (intOf i + 1).toNat)
              case atStart => exact ⟨k + 1, 0, by go_num, by omega, rfl, (by show 0 = valV _; rw [List.drop_eq_nil_of_le (by rw [List.length_take]; omega)]; rfl), rfl⟩
              case round =>
                obtain ⟨m, V, rfl, hm, rfl, HV, rfl⟩ := hrel
                by_cases hm0 : 1 ≤ m
                · obtain ⟨p, rfl⟩ : ∃ p, m = p + 1 := ⟨m - 1, by omega⟩
                  have c2 := HG.out p _ (nums_at .u8 bs p (by omega))
                  have hu2 := HB.out.u p
                  have hv := valV_at bs (k + 1) p (by omega) (by omega)
                  have hle := valV_drop (bs.take (k + 1)) p
                  rw [hv, ← HV.out, ← ga_eq] at hle
                  rw [← HV.out, ← ga_eq] at hv
                  have hle := Nat.lt_of_le_of_lt hle HTOP.out
                  rw [← ga_eq] at c2
                  obtain ⟨y, hy⟩ : ∃ y, y = ga bs p := ⟨_, rfl⟩
                  rw [← hy] at c2 hu2 hv hle
                  have HLE := Lib.hid hle
                  have HVN := Lib.hid hv
                  clear hy hv hle
                  go_wp2_with fail
                  go_roundw
                  case rel => exact ⟨p, y.toNat % 128 + 128 * V, by go_num, by omega, (by congr 1; omega), HVN.out.symm, by trivial⟩
                  case measure => first | (simp [intOf]; done) | (simp [intOf]; omega)
                · have hm1 : m = 0 := by omega
                  have hv := HV.out
                  rw [hm1, List.drop_zero] at hv
                  have HVN := Lib.hid hv
                  clear hv hm1
                  go_wp2_with fail
                  go_ret3
                  exact RdPost.hit V (k + 1) _ (by rw [HH.out, ← HVN.out]) rfl (by omega)
          · have hh := hstep (by omega) (by omega)
            have HH := Lib.hid hh
            clear hh hbad hhit hstep htop
            try clear h9
            try clear h0
            go_wp2_with fail
            go_roundw
            case rel => exact ⟨k + 1, by go_num, by omega, by omega, HH.out, by trivial⟩
            case measure => simp [intOf]; omega
        · by_cases h1 : x < 128
          · by_cases h0 : x = 0
            · have b0 : (x == 0) = true := by simp; omega
              have hh := hhit (by omega) (by omega) (by omega)
              have htop := htop (by omega) (by omega)
              have HH := Lib.hid hh
              have HTOP := Lib.hid htop
              clear hh hbad hhit hstep htop
              try clear h9
              try clear h0
              go_wp2_with fail
              go_loopw [7, 8] (fun y i wr => ∃ (m V : Nat), i = .int .i64 (m - 1) ∧ m ≤ k + 1 ∧ y = .int .u64 V ∧ Hid (V = valV ((bs.take (k + 1)).drop m)) ∧ w = wr) (fun _ i _ => (intOf i + 1).toNat)
              case atStart => exact ⟨k + 1, 0, by go_num, by omega, rfl, (by show 0 = valV _; rw [List.drop_eq_nil_of_le (by rw [List.length_take]; omega)]; rfl), rfl⟩
              case round =>
                obtain ⟨m, V, rfl, hm, rfl, HV, rfl⟩ := hrel
                by_cases hm0 : 1 ≤ m
                · obtain ⟨p, rfl⟩ : ∃ p, m = p + 1 := ⟨m - 1, by omega⟩
                  have c2 := HG.out p _ (nums_at .u8 bs p (by omega))
                  have hu2 := HB.out.u p
                  have hv := valV_at bs (k + 1) p (by omega) (by omega)
                  have hle := valV_drop (bs.take (k + 1)) p
                  rw [hv, ← HV.out, ← ga_eq] at hle
                  rw [← HV.out, ← ga_eq] at hv
                  have hle := Nat.lt_of_le_of_lt hle HTOP.out
                  rw [← ga_eq] at c2
                  obtain ⟨y, hy⟩ : ∃ y, y = ga bs p := ⟨_, rfl⟩
                  rw [← hy] at c2 hu2 hv hle
                  have HLE := Lib.hid hle
                  have HVN := Lib.hid hv
                  clear hy hv hle
                  go_wp2_with fail
                  go_roundw
                  case rel => exact ⟨p, y.toNat % 128 + 128 * V, by go_num, by omega, (by congr 1; omega), HVN.out.symm, by trivial⟩
                  case measure => first | (simp [intOf]; done) | (simp [intOf]; omega)
                · have hm1 : m = 0 := by omega
                  have hv := HV.out
                  rw [hm1, List.drop_zero] at hv
                  have HVN := Lib.hid hv
                  clear hv hm1
                  go_wp2_with fail
                  go_ret3
                  exact RdPost.hit V (k + 1) _ (by rw [HH.out, ← HVN.out]) rfl (by omega)
            · have b0 : (x == 0) = false := by simp; omega
              have hh := hhit (by omega) (by omega) (by omega)
              have htop := htop (by omega) (by omega)
              have HH := Lib.hid hh
              have HTOP := Lib.hid htop
              clear hh hbad hhit hstep htop
              try clear h9
              try clear h0
              go_wp2_with fail
              go_loopw [7, 8] (fun y i wr => ∃ (m V : Nat), i = .int .i64 (m - 1) ∧ m ≤ k + 1 ∧ y = .int .u64 V ∧ Hid (V = valV ((bs.take (k + 1)).drop m)) ∧ w = wr) (fun _ i _ => (intOf i + 1).toNat)
              case atStart => exact ⟨k + 1, 0, by go_num, by omega, rfl, (by show 0 = valV _; rw [List.drop_eq_nil_of_le (by rw [List.length_take]; omega)]; rfl), rfl⟩
              case round =>
                obtain ⟨m, V, rfl, hm, rfl, HV, rfl⟩ := hrel
                by_cases hm0 : 1 ≤ m
                · obtain ⟨p, rfl⟩ : ∃ p, m = p + 1 := ⟨m - 1, by omega⟩
                  have c2 := HG.out p _ (nums_at .u8 bs p (by omega))
                  have hu2 := HB.out.u p
                  have hv := valV_at bs (k + 1) p (by omega) (by omega)
                  have hle := valV_drop (bs.take (k + 1)) p
                  rw [hv, ← HV.out, ← ga_eq] at hle
                  rw [← HV.out, ← ga_eq] at hv
                  have hle := Nat.lt_of_le_of_lt hle HTOP.out
                  rw [← ga_eq] at c2
                  obtain ⟨y, hy⟩ : ∃ y, y = ga bs p := ⟨_, rfl⟩
                  rw [← hy] at c2 hu2 hv hle
                  have HLE := Lib.hid hle
                  have HVN := Lib.hid hv
                  clear hy hv hle
                  go_wp2_with fail
                  go_roundw
                  case rel => exact ⟨p, y.toNat % 128 + 128 * V, by go_num, by omega, (by congr 1; omega), HVN.out.symm, by trivial⟩
                  case measure => first | (simp [intOf]; done) | (simp [intOf]; omega)
                · have hm1 : m = 0 := by omega
                  have hv := HV.out
                  rw [hm1, List.drop_zero] at hv
                  have HVN := Lib.hid hv
                  clear hv hm1
                  go_wp2_with fail
                  go_ret3
                  exact RdPost.hit V (k + 1) _ (by rw [HH.out, ← HVN.out]) rfl (by omega)
          · have hh := hstep (by omega) (by omega)
            have HH := Lib.hid hh
            clear hh hbad hhit hstep htop
            try clear h9
            try clear h0
            go_wp2_with fail
            go_roundw
            case rel => exact ⟨k + 1, by go_num, by omega, by omega, HH.out, by trivial⟩
            case measure => simp [intOf]; omega
    · have hn := HR.out.done (by omega)
      have HN := Lib.hid hn
      clear hn
      go_wp2_with fail
      go_ret3
      exact RdPost.bad 3 HN.out (by decide)

end Go.Proofs.Ytepicdcmcagipaa
