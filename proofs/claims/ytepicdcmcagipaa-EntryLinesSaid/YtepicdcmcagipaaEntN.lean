/- What entry.number answers. No condition but the kinds' own bounds. -/
import Derived.Test.YtepicdcmcagipaaEntE
namespace Go.Proofs.Ytepicdcmcagipaa
open Go.RowKit

set_option maxRecDepth 100000 in
set_option maxHeartbeats 1000000 in
theorem within64_any (w : World) (n lo hi : Int) :
    Calls Try.prog 38 #[.int .u64 n, .int .u64 lo, .int .u64 hi] w fun e w' => e = .returned (.bool (decide (lo ≤ n ∧ n ≤ hi))) ∧ w = w' := by
  by_cases h : lo ≤ n
  · by_cases h2 : n ≤ hi
    · rw [decide_eq_true (And.intro h h2)]
      go_enter Try.func38, Try.ntmps38
      go_wp2
      go_ret
      exact ⟨rfl, rfl⟩
    · rw [decide_eq_false (fun e => h2 e.2)]
      go_enter Try.func38, Try.ntmps38
      go_wp2
      go_ret
      exact ⟨rfl, rfl⟩
  · rw [decide_eq_false (fun e => h e.1)]
    go_enter Try.func38, Try.ntmps38
    go_wp2
    go_ret
    exact ⟨rfl, rfl⟩
section
variable {P : Program} {ops : Array Oper} {Q : Exit → Act → World → Prop} {rest : List Oper} {a : Act} {w : World}
/-- x[i:], the place by its own name. -/
theorem st_fromE {d' : Option Tmp} {tt t e : TypeId} {x lo : Operand} {pos : String} {after : Array Edge} {A A2 : Option Addr} {n c i : Nat} {k : IntKind} {z : Int}
    (hu : P.underlying t = some (.slice e)) (hsz : (P.info? e).map (·.size) = some 1) (hx : a.eval x = .slice A n c) (hlo : a.eval lo = .int k z) (hz : z = i) (hi : i ≤ n) (hA : A2 = if c = i then A else A.map (·.add i))
    (h : wpList P ops Q rest (a.put d' (.slice A2 (n - i) (c - i))) w) : wpList P ops Q (⟨d', .slice t x (some lo) none none, tt, pos, after, none⟩ :: rest) a w := by
  subst hz
  exact st_from hu hsz hx hlo hi fun A3 h3 => by rw [h3, ← hA]; exact h
end
theorem Byt.drop {w : World} {A : Option Addr} {c : Nat} {bs : List Int} (h : Byt w A c bs) (i : Nat) (hi : i ≤ bs.length) : Byt w (if c = i then A else A.map (·.add i)) (c - i) (bs.drop i) := by
  refine ⟨?_, ?_, ?_, ?_⟩
  · rw [nums_drop]; exact h.rd.from (by rw [nums_length]; exact h.le)
  · rw [List.length_drop]; have := h.le; omega
  · intro e
    split at e
    · omega
    · cases A with
      | none => have := h.nn rfl; omega
      | some a => cases e
  · intro j; rw [ga_drop]; exact h.u _
theorem numR_some {b : List Int} {most x : Nat} {rest : List Int} (h : numR b most = some (x, rest)) : ∃ n, rdV 0 b = some (x, n) ∧ x ≤ most ∧ rest = b.drop n ∧ n ≤ b.length := by
  unfold numR at h
  split at h
  · rename_i p hp
    split at h
    · injection h with h; injection h with h1 h2
      subst h1
      exact ⟨p.2, hp, by assumption, h2.symm, (rdV_le 0 b p hp).2⟩
    · cases h
  · cases h
theorem numR_none {b : List Int} {most : Nat} (h : numR b most = none) : rdV 0 b = none ∨ ∃ x n, rdV 0 b = some (x, n) ∧ most < x := by
  unfold numR at h
  split at h
  · rename_i p hp
    split at h
    · cases h
    · exact .inr ⟨p.1, p.2, hp, by omega⟩
  · exact .inl (by assumption)

set_option maxRecDepth 100000 in
set_option maxHeartbeats 2000000 in
theorem number_some (w : World) (A : Option Addr) (c : Nat) (b : List Int) (hb : Byt w A c b) (hl : b.length ≤ 1099511627776) (most : Nat) (M : Int) (hM : M = most) (hm : most ≤ 1099511627776) (x n : Nat) (h1 : rdV 0 b = some (x, n)) (h2 : x ≤ most) (h4 : n ≤ b.length) (A2 : Option Addr) (hA2 : A2 = if c = n then A else A.map (·.add n)) :
    Calls Try.prog 32 #[.slice A b.length c, .int .u64 M] w fun r w' => r = .returned (.tuple #[.int .i64 x, .slice A2 (b.length - n) (c - n), .bool true]) ∧ Below w.heap.size w w' := by
  subst hM
  have hrv := (readvar_any w A c b hb hl)
  have hcall : Calls Try.prog 37 #[.slice A b.length c] w fun e w' => e = .returned (.tuple #[.int .u64 x, .int .i64 n, .int .i64 0]) ∧ w = w' := hrv.mono fun e w' hp => hp.some h1
  have hwi := fun w => within64_any w x 0 most
  rw [decide_eq_true (⟨by omega, by omega⟩ : (0 : Int) ≤ x ∧ (x : Int) ≤ most)] at hwi
  have HC := Lib.hid hcall
  have HW := Lib.hid hwi
  have HA2 := Lib.hid hA2
  clear hcall hwi hA2 h1 hb hrv
  go_enter Try.func32, Try.ntmps32
  go_wp2_with fail
  go_at_call 37
  refine HC.out.mono ?_
  rintro r w1 ⟨rfl, rfl⟩
  go_wp2_with ((with_reducible apply st_un); rfl)
  go_at_call 38
  refine (HW.out _).mono ?_
  rintro r w1 ⟨rfl, rfl⟩
  go_wp2_with fail
  refine wp_region_C (Same [] w) [] (by kernel_rfl) (by kernel_rfl) (by intro c a w h; first | (obtain ⟨_, h, _⟩ := h; cases h; done) | (obtain ⟨_, _, h, _⟩ := h; cases h; done) | (obtain ⟨_, _, _, h, _⟩ := h; cases h; done) | (obtain ⟨_, _, _, _, h, _⟩ := h; cases h; done)) (by intro a w h; first | (obtain ⟨h, _⟩ := h; cases h; done) | (obtain ⟨_, h, _⟩ := h; cases h; done) | (obtain ⟨_, _, h, _⟩ := h; cases h; done) | (obtain ⟨_, _, _, h, _⟩ := h; cases h; done)) (Same.refl _ _) ?_
  repeat (refine wd_w (v := ?_) rfl rfl rfl rfl rfl rfl (fun w' hw' K hK => ?_) ?_; rotate_left; (skip; go_wp2_with (((with_reducible apply st_fromE (A2 := A2) (i := n)); exact Try.underlying29; kernel_rfl; rfl; rfl; rfl; exact h4; exact HA2.out)); exact rfl); simp only [Act.put, List.setIfInBounds_toArray, List.set_cons_zero, List.set_cons_succ])
  refine wd_nil ?_
  go_wp2_with fail
  go_ret3
  exact ⟨rfl, (Below.refl _ _).drew⟩
/-- A number read off bytes, and what is left. -/
theorem num_cut {w : World} {A : Option Addr} {c : Nat} {b : List Int} (hb : Byt w A c b) (hl : b.length ≤ 1099511627776) (most : Nat) (M : Int) (hM : M = most) (hm : most ≤ 1099511627776) {x : Nat} {rest : List Int} (h : numR b most = some (x, rest)) :
    ∃ A2 c2, Byt w A2 c2 rest ∧ rest.length ≤ b.length ∧ x ≤ most ∧ Hid (∀ W, Byt W A c b → Calls Try.prog 32 #[.slice A b.length c, .int .u64 M] W fun r w' => r = .returned (.tuple #[.int .i64 x, .slice A2 rest.length c2, .bool true]) ∧ Below W.heap.size W w') := by
  obtain ⟨n, h1, h2, h3, h4⟩ := numR_some h
  refine ⟨_, c - n, h3 ▸ hb.drop n h4, by rw [h3, List.length_drop]; omega, h2, ?_⟩
  intro W hW
  have := number_some W A c b hW hl most M hM hm x n h1 h2 h4 _ rfl
  rwa [show b.length - n = rest.length by rw [h3, List.length_drop]] at this
set_option maxRecDepth 100000 in
set_option maxHeartbeats 2000000 in
theorem number_none (w : World) (A : Option Addr) (c : Nat) (b : List Int) (hb : Byt w A c b) (hl : b.length ≤ 1099511627776) (most : Nat) (M : Int) (hM : M = most) (h : numR b most = none) :
    Calls Try.prog 32 #[.slice A b.length c, .int .u64 M] w fun r w' => r = .returned (.tuple #[.int .i64 0, .slice none 0 0, .bool false]) ∧ w = w' := by
  subst hM
  have hrv := (readvar_any w A c b hb hl)
  rcases numR_none h with h1 | ⟨x, n, h1, h2⟩
  · have hcall := hrv.mono fun e w' hp => hp.none h1
    have HC := Lib.hid hcall
    clear hcall h1 h hb hrv
    go_enter Try.func32, Try.ntmps32
    go_wp2_with fail
    go_at_call 37
    refine HC.out.mono ?_
    rintro r w1 ⟨f, hf, rfl, rfl⟩
    have b1 : (f != 0) = true := by simpa using hf
    clear hf
    go_wp2_with fail
    go_ret3
    exact ⟨rfl, rfl⟩
  · have hcall : Calls Try.prog 37 #[.slice A b.length c] w fun e w' => e = .returned (.tuple #[.int .u64 x, .int .i64 n, .int .i64 0]) ∧ w = w' := hrv.mono fun e w' hp => hp.some h1
    have hwi := fun w => within64_any w x 0 most
    rw [decide_eq_false (fun e => by omega : ¬ ((0 : Int) ≤ x ∧ (x : Int) ≤ most))] at hwi
    have HC := Lib.hid hcall
    have HW := Lib.hid hwi
    clear hcall hwi h1 h hb hrv
    go_enter Try.func32, Try.ntmps32
    go_wp2_with fail
    go_at_call 37
    refine HC.out.mono ?_
    rintro r w1 ⟨rfl, rfl⟩
    go_wp2_with ((with_reducible apply st_un); rfl)
    go_at_call 38
    refine (HW.out _).mono ?_
    rintro r w1 ⟨rfl, rfl⟩
    go_wp2_with fail
    go_ret3
    exact ⟨rfl, rfl⟩

end Go.Proofs.Ytepicdcmcagipaa
