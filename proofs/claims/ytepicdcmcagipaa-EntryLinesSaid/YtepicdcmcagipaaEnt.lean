/- Entries in memory; what entry.within, entry.Check and the reference's Check answer. No condition but the kinds' own bounds. -/
import Derived.Test.YtepicdcmcagipaaVar
import Derived.Test.YtepicdcmcagipaaGb
namespace Go.Proofs.Ytepicdcmcagipaa
open Go.RowKit

/-- Whole numbers that are read. -/
structure Nts (w : World) (A : Option Addr) (c : Nat) (l : List Int) : Prop where
  rd : Rd w A (nums .i64 l)
  le : l.length ≤ c
  nn : A = none → c = 0
theorem Nts.up {w w' : World} {A : Option Addr} {c : Nat} {l : List Int} (h : Nts w A c l) (hb : Below w.heap.size w w') : Nts w' A c l := ⟨h.rd.up hb, h.le, h.nn⟩
theorem Nts.get {w : World} {A : Option Addr} {c : Nat} {l : List Int} (h : Nts w A c l) (hl : 0 < l.length) : ∃ g off, A = some ⟨g, off, none⟩ ∧ g < w.heap.size ∧ ∀ j, j < l.length → w.cell? ⟨g, off + j, none⟩ = some (.int .i64 (ga l j)) := by
  obtain ⟨g, off, h1, h2⟩ := h.rd.get (by rw [nums_length]; exact hl)
  exact ⟨g, off, h1, World.block_lt_of_cell? (h := h2 0 _ (nums_at .i64 l 0 hl)), fun j hj => h2 j _ (nums_at .i64 l j hj)⟩
def B64 (n : Int) : Prop := -9223372036854775808 ≤ n ∧ n ≤ 9223372036854775807
/-- The kinds' own bounds. -/
structure EntB (e : Ent) : Prop where
  h : e.h.length = 32
  s : e.s.length = 32
  uh : U8 e.h
  us : U8 e.s
  job : B64 e.job
  time : B64 e.time
  kind : B64 e.kind
  tries : B64 e.tries
  ord : ∀ x ∈ e.ord, B64 x
def verC (e : Ent) (A : Option Addr) (c : Nat) : List Value := [.int .i64 e.kind, .slice A e.ord.length c, .int .i64 e.tries]
def entC (e : Ent) (A : Option Addr) (c : Nat) : List Value := .int .i64 e.job :: .int .i64 e.time :: (nums .u8 e.h ++ nums .u8 e.s ++ verC e A c)
theorem entC_len {e : Ent} (h : EntB e) (A : Option Addr) (c : Nat) : (entC e A c).length = 69 := by simp [entC, verC, nums_length, h.h, h.s]
theorem entC_ver {e : Ent} (h : EntB e) (A : Option Addr) (c : Nat) : (((entC e A c).drop 66).take 3).toArray = (verC e A c).toArray := by
  unfold entC
  rw [show 66 = 64 + 1 + 1 by rfl, List.drop_succ_cons, List.drop_succ_cons, List.drop_append, List.drop_eq_nil_of_le (by simp [nums_length, h.h, h.s]), List.nil_append]
  have : 64 - (nums .u8 e.h ++ nums .u8 e.s).length = 0 := by simp [nums_length, h.h, h.s]
  rw [this]; rfl
theorem entC_at {e : Ent} (h : EntB e) (A : Option Addr) (c : Nat) (j : Nat) : (entC e A c)[66 + j]? = (verC e A c)[j]? := by
  have := entC_ver h A c
  unfold entC
  rw [show 66 + j = 64 + j + 1 + 1 by omega, List.getElem?_cons_succ, List.getElem?_cons_succ, List.getElem?_append_right (by simp [nums_length, h.h, h.s])]
  congr 1
  simp [nums_length, h.h, h.s]
theorem entC_h {e : Ent} (h : EntB e) (A : Option Addr) (c : Nat) : (((entC e A c).drop 2).take 32).toArray = (nums .u8 e.h).toArray := by
  unfold entC
  rw [List.drop_succ_cons, List.drop_succ_cons, List.drop_zero, List.append_assoc, List.take_left' (by rw [nums_length, h.h])]
theorem entC_s {e : Ent} (h : EntB e) (A : Option Addr) (c : Nat) : (((entC e A c).drop 34).take 32).toArray = (nums .u8 e.s).toArray := by
  unfold entC
  rw [show 34 = 32 + 1 + 1 by rfl, List.drop_succ_cons, List.drop_succ_cons, List.append_assoc, List.drop_left' (by rw [nums_length, h.h]), List.take_left' (by rw [nums_length, h.s])]
theorem entC_one {e : Ent} (A : Option Addr) (c : Nat) : ∀ v ∈ entC e A c, v.oneCell' = true := by
  intro v hv
  simp only [entC, verC, List.mem_cons, List.mem_append, List.not_mem_nil, or_false] at hv
  rcases hv with rfl | rfl | (hv | hv) | rfl | rfl | rfl
  · rfl
  · rfl
  · exact nums_one _ _ v hv
  · exact nums_one _ _ v hv
  · rfl
  · rfl
  · rfl
theorem verC_one {e : Ent} (A : Option Addr) (c : Nat) : ∀ v ∈ verC e A c, v.oneCell' = true := fun v hv => entC_one (e := e) A c v (by unfold entC; simp [hv])

set_option maxHeartbeats 1000000 in
theorem within_any (w : World) (n lo hi : Int) :
    Calls Try.prog 28 #[.int .i64 n, .int .i64 lo, .int .i64 hi] w fun e w' => e = .returned (.bool (decide (lo ≤ n ∧ n ≤ hi))) ∧ w = w' := by
  by_cases h : lo ≤ n
  · by_cases h2 : n ≤ hi
    · rw [decide_eq_true (And.intro h h2)]
      go_enter Try.func28, Try.ntmps28
      go_wp2
      go_ret
      exact ⟨rfl, rfl⟩
    · rw [decide_eq_false (fun e => h2 e.2)]
      go_enter Try.func28, Try.ntmps28
      go_wp2
      go_ret
      exact ⟨rfl, rfl⟩
  · rw [decide_eq_false (fun e => h e.1)]
    go_enter Try.func28, Try.ntmps28
    go_wp2
    go_ret
    exact ⟨rfl, rfl⟩
theorem within_t (w : World) (n lo hi : Int) (h : lo ≤ n ∧ n ≤ hi) : Calls Try.prog 28 #[.int .i64 n, .int .i64 lo, .int .i64 hi] w fun e w' => e = .returned (.bool true) ∧ w = w' := by
  have := within_any w n lo hi; rwa [decide_eq_true h] at this
theorem within_f (w : World) (n lo hi : Int) (h : ¬ (lo ≤ n ∧ n ≤ hi)) : Calls Try.prog 28 #[.int .i64 n, .int .i64 lo, .int .i64 hi] w fun e w' => e = .returned (.bool false) ∧ w = w' := by
  have := within_any w n lo hi; rwa [decide_eq_false h] at this

theorem verSize : (Try.prog.info? 26).map (·.size) = some 3 := by kernel_rfl
theorem entSize : (Try.prog.info? 28).map (·.size) = some 69 := by kernel_rfl

/-- The world behind an entry and its verdict in rows of their own. -/
structure Ent0 (w : World) (e : Ent) (A : Option Addr) (c : Nat) (w0 : World) : Prop where
  x : Blk w0 w.heap.size (entC e A c) 28
  v : Blk w0 (w.heap.size + 1) (verC e A c) 26
  B : Below w.heap.size w w0
theorem pre_nodup {l : List Int} {k : Nat} (h : OrdE l) : OrdE (l.take k) := ⟨fun x hx => h.1 x (List.mem_of_mem_take hx), h.2.sublist (List.take_sublist _ _)⟩
theorem ord_snoc {l : List Int} {x : Int} (h : OrdE l) (h0 : 0 ≤ x) (h1 : x ≤ 63) (hn : x ∉ l) : OrdE (l ++ [x]) := by
  refine ⟨fun y hy => ?_, ?_⟩
  · rcases List.mem_append.1 hy with hy | hy
    · exact h.1 y hy
    · rw [List.mem_singleton.1 hy]; exact ⟨h0, h1⟩
  · rw [List.nodup_append]
    refine ⟨h.2, by simp, fun a ha b hb e => ?_⟩
    rw [List.mem_singleton.1 hb] at e
    exact hn (e ▸ ha)
theorem ord_not {l : List Int} {k : Nat} (hk : k < l.length) (h : ga l k < 0 ∨ 63 < ga l k ∨ ga l k ∈ l.take k) : ¬ OrdE l := by
  intro ho
  have hm : ga l k ∈ l := by
    have : ga l k = l[k] := by simp [ga, hk]
    rw [this]; exact List.getElem_mem _
  have hr := ho.1 _ hm
  rcases h with h | h | h
  · omega
  · omega
  · have h2 := pre_nodup (k := k + 1) ho
    rw [take_at l k hk, ← ga_eq] at h2
    have := (List.nodup_append.1 h2.2).2.2 _ h _ (List.mem_singleton.2 rfl)
    exact this rfl
def maskN (l : List Int) : Nat := l.foldl (fun m x => m ||| 2 ^ x.toNat) 0
theorem maskN_snoc (l : List Int) (x : Int) : maskN (l ++ [x]) = maskN l ||| 2 ^ x.toNat := by simp [maskN]
theorem maskN_test (l : List Int) : ∀ i, (maskN l.reverse).testBit i = true ↔ ∃ x ∈ l, x.toNat = i := by
  induction l with
  | nil => intro i; simp [maskN]
  | cons x l ih =>
    intro i
    rw [List.reverse_cons, maskN_snoc, Nat.testBit_or, Bool.or_eq_true, ih, Nat.testBit_two_pow]
    simp only [decide_eq_true_eq, List.mem_cons, exists_eq_or_imp]
    exact or_comm
theorem maskN_mem (l : List Int) (h : ∀ x ∈ l, 0 ≤ x ∧ x ≤ 63) (x : Int) (hx : 0 ≤ x) : (maskN l).testBit x.toNat = true ↔ x ∈ l := by
  have := maskN_test l.reverse x.toNat
  rw [List.reverse_reverse] at this
  rw [this]
  constructor
  · rintro ⟨y, hy, e⟩
    have hy := List.mem_reverse.1 hy
    have := h y hy
    rw [show x = y by omega]; exact hy
  · intro hx2; exact ⟨x, List.mem_reverse.2 hx2, rfl⟩
theorem maskN_lt (l : List Int) (h : ∀ x ∈ l, 0 ≤ x ∧ x ≤ 63) : maskN l < 2 ^ 64 := by
  have : ∀ r : List Int, (∀ x ∈ r, 0 ≤ x ∧ x ≤ 63) → maskN r.reverse < 2 ^ 64 := by
    intro r
    induction r with
    | nil => intro _; decide
    | cons x r ih =>
      intro hr
      rw [List.reverse_cons, maskN_snoc]
      refine Nat.or_lt_two_pow (ih fun y hy => hr y (by simp [hy])) ?_
      have := hr x (by simp)
      exact Nat.pow_lt_pow_right (by decide) (by omega)
  have := this l.reverse (fun x hx => h x (List.mem_reverse.1 hx))
  rwa [List.reverse_reverse] at this
theorem mask_bit (M i : Nat) (hM : M < 2 ^ 64) : bits .and .u64 ((M : Int) / 2 ^ i) 1 = if M.testBit i then 1 else 0 := by
  have h1 : ((M : Int) / 2 ^ i) = ((M / 2 ^ i : Nat) : Int) := by simp
  have h2 : M / 2 ^ i < 2 ^ 64 := Nat.lt_of_le_of_lt (Nat.div_le_self _ _) hM
  have := bits_mask .u64 64 (by decide) wraps_u64 1 (by decide) ((M : Int) / 2 ^ i) (by rw [h1]; exact Int.natCast_nonneg _) (by rw [h1]; exact_mod_cast h2)
  rw [show ((2 : Int) ^ 1 - 1) = 1 by decide] at this
  rw [this, Nat.testBit_eq_decide_div_mod_eq, h1]
  split
  · rename_i h; have := of_decide_eq_true h; omega
  · rename_i h; have : ¬ M / 2 ^ i % 2 = 1 := fun e => h (decide_eq_true e)
    omega
theorem mask_add (M i : Nat) (hM : M < 2 ^ 64) (hi : i ≤ 63) : bits .or .u64 (M : Int) (IntKind.u64.wrap (2 ^ i)) = ((M ||| 2 ^ i : Nat) : Int) := by
  have h1 : (2 : Nat) ^ i < 2 ^ 64 := Nat.pow_lt_pow_right (by decide) (by omega)
  have h2 : ((2 : Int) ^ i) = ((2 ^ i : Nat) : Int) := by simp
  rw [h2, wraps_u64 _ (Int.natCast_nonneg _) (by exact_mod_cast h1), (bits_nat .u64 64 (by decide) wraps_u64 M (2 ^ i) hM h1).2]
theorem mask_two (i : Nat) (hi : i ≤ 63) : IntKind.u64.wrap (2 ^ i) = 2 ^ i := by
  have h1 : (2 : Nat) ^ i < 2 ^ 64 := Nat.pow_lt_pow_right (by decide) (by omega)
  have h2 : ((2 : Int) ^ i) = ((2 ^ i : Nat) : Int) := by simp
  rw [h2, wraps_u64 _ (Int.natCast_nonneg _) (by exact_mod_cast h1)]
theorem checkR_no (e : Ent) (h : ¬ OkE e) : checkR e = 2 := by unfold checkR; rw [if_neg h]
theorem checkR_yes (e : Ent) (h : OkE e) : checkR e = 0 := by unfold checkR; rw [if_pos h]

end Go.Proofs.Ytepicdcmcagipaa
