/- Results that lie in rows: one row and a slot, two rows and a slot. No condition. A rule more for a region whose order is open: a quiet operation with a guard that is met, run as the walk runs it. No condition. Slices in memory of the call's own whose elements are one cell each: grown by append, read. No condition. Entries as numbers and lists: how they are written, how read, by the program's way and by the document's. No program in sight, no condition. What word.Var, word.ReadVar and the reference's Var and ReadVar answer. No condition but the kinds' own bounds. Entries in memory; what entry.within, entry.Check and the reference's Check answer. No condition but the kinds' own bounds. What entry.Check answers. No condition but the kinds' own bounds. What the reference's Check of layer 20 answers. No condition but the kinds' own bounds. What entry.Encode and the reference's Encode answer. No condition but the kinds' own bounds. -/
import Derived.Test.YtancldhincaphaaDoorGa
import Derived.Laws.ResultCell
import Derived.Test.YtancldhincaphaaDoorGe
import Derived.Test.YtancldhincaphaaDoorGb
import Derived.Maps.AppendAt
import Derived.Lib.EndianBits
namespace Go.Proofs.YtancldhincaphaaDoor
set_option maxRecDepth 100000
section Cell2
open Go.RowKit

section
variable {P : Program}
theorem ret_row_tmp {fn : Func} {p u : Tmp} {ty : TypeId} (hf : fn.results = #[.cell p ty, .tmp u]) (tmps : Array Value) (w : World) (g : Nat) (cs : List Value) (T : TypeId) (d : TypeDesc)
    (hp : tmps.getD p undef = .pointer (some ⟨g, 0, none⟩)) (hg : Blk w g cs T) (hu : P.underlying ty = some d) (hd : isRow d = true) (hi : (P.info? ty).map (·.size) = some cs.length) :
    (results fn tmps).run P w = .ok (.tuple #[.agg cs.toArray, tmps.getD u undef]) w := by
  rw [results_cell_tmp hf, hp]
  have := run_loadVar_row (P := P) w g T ty cs.toArray (0, 0) d hg hu (by cases d <;> simp_all [isRow]) (by simpa using hi)
  simp [asAddr, this]
theorem ret_row2_tmp {fn : Func} {p q u : Tmp} {ty : TypeId} (hf : fn.results = #[.cell p ty, .cell q ty, .tmp u]) (tmps : Array Value) (w : World) (g g2 : Nat) (cs cs2 : List Value) (T T2 : TypeId) (d : TypeDesc)
    (hp : tmps.getD p undef = .pointer (some ⟨g, 0, none⟩)) (hg : Blk w g cs T) (hp2 : tmps.getD q undef = .pointer (some ⟨g2, 0, none⟩)) (hg2 : Blk w g2 cs2 T2) (hu : P.underlying ty = some d) (hd : isRow d = true) (hi : (P.info? ty).map (·.size) = some cs.length) (hi2 : (P.info? ty).map (·.size) = some cs2.length) :
    (results fn tmps).run P w = .ok (.tuple #[.agg cs.toArray, .agg cs2.toArray, tmps.getD u undef]) w := by
  have h1 := run_loadVar_row (P := P) w g T ty cs.toArray (0, 0) d hg hu (by cases d <;> simp_all [isRow]) (by simpa using hi)
  have h2 := run_loadVar_row (P := P) w g2 T2 ty cs2.toArray (0, 0) d hg2 hu (by cases d <;> simp_all [isRow]) (by simpa using hi2)
  simp only [results, hf]
  have hp' : tmps[p]?.getD undef = .pointer (some ⟨g, 0, none⟩) := by simpa using hp
  have hp2' : tmps[q]?.getD undef = .pointer (some ⟨g2, 0, none⟩) := by simpa using hp2
  simp [Sem.run_bind, Result.andThen, hp', hp2', asAddr, h1, h2]
/-- A guarded operation whose guard is met. -/
theorem st_un {ops : Array Oper} {rest : List Oper} {a : Act} {w : World} {Q : Exit → Act → World → Prop} {d' : Option Tmp} {op : Op} {tt : TypeId} {pos : String} {after : Array Edge} {g : Nat × Bool}
    (hg : Region.wanted ⟨d', op, tt, pos, after, some g⟩ (yielded ops a.tmps) = true) (h : wpList P ops Q (⟨d', op, tt, pos, after, none⟩ :: rest) a w) : wpList P ops Q (⟨d', op, tt, pos, after, some g⟩ :: rest) a w := by
  unfold wpList at h ⊢
  rw [if_pos (by simp [Region.wanted])] at h
  rw [if_pos hg]
  exact h
end
end Cell2
section GuardW
open Go.RowKit

section
variable {P : Program} {ops : Array Oper} {C : World → Prop} {Q : Exit → Act → World → Prop} {E F : List Nat} {k : Nat} {rest : List Oper} {a : Act} {w : World} {o : Oper} {v : Value}
theorem wd_wg {d : Nat} (hE : E.contains k = false) (hF : F.contains k = false) (hg : Region.wanted o (yielded ops a.tmps) = true) (hq : valueOp o.op = true) (hd : o.dst = some d) (hl0 : Nat.blt d a.tmps.size = true)
    (hv : ∀ w', C w' → ∀ K : Act → World → Prop, (∀ a', a' = a.put (some d) v → K a' w') → wpList P #[] (Exit.then K (fun _ _ _ => False)) [{ o with guard := none }] a w')
    (h : WD P ops C Q E F (k + 1) rest (a.put (some d) v) w) : WD P ops C Q E F k (o :: rest) a w := by
  refine wd_q hE hF hg hq hd hl0 (fun w' hC K hK => ?_) h
  have h1 := hv w' hC K hK
  unfold wpList at h1
  rw [if_pos (by simp [Region.wanted])] at h1
  rcases h1 with h1 | ⟨_, a', w'', hl⟩
  · obtain ⟨dst, op, type, pos, after, guard⟩ := o
    unfold Oper.wp at h1 ⊢
    dsimp only at h1
    have he : execOp a.eval ⟨dst, op, type, pos, after, guard⟩ = execOp a.eval ⟨dst, op, type, pos, after, none⟩ := rfl
    rw [he]
    generalize (execOp a.eval ⟨dst, op, type, pos, after, none⟩).run P w' = r at h1 ⊢
    cases r with
    | ok n w2 =>
      cases n <;> simp only [Oper.upon] at h1 ⊢
      case value u => exact h1
      case skip => exact h1
      case defer d => exact h1
      case enter f args => exact Calls.mono h1 fun e w'' he => by
                            cases e with
                            | returned u => exact he
                            | panicked c => exact he
                            | outgrown => obtain ⟨_, _, hl⟩ := he; exact hl.elim
      case row row args => exact Rows.mono h1 fun _ _ he => he
    | halt z w2 => cases z <;> simp only [Oper.upon] at h1 ⊢; exact h1
  · exact hl.elim
end
end GuardW
section OwnC
open Go.RowKit

def OwnC (w : World) (base : Nat) (e : TypeId) (v : Value) (cs : List Value) : Prop := w.ownsRow base e 1 v cs.length cs
theorem OwnC.nil (w : World) (base : Nat) (e : TypeId) : OwnC w base e (.slice none 0 0) [] := World.ownsRow_nil w base _ _
theorem OwnC.kept {w w' : World} {base : Nat} {e : TypeId} {v : Value} {cs : List Value} (h : OwnC w base e v cs) (hb : Below w.heap.size w w') : OwnC w' base e v cs :=
  World.ownsRow.kept (row := none) h ⟨hb.os, hb.tape, hb.output, hb.size, fun k hk _ => hb.block k hk⟩ (by cases hv : v.ownBlock <;> simp)
theorem OwnC.from {w : World} {base : Nat} {e : TypeId} {v : Value} {cs : List Value} (h : OwnC w base e v cs) : ∃ A c, v = .slice A cs.length c ∧ cs.length ≤ c ∧ (A = none → c = 0) ∧ Rd w A cs ∧ ∀ a, A = some a → base ≤ a.block := by
  obtain ⟨hl, h | ⟨g, cap, cur, hv, hg, hh, hn, hm, hsz, ht⟩⟩ := h
  · have : cs = [] := List.eq_nil_of_length_eq_zero h.2
    subst this
    exact ⟨none, 0, h.1, Nat.le_refl _, fun _ => rfl, Rd.nil _ _, fun a ha => by cases ha⟩
  · refine ⟨some ⟨g, 0, none⟩, cap, hv, hn, fun h => (by cases h), .inr ⟨g, 0, rfl, fun j v hv => ?_⟩, fun a ha => by injection ha with ha; rw [← ha]; exact hg⟩
    rw [Nat.zero_add]
    simp only [World.cell?, hh]
    rw [← ht, List.getElem?_take] at hv
    split at hv
    · simpa using hv
    · cases hv
/-- Grown by the call. -/
def GrowC (w : World) (e : TypeId) (cs : List Value) (v : Value) (w' : World) : Prop := Below w.heap.size w w' ∧ OwnC w' w.heap.size e v cs
theorem GrowC.nil (w : World) (e : TypeId) : GrowC w e [] (.slice none 0 0) w := ⟨Below.refl _ _, OwnC.nil _ _ _⟩
theorem GrowC.up {w w' w'' : World} {e : TypeId} {cs : List Value} {v : Value} (h : GrowC w e cs v w') (hb : Below w'.heap.size w' w'') : GrowC w e cs v w'' := ⟨h.1.trans (hb.mono h.1.size), h.2.kept hb⟩
theorem GrowC.alloc {w w' : World} {e : TypeId} {cs : List Value} {v : Value} (h : GrowC w e cs v w') (o : Obj) : GrowC w e cs v (w'.alloc o) := h.up ((Below.refl _ _).alloc (Nat.le_refl _) _)

/-- append(x, y..) of elements of one cell that lie in a row, x the call's own. -/
theorem st_growC {P : Program} {ops : Array Oper} {rest : List Oper} {a : Act} {w w0 : World} {Q : Exit → Act → World → Prop} {d' : Option Tmp} {tt t e : TypeId} {s x : Operand} {pos : String} {after : Array Edge} {v z : Value} {ad : Addr} {b m c : Nat} {xs ys : List Value}
    (ht : P.underlying t = some (.slice e)) (hi : (P.info? e).map (fun i => (i.zero, i.size, i.bytes)) = some (some z, 1, b)) (hz : z.cells.size = 1) (hb : b ≤ 16)
    (hs : a.eval s = v) (hx : a.eval x = .slice (some ad) m c) (hg : GrowC w0 e xs v w) (hm : ys.length = m) (hr : ∀ j u, ys[j]? = some u → w.cell? (ad.add j) = some u) (h1 : ∀ u ∈ ys, u.oneCell' = true) (hl : xs.length + m ≤ 1099511627776)
    (h : ∀ v' w', GrowC w0 e (xs ++ ys) v' w' → wpList P ops Q rest (a.put d' v') w') :
    wpList P ops Q (⟨d', .call ⟨.builtin .append, #[s, x], #[t, t]⟩, tt, pos, after, none⟩ :: rest) a w := by
  obtain ⟨i0, hi, hz0, hz1, hz2⟩ := info_parts hi
  refine wpList_append_own_at (w := w) rfl s x t rfl w0.heap.size e i0 z 1 b ht hi hz0 hz1 hz2 hz (by decide) v xs.length xs hs hg.2 ad m c ys hx (by omega) hr h1 (by unfold maxLen; omega) ?_ hg.1.size ?_
  · have := Nat.mul_le_mul hl hb; omega
  · intro v' w' ho hgr _ hat
    refine h v' w' ⟨hg.1.grown hgr hg.1.size (fun k hk => by have := World.ownsRow.lt hg.2 k hk; omega), ?_⟩
    unfold OwnC
    rw [List.length_append, hm]
    exact ho
end OwnC
section EntP

def varT : Nat → Nat → List Int
  | 0, _ => []
  | f + 1, x => if x < 128 then [(x : Int)] else ((128 + x % 128 : Nat) : Int) :: varT f (x / 128)
def varL (x : Nat) : List Int := varT 10 x
theorem varT_len (f x : Nat) : (varT f x).length ≤ f := by
  induction f generalizing x with
  | zero => simp [varT]
  | succ f ih =>
    unfold varT; split
    · simp
    · have := ih (x / 128); simp; omega
theorem varT_pos (f x : Nat) (h : 0 < f) : 0 < (varT f x).length := by
  cases f with
  | zero => omega
  | succ f => unfold varT; split <;> simp
theorem varT_more (f x : Nat) (hf : 0 < f) (hx : x < 128 ^ f) (d : Nat) : varT (f + d) x = varT f x := by
  induction f generalizing x with
  | zero => omega
  | succ f ih =>
    rw [show f + 1 + d = (f + d) + 1 by omega]
    unfold varT
    by_cases h : x < 128
    · rw [if_pos h, if_pos h]
    · rw [if_neg h, if_neg h, ih (x / 128)]
      · cases f with
        | zero => simp at hx; omega
        | succ f => omega
      · rw [Nat.pow_succ] at hx; omega
theorem varT_at (f x : Nat) (hf : 0 < f) (h10 : f ≤ 10) (hx : x < 128 ^ f) : varL x = varT f x := by
  unfold varL
  have := varT_more f x hf hx (10 - f)
  rwa [show f + (10 - f) = 10 by omega] at this
theorem varL_small (x : Nat) (h : x < 128) : varL x = [(x : Int)] := by
  unfold varL varT; rw [if_pos h]
theorem varT_u8 (f x : Nat) : ∀ c ∈ varT f x, 0 ≤ c ∧ c < 256 := by
  induction f generalizing x with
  | zero => simp [varT]
  | succ f ih =>
    unfold varT; split
    · intro c hc; simp at hc; omega
    · intro c hc
      rcases List.mem_cons.1 hc with h | h
      · omega
      · exact ih _ c h

def rdV : Nat → List Int → Option (Nat × Nat)
  | _, [] => none
  | i, c :: r => if i = 9 ∧ 1 < c then none else if c < 128 then (if c = 0 ∧ 0 < i then none else some (c.toNat, 1)) else (rdV (i + 1) r).map fun p => (c.toNat % 128 + 128 * p.1, p.2 + 1)
theorem rdV_varT (f x i : Nat) (r : List Int) (hf : 0 < f) (hx : x < 128 ^ f) (hi : i + f ≤ 9) (h0 : i = 0 ∨ 0 < x) : rdV i (varT f x ++ r) = some (x, (varT f x).length) := by
  induction f generalizing x i with
  | zero => omega
  | succ f ih =>
    unfold varT
    by_cases h : x < 128
    · rw [if_pos h]
      show rdV i ((x : Int) :: r) = _
      unfold rdV
      rw [if_neg (by omega), if_pos (by omega), if_neg (by omega)]
      simp
    · rw [if_neg h]
      show rdV i (((128 + x % 128 : Nat) : Int) :: (varT f (x / 128) ++ r)) = _
      unfold rdV
      have hf0 : 0 < f := by
        cases f with
        | zero => simp at hx; omega
        | succ f => omega
      rw [if_neg (by omega), if_neg (by omega), ih (x / 128) (i + 1) hf0 (by rw [Nat.pow_succ] at hx; omega) (by omega) (by omega)]
      simp
      omega
theorem rdV_le (i : Nat) (l : List Int) (p : Nat × Nat) (h : rdV i l = some p) : 1 ≤ p.2 ∧ p.2 ≤ l.length := by
  induction l generalizing i p with
  | nil => simp [rdV] at h
  | cons c r ih =>
    unfold rdV at h
    split at h
    · cases h
    · split at h
      · split at h
        · cases h
        · injection h with h; subst h; simp
      · cases hr : rdV (i + 1) r with
        | none => rw [hr] at h; cases h
        | some q =>
          rw [hr] at h
          simp only [Option.map_some, Option.some.injEq] at h
          have := ih (i + 1) q hr
          subst h
          simp; omega

def valV : List Int → Nat
  | [] => 0
  | c :: r => c.toNat % 128 + 128 * valV r
theorem valV_snoc (l : List Int) (c : Int) : valV (l ++ [c]) = valV l + 128 ^ l.length * (c.toNat % 128) := by
  induction l with
  | nil => simp [valV]
  | cons x l ih =>
    simp only [List.cons_append, valV, ih, List.length_cons, Nat.pow_succ]
    rw [Nat.mul_add, Nat.mul_comm (128 ^ l.length) 128, Nat.mul_assoc]; omega
theorem valV_lt (l : List Int) : valV l < 128 ^ l.length := by
  induction l with
  | nil => simp [valV]
  | cons x l ih => simp only [valV, List.length_cons, Nat.pow_succ]; omega

/-- What is left to read behind k bytes that go on. -/
def RdAt (bs : List Int) (k : Nat) : Prop := rdV 0 bs = (rdV k (bs.drop k)).map fun p => (valV (bs.take k) + 128 ^ k * p.1, k + p.2)
theorem RdAt.zero (bs : List Int) : RdAt bs 0 := by
  unfold RdAt
  rw [List.drop_zero]
  cases rdV 0 bs <;> simp [valV]
theorem drop_at (bs : List Int) (k : Nat) (h : k < bs.length) : bs.drop k = bs.getD k 0 :: bs.drop (k + 1) := by
  rw [List.drop_eq_getElem_cons h]; simp [h]
theorem take_at (bs : List Int) (k : Nat) (h : k < bs.length) : bs.take (k + 1) = bs.take k ++ [bs.getD k 0] := by
  rw [List.take_add_one, List.getElem?_eq_getElem h]; simp [h]
theorem RdAt.done {bs : List Int} {k : Nat} (h : RdAt bs k) (hk : bs.length ≤ k) : rdV 0 bs = none := by
  rw [h, List.drop_eq_nil_of_le hk]; rfl
theorem RdAt.bad {bs : List Int} {k : Nat} (h : RdAt bs k) (hk : k < bs.length) (hb : (k = 9 ∧ 1 < bs.getD k 0) ∨ (bs.getD k 0 < 128 ∧ bs.getD k 0 = 0 ∧ 0 < k)) : rdV 0 bs = none := by
  rw [h, drop_at bs k hk]
  unfold rdV
  by_cases h9 : k = 9 ∧ 1 < bs.getD k 0
  · rw [if_pos h9]; rfl
  · rw [if_neg h9]
    rcases hb with hb | ⟨h1, h2, h3⟩
    · exact absurd hb h9
    · rw [if_pos h1, if_pos ⟨h2, h3⟩]; rfl
theorem RdAt.hit {bs : List Int} {k : Nat} (h : RdAt bs k) (hk : k < bs.length) (h9 : ¬ (k = 9 ∧ 1 < bs.getD k 0)) (h1 : bs.getD k 0 < 128) (h0 : ¬ (bs.getD k 0 = 0 ∧ 0 < k)) : rdV 0 bs = some (valV (bs.take (k + 1)), k + 1) := by
  rw [h, drop_at bs k hk, take_at bs k hk]
  unfold rdV
  rw [if_neg h9, if_pos h1, if_neg h0, valV_snoc]
  simp only [Option.map_some]
  rw [List.length_take, Nat.min_eq_left (by omega), Nat.mod_eq_of_lt (by omega)]
theorem RdAt.step {bs : List Int} {k : Nat} (h : RdAt bs k) (hk : k < bs.length) (h9 : ¬ (k = 9 ∧ 1 < bs.getD k 0)) (h1 : ¬ bs.getD k 0 < 128) : RdAt bs (k + 1) := by
  unfold RdAt at h ⊢
  rw [h, drop_at bs k hk, take_at bs k hk, valV_snoc]
  conv => lhs; unfold rdV
  rw [if_neg h9, if_neg h1]
  cases rdV (k + 1) (bs.drop (k + 1)) with
  | none => rfl
  | some p =>
    simp only [Option.map_some, Option.some.injEq, Prod.mk.injEq]
    rw [List.length_take, Nat.min_eq_left (by omega), Nat.pow_succ, Nat.mul_add, Nat.mul_assoc]
    omega

structure Ent where
  job : Int
  time : Int
  h : List Int
  s : List Int
  kind : Int
  ord : List Int
  tries : Int
deriving DecidableEq

def OrdE (l : List Int) : Prop := (∀ x ∈ l, 0 ≤ x ∧ x ≤ 63) ∧ l.Nodup
instance (l : List Int) : Decidable (OrdE l) := by unfold OrdE; infer_instance
def OkE (e : Ent) : Prop := (0 ≤ e.job ∧ e.job ≤ 63) ∧ (0 ≤ e.time ∧ e.time ≤ 1099511627776) ∧ (1 ≤ e.kind ∧ e.kind ≤ 4) ∧ (0 ≤ e.tries ∧ e.tries ≤ 1073741824) ∧ (e.kind = 1 ∨ e.ord = []) ∧ OrdE e.ord
instance (e : Ent) : Decidable (OkE e) := by unfold OkE; infer_instance
def checkR (e : Ent) : Int := if OkE e then 0 else 2
theorem nodup_len (n : Nat) : ∀ l : List Int, (∀ x ∈ l, 0 ≤ x ∧ x < n) → l.Nodup → l.length ≤ n := by
  induction n with
  | zero =>
    intro l h _
    cases l with
    | nil => simp
    | cons x l => have := h x (by simp); omega
  | succ n ih =>
    intro l h hn
    have h1 := ih (l.erase (n : Int)) (fun x hx => by
      have h2 := (List.Nodup.mem_erase_iff hn).1 hx
      have := h x h2.2
      have : x ≠ n := h2.1
      omega) (hn.erase _)
    rw [List.length_erase] at h1
    split at h1 <;> omega
theorem OrdE.len {l : List Int} (h : OrdE l) : l.length ≤ 64 := nodup_len 64 l (fun x hx => by have := h.1 x hx; omega) h.2

def encL (e : Ent) : List Int := varL e.job.toNat ++ varL e.time.toNat ++ e.h ++ e.s ++ [e.kind] ++ varL e.tries.toNat ++ [(e.ord.length : Int)] ++ e.ord
def encR (e : Ent) : List Int × Int := if OkE e then (encL e, 0) else ([], 2)

def numR (b : List Int) (most : Nat) : Option (Nat × List Int) :=
  match rdV 0 b with
  | some p => if p.1 ≤ most then some (p.1, b.drop p.2) else none
  | none => none
def readR (b : List Int) : Option Ent :=
  match numR b 64 with
  | none => none
  | some (j, b1) => match numR b1 1099511627776 with
    | none => none
    | some (t, b2) => if b2.length < 65 then none else match numR (b2.drop 65) 1073741824 with
      | none => none
      | some (r, b3) => match numR b3 64 with
        | none => none
        | some (n, b4) => if b4.length = n then some ⟨j, t, b2.take 32, (b2.drop 32).take 32, b2.getD 64 0, b4, r⟩ else none
def zeroE : Ent := ⟨0, 0, List.replicate 32 0, List.replicate 32 0, 0, [], 0⟩
def decR (b : List Int) : Ent × Int :=
  match readR b with
  | some e => if OkE e ∧ encL e = b then (e, 0) else (zeroE, 4)
  | none => (zeroE, 4)
theorem numR_var (x most : Nat) (r : List Int) (hx : x ≤ most) (hm : most < 9223372036854775808) : numR (varL x ++ r) most = some (x, r) := by
  unfold numR
  have hb : x < 128 ^ 9 := by omega
  rw [varT_at 9 x (by omega) (by omega) hb, rdV_varT 9 x 0 r (by omega) hb (by omega) (Or.inl rfl)]
  simp [hx]
theorem read_enc (e : Ent) (h : OkE e) (hh : e.h.length = 32) (hs : e.s.length = 32) : readR (encL e) = some e := by
  obtain ⟨h1, h2, h3, h4, h5, h6⟩ := h
  have hl := h6.len
  unfold readR encL
  rw [show varL e.job.toNat ++ varL e.time.toNat ++ e.h ++ e.s ++ [e.kind] ++ varL e.tries.toNat ++ [(e.ord.length : Int)] ++ e.ord = varL e.job.toNat ++ (varL e.time.toNat ++ (e.h ++ (e.s ++ (e.kind :: (varL e.tries.toNat ++ (varL e.ord.length ++ e.ord)))))) by
    rw [varL_small e.ord.length (by omega)]; simp]
  rw [numR_var _ _ _ (by omega) (by omega)]
  dsimp only
  rw [numR_var _ _ _ (by omega) (by omega)]
  dsimp only
  have hd : (e.h ++ (e.s ++ (e.kind :: (varL e.tries.toNat ++ (varL e.ord.length ++ e.ord))))).drop 65 = varL e.tries.toNat ++ (varL e.ord.length ++ e.ord) := by
    rw [List.drop_append, List.drop_eq_nil_of_le (by omega), List.nil_append, List.drop_append, List.drop_eq_nil_of_le (by omega), List.nil_append, hh, hs]; rfl
  rw [if_neg (by simp; omega), hd, numR_var _ _ _ (by omega) (by omega)]
  dsimp only
  rw [numR_var _ _ _ (by omega) (by omega)]
  dsimp only
  rw [if_pos rfl]
  have e1 : (e.h ++ (e.s ++ (e.kind :: (varL e.tries.toNat ++ (varL e.ord.length ++ e.ord))))).take 32 = e.h := by
    rw [← hh, List.take_left']; rfl
  have e2 : ((e.h ++ (e.s ++ (e.kind :: (varL e.tries.toNat ++ (varL e.ord.length ++ e.ord))))).drop 32).take 32 = e.s := by
    rw [← hh, List.drop_left, hh, ← hs, List.take_left']; rfl
  have e3 : (e.h ++ (e.s ++ (e.kind :: (varL e.tries.toNat ++ (varL e.ord.length ++ e.ord))))).getD 64 0 = e.kind := by
    rw [List.getD_eq_getElem?_getD, List.getElem?_append_right (by omega), List.getElem?_append_right (by omega), hh, hs]; rfl
  rw [e1, e2, e3]
  congr 1
  cases e
  simp only [Ent.mk.injEq, true_and] at *
  omega
theorem dec_enc (e : Ent) (h : OkE e) (hh : e.h.length = 32) (hs : e.s.length = 32) : decR (encL e) = (e, 0) := by
  unfold decR
  rw [read_enc e h hh hs]
  simp [h]
theorem read_lens (b : List Int) (e : Ent) (h : readR b = some e) : e.h.length = 32 ∧ e.s.length = 32 := by
  unfold readR at h
  split at h
  · cases h
  · split at h
    · cases h
    · split at h
      · cases h
      · split at h
        · cases h
        · split at h
          · cases h
          · split at h
            · injection h with h; subst h; simp; omega
            · cases h
theorem dec_not (b : List Int) (h : ∀ e : Ent, OkE e → e.h.length = 32 → e.s.length = 32 → encL e ≠ b) : decR b = (zeroE, 4) := by
  unfold decR
  cases hr : readR b with
  | none => rfl
  | some e =>
    dsimp only
    rw [if_neg]
    intro ⟨h1, h2⟩
    exact h e h1 (read_lens b e hr).1 (read_lens b e hr).2 h2
/-- The reference's way of reading. -/
def refRead (b : List Int) : Option Ent :=
  match rdV 0 b with
  | none => none
  | some (j, n) => match rdV 0 (b.drop n) with
    | none => none
    | some (t, m) => if 63 < j ∨ 1099511627776 < t ∨ b.length < n + m + 65 then none else match rdV 0 (b.drop (n + m + 65)) with
      | none => none
      | some (r, k) => if 1073741824 < r ∨ b.length ≤ n + m + 65 + k then none else
        some ⟨j, t, (b.drop (n + m)).take 32, (b.drop (n + m + 32)).take 32, b.getD (n + m + 64) 0, b.drop (n + m + 65 + k + 1), r⟩
theorem ref_enc (e : Ent) (h : OkE e) (hh : e.h.length = 32) (hs : e.s.length = 32) : refRead (encL e) = some e := by
  obtain ⟨h1, h2, h3, h4, h5, h6⟩ := h
  have hl := h6.len
  have hv : ∀ (x : Nat) (r : List Int), x ≤ 1099511627776 → rdV 0 (varL x ++ r) = some (x, (varL x).length) := fun x r hx => by
    have hb : x < 128 ^ 9 := by omega
    rw [varT_at 9 x (by omega) (by omega) hb, rdV_varT 9 x 0 r (by omega) hb (by omega) (Or.inl rfl)]
  unfold refRead encL
  rw [show varL e.job.toNat ++ varL e.time.toNat ++ e.h ++ e.s ++ [e.kind] ++ varL e.tries.toNat ++ [(e.ord.length : Int)] ++ e.ord = varL e.job.toNat ++ (varL e.time.toNat ++ (e.h ++ (e.s ++ (e.kind :: (varL e.tries.toNat ++ ((e.ord.length : Int) :: e.ord)))))) by simp]
  obtain ⟨V1, hV1⟩ : ∃ V, V = varL e.job.toNat := ⟨_, rfl⟩
  obtain ⟨V2, hV2⟩ : ∃ V, V = varL e.time.toNat := ⟨_, rfl⟩
  obtain ⟨V3, hV3⟩ : ∃ V, V = varL e.tries.toNat := ⟨_, rfl⟩
  have v1 := fun r => hv e.job.toNat r (by omega)
  have v2 := fun r => hv e.time.toNat r (by omega)
  have v3 := fun r => hv e.tries.toNat r (by omega)
  rw [← hV1] at v1 ⊢
  rw [← hV2] at v2 ⊢
  rw [← hV3] at v3 ⊢
  rw [v1]
  dsimp only
  rw [List.drop_left, v2]
  dsimp only
  have d1 : ∀ k, (V1 ++ (V2 ++ (e.h ++ (e.s ++ (e.kind :: (V3 ++ ((e.ord.length : Int) :: e.ord))))))).drop (V1.length + V2.length + k) = (e.h ++ (e.s ++ (e.kind :: (V3 ++ ((e.ord.length : Int) :: e.ord))))).drop k := fun k => by
    rw [Nat.add_assoc, ← List.drop_drop, List.drop_left, ← List.drop_drop, List.drop_left]
  have d2 : ∀ k, (e.h ++ (e.s ++ (e.kind :: (V3 ++ ((e.ord.length : Int) :: e.ord))))).drop (65 + k) = (V3 ++ ((e.ord.length : Int) :: e.ord)).drop k := fun k => by
    rw [show 65 + k = e.h.length + (e.s.length + (1 + k)) by omega, ← List.drop_drop, List.drop_left, ← List.drop_drop, List.drop_left, ← List.drop_drop]; rfl
  rw [if_neg (by simp; omega)]
  have := d2 0
  rw [d1, this, List.drop_zero, v3]
  dsimp only
  rw [if_neg (by simp; omega)]
  congr 1
  have e0 := d1 0
  rw [Nat.add_zero] at e0
  have e1 : (e.h ++ (e.s ++ (e.kind :: (V3 ++ ((e.ord.length : Int) :: e.ord))))).take 32 = e.h := by
    rw [← hh, List.take_left']; rfl
  have e2 : ((e.h ++ (e.s ++ (e.kind :: (V3 ++ ((e.ord.length : Int) :: e.ord))))).drop 32).take 32 = e.s := by
    rw [← hh, List.drop_left, hh, ← hs, List.take_left']; rfl
  have e3 : (V1 ++ (V2 ++ (e.h ++ (e.s ++ (e.kind :: (V3 ++ ((e.ord.length : Int) :: e.ord))))))).getD (V1.length + V2.length + 64) 0 = e.kind := by
    rw [List.getD_eq_getElem?_getD, ← List.head?_drop, d1, show 64 = e.h.length + e.s.length by omega, ← List.drop_drop, List.drop_left, List.drop_left]; rfl
  have e4 : (V1 ++ (V2 ++ (e.h ++ (e.s ++ (e.kind :: (V3 ++ ((e.ord.length : Int) :: e.ord))))))).drop (V1.length + V2.length + 65 + V3.length + 1) = e.ord := by
    rw [show V1.length + V2.length + 65 + V3.length + 1 = V1.length + V2.length + (65 + (V3.length + 1)) by omega, d1, d2, ← List.drop_drop, List.drop_left]; rfl
  rw [e0, List.drop_zero, d1, e1, e2, e3, e4]
  cases e
  simp only [Ent.mk.injEq, true_and] at *
  omega
/-- Whichever way a text is read: what comes of it must be written so. -/
theorem ref_dec (b : List Int) : decR b = match refRead b with
    | some e => if OkE e ∧ encL e = b then (e, 0) else (zeroE, 4)
    | none => (zeroE, 4) := by
  cases hr : refRead b with
  | none =>
    dsimp only
    apply dec_not
    intro e h1 h2 h3 h4
    rw [← h4, ref_enc e h1 h2 h3] at hr
    cases hr
  | some e =>
    dsimp only
    have hlen : e.h.length = 32 ∧ e.s.length = 32 := by
      unfold refRead at hr
      split at hr
      · cases hr
      · split at hr
        · cases hr
        · split at hr
          · cases hr
          · split at hr
            · cases hr
            · split at hr
              · cases hr
              · injection hr with hr; subst hr; simp; omega
    by_cases hc : OkE e ∧ encL e = b
    · rw [if_pos hc, ← hc.2, dec_enc e hc.1 hlen.1 hlen.2]
    · rw [if_neg hc]
      apply dec_not
      intro e' h1 h2 h3 h4
      have : e' = e := by
        have := ref_enc e' h1 h2 h3
        rw [h4, hr] at this
        injection this with this
        exact this.symm
      subst this
      exact hc ⟨h1, h4⟩
theorem varL_len (x : Nat) : 1 ≤ (varL x).length ∧ (varL x).length ≤ 10 := ⟨varT_pos 10 x (by omega), varT_len 10 x⟩
theorem encL_len (e : Ent) (h : OkE e) (hh : e.h.length = 32) (hs : e.s.length = 32) : (encL e).length ≤ 200 := by
  have := h.2.2.2.2.2.len
  have := varL_len e.job.toNat
  have := varL_len e.time.toNat
  have := varL_len e.tries.toNat
  unfold encL; simp; omega
end EntP
section Var
open Go.RowKit

@[go_sem] theorem run_shl64 {P : Program} (x y : Int) (yk : IntKind) (h : 0 ≤ y) (w : World) : (Op.shift .shl .u64 x yk y).run P w = .ok (.int .u64 (IntKind.u64.wrap (x * 2 ^ min y.toNat 64))) w := by
  unfold Op.shift
  rw [if_neg (by omega)]
  rfl
@[go_sem] theorem run_shr64 {P : Program} (x y : Int) (yk : IntKind) (h : 0 ≤ y) (w : World) : (Op.shift .shr .u64 x yk y).run P w = .ok (.int .u64 (x.fdiv (2 ^ min y.toNat 64))) w := by
  unfold Op.shift
  rw [if_neg (by omega)]
  rfl
theorem or128 (x : Int) (h0 : 0 ≤ x) (h1 : x < 256) : bits .or .u8 x 128 = 128 + x % 128 := by
  obtain ⟨m, rfl⟩ := Int.eq_ofNat_of_zero_le h0
  have h : ∀ m : Fin 256, bits .or .u8 ((m.val : Nat) : Int) 128 = 128 + ((m.val : Nat) : Int) % 128 := by decide +kernel
  exact h ⟨m, by omega⟩
theorem and127 (x : Int) (h0 : 0 ≤ x) (h1 : x < 256) : bits .and .u8 x 127 = x % 128 := by
  obtain ⟨m, rfl⟩ := Int.eq_ofNat_of_zero_le h0
  have h : ∀ m : Fin 256, bits .and .u8 ((m.val : Nat) : Int) 127 = ((m.val : Nat) : Int) % 128 := by decide +kernel
  exact h ⟨m, by omega⟩

set_option maxRecDepth 100000 in
set_option maxHeartbeats 1000000 in
theorem var_any (w : World) (X : Nat) (hx : X ≤ 1099511627776) :
    Calls Tryd.prog 75 #[.int .u64 X] w (Gives (varL X) w) := by
  obtain ⟨all, hall⟩ : ∃ all, all = varL X := ⟨_, rfl⟩
  rw [← hall]
  have HA := Lib.hid hall
  clear hall
  go_enter Tryd.func75, Tryd.ntmps75
  go_wp2_with fail
  go_loopw [0, 3] (fun vx vb wr => ∃ (m f : Nat) (done : List Int), vx = .int .u64 m ∧ done.length + f = 10 ∧ 1 ≤ f ∧ m ≤ 1099511627776 ∧ Hid (m < 128 ^ f) ∧ Hid (all = done ++ varT f m) ∧ Grows w done vb wr) (fun vx _ _ => (intOf vx).toNat)
  case atStart => exact ⟨X, 10, [], rfl, rfl, by omega, hx, Lib.hid (by omega), HA, Grows.nil w⟩
  case round =>
    obtain ⟨m, f, done, rfl, hf, hf1, hm, HM, HE, hG⟩ := hrel
    obtain ⟨f, rfl⟩ : ∃ g, f = g + 1 := ⟨f - 1, by omega⟩
    by_cases hlt : m < 128
    · have he : all = done ++ [(m : Int)] := by rw [HE.out]; unfold varT; rw [if_pos hlt]
      have HN := Lib.hid he
      clear he HE HM
      have hw8 : (m : Int) % 256 = m := by omega
      go_wp2_with ((with_reducible apply st_grow (w0 := w) (xs := done) (ys := [(m : Int)])); rfl; rfl; exact hG.alloc _; (intro h; cases h); exact Rd.ofBlk (Blk.new' _ _ _ 5 _ rfl rfl); (simp; omega); intro v2 w2 hG2; rw [← HN.out] at hG2)
      go_ret
      exact hG2.gives
    · have hg : 128 ≤ m := by omega
      have he : all = (done ++ [((128 + m % 128 : Nat) : Int)]) ++ varT f (m / 128) := by rw [HE.out]; conv => lhs; unfold varT
                                                                                          rw [if_neg hlt]; simp
      have hm2 : m / 128 < 128 ^ f := by have := HM.out; rw [Nat.pow_succ] at this; omega
      have hfp : 1 ≤ f := by
        cases f with
        | zero => simp at hm2; omega
        | succ f => omega
      have hor := or128 ((m : Int) % 256) (by omega) (by omega)
      rw [show (m : Int) % 256 % 128 = ((m % 128 : Nat) : Int) by omega] at hor
      have hor2 : bits .or .u8 ((m : Int) % 256) 128 = ((128 + m % 128 : Nat) : Int) := by rw [hor]; omega
      obtain ⟨y, hy⟩ : ∃ y, y = ((128 + m % 128 : Nat) : Int) := ⟨_, rfl⟩
      rw [← hy] at he hor2
      have HN := Lib.hid he
      have HM2 := Lib.hid hm2
      clear he HE HM hm2 hor hy
      go_wp2_with ((with_reducible apply st_grow (w0 := w) (xs := done) (ys := [y])); rfl; rfl; exact hG.alloc _; (intro h; cases h); exact Rd.ofBlk (Blk.new' _ _ _ 5 _ rfl rfl); (simp; omega); intro v2 w2 hG2)
      go_roundw
      case rel => exact ⟨m / 128, f, done ++ [y], by first | rfl | (congr 1; omega), by simp; omega, hfp, by omega, HM2.out, HN.out, hG2⟩
      case measure => simp [intOf]; omega

theorem refvar_step (m f : Nat) (h : ¬ m < 128) : varT (f + 1) m = [((128 + m % 128 : Nat) : Int)] ++ varT f (m / 128) := by
  conv => lhs; unfold varT
  rw [if_neg h]; rfl
set_option maxRecDepth 100000 in
set_option maxHeartbeats 1000000 in
theorem refvarT_any (f : Nat) : ∀ (w : World) (m : Nat), m ≤ 1099511627776 → 1 ≤ f → f ≤ 10 → m < 128 ^ f →
    Calls Tryd.prog 81 #[.int .u64 m] w (Gives (varT f m) w) := by
  induction f with
  | zero => intro w m _ h; omega
  | succ f ih =>
    intro w m hm h1 h10 hp
    by_cases hlt : m < 128
    · have he : varT (f + 1) m = [(m : Int)] := by unfold varT; rw [if_pos hlt]
      have hw8 : (m : Int) % 256 = m := by omega
      rw [he]
      clear he ih hp
      go_enter Tryd.func81, Tryd.ntmps81
      go_wp2_with fail
      go_ret
      exact ⟨_, rfl, (Below.refl _ _).alloc (Nat.le_refl _) _, Own.ofBlk (bs := [(m : Int)]) (Blk.new' _ _ _ _ _ rfl rfl) (Nat.le_refl _) (by rw [List.length_singleton]; decide)⟩
    · have he := refvar_step m f hlt
      have hm2 : m / 128 < 128 ^ f := by rw [Nat.pow_succ] at hp; omega
      have hfp : 1 ≤ f := by
        cases f with
        | zero => simp at hm2; omega
        | succ f => omega
      have hr := fun w => ih w (m / 128) (by omega) hfp (by omega) hm2
      have hvl := varT_len f (m / 128)
      obtain ⟨y, hy⟩ : ∃ y, y = ((128 + m % 128 : Nat) : Int) := ⟨_, rfl⟩
      obtain ⟨T, hT⟩ : ∃ T, T = varT f (m / 128) := ⟨_, rfl⟩
      rw [← hT] at hr he hvl
      rw [he, ← hy]
      have hw8 : 128 + (m : Int) % 128 = y := by rw [hy]; omega
      rw [show ((m / 128 : Nat) : Int) = (m : Int) / 128 by omega] at hr
      have HR := Lib.hid hr
      clear hr he hy hT ih hp hm2
      go_enter Tryd.func81, Tryd.ntmps81
      go_wp2_with fail
      go_at_call 81
      refine (HR.out _).mono ?_
      rintro e w1 ⟨v1, rfl, hb1, ho1⟩
      obtain ⟨A1, c1, rfl, h2, h3, h4, h5⟩ := ho1.from
      have hB0 : Below w.heap.size w (w.alloc (.cells #[.int .u8 y] 5)) := (Below.refl _ _).alloc (Nat.le_refl _) _
      have hB := hB0.trans (hb1.mono hB0.size)
      have hblk : Blk w1 w.heap.size (nums .u8 [y]) 5 := (Blk.new' w _ (nums .u8 [y]) 5 _ rfl rfl).up hb1
      have hG : Grows w [y] (.slice (some ⟨w.heap.size, 0, none⟩) 1 1) w1 := ⟨hB, Own.ofBlk (bs := [y]) hblk (Nat.le_refl _) (by rw [List.length_singleton]; decide)⟩
      clear ho1 h2 h5
      go_wp2_with ((with_reducible apply st_grow (w0 := w) (xs := [y]) (ys := T)); rfl; rfl; exact hG; exact h3; exact h4; (simp; omega); intro v2 w2 hG2)
      go_ret
      exact hG2.gives
theorem refvar_any (w : World) (m : Nat) (hm : m ≤ 1099511627776) : Calls Tryd.prog 81 #[.int .u64 m] w (Gives (varL m) w) :=
  refvarT_any 10 w m hm (by decide) (by decide) (by omega)
end Var
section Ent
open Go.RowKit

/-- Whole numbers that are read. -/
structure Nts (w : World) (A : Option Addr) (c : Nat) (l : List Int) : Prop where
  rd : Rd w A (nums .i64 l)
  le : l.length ≤ c
  nn : A = none → c = 0
theorem Nts.up {w w' : World} {A : Option Addr} {c : Nat} {l : List Int} (h : Nts w A c l) (hb : Below w.heap.size w w') : Nts w' A c l := ⟨h.rd.up hb, h.le, h.nn⟩
theorem Nts.get {w : World} {A : Option Addr} {c : Nat} {l : List Int} (h : Nts w A c l) (hl : 0 < l.length) : ∃ g off, A = some ⟨g, off, none⟩ ∧ g < w.heap.size ∧ ∀ j, j < l.length → w.cell? ⟨g, off + j, none⟩ = some (.int .i64 (ga l j)) := by
  obtain ⟨g, off, h1, h2⟩ := h.rd.get (by rw [nums_length]; exact hl)
  exact ⟨g, off, h1, World.block_lt_of_cell? (h := h2 0 _ (nums_at .i64 l 0 hl)), fun j hj => h2 j _ (nums_at .i64 l j hj)⟩
def B64 (n : Int) : Prop := -9223372036854775808 ≤ n ∧ n ≤ 9223372036854775807
/-- The kinds' own bounds. -/
structure EntB (e : Ent) : Prop where
  h : e.h.length = 32
  s : e.s.length = 32
  uh : U8 e.h
  us : U8 e.s
  job : B64 e.job
  time : B64 e.time
  kind : B64 e.kind
  tries : B64 e.tries
  ord : ∀ x ∈ e.ord, B64 x
def verC (e : Ent) (A : Option Addr) (c : Nat) : List Value := [.int .i64 e.kind, .slice A e.ord.length c, .int .i64 e.tries]
def entC (e : Ent) (A : Option Addr) (c : Nat) : List Value := .int .i64 e.job :: .int .i64 e.time :: (nums .u8 e.h ++ nums .u8 e.s ++ verC e A c)
theorem entC_len {e : Ent} (h : EntB e) (A : Option Addr) (c : Nat) : (entC e A c).length = 69 := by simp [entC, verC, nums_length, h.h, h.s]
theorem entC_ver {e : Ent} (h : EntB e) (A : Option Addr) (c : Nat) : (((entC e A c).drop 66).take 3).toArray = (verC e A c).toArray := by
  unfold entC
  rw [show 66 = 64 + 1 + 1 by rfl, List.drop_succ_cons, List.drop_succ_cons, List.drop_append, List.drop_eq_nil_of_le (by simp [nums_length, h.h, h.s]), List.nil_append]
  have : 64 - (nums .u8 e.h ++ nums .u8 e.s).length = 0 := by simp [nums_length, h.h, h.s]
  rw [this]; rfl
theorem entC_at {e : Ent} (h : EntB e) (A : Option Addr) (c : Nat) (j : Nat) : (entC e A c)[66 + j]? = (verC e A c)[j]? := by
  have := entC_ver h A c
  unfold entC
  rw [show 66 + j = 64 + j + 1 + 1 by omega, List.getElem?_cons_succ, List.getElem?_cons_succ, List.getElem?_append_right (by simp [nums_length, h.h, h.s])]
  congr 1
  simp [nums_length, h.h, h.s]
theorem entC_h {e : Ent} (h : EntB e) (A : Option Addr) (c : Nat) : (((entC e A c).drop 2).take 32).toArray = (nums .u8 e.h).toArray := by
  unfold entC
  rw [List.drop_succ_cons, List.drop_succ_cons, List.drop_zero, List.append_assoc, List.take_left' (by rw [nums_length, h.h])]
theorem entC_s {e : Ent} (h : EntB e) (A : Option Addr) (c : Nat) : (((entC e A c).drop 34).take 32).toArray = (nums .u8 e.s).toArray := by
  unfold entC
  rw [show 34 = 32 + 1 + 1 by rfl, List.drop_succ_cons, List.drop_succ_cons, List.append_assoc, List.drop_left' (by rw [nums_length, h.h]), List.take_left' (by rw [nums_length, h.s])]
theorem entC_one {e : Ent} (A : Option Addr) (c : Nat) : ∀ v ∈ entC e A c, v.oneCell' = true := by
  intro v hv
  simp only [entC, verC, List.mem_cons, List.mem_append, List.not_mem_nil, or_false] at hv
  rcases hv with rfl | rfl | (hv | hv) | rfl | rfl | rfl
  · rfl
  · rfl
  · exact nums_one _ _ v hv
  · exact nums_one _ _ v hv
  · rfl
  · rfl
  · rfl
theorem verC_one {e : Ent} (A : Option Addr) (c : Nat) : ∀ v ∈ verC e A c, v.oneCell' = true := fun v hv => entC_one (e := e) A c v (by unfold entC; simp [hv])

set_option maxRecDepth 100000 in
set_option maxHeartbeats 1000000 in
theorem within_any (w : World) (n lo hi : Int) :
    Calls Tryd.prog 91 #[.int .i64 n, .int .i64 lo, .int .i64 hi] w fun e w' => e = .returned (.bool (decide (lo ≤ n ∧ n ≤ hi))) ∧ w = w' := by
  by_cases h : lo ≤ n
  · by_cases h2 : n ≤ hi
    · rw [decide_eq_true (And.intro h h2)]
      go_enter Tryd.func91, Tryd.ntmps91
      go_wp2
      go_ret
      exact ⟨rfl, rfl⟩
    · rw [decide_eq_false (fun e => h2 e.2)]
      go_enter Tryd.func91, Tryd.ntmps91
      go_wp2
      go_ret
      exact ⟨rfl, rfl⟩
  · rw [decide_eq_false (fun e => h e.1)]
    go_enter Tryd.func91, Tryd.ntmps91
    go_wp2
    go_ret
    exact ⟨rfl, rfl⟩
theorem within_t (w : World) (n lo hi : Int) (h : lo ≤ n ∧ n ≤ hi) : Calls Tryd.prog 91 #[.int .i64 n, .int .i64 lo, .int .i64 hi] w fun e w' => e = .returned (.bool true) ∧ w = w' := by
  have := within_any w n lo hi; rwa [decide_eq_true h] at this
theorem within_f (w : World) (n lo hi : Int) (h : ¬ (lo ≤ n ∧ n ≤ hi)) : Calls Tryd.prog 91 #[.int .i64 n, .int .i64 lo, .int .i64 hi] w fun e w' => e = .returned (.bool false) ∧ w = w' := by
  have := within_any w n lo hi; rwa [decide_eq_false h] at this

theorem verSize : (Tryd.prog.info? 37).map (·.size) = some 3 := by kernel_rfl
theorem entSize : (Tryd.prog.info? 39).map (·.size) = some 69 := by kernel_rfl

/-- The world behind an entry and its verdict in rows of their own. -/
structure Ent0 (w : World) (e : Ent) (A : Option Addr) (c : Nat) (w0 : World) : Prop where
  x : Blk w0 w.heap.size (entC e A c) 39
  v : Blk w0 (w.heap.size + 1) (verC e A c) 37
  B : Below w.heap.size w w0
theorem pre_nodup {l : List Int} {k : Nat} (h : OrdE l) : OrdE (l.take k) := ⟨fun x hx => h.1 x (List.mem_of_mem_take hx), h.2.sublist (List.take_sublist _ _)⟩
theorem ord_snoc {l : List Int} {x : Int} (h : OrdE l) (h0 : 0 ≤ x) (h1 : x ≤ 63) (hn : x ∉ l) : OrdE (l ++ [x]) := by
  refine ⟨fun y hy => ?_, ?_⟩
  · rcases List.mem_append.1 hy with hy | hy
    · exact h.1 y hy
    · rw [List.mem_singleton.1 hy]; exact ⟨h0, h1⟩
  · rw [List.nodup_append]
    refine ⟨h.2, by simp, fun a ha b hb e => ?_⟩
    rw [List.mem_singleton.1 hb] at e
    exact hn (e ▸ ha)
theorem ord_not {l : List Int} {k : Nat} (hk : k < l.length) (h : ga l k < 0 ∨ 63 < ga l k ∨ ga l k ∈ l.take k) : ¬ OrdE l := by
  intro ho
  have hm : ga l k ∈ l := by
    have : ga l k = l[k] := by simp [ga, hk]
    rw [this]; exact List.getElem_mem _
  have hr := ho.1 _ hm
  rcases h with h | h | h
  · omega
  · omega
  · have h2 := pre_nodup (k := k + 1) ho
    rw [take_at l k hk, ← ga_eq] at h2
    have := (List.nodup_append.1 h2.2).2.2 _ h _ (List.mem_singleton.2 rfl)
    exact this rfl
def maskN (l : List Int) : Nat := l.foldl (fun m x => m ||| 2 ^ x.toNat) 0
theorem maskN_snoc (l : List Int) (x : Int) : maskN (l ++ [x]) = maskN l ||| 2 ^ x.toNat := by simp [maskN]
theorem maskN_test (l : List Int) : ∀ i, (maskN l.reverse).testBit i = true ↔ ∃ x ∈ l, x.toNat = i := by
  induction l with
  | nil => intro i; simp [maskN]
  | cons x l ih =>
    intro i
    rw [List.reverse_cons, maskN_snoc, Nat.testBit_or, Bool.or_eq_true, ih, Nat.testBit_two_pow]
    simp only [decide_eq_true_eq, List.mem_cons, exists_eq_or_imp]
    exact or_comm
theorem maskN_mem (l : List Int) (h : ∀ x ∈ l, 0 ≤ x ∧ x ≤ 63) (x : Int) (hx : 0 ≤ x) : (maskN l).testBit x.toNat = true ↔ x ∈ l := by
  have := maskN_test l.reverse x.toNat
  rw [List.reverse_reverse] at this
  rw [this]
  constructor
  · rintro ⟨y, hy, e⟩
    have hy := List.mem_reverse.1 hy
    have := h y hy
    rw [show x = y by omega]; exact hy
  · intro hx2; exact ⟨x, List.mem_reverse.2 hx2, rfl⟩
theorem maskN_lt (l : List Int) (h : ∀ x ∈ l, 0 ≤ x ∧ x ≤ 63) : maskN l < 2 ^ 64 := by
  have : ∀ r : List Int, (∀ x ∈ r, 0 ≤ x ∧ x ≤ 63) → maskN r.reverse < 2 ^ 64 := by
    intro r
    induction r with
    | nil => intro _; decide
    | cons x r ih =>
      intro hr
      rw [List.reverse_cons, maskN_snoc]
      refine Nat.or_lt_two_pow (ih fun y hy => hr y (by simp [hy])) ?_
      have := hr x (by simp)
      exact Nat.pow_lt_pow_right (by decide) (by omega)
  have := this l.reverse (fun x hx => h x (List.mem_reverse.1 hx))
  rwa [List.reverse_reverse] at this
theorem mask_bit (M i : Nat) (hM : M < 2 ^ 64) : bits .and .u64 ((M : Int) / 2 ^ i) 1 = if M.testBit i then 1 else 0 := by
  have h1 : ((M : Int) / 2 ^ i) = ((M / 2 ^ i : Nat) : Int) := by simp
  have h2 : M / 2 ^ i < 2 ^ 64 := Nat.lt_of_le_of_lt (Nat.div_le_self _ _) hM
  have := bits_mask .u64 64 (by decide) wraps_u64 1 (by decide) ((M : Int) / 2 ^ i) (by rw [h1]; exact Int.natCast_nonneg _) (by rw [h1]; exact_mod_cast h2)
  rw [show ((2 : Int) ^ 1 - 1) = 1 by decide] at this
  rw [this, Nat.testBit_eq_decide_div_mod_eq, h1]
  split
  · rename_i h; have := of_decide_eq_true h; omega
  · rename_i h; have : ¬ M / 2 ^ i % 2 = 1 := fun e => h (decide_eq_true e)
    omega
theorem mask_add (M i : Nat) (hM : M < 2 ^ 64) (hi : i ≤ 63) : bits .or .u64 (M : Int) (IntKind.u64.wrap (2 ^ i)) = ((M ||| 2 ^ i : Nat) : Int) := by
  have h1 : (2 : Nat) ^ i < 2 ^ 64 := Nat.pow_lt_pow_right (by decide) (by omega)
  have h2 : ((2 : Int) ^ i) = ((2 ^ i : Nat) : Int) := by simp
  rw [h2, wraps_u64 _ (Int.natCast_nonneg _) (by exact_mod_cast h1), (bits_nat .u64 64 (by decide) wraps_u64 M (2 ^ i) hM h1).2]
theorem mask_two (i : Nat) (hi : i ≤ 63) : IntKind.u64.wrap (2 ^ i) = 2 ^ i := by
  have h1 : (2 : Nat) ^ i < 2 ^ 64 := Nat.pow_lt_pow_right (by decide) (by omega)
  have h2 : ((2 : Int) ^ i) = ((2 ^ i : Nat) : Int) := by simp
  rw [h2, wraps_u64 _ (Int.natCast_nonneg _) (by exact_mod_cast h1)]
theorem checkR_no (e : Ent) (h : ¬ OkE e) : checkR e = 2 := by unfold checkR; rw [if_neg h]
theorem checkR_yes (e : Ent) (h : OkE e) : checkR e = 0 := by unfold checkR; rw [if_pos h]
end Ent
section EntK
open Go.RowKit

set_option maxRecDepth 100000 in
set_option maxHeartbeats 4000000 in
theorem check_any (w : World) (e : Ent) (he : EntB e) (A : Option Addr) (c : Nat) (ho : Nts w A c e.ord) (hl : e.ord.length ≤ 1000) :
    Calls Tryd.prog 74 #[.agg (entC e A c).toArray] w fun r w' => r = .returned (.int .i64 (checkR e)) ∧ Below w.heap.size w w' := by
  have HE := Lib.hid he
  have HO := Lib.hid ho
  have hx0 : Blk (w.alloc (.cells (entC e A c).toArray 39)) w.heap.size (entC e A c) 39 := Blk.new' _ _ _ _ _ rfl rfl
  have hB0 : Below w.heap.size w (w.alloc (.cells (entC e A c).toArray 39)) := (Below.refl _ _).alloc (Nat.le_refl _) _
  by_cases h0 : 0 ≤ e.job ∧ e.job ≤ 63
  · by_cases h1 : 0 ≤ e.time ∧ e.time ≤ 1099511627776
    · by_cases h2 : 1 ≤ e.kind ∧ e.kind ≤ 4
      · by_cases h3 : 0 ≤ e.tries ∧ e.tries ≤ 1073741824
        · by_cases h4 : e.kind = 1 ∨ e.ord = []
          · have hb : ∀ b : Bool, (b = (e.kind != 1)) → (b = false ∨ e.ord.length = 0) := fun b hb => by
              rcases h4 with h | h
              · left; rw [hb, h]; rfl
              · right; rw [h]; rfl
            have hck : OrdE e.ord → checkR e = 0 := fun h => checkR_yes e ⟨h0, h1, h2, h3, h4, h⟩
            have hcn : ∀ k, k < e.ord.length → (ga e.ord k < 0 ∨ 63 < ga e.ord k ∨ ga e.ord k ∈ e.ord.take k) → checkR e = 2 := fun k hk h => checkR_no e (fun g => ord_not hk h g.2.2.2.2.2)
            obtain ⟨R, hR⟩ : ∃ R, R = checkR e := ⟨_, rfl⟩
            rw [← hR] at hck hcn ⊢
            have HCK := Lib.hid hck
            have HCN := Lib.hid hcn
            have HH4 := Lib.hid hb
            clear hck hcn hR h4 hb
            clear he ho
            go_enter Tryd.func74, Tryd.ntmps74
            go_wp2_with (first | ((with_reducible apply st_load (n := 3) (cs := entC e A c) (T := 39)); rfl; exact hx0; exact Tryd.underlying37; rfl; exact verSize; (rw [entC_len HE.out]; decide); exact entC_ver HE.out A c) | ((with_reducible apply st_storeW (off := 0) (vs := verC e A c) (cs := [.int .i64 0, .slice none 0 0, .int .i64 0]) (T := 37)); rfl; rfl; exact Blk.new' _ _ _ _ _ rfl (by simp); exact verSize; (simp [verC]); exact verC_one _ _; intro w2 hd2 hw2; rw [laid_all _ _ (by rfl)] at hd2; have hx2 := hw2.blk (hx0.alloc _) (by simp); have hB2 := Wrote.below (hB0.alloc hB0.size _) hw2 (by simp); have c0 : w2.cell? ⟨w.heap.size, 0, none⟩ = some (.int .i64 e.job) := hx2.cell 0; have c1 : w2.cell? ⟨w.heap.size, 1, none⟩ = some (.int .i64 e.time) := hx2.cell 1; have k0 := hd2.cell 0; have k1 := hd2.cell 1; have k2 := hd2.cell 2; simp only [verC, List.getElem?_cons_zero, List.getElem?_cons_succ] at k0 k1 k2))
            clear hx0 hB0 hw2
            go_at_call 91
            refine (within_t _ _ _ _ h0).mono ?_
            rintro r wz ⟨rfl, rfl⟩
            go_wp2_with ((with_reducible apply st_un); rfl)
            go_at_call 91
            refine (within_t _ _ _ _ h1).mono ?_
            rintro r wz ⟨rfl, rfl⟩
            go_wp2_with ((with_reducible apply st_un); rfl)
            go_at_call 91
            refine (within_t _ _ _ _ h2).mono ?_
            rintro r wz ⟨rfl, rfl⟩
            go_wp2_with ((with_reducible apply st_un); rfl)
            go_at_call 91
            refine (within_t _ _ _ _ h3).mono ?_
            rintro r wz ⟨rfl, rfl⟩
            by_cases hkind : e.kind = 1
            · have b1 : (e.kind != 1) = false := by rw [hkind]; rfl
              clear hkind
              go_wp2_with ((with_reducible apply st_un); rfl)
              go_loopw [4, 43] (fun y i wr => ∃ (k M : Nat), i = .int .i64 k ∧ k ≤ e.ord.length ∧ y = .int .u64 M ∧ Hid (M = maskN (e.ord.take k)) ∧ Hid (OrdE (e.ord.take k)) ∧ w2 = wr) (fun _ i _ => e.ord.length - (intOf i).toNat)
              case atStart => exact ⟨0, 0, rfl, by omega, rfl, rfl, ⟨fun x hx => by simp at hx, by simp⟩, rfl⟩
              case round =>
                obtain ⟨k, M, rfl, hk, rfl, HM, HR, rfl⟩ := hrel
                by_cases hlt : k < e.ord.length
                · obtain ⟨g, o, rfl, hg, hc⟩ := HO.out.get (by omega)
                  have cx : w2.cell? ⟨g, o + k, none⟩ = some (.int .i64 (ga e.ord k)) := (hB2.cell (p := ⟨g, o + k, none⟩) hg).trans (hc k hlt)
                  have hcn := HCN.out k hlt
                  have htk := take_at e.ord k hlt
                  rw [← ga_eq] at htk
                  have hMl : M < 2 ^ 64 := by rw [HM.out]; exact maskN_lt _ HR.out.1
                  have hmem := fun h => maskN_mem (e.ord.take k) HR.out.1 (ga e.ord k) h
                  have hms := maskN_snoc (e.ord.take k) (ga e.ord k)
                  have hos := fun a b c => ord_snoc (x := ga e.ord k) HR.out a b c
                  rw [← htk] at hms hos
                  rw [← HM.out] at hmem hms
                  obtain ⟨x, hx⟩ : ∃ x, x = ga e.ord k := ⟨_, rfl⟩
                  rw [← hx] at cx hcn hmem hms hos
                  clear hc htk hx
                  by_cases hx0 : x < 0
                  · have HN := Lib.hid (hcn (.inl hx0))
                    clear hcn hmem hms hos hMl
                    go_wp2_with fail
                    go_ret
                    exact ⟨by rw [HN.out]; rfl, hB2⟩
                  · by_cases hx1 : 64 ≤ x
                    · have HN := Lib.hid (hcn (.inr (.inl (by omega))))
                      clear hcn hmem hms hos hMl
                      go_wp2_with fail
                      go_ret
                      exact ⟨by rw [HN.out]; rfl, hB2⟩
                    · obtain ⟨n, rfl⟩ := Int.eq_ofNat_of_zero_le (show 0 ≤ x by omega)
                      have hmem := hmem (by omega)
                      have hos := hos (by omega) (by omega)
                      rw [Int.toNat_natCast] at hmem hms
                      have hbit := mask_bit M n hMl
                      have hadd := mask_add M n hMl (by omega)
                      rw [← hms] at hadd
                      by_cases hin : M.testBit n = true
                      · have HN := Lib.hid (hcn (.inr (.inr (hmem.1 hin))))
                        rw [if_pos hin] at hbit
                        clear hcn hmem hms hos hMl hin hadd
                        go_wp2_with fail
                        go_ret
                        exact ⟨by rw [HN.out]; rfl, hB2⟩
                      · rw [if_neg hin] at hbit
                        have HN := Lib.hid (hos (fun h => hin (hmem.2 h)))
                        obtain ⟨M2, hM2⟩ : ∃ M2, M2 = maskN (e.ord.take (k + 1)) := ⟨_, rfl⟩
                        rw [← hM2] at hadd
                        have hadd2 := hadd
                        rw [mask_two n (by omega)] at hadd2
                        have HM2 := Lib.hid hM2
                        clear hcn hmem hms hos hMl hin hM2
                        go_wp2_with fail
                        go_roundw
                        case rel => exact ⟨k + 1, M2, by go_num, by omega, rfl, HM2.out, HN.out, by trivial⟩
                        case measure => simp [intOf]; omega
                · have hn := HCK.out (by
                    have := HR.out
                    rwa [List.take_of_length_le (by omega)] at this)
                  have HN := Lib.hid hn
                  clear hn
                  go_wp2_with fail
                  go_ret
                  exact ⟨by rw [HN.out]; rfl, hB2⟩
            · have b1 : (e.kind != 1) = true := by simp; exact hkind
              have b2 : e.ord.length = 0 := (HH4.out true b1.symm).resolve_left (by simp)
              have b3 : ¬ 0 < e.ord.length := by omega
              clear hkind b2
              go_wp2_with ((with_reducible apply st_un); rfl)
              go_loopw [4, 43] (fun y i wr => ∃ (k M : Nat), i = .int .i64 k ∧ k ≤ e.ord.length ∧ y = .int .u64 M ∧ Hid (M = maskN (e.ord.take k)) ∧ Hid (OrdE (e.ord.take k)) ∧ w2 = wr) (fun _ i _ => e.ord.length - (intOf i).toNat)
              case atStart => exact ⟨0, 0, rfl, by omega, rfl, rfl, ⟨fun x hx => by simp at hx, by simp⟩, rfl⟩
              case round =>
                obtain ⟨k, M, rfl, hk, rfl, HM, HR, rfl⟩ := hrel
                by_cases hlt : k < e.ord.length
                · obtain ⟨g, o, rfl, hg, hc⟩ := HO.out.get (by omega)
                  have cx : w2.cell? ⟨g, o + k, none⟩ = some (.int .i64 (ga e.ord k)) := (hB2.cell (p := ⟨g, o + k, none⟩) hg).trans (hc k hlt)
                  have hcn := HCN.out k hlt
                  have htk := take_at e.ord k hlt
                  rw [← ga_eq] at htk
                  have hMl : M < 2 ^ 64 := by rw [HM.out]; exact maskN_lt _ HR.out.1
                  have hmem := fun h => maskN_mem (e.ord.take k) HR.out.1 (ga e.ord k) h
                  have hms := maskN_snoc (e.ord.take k) (ga e.ord k)
                  have hos := fun a b c => ord_snoc (x := ga e.ord k) HR.out a b c
                  rw [← htk] at hms hos
                  rw [← HM.out] at hmem hms
                  obtain ⟨x, hx⟩ : ∃ x, x = ga e.ord k := ⟨_, rfl⟩
                  rw [← hx] at cx hcn hmem hms hos
                  clear hc htk hx
                  by_cases hx0 : x < 0
                  · have HN := Lib.hid (hcn (.inl hx0))
                    clear hcn hmem hms hos hMl
                    go_wp2_with fail
                    go_ret
                    exact ⟨by rw [HN.out]; rfl, hB2⟩
                  · by_cases hx1 : 64 ≤ x
                    · have HN := Lib.hid (hcn (.inr (.inl (by omega))))
                      clear hcn hmem hms hos hMl
                      go_wp2_with fail
                      go_ret
                      exact ⟨by rw [HN.out]; rfl, hB2⟩
                    · obtain ⟨n, rfl⟩ := Int.eq_ofNat_of_zero_le (show 0 ≤ x by omega)
                      have hmem := hmem (by omega)
                      have hos := hos (by omega) (by omega)
                      rw [Int.toNat_natCast] at hmem hms
                      have hbit := mask_bit M n hMl
                      have hadd := mask_add M n hMl (by omega)
                      rw [← hms] at hadd
                      by_cases hin : M.testBit n = true
                      · have HN := Lib.hid (hcn (.inr (.inr (hmem.1 hin))))
                        rw [if_pos hin] at hbit
                        clear hcn hmem hms hos hMl hin hadd
                        go_wp2_with fail
                        go_ret
                        exact ⟨by rw [HN.out]; rfl, hB2⟩
                      · rw [if_neg hin] at hbit
                        have HN := Lib.hid (hos (fun h => hin (hmem.2 h)))
                        obtain ⟨M2, hM2⟩ : ∃ M2, M2 = maskN (e.ord.take (k + 1)) := ⟨_, rfl⟩
                        rw [← hM2] at hadd
                        have hadd2 := hadd
                        rw [mask_two n (by omega)] at hadd2
                        have HM2 := Lib.hid hM2
                        clear hcn hmem hms hos hMl hin hM2
                        go_wp2_with fail
                        go_roundw
                        case rel => exact ⟨k + 1, M2, by go_num, by omega, rfl, HM2.out, HN.out, by trivial⟩
                        case measure => simp [intOf]; omega
                · have hn := HCK.out (by
                    have := HR.out
                    rwa [List.take_of_length_le (by omega)] at this)
                  have HN := Lib.hid hn
                  clear hn
                  go_wp2_with fail
                  go_ret
                  exact ⟨by rw [HN.out]; rfl, hB2⟩
          · rw [checkR_no e (fun h => h4 h.2.2.2.2.1)]
            have b1 : (e.kind != 1) = true := by simp; exact fun h => h4 (.inl h)
            have b2 : 0 < e.ord.length := List.length_pos_iff.2 fun h => h4 (.inr h)
            clear h4
            clear he ho
            go_enter Tryd.func74, Tryd.ntmps74
            go_wp2_with (first | ((with_reducible apply st_load (n := 3) (cs := entC e A c) (T := 39)); rfl; exact hx0; exact Tryd.underlying37; rfl; exact verSize; (rw [entC_len HE.out]; decide); exact entC_ver HE.out A c) | ((with_reducible apply st_storeW (off := 0) (vs := verC e A c) (cs := [.int .i64 0, .slice none 0 0, .int .i64 0]) (T := 37)); rfl; rfl; exact Blk.new' _ _ _ _ _ rfl (by simp); exact verSize; (simp [verC]); exact verC_one _ _; intro w2 hd2 hw2; rw [laid_all _ _ (by rfl)] at hd2; have hx2 := hw2.blk (hx0.alloc _) (by simp); have hB2 := Wrote.below (hB0.alloc hB0.size _) hw2 (by simp); have c0 : w2.cell? ⟨w.heap.size, 0, none⟩ = some (.int .i64 e.job) := hx2.cell 0; have c1 : w2.cell? ⟨w.heap.size, 1, none⟩ = some (.int .i64 e.time) := hx2.cell 1; have k0 := hd2.cell 0; have k1 := hd2.cell 1; have k2 := hd2.cell 2; simp only [verC, List.getElem?_cons_zero, List.getElem?_cons_succ] at k0 k1 k2))
            clear hx0 hB0 hw2
            go_at_call 91
            refine (within_t _ _ _ _ h0).mono ?_
            rintro r wz ⟨rfl, rfl⟩
            go_wp2_with ((with_reducible apply st_un); rfl)
            go_at_call 91
            refine (within_t _ _ _ _ h1).mono ?_
            rintro r wz ⟨rfl, rfl⟩
            go_wp2_with ((with_reducible apply st_un); rfl)
            go_at_call 91
            refine (within_t _ _ _ _ h2).mono ?_
            rintro r wz ⟨rfl, rfl⟩
            go_wp2_with ((with_reducible apply st_un); rfl)
            go_at_call 91
            refine (within_t _ _ _ _ h3).mono ?_
            rintro r wz ⟨rfl, rfl⟩
            go_wp2_with ((with_reducible apply st_un); rfl)
            go_ret
            exact ⟨rfl, hB2⟩
        · rw [checkR_no e (fun h => h3 h.2.2.2.1)]
          clear he ho
          go_enter Tryd.func74, Tryd.ntmps74
          go_wp2_with (first | ((with_reducible apply st_load (n := 3) (cs := entC e A c) (T := 39)); rfl; exact hx0; exact Tryd.underlying37; rfl; exact verSize; (rw [entC_len HE.out]; decide); exact entC_ver HE.out A c) | ((with_reducible apply st_storeW (off := 0) (vs := verC e A c) (cs := [.int .i64 0, .slice none 0 0, .int .i64 0]) (T := 37)); rfl; rfl; exact Blk.new' _ _ _ _ _ rfl (by simp); exact verSize; (simp [verC]); exact verC_one _ _; intro w2 hd2 hw2; rw [laid_all _ _ (by rfl)] at hd2; have hx2 := hw2.blk (hx0.alloc _) (by simp); have hB2 := Wrote.below (hB0.alloc hB0.size _) hw2 (by simp); have c0 : w2.cell? ⟨w.heap.size, 0, none⟩ = some (.int .i64 e.job) := hx2.cell 0; have c1 : w2.cell? ⟨w.heap.size, 1, none⟩ = some (.int .i64 e.time) := hx2.cell 1; have k0 := hd2.cell 0; have k1 := hd2.cell 1; have k2 := hd2.cell 2; simp only [verC, List.getElem?_cons_zero, List.getElem?_cons_succ] at k0 k1 k2))
          clear hx0 hB0 hw2
          go_at_call 91
          refine (within_t _ _ _ _ h0).mono ?_
          rintro r wz ⟨rfl, rfl⟩
          go_wp2_with ((with_reducible apply st_un); rfl)
          go_at_call 91
          refine (within_t _ _ _ _ h1).mono ?_
          rintro r wz ⟨rfl, rfl⟩
          go_wp2_with ((with_reducible apply st_un); rfl)
          go_at_call 91
          refine (within_t _ _ _ _ h2).mono ?_
          rintro r wz ⟨rfl, rfl⟩
          go_wp2_with ((with_reducible apply st_un); rfl)
          go_at_call 91
          refine (within_f _ _ _ _ h3).mono ?_
          rintro r wz ⟨rfl, rfl⟩
          go_wp2_with ((with_reducible apply st_un); rfl)
          go_ret
          exact ⟨rfl, hB2⟩
      · rw [checkR_no e (fun h => h2 h.2.2.1)]
        clear he ho
        go_enter Tryd.func74, Tryd.ntmps74
        go_wp2_with (first | ((with_reducible apply st_load (n := 3) (cs := entC e A c) (T := 39)); rfl; exact hx0; exact Tryd.underlying37; rfl; exact verSize; (rw [entC_len HE.out]; decide); exact entC_ver HE.out A c) | ((with_reducible apply st_storeW (off := 0) (vs := verC e A c) (cs := [.int .i64 0, .slice none 0 0, .int .i64 0]) (T := 37)); rfl; rfl; exact Blk.new' _ _ _ _ _ rfl (by simp); exact verSize; (simp [verC]); exact verC_one _ _; intro w2 hd2 hw2; rw [laid_all _ _ (by rfl)] at hd2; have hx2 := hw2.blk (hx0.alloc _) (by simp); have hB2 := Wrote.below (hB0.alloc hB0.size _) hw2 (by simp); have c0 : w2.cell? ⟨w.heap.size, 0, none⟩ = some (.int .i64 e.job) := hx2.cell 0; have c1 : w2.cell? ⟨w.heap.size, 1, none⟩ = some (.int .i64 e.time) := hx2.cell 1; have k0 := hd2.cell 0; have k1 := hd2.cell 1; have k2 := hd2.cell 2; simp only [verC, List.getElem?_cons_zero, List.getElem?_cons_succ] at k0 k1 k2))
        clear hx0 hB0 hw2
        go_at_call 91
        refine (within_t _ _ _ _ h0).mono ?_
        rintro r wz ⟨rfl, rfl⟩
        go_wp2_with ((with_reducible apply st_un); rfl)
        go_at_call 91
        refine (within_t _ _ _ _ h1).mono ?_
        rintro r wz ⟨rfl, rfl⟩
        go_wp2_with ((with_reducible apply st_un); rfl)
        go_at_call 91
        refine (within_f _ _ _ _ h2).mono ?_
        rintro r wz ⟨rfl, rfl⟩
        go_wp2_with ((with_reducible apply st_un); rfl)
        go_ret
        exact ⟨rfl, hB2⟩
    · rw [checkR_no e (fun h => h1 h.2.1)]
      clear he ho
      go_enter Tryd.func74, Tryd.ntmps74
      go_wp2_with (first | ((with_reducible apply st_load (n := 3) (cs := entC e A c) (T := 39)); rfl; exact hx0; exact Tryd.underlying37; rfl; exact verSize; (rw [entC_len HE.out]; decide); exact entC_ver HE.out A c) | ((with_reducible apply st_storeW (off := 0) (vs := verC e A c) (cs := [.int .i64 0, .slice none 0 0, .int .i64 0]) (T := 37)); rfl; rfl; exact Blk.new' _ _ _ _ _ rfl (by simp); exact verSize; (simp [verC]); exact verC_one _ _; intro w2 hd2 hw2; rw [laid_all _ _ (by rfl)] at hd2; have hx2 := hw2.blk (hx0.alloc _) (by simp); have hB2 := Wrote.below (hB0.alloc hB0.size _) hw2 (by simp); have c0 : w2.cell? ⟨w.heap.size, 0, none⟩ = some (.int .i64 e.job) := hx2.cell 0; have c1 : w2.cell? ⟨w.heap.size, 1, none⟩ = some (.int .i64 e.time) := hx2.cell 1; have k0 := hd2.cell 0; have k1 := hd2.cell 1; have k2 := hd2.cell 2; simp only [verC, List.getElem?_cons_zero, List.getElem?_cons_succ] at k0 k1 k2))
      clear hx0 hB0 hw2
      go_at_call 91
      refine (within_t _ _ _ _ h0).mono ?_
      rintro r wz ⟨rfl, rfl⟩
      go_wp2_with ((with_reducible apply st_un); rfl)
      go_at_call 91
      refine (within_f _ _ _ _ h1).mono ?_
      rintro r wz ⟨rfl, rfl⟩
      go_wp2_with ((with_reducible apply st_un); rfl)
      go_ret
      exact ⟨rfl, hB2⟩
  · rw [checkR_no e (fun h => h0 h.1)]
    clear he ho
    go_enter Tryd.func74, Tryd.ntmps74
    go_wp2_with (first | ((with_reducible apply st_load (n := 3) (cs := entC e A c) (T := 39)); rfl; exact hx0; exact Tryd.underlying37; rfl; exact verSize; (rw [entC_len HE.out]; decide); exact entC_ver HE.out A c) | ((with_reducible apply st_storeW (off := 0) (vs := verC e A c) (cs := [.int .i64 0, .slice none 0 0, .int .i64 0]) (T := 37)); rfl; rfl; exact Blk.new' _ _ _ _ _ rfl (by simp); exact verSize; (simp [verC]); exact verC_one _ _; intro w2 hd2 hw2; rw [laid_all _ _ (by rfl)] at hd2; have hx2 := hw2.blk (hx0.alloc _) (by simp); have hB2 := Wrote.below (hB0.alloc hB0.size _) hw2 (by simp); have c0 : w2.cell? ⟨w.heap.size, 0, none⟩ = some (.int .i64 e.job) := hx2.cell 0; have c1 : w2.cell? ⟨w.heap.size, 1, none⟩ = some (.int .i64 e.time) := hx2.cell 1; have k0 := hd2.cell 0; have k1 := hd2.cell 1; have k2 := hd2.cell 2; simp only [verC, List.getElem?_cons_zero, List.getElem?_cons_succ] at k0 k1 k2))
    clear hx0 hB0 hw2
    go_at_call 91
    refine (within_f _ _ _ _ h0).mono ?_
    rintro r wz ⟨rfl, rfl⟩
    go_wp2_with ((with_reducible apply st_un); rfl)
    go_ret
    exact ⟨rfl, hB2⟩
end EntK
section EntR
open Go.RowKit

set_option maxRecDepth 100000 in
set_option maxHeartbeats 8000000 in
theorem refcheck_any (w : World) (e : Ent) (he : EntB e) (A : Option Addr) (c : Nat) (ho : Nts w A c e.ord) (hl : e.ord.length ≤ 1000) :
    Calls Tryd.prog 44 #[.agg (entC e A c).toArray] w fun r w' => r = .returned (.int .i64 (checkR e)) ∧ Below w.heap.size w w' := by
  have HE := Lib.hid he
  have HO := Lib.hid ho
  have hx0 : Blk (w.alloc (.cells (entC e A c).toArray 39)) w.heap.size (entC e A c) 39 := Blk.new' _ _ _ _ _ rfl rfl
  have hB0 : Below w.heap.size w (w.alloc (.cells (entC e A c).toArray 39)) := (Below.refl _ _).alloc (Nat.le_refl _) _
  by_cases a0 : e.job < 0
  · rw [checkR_no e (fun h => by have := h.1.1; omega)]
    clear he ho
    go_enter Tryd.func44, Tryd.ntmps44
    go_wp2_with (first | ((with_reducible apply st_load (n := 3) (cs := entC e A c) (T := 39)); rfl; exact hx0; exact Tryd.underlying37; rfl; exact verSize; (rw [entC_len HE.out]; decide); exact entC_ver HE.out A c) | ((with_reducible apply st_storeW (off := 0) (vs := verC e A c) (cs := [.int .i64 0, .slice none 0 0, .int .i64 0]) (T := 37)); rfl; rfl; exact Blk.new' _ _ _ _ _ rfl (by simp); exact verSize; (simp [verC]); exact verC_one _ _; intro w2 hd2 hw2; rw [laid_all _ _ (by rfl)] at hd2; have hx2 := hw2.blk (hx0.alloc _) (by simp); have hB2 := Wrote.below (hB0.alloc hB0.size _) hw2 (by simp); have c0 : w2.cell? ⟨w.heap.size, 0, none⟩ = some (.int .i64 e.job) := hx2.cell 0; have c1 : w2.cell? ⟨w.heap.size, 1, none⟩ = some (.int .i64 e.time) := hx2.cell 1; have k0 := hd2.cell 0; have k1 := hd2.cell 1; have k2 := hd2.cell 2; simp only [verC, List.getElem?_cons_zero, List.getElem?_cons_succ] at k0 k1 k2))
    go_ret
    exact ⟨rfl, hB2⟩
  · by_cases a1 : 63 < e.job
    · rw [checkR_no e (fun h => by have := h.1.2; omega)]
      clear he ho
      go_enter Tryd.func44, Tryd.ntmps44
      go_wp2_with (first | ((with_reducible apply st_load (n := 3) (cs := entC e A c) (T := 39)); rfl; exact hx0; exact Tryd.underlying37; rfl; exact verSize; (rw [entC_len HE.out]; decide); exact entC_ver HE.out A c) | ((with_reducible apply st_storeW (off := 0) (vs := verC e A c) (cs := [.int .i64 0, .slice none 0 0, .int .i64 0]) (T := 37)); rfl; rfl; exact Blk.new' _ _ _ _ _ rfl (by simp); exact verSize; (simp [verC]); exact verC_one _ _; intro w2 hd2 hw2; rw [laid_all _ _ (by rfl)] at hd2; have hx2 := hw2.blk (hx0.alloc _) (by simp); have hB2 := Wrote.below (hB0.alloc hB0.size _) hw2 (by simp); have c0 : w2.cell? ⟨w.heap.size, 0, none⟩ = some (.int .i64 e.job) := hx2.cell 0; have c1 : w2.cell? ⟨w.heap.size, 1, none⟩ = some (.int .i64 e.time) := hx2.cell 1; have k0 := hd2.cell 0; have k1 := hd2.cell 1; have k2 := hd2.cell 2; simp only [verC, List.getElem?_cons_zero, List.getElem?_cons_succ] at k0 k1 k2))
      go_ret
      exact ⟨rfl, hB2⟩
    · by_cases a2 : e.time < 0
      · rw [checkR_no e (fun h => by have := h.2.1.1; omega)]
        clear he ho
        go_enter Tryd.func44, Tryd.ntmps44
        go_wp2_with (first | ((with_reducible apply st_load (n := 3) (cs := entC e A c) (T := 39)); rfl; exact hx0; exact Tryd.underlying37; rfl; exact verSize; (rw [entC_len HE.out]; decide); exact entC_ver HE.out A c) | ((with_reducible apply st_storeW (off := 0) (vs := verC e A c) (cs := [.int .i64 0, .slice none 0 0, .int .i64 0]) (T := 37)); rfl; rfl; exact Blk.new' _ _ _ _ _ rfl (by simp); exact verSize; (simp [verC]); exact verC_one _ _; intro w2 hd2 hw2; rw [laid_all _ _ (by rfl)] at hd2; have hx2 := hw2.blk (hx0.alloc _) (by simp); have hB2 := Wrote.below (hB0.alloc hB0.size _) hw2 (by simp); have c0 : w2.cell? ⟨w.heap.size, 0, none⟩ = some (.int .i64 e.job) := hx2.cell 0; have c1 : w2.cell? ⟨w.heap.size, 1, none⟩ = some (.int .i64 e.time) := hx2.cell 1; have k0 := hd2.cell 0; have k1 := hd2.cell 1; have k2 := hd2.cell 2; simp only [verC, List.getElem?_cons_zero, List.getElem?_cons_succ] at k0 k1 k2))
        go_ret
        exact ⟨rfl, hB2⟩
      · by_cases a3 : 1099511627776 < e.time
        · rw [checkR_no e (fun h => by have := h.2.1.2; omega)]
          clear he ho
          go_enter Tryd.func44, Tryd.ntmps44
          go_wp2_with (first | ((with_reducible apply st_load (n := 3) (cs := entC e A c) (T := 39)); rfl; exact hx0; exact Tryd.underlying37; rfl; exact verSize; (rw [entC_len HE.out]; decide); exact entC_ver HE.out A c) | ((with_reducible apply st_storeW (off := 0) (vs := verC e A c) (cs := [.int .i64 0, .slice none 0 0, .int .i64 0]) (T := 37)); rfl; rfl; exact Blk.new' _ _ _ _ _ rfl (by simp); exact verSize; (simp [verC]); exact verC_one _ _; intro w2 hd2 hw2; rw [laid_all _ _ (by rfl)] at hd2; have hx2 := hw2.blk (hx0.alloc _) (by simp); have hB2 := Wrote.below (hB0.alloc hB0.size _) hw2 (by simp); have c0 : w2.cell? ⟨w.heap.size, 0, none⟩ = some (.int .i64 e.job) := hx2.cell 0; have c1 : w2.cell? ⟨w.heap.size, 1, none⟩ = some (.int .i64 e.time) := hx2.cell 1; have k0 := hd2.cell 0; have k1 := hd2.cell 1; have k2 := hd2.cell 2; simp only [verC, List.getElem?_cons_zero, List.getElem?_cons_succ] at k0 k1 k2))
          go_ret
          exact ⟨rfl, hB2⟩
        · by_cases a4 : e.kind < 1
          · rw [checkR_no e (fun h => by have := h.2.2.1.1; omega)]
            clear he ho
            go_enter Tryd.func44, Tryd.ntmps44
            go_wp2_with (first | ((with_reducible apply st_load (n := 3) (cs := entC e A c) (T := 39)); rfl; exact hx0; exact Tryd.underlying37; rfl; exact verSize; (rw [entC_len HE.out]; decide); exact entC_ver HE.out A c) | ((with_reducible apply st_storeW (off := 0) (vs := verC e A c) (cs := [.int .i64 0, .slice none 0 0, .int .i64 0]) (T := 37)); rfl; rfl; exact Blk.new' _ _ _ _ _ rfl (by simp); exact verSize; (simp [verC]); exact verC_one _ _; intro w2 hd2 hw2; rw [laid_all _ _ (by rfl)] at hd2; have hx2 := hw2.blk (hx0.alloc _) (by simp); have hB2 := Wrote.below (hB0.alloc hB0.size _) hw2 (by simp); have c0 : w2.cell? ⟨w.heap.size, 0, none⟩ = some (.int .i64 e.job) := hx2.cell 0; have c1 : w2.cell? ⟨w.heap.size, 1, none⟩ = some (.int .i64 e.time) := hx2.cell 1; have k0 := hd2.cell 0; have k1 := hd2.cell 1; have k2 := hd2.cell 2; simp only [verC, List.getElem?_cons_zero, List.getElem?_cons_succ] at k0 k1 k2))
            go_ret
            exact ⟨rfl, hB2⟩
          · by_cases a5 : 4 < e.kind
            · rw [checkR_no e (fun h => by have := h.2.2.1.2; omega)]
              clear he ho
              go_enter Tryd.func44, Tryd.ntmps44
              go_wp2_with (first | ((with_reducible apply st_load (n := 3) (cs := entC e A c) (T := 39)); rfl; exact hx0; exact Tryd.underlying37; rfl; exact verSize; (rw [entC_len HE.out]; decide); exact entC_ver HE.out A c) | ((with_reducible apply st_storeW (off := 0) (vs := verC e A c) (cs := [.int .i64 0, .slice none 0 0, .int .i64 0]) (T := 37)); rfl; rfl; exact Blk.new' _ _ _ _ _ rfl (by simp); exact verSize; (simp [verC]); exact verC_one _ _; intro w2 hd2 hw2; rw [laid_all _ _ (by rfl)] at hd2; have hx2 := hw2.blk (hx0.alloc _) (by simp); have hB2 := Wrote.below (hB0.alloc hB0.size _) hw2 (by simp); have c0 : w2.cell? ⟨w.heap.size, 0, none⟩ = some (.int .i64 e.job) := hx2.cell 0; have c1 : w2.cell? ⟨w.heap.size, 1, none⟩ = some (.int .i64 e.time) := hx2.cell 1; have k0 := hd2.cell 0; have k1 := hd2.cell 1; have k2 := hd2.cell 2; simp only [verC, List.getElem?_cons_zero, List.getElem?_cons_succ] at k0 k1 k2))
              go_ret
              exact ⟨rfl, hB2⟩
            · by_cases a6 : e.tries < 0
              · rw [checkR_no e (fun h => by have := h.2.2.2.1.1; omega)]
                clear he ho
                go_enter Tryd.func44, Tryd.ntmps44
                go_wp2_with (first | ((with_reducible apply st_load (n := 3) (cs := entC e A c) (T := 39)); rfl; exact hx0; exact Tryd.underlying37; rfl; exact verSize; (rw [entC_len HE.out]; decide); exact entC_ver HE.out A c) | ((with_reducible apply st_storeW (off := 0) (vs := verC e A c) (cs := [.int .i64 0, .slice none 0 0, .int .i64 0]) (T := 37)); rfl; rfl; exact Blk.new' _ _ _ _ _ rfl (by simp); exact verSize; (simp [verC]); exact verC_one _ _; intro w2 hd2 hw2; rw [laid_all _ _ (by rfl)] at hd2; have hx2 := hw2.blk (hx0.alloc _) (by simp); have hB2 := Wrote.below (hB0.alloc hB0.size _) hw2 (by simp); have c0 : w2.cell? ⟨w.heap.size, 0, none⟩ = some (.int .i64 e.job) := hx2.cell 0; have c1 : w2.cell? ⟨w.heap.size, 1, none⟩ = some (.int .i64 e.time) := hx2.cell 1; have k0 := hd2.cell 0; have k1 := hd2.cell 1; have k2 := hd2.cell 2; simp only [verC, List.getElem?_cons_zero, List.getElem?_cons_succ] at k0 k1 k2))
                go_ret
                exact ⟨rfl, hB2⟩
              · by_cases a7 : 1073741824 < e.tries
                · rw [checkR_no e (fun h => by have := h.2.2.2.1.2; omega)]
                  clear he ho
                  go_enter Tryd.func44, Tryd.ntmps44
                  go_wp2_with (first | ((with_reducible apply st_load (n := 3) (cs := entC e A c) (T := 39)); rfl; exact hx0; exact Tryd.underlying37; rfl; exact verSize; (rw [entC_len HE.out]; decide); exact entC_ver HE.out A c) | ((with_reducible apply st_storeW (off := 0) (vs := verC e A c) (cs := [.int .i64 0, .slice none 0 0, .int .i64 0]) (T := 37)); rfl; rfl; exact Blk.new' _ _ _ _ _ rfl (by simp); exact verSize; (simp [verC]); exact verC_one _ _; intro w2 hd2 hw2; rw [laid_all _ _ (by rfl)] at hd2; have hx2 := hw2.blk (hx0.alloc _) (by simp); have hB2 := Wrote.below (hB0.alloc hB0.size _) hw2 (by simp); have c0 : w2.cell? ⟨w.heap.size, 0, none⟩ = some (.int .i64 e.job) := hx2.cell 0; have c1 : w2.cell? ⟨w.heap.size, 1, none⟩ = some (.int .i64 e.time) := hx2.cell 1; have k0 := hd2.cell 0; have k1 := hd2.cell 1; have k2 := hd2.cell 2; simp only [verC, List.getElem?_cons_zero, List.getElem?_cons_succ] at k0 k1 k2))
                  go_ret
                  exact ⟨rfl, hB2⟩
                · have hck : (e.kind = 1 ∨ e.ord = []) → OrdE e.ord → checkR e = 0 := fun h4 h => checkR_yes e ⟨by omega, by omega, by omega, by omega, h4, h⟩
                  have hcn : ∀ k, k < e.ord.length → (ga e.ord k < 0 ∨ 63 < ga e.ord k ∨ ga e.ord k ∈ e.ord.take k) → checkR e = 2 := fun k hk h => checkR_no e (fun g => ord_not hk h g.2.2.2.2.2)
                  by_cases hkind : e.kind = 1
                  · have b1 : (e.kind != 1) = false := by rw [hkind]; rfl
                    have hck := hck (.inl hkind)
                    obtain ⟨R, hR⟩ : ∃ R, R = checkR e := ⟨_, rfl⟩
                    rw [← hR] at hck hcn ⊢
                    have HCK := Lib.hid hck
                    have HCN := Lib.hid hcn
                    clear hck hcn hR hkind
                    clear he ho
                    go_enter Tryd.func44, Tryd.ntmps44
                    go_wp2_with (first | ((with_reducible apply st_load (n := 3) (cs := entC e A c) (T := 39)); rfl; exact hx0; exact Tryd.underlying37; rfl; exact verSize; (rw [entC_len HE.out]; decide); exact entC_ver HE.out A c) | ((with_reducible apply st_storeW (off := 0) (vs := verC e A c) (cs := [.int .i64 0, .slice none 0 0, .int .i64 0]) (T := 37)); rfl; rfl; exact Blk.new' _ _ _ _ _ rfl (by simp); exact verSize; (simp [verC]); exact verC_one _ _; intro w2 hd2 hw2; rw [laid_all _ _ (by rfl)] at hd2; have hx2 := hw2.blk (hx0.alloc _) (by simp); have hB2 := Wrote.below (hB0.alloc hB0.size _) hw2 (by simp); have c0 : w2.cell? ⟨w.heap.size, 0, none⟩ = some (.int .i64 e.job) := hx2.cell 0; have c1 : w2.cell? ⟨w.heap.size, 1, none⟩ = some (.int .i64 e.time) := hx2.cell 1; have k0 := hd2.cell 0; have k1 := hd2.cell 1; have k2 := hd2.cell 2; simp only [verC, List.getElem?_cons_zero, List.getElem?_cons_succ] at k0 k1 k2))
                    have g1 : w.heap.size + 1 < w2.heap.size := hd2.lt
                    clear hx0 hB0 hw2 hx2 c0 c1 k0 k2
                    go_loopw [4] (fun i wr => ∃ k : Nat, i = .int .i64 k ∧ k ≤ e.ord.length ∧ Hid (OrdE (e.ord.take k)) ∧ Below w2.heap.size w2 wr) (fun i _ => e.ord.length - (intOf i).toNat)
                    case atStart => exact ⟨0, rfl, by omega, ⟨fun x hx => by simp at hx, by simp⟩, Below.refl _ _⟩
                    case round =>
                      obtain ⟨k, rfl, hk, HR, hBr⟩ := hrel
                      have k1r : wr.cell? ⟨w.heap.size + 1, 1, none⟩ = some (.slice A e.ord.length c) := (hBr.cell (p := ⟨w.heap.size + 1, 1, none⟩) g1).trans k1
                      by_cases hlt : k < e.ord.length
                      · obtain ⟨g, o, rfl, hg, hc⟩ := HO.out.get (by omega)
                        have hg2 : g < w2.heap.size := by omega
                        have hcw : ∀ j, j < e.ord.length → w2.cell? ⟨g, o + j, none⟩ = some (.int .i64 (ga e.ord j)) := fun j hj => (hB2.cell (p := ⟨g, o + j, none⟩) hg).trans (hc j hj)
                        have cx := (hBr.cell (p := ⟨g, o + k, none⟩) hg2).trans (hcw k hlt)
                        have cx2 := hcw k hlt
                        have hcn := HCN.out k hlt
                        have htk := take_at e.ord k hlt
                        rw [← ga_eq] at htk
                        have hos := fun a b c => ord_snoc (x := ga e.ord k) HR.out a b c
                        rw [← htk] at hos
                        obtain ⟨x, hx⟩ : ∃ x, x = ga e.ord k := ⟨_, rfl⟩
                        rw [← hx] at cx cx2 hcn hos
                        have HCW := Lib.hid hcw
                        have CX2 := Lib.hid cx2
                        have HKT := Lib.hid hBr
                        clear hc htk hx hcw cx2
                        by_cases hx0 : x < 0
                        · have HN := Lib.hid (hcn (.inl hx0))
                          clear hcn hos
                          go_wp2_with fail
                          go_ret
                          exact ⟨by rw [HN.out]; rfl, hB2.trans (hBr.mono hB2.size)⟩
                        · by_cases hx1 : 63 < x
                          · have HN := Lib.hid (hcn (.inr (.inl (by omega))))
                            clear hcn hos
                            go_wp2_with fail
                            go_ret
                            exact ⟨by rw [HN.out]; rfl, hB2.trans (hBr.mono hB2.size)⟩
                          · have hos := hos (by omega) (by omega)
                            have hcn := fun h => hcn (.inr (.inr h))
                            have HOS := Lib.hid hos
                            have HCX := Lib.hid hcn
                            clear hcn hos
                            go_wp2_with fail
                            obtain ⟨wo, rfl⟩ : ∃ wo : World, wo = wr := ⟨_, rfl⟩
                            go_loopw [5] (fun j wr => ∃ m : Nat, j = .int .i64 m ∧ m ≤ k ∧ Hid (x ∉ e.ord.take m) ∧ Below w2.heap.size w2 wr) (fun j _ => k - (intOf j).toNat)
                            case atStart => exact ⟨0, rfl, by omega, (by show x ∉ e.ord.take 0; simp), hBr⟩
                            case round =>
                              clear hBr k1r cx
                              obtain ⟨m, rfl, hm, HNM, hBr⟩ := hrel
                              have k1r : wr.cell? ⟨w.heap.size + 1, 1, none⟩ = some (.slice (some ⟨g, o, none⟩) e.ord.length c) := (hBr.cell (p := ⟨w.heap.size + 1, 1, none⟩) g1).trans k1
                              have cx := (hBr.cell (p := ⟨g, o + k, none⟩) hg2).trans CX2.out
                              by_cases hlm : m < k
                              · have cy := (hBr.cell (p := ⟨g, o + m, none⟩) hg2).trans (HCW.out m (by omega))
                                have htm := take_at e.ord m (by omega)
                                rw [← ga_eq] at htm
                                have hmk : ∀ z, z ∈ e.ord.take (m + 1) → z ∈ e.ord.take k := fun z hz => by
                                  have : e.ord.take (m + 1) = (e.ord.take k).take (m + 1) := by rw [List.take_take, Nat.min_eq_left (by omega)]
                                  rw [this] at hz; exact List.mem_of_mem_take hz
                                obtain ⟨y, hy⟩ : ∃ y, y = ga e.ord m := ⟨_, rfl⟩
                                rw [← hy] at cy htm
                                by_cases hyx : y = x
                                · have hin : x ∈ e.ord.take k := hmk x (by rw [htm, hyx]; simp)
                                  have HN := Lib.hid (HCX.out hin)
                                  have b1 : (y == x) = true := by simpa using hyx
                                  clear hin hyx hmk htm hy
                                  go_wp2_with fail
                                  refine wp_region_C (Same [w.heap.size + 1, g] wr) [] (by kernel_rfl) (by kernel_rfl) (by intro c a w h; first | (obtain ⟨_, h, _⟩ := h; cases h; done) | (obtain ⟨_, _, h, _⟩ := h; cases h; done) | (obtain ⟨_, _, _, h, _⟩ := h; cases h; done) | (obtain ⟨_, _, _, _, h, _⟩ := h; cases h; done) | (rcases h with ⟨_, ⟨_, _, _, _, h, _⟩ | ⟨_, _, _, _, h, _⟩⟩ <;> cases h; done)) (by intro a w h; first | (obtain ⟨h, _⟩ := h; cases h; done) | (obtain ⟨_, h, _⟩ := h; cases h; done) | (obtain ⟨_, _, h, _⟩ := h; cases h; done) | (obtain ⟨_, _, _, h, _⟩ := h; cases h; done) | (rcases h with ⟨_, _, _, _, h, _⟩ | ⟨_, _, _, _, h, _⟩ <;> cases h; done)) (Same.refl _ _) ?_
                                  repeat (refine wd_q (v := ?_) rfl rfl rfl rfl rfl rfl (fun w' hw' K hK => ?_) ?_; rotate_left; (have e1 := (hw'.cell (w.heap.size + 1) (by simp) 1).trans k1r; have e2 := (hw'.cell g (by simp) (o + m)).trans cy; have e3 := (hw'.cell g (by simp) (o + k)).trans cx; go_wp2; exact rfl); simp only [Act.put, List.setIfInBounds_toArray, List.set_cons_zero, List.set_cons_succ])
                                  refine wd_nil ?_
                                  go_wp2_with fail
                                  go_ret
                                  exact ⟨by rw [HN.out]; rfl, hB2.trans (hBr.drew.mono hB2.size)⟩
                                · have hin : x ∉ e.ord.take (m + 1) := by
                                    rw [htm]; intro h
                                    rcases List.mem_append.1 h with h | h
                                    · exact HNM.out h
                                    · exact hyx (List.mem_singleton.1 h).symm
                                  have HN := Lib.hid hin
                                  have b1 : (y == x) = false := by simpa using hyx
                                  clear hin hyx hmk htm hy
                                  go_wp2_with fail
                                  refine wp_region_C (Same [w.heap.size + 1, g] wr) [] (by kernel_rfl) (by kernel_rfl) (by intro c a w h; first | (obtain ⟨_, h, _⟩ := h; cases h; done) | (obtain ⟨_, _, h, _⟩ := h; cases h; done) | (obtain ⟨_, _, _, h, _⟩ := h; cases h; done) | (obtain ⟨_, _, _, _, h, _⟩ := h; cases h; done) | (rcases h with ⟨_, ⟨_, _, _, _, h, _⟩ | ⟨_, _, _, _, h, _⟩⟩ <;> cases h; done)) (by intro a w h; first | (obtain ⟨h, _⟩ := h; cases h; done) | (obtain ⟨_, h, _⟩ := h; cases h; done) | (obtain ⟨_, _, h, _⟩ := h; cases h; done) | (obtain ⟨_, _, _, h, _⟩ := h; cases h; done) | (rcases h with ⟨_, _, _, _, h, _⟩ | ⟨_, _, _, _, h, _⟩ <;> cases h; done)) (Same.refl _ _) ?_
                                  repeat (refine wd_q (v := ?_) rfl rfl rfl rfl rfl rfl (fun w' hw' K hK => ?_) ?_; rotate_left; (have e1 := (hw'.cell (w.heap.size + 1) (by simp) 1).trans k1r; have e2 := (hw'.cell g (by simp) (o + m)).trans cy; have e3 := (hw'.cell g (by simp) (o + k)).trans cx; go_wp2; exact rfl); simp only [Act.put, List.setIfInBounds_toArray, List.set_cons_zero, List.set_cons_succ])
                                  refine wd_nil ?_
                                  go_wp2_with fail
                                  go_roundw
                                  case rel => exact ⟨m + 1, by go_num, by omega, HN.out, hBr.drew⟩
                                  case measure => simp [intOf]; omega
                              · have hmk : m = k := by omega
                                have hnm := HNM.out
                                rw [hmk] at hnm
                                have HN := Lib.hid (HOS.out hnm)
                                clear hnm hmk
                                go_wp2_with fail
                                go_roundw
                                case rel => exact ⟨k + 1, by go_num, by omega, HN.out, hBr⟩
                                case measure => simp [intOf]; omega
                      · have hn := HCK.out (by
                          have := HR.out
                          rwa [List.take_of_length_le (by omega)] at this)
                        have HN := Lib.hid hn
                        clear hn
                        go_wp2_with fail
                        go_ret
                        exact ⟨by rw [HN.out]; rfl, hB2.trans (hBr.mono hB2.size)⟩
                  · have b1 : (e.kind != 1) = true := by simp; exact hkind
                    by_cases hz : 0 < e.ord.length
                    · rw [checkR_no e (fun h => hkind (h.2.2.2.2.1.resolve_right (fun h => by rw [h] at hz; simp at hz)))]
                      clear hck hcn hkind
                      clear he ho
                      go_enter Tryd.func44, Tryd.ntmps44
                      go_wp2_with (first | ((with_reducible apply st_load (n := 3) (cs := entC e A c) (T := 39)); rfl; exact hx0; exact Tryd.underlying37; rfl; exact verSize; (rw [entC_len HE.out]; decide); exact entC_ver HE.out A c) | ((with_reducible apply st_storeW (off := 0) (vs := verC e A c) (cs := [.int .i64 0, .slice none 0 0, .int .i64 0]) (T := 37)); rfl; rfl; exact Blk.new' _ _ _ _ _ rfl (by simp); exact verSize; (simp [verC]); exact verC_one _ _; intro w2 hd2 hw2; rw [laid_all _ _ (by rfl)] at hd2; have hx2 := hw2.blk (hx0.alloc _) (by simp); have hB2 := Wrote.below (hB0.alloc hB0.size _) hw2 (by simp); have c0 : w2.cell? ⟨w.heap.size, 0, none⟩ = some (.int .i64 e.job) := hx2.cell 0; have c1 : w2.cell? ⟨w.heap.size, 1, none⟩ = some (.int .i64 e.time) := hx2.cell 1; have k0 := hd2.cell 0; have k1 := hd2.cell 1; have k2 := hd2.cell 2; simp only [verC, List.getElem?_cons_zero, List.getElem?_cons_succ] at k0 k1 k2))
                      go_ret
                      exact ⟨rfl, hB2⟩
                    · have hck := hck (.inr (List.eq_nil_of_length_eq_zero (by omega)))
                      obtain ⟨R, hR⟩ : ∃ R, R = checkR e := ⟨_, rfl⟩
                      rw [← hR] at hck hcn ⊢
                      have HCK := Lib.hid hck
                      have HCN := Lib.hid hcn
                      have HZ := Lib.hid hz
                      clear hck hcn hR hkind hz
                      clear he ho
                      go_enter Tryd.func44, Tryd.ntmps44
                      go_wp2_with (first | ((with_reducible apply st_load (n := 3) (cs := entC e A c) (T := 39)); rfl; exact hx0; exact Tryd.underlying37; rfl; exact verSize; (rw [entC_len HE.out]; decide); exact entC_ver HE.out A c) | ((with_reducible apply st_storeW (off := 0) (vs := verC e A c) (cs := [.int .i64 0, .slice none 0 0, .int .i64 0]) (T := 37)); rfl; rfl; exact Blk.new' _ _ _ _ _ rfl (by simp); exact verSize; (simp [verC]); exact verC_one _ _; intro w2 hd2 hw2; rw [laid_all _ _ (by rfl)] at hd2; have hx2 := hw2.blk (hx0.alloc _) (by simp); have hB2 := Wrote.below (hB0.alloc hB0.size _) hw2 (by simp); have c0 : w2.cell? ⟨w.heap.size, 0, none⟩ = some (.int .i64 e.job) := hx2.cell 0; have c1 : w2.cell? ⟨w.heap.size, 1, none⟩ = some (.int .i64 e.time) := hx2.cell 1; have k0 := hd2.cell 0; have k1 := hd2.cell 1; have k2 := hd2.cell 2; simp only [verC, List.getElem?_cons_zero, List.getElem?_cons_succ] at k0 k1 k2))
                      have g1 : w.heap.size + 1 < w2.heap.size := hd2.lt
                      clear hx0 hB0 hw2 hx2 c0 c1 k0 k2
                      go_loopw [4] (fun i wr => ∃ k : Nat, i = .int .i64 k ∧ k ≤ e.ord.length ∧ Hid (OrdE (e.ord.take k)) ∧ Below w2.heap.size w2 wr) (fun i _ => e.ord.length - (intOf i).toNat)
                      case atStart => exact ⟨0, rfl, by omega, ⟨fun x hx => by simp at hx, by simp⟩, Below.refl _ _⟩
                      case round =>
                        obtain ⟨k, rfl, hk, HR, hBr⟩ := hrel
                        have k1r : wr.cell? ⟨w.heap.size + 1, 1, none⟩ = some (.slice A e.ord.length c) := (hBr.cell (p := ⟨w.heap.size + 1, 1, none⟩) g1).trans k1
                        by_cases hlt : k < e.ord.length
                        · exfalso; have := HZ.out; omega
                        · have hn := HCK.out (by
                            have := HR.out
                            rwa [List.take_of_length_le (by omega)] at this)
                          have HN := Lib.hid hn
                          clear hn
                          go_wp2_with fail
                          go_ret
                          exact ⟨by rw [HN.out]; rfl, hB2.trans (hBr.mono hB2.size)⟩
end EntR
section EntE
open Go.RowKit

/-- Bytes in memory of the call's own, and a number. -/
def GivesN (r : List Int × Int) (w : World) (e : Ending) (w' : World) : Prop := ∃ v, e = .returned (.tuple #[v, .int .i64 r.2]) ∧ Below w.heap.size w w' ∧ Own w' w.heap.size v r.1
theorem rd_h {w : World} {g : Nat} {e : Ent} {A : Option Addr} {c : Nat} {T : TypeId} (h : Blk w g (entC e A c) T) (_he : EntB e) : Rd w (some ⟨g, 2, none⟩) (nums .u8 e.h) := by
  refine .inr ⟨g, 2, rfl, fun j v hv => ?_⟩
  rw [h.cell]
  unfold entC
  rw [show 2 + j = j + 1 + 1 by omega, List.getElem?_cons_succ, List.getElem?_cons_succ, List.append_assoc, List.getElem?_append_left (List.getElem?_eq_some_iff.1 hv).1]
  exact hv
theorem rd_s {w : World} {g : Nat} {e : Ent} {A : Option Addr} {c : Nat} {T : TypeId} (h : Blk w g (entC e A c) T) (he : EntB e) : Rd w (some ⟨g, 34, none⟩) (nums .u8 e.s) := by
  refine .inr ⟨g, 34, rfl, fun j v hv => ?_⟩
  rw [h.cell]
  unfold entC
  rw [show 34 + j = (32 + j) + 1 + 1 by omega, List.getElem?_cons_succ, List.getElem?_cons_succ, List.append_assoc, List.getElem?_append_right (by rw [nums_length, he.h]; omega), nums_length, he.h, show 32 + j - 32 = j by omega, List.getElem?_append_left (List.getElem?_eq_some_iff.1 hv).1]
  exact hv
theorem encR_no (e : Ent) (h : ¬ OkE e) : encR e = ([], 2) := by unfold encR; rw [if_neg h]
theorem encR_yes (e : Ent) (h : OkE e) : encR e = (encL e, 0) := by unfold encR; rw [if_pos h]

set_option maxRecDepth 100000 in
set_option maxHeartbeats 8000000 in
theorem encode_any (w : World) (e : Ent) (he : EntB e) (A : Option Addr) (c : Nat) (ho : Nts w A c e.ord) (hl : e.ord.length ≤ 1000) :
    Calls Tryd.prog 49 #[.agg (entC e A c).toArray] w (GivesN (encR e) w) := by
  have HE := Lib.hid he
  have HO := Lib.hid ho
  have hx0 : Blk (w.alloc (.cells (entC e A c).toArray 39)) w.heap.size (entC e A c) 39 := Blk.new' _ _ _ _ _ rfl rfl
  have hB0 : Below w.heap.size w (w.alloc (.cells (entC e A c).toArray 39)) := (Below.refl _ _).alloc (Nat.le_refl _) _
  have hchk := fun w (h : Nts w A c e.ord) => check_any w e he A c h hl
  have HCHK := Lib.hid hchk
  clear hchk he
  by_cases hok : OkE e
  · obtain ⟨J, hJ⟩ : ∃ J : Nat, e.job = J := ⟨e.job.toNat, by have := hok.1; omega⟩
    obtain ⟨I, hI⟩ : ∃ I : Nat, e.time = I := ⟨e.time.toNat, by have := hok.2.1; omega⟩
    obtain ⟨K, hK⟩ : ∃ K : Nat, e.kind = K := ⟨e.kind.toNat, by have := hok.2.2.1; omega⟩
    obtain ⟨R, hR⟩ : ∃ R : Nat, e.tries = R := ⟨e.tries.toNat, by have := hok.2.2.2.1; omega⟩
    have hJ2 : J ≤ 63 := by have := hok.1; omega
    have hI2 : I ≤ 1099511627776 := by have := hok.2.1; omega
    have hK2 : K ≤ 4 := by have := hok.2.2.1; omega
    have hR2 : R ≤ 1073741824 := by have := hok.2.2.2.1; omega
    have hol := hok.2.2.2.2.2.len
    have horr := hok.2.2.2.2.2.1
    have hc0 := HCHK.out
    rw [checkR_yes e hok] at hc0
    rw [encR_yes e hok]
    have hv1 := fun w => var_any w J (by omega)
    have hv2 := fun w => var_any w I (by omega)
    have hv3 := fun w => var_any w R (by omega)
    have hl1 := varL_len J
    have hl2 := varL_len I
    have hl3 := varL_len R
    obtain ⟨V1, hV1⟩ : ∃ V1, V1 = varL J := ⟨_, rfl⟩
    obtain ⟨V2, hV2⟩ : ∃ V2, V2 = varL I := ⟨_, rfl⟩
    obtain ⟨V3, hV3⟩ : ∃ V3, V3 = varL R := ⟨_, rfl⟩
    have henc : encL e = V1 ++ V2 ++ e.h ++ e.s ++ [(K : Int)] ++ V3 ++ [(e.ord.length : Int)] ++ e.ord := by
      unfold encL; rw [hJ, hI, hK, hR, hV1, hV2, hV3]; rfl
    rw [← hV1] at hv1 hl1
    rw [← hV2] at hv2 hl2
    rw [← hV3] at hv3 hl3
    have hv4 := fun w => var_any w e.ord.length (by omega)
    rw [varL_small e.ord.length (by omega)] at hv4
    have HV4 := Lib.hid hv4
    clear hv4
    have hh32 : e.h.length ≤ 32 := by rw [HE.out.h]; exact Nat.le_refl _
    have hs32 : e.s.length ≤ 32 := by rw [HE.out.s]; exact Nat.le_refl _
    have HENC := Lib.hid henc
    have HV1 := Lib.hid hv1
    have HV2 := Lib.hid hv2
    have HV3 := Lib.hid hv3
    have HC0 := Lib.hid hc0
    have HORR := Lib.hid horr
    have HJ := Lib.hid hJ
    have HI := Lib.hid hI
    have HK := Lib.hid hK
    have HR := Lib.hid hR
    obtain ⟨E, hE⟩ : ∃ E, E = encL e := ⟨_, rfl⟩
    have HEE := Lib.hid hE
    rw [← hE]
    clear hc0 henc hv1 hv2 hv3 hV1 hV2 hV3 horr hJ hI hK hR hE hok
    go_enter Tryd.func49, Tryd.ntmps49
    go_wp2_with ((with_reducible apply st_load (n := 69) (cs := entC e A c) (T := 39)); rfl; exact hx0; exact Tryd.underlying39; rfl; exact entSize; (rw [entC_len HE.out]; decide); exact row_all _ _ (entC_len HE.out A c))
    go_at_call 74
    refine (HC0.out _ (HO.out.up hB0)).mono ?_
    rintro r w1 ⟨rfl, hb1⟩
    have hx1 := hx0.up hb1
    have hB1 := hB0.trans (hb1.mono hB0.size)
    have hg0 := hx1.lt
    have c0 : w1.cell? ⟨w.heap.size, 0, none⟩ = some (.int .i64 J) := by rw [← HJ.out]; exact hx1.cell 0
    have c1 : w1.cell? ⟨w.heap.size, 1, none⟩ = some (.int .i64 I) := by rw [← HI.out]; exact hx1.cell 1
    have c66 : w1.cell? ⟨w.heap.size, 66, none⟩ = some (.int .i64 K) := by rw [← HK.out]; exact (hx1.cell _).trans (entC_at HE.out A c 0)
    have c67 : w1.cell? ⟨w.heap.size, 67, none⟩ = some (.slice A e.ord.length c) := (hx1.cell _).trans (entC_at HE.out A c 1)
    have c68 : w1.cell? ⟨w.heap.size, 68, none⟩ = some (.int .i64 R) := by rw [← HR.out]; exact (hx1.cell _).trans (entC_at HE.out A c 2)
    clear hb1 hB0 hx0
    go_wp2_with fail
    refine wp_region_C (Same [w.heap.size] w1) [3, 7, 8] (by kernel_rfl) (by kernel_rfl) (by intro c a w h; first | (obtain ⟨_, h, _⟩ := h; cases h; done) | (obtain ⟨_, _, h, _⟩ := h; cases h; done) | (obtain ⟨_, _, _, h, _⟩ := h; cases h; done) | (obtain ⟨_, _, _, _, h, _⟩ := h; cases h; done) | (rcases h with ⟨_, ⟨_, _, _, _, h, _⟩ | ⟨_, _, _, _, h, _⟩⟩ <;> cases h; done)) (by intro a w h; first | (obtain ⟨h, _⟩ := h; cases h; done) | (obtain ⟨_, h, _⟩ := h; cases h; done) | (obtain ⟨_, _, h, _⟩ := h; cases h; done) | (obtain ⟨_, _, _, h, _⟩ := h; cases h; done) | (rcases h with ⟨_, _, _, _, h, _⟩ | ⟨_, _, _, _, h, _⟩ <;> cases h; done)) (Same.refl _ _) ?_
    repeat (refine wd_q (v := ?_) rfl rfl rfl rfl rfl rfl (fun w' hw' K hK => ?_) ?_; rotate_left; (have e0 := (hw'.cell w.heap.size (by simp) 0).trans c0; have e1 := (hw'.cell w.heap.size (by simp) 1).trans c1; go_wp2; exact rfl); simp only [Act.put, List.setIfInBounds_toArray, List.set_cons_zero, List.set_cons_succ])
    refine wd_l rfl rfl (by intro a w h; first | (obtain ⟨h, _⟩ := h; cases h; done) | (obtain ⟨_, h, _⟩ := h; cases h; done) | (obtain ⟨_, _, h, _⟩ := h; cases h; done) | (obtain ⟨_, _, _, h, _⟩ := h; cases h; done) | (rcases h with ⟨_, _, _, _, h, _⟩ | ⟨_, _, _, _, h, _⟩ <;> cases h; done)) ?_
    go_wp2_with fail
    go_at_call 75
    refine (HV1.out _).mono ?_
    rintro r w2 ⟨v2, rfl, hb2, ho2⟩
    have hG2 : Grows w1 V1 v2 w2 := ⟨(Below.refl _ _).drew.trans (hb2.mono (Nat.le_refl _)), ho2⟩
    go_wp2_with fail
    refine ⟨.inr (fun g hg => by rw [List.mem_singleton.1 hg]; exact hG2.1.block _ hg0), ?_⟩
    repeat (refine wd_q (v := ?_) rfl rfl rfl rfl rfl rfl (fun w' hw' K hK => ?_) ?_; rotate_left; (have e0 := (hw'.cell w.heap.size (by simp) 0).trans c0; have e1 := (hw'.cell w.heap.size (by simp) 1).trans c1; go_wp2; exact rfl); simp only [Act.put, List.setIfInBounds_toArray, List.set_cons_zero, List.set_cons_succ])
    refine wd_l rfl rfl (by intro a w h; first | (obtain ⟨h, _⟩ := h; cases h; done) | (obtain ⟨_, h, _⟩ := h; cases h; done) | (obtain ⟨_, _, h, _⟩ := h; cases h; done) | (obtain ⟨_, _, _, h, _⟩ := h; cases h; done) | (rcases h with ⟨_, _, _, _, h, _⟩ | ⟨_, _, _, _, h, _⟩ <;> cases h; done)) ?_
    go_wp2_with fail
    go_at_call 75
    refine (HV2.out _).mono ?_
    rintro r w3 ⟨v3, rfl, hb3, ho3⟩
    obtain ⟨A3, C3, rfl, p3, q3, r3, _⟩ := ho3.from
    have hG3 := hG2.up hb3
    go_wp2_with fail
    refine ⟨.inr (fun g hg => by rw [List.mem_singleton.1 hg]; exact hG3.1.block _ hg0), ?_⟩
    refine wd_l rfl rfl (by intro a w h; first | (obtain ⟨h, _⟩ := h; cases h; done) | (obtain ⟨_, h, _⟩ := h; cases h; done) | (obtain ⟨_, _, h, _⟩ := h; cases h; done) | (obtain ⟨_, _, _, h, _⟩ := h; cases h; done) | (rcases h with ⟨_, _, _, _, h, _⟩ | ⟨_, _, _, _, h, _⟩ <;> cases h; done)) ?_
    go_wp2_with ((with_reducible apply st_grow (w0 := w1) (xs := V1) (ys := V2)); rfl; rfl; exact hG3; exact q3; exact r3; omega; intro v4 w4 hG4)
    refine ⟨.inr (fun g hg => by rw [List.mem_singleton.1 hg]; exact hG4.1.block _ hg0), ?_⟩
    repeat (refine wd_q (v := ?_) rfl rfl rfl rfl rfl rfl (fun w' hw' K hK => ?_) ?_; rotate_left; (skip; go_wp2; exact rfl); simp only [Act.put, List.setIfInBounds_toArray, List.set_cons_zero, List.set_cons_succ])
    refine wd_nil ?_
    have hx4 := hx1.below hG4.1 hg0
    clear hG3 hG2 ho2 ho3
    go_wp2_with (first | ((with_reducible apply st_allArr); exact Tryd.underlying24; kernel_rfl; rfl) | ((with_reducible apply st_grow (w0 := w1) (xs := (V1 ++ V2)) (ys := e.h)); rfl; (rw [HE.out.h]; rfl); exact hG4; (intro h; cases h); exact (rd_h hx4 HE.out); (simp only [List.length_append]; omega); intro v5 w5 hG5; have hx5 := hx1.below hG5.1 hg0) | ((with_reducible apply st_grow (w0 := w1) (xs := (V1 ++ V2 ++ e.h)) (ys := e.s)); rfl; (rw [HE.out.s]; rfl); exact hG5; (intro h; cases h); exact (rd_s hx5 HE.out); (simp only [List.length_append]; omega); intro v6 w6 hG6; have d66w6 := (hG6.1.cell (p := ⟨w.heap.size, 66, none⟩) hg0).trans c66) | ((with_reducible apply st_grow (w0 := w1) (xs := (V1 ++ V2 ++ e.h ++ e.s)) (ys := [(K : Int)])); rfl; rfl; exact (hG6.alloc _); (intro h; cases h); exact (Rd.ofBlk (Blk.new' _ _ _ 5 _ rfl rfl)); (simp only [List.length_append, List.length_singleton]; omega); intro v7 w7 hG7; have d68w7 := (hG7.1.cell (p := ⟨w.heap.size, 68, none⟩) hg0).trans c68))
    go_at_call 75
    refine (HV3.out _).mono ?_
    rintro r w8 ⟨v8, rfl, hb8, ho8⟩
    obtain ⟨A8, C8, rfl, p8, q8, r8, _⟩ := ho8.from
    have hG8 := hG7.up hb8
    go_wp2_with ((with_reducible apply st_grow (w0 := w1) (xs := (V1 ++ V2 ++ e.h ++ e.s ++ [(K : Int)])) (ys := V3)); rfl; rfl; exact hG8; exact q8; exact r8; (simp only [List.length_append, List.length_singleton]; omega); intro v9 w9 hG9; have d67w9 := (hG9.1.cell (p := ⟨w.heap.size, 67, none⟩) hg0).trans c67)
    go_at_call 75
    refine (HV4.out _).mono ?_
    rintro r w10 ⟨v10, rfl, hb10, ho10⟩
    obtain ⟨A10, C10, rfl, p10, q10, r10, _⟩ := ho10.from
    have hG10 := hG9.up hb10
    go_wp2_with ((with_reducible apply st_grow (w0 := w1) (xs := (V1 ++ V2 ++ e.h ++ e.s ++ [(K : Int)] ++ V3)) (ys := [(e.ord.length : Int)])); rfl; rfl; exact hG10; exact q10; exact r10; (simp only [List.length_append, List.length_singleton]; omega); intro v11 w11 hG11; have d67w11 := (hG11.1.cell (p := ⟨w.heap.size, 67, none⟩) hg0).trans c67)
    obtain ⟨X, hX⟩ : ∃ X, X = (V1 ++ V2 ++ e.h ++ e.s ++ [(K : Int)] ++ V3 ++ [(e.ord.length : Int)]) := ⟨_, rfl⟩
    have hXl : X.length ≤ 200 := by rw [hX]; simp only [List.length_append, List.length_singleton]; omega
    rw [← hX] at hG11
    have henc := HENC.out
    rw [← hX, ← HEE.out] at henc
    have HENC2 := Lib.hid henc
    clear hX henc
    go_loopw [5, 56] (fun v i wr => ∃ k : Nat, i = .int .i64 k ∧ k ≤ e.ord.length ∧ Grows w1 (X ++ e.ord.take k) v wr) (fun _ i _ => e.ord.length - (intOf i).toNat)
    case atStart => exact ⟨0, rfl, by omega, by rw [List.take_zero, List.append_nil]; exact hG11⟩
    case round =>
      clear hG11
      obtain ⟨k, rfl, hk, hG⟩ := hrel
      have d67r := (hG.1.cell (p := ⟨w.heap.size, 67, none⟩) hg0).trans c67
      by_cases hlt : k < e.ord.length
      · obtain ⟨g, o, rfl, hg, hc⟩ := HO.out.get (by omega)
        have cx : wr.cell? ⟨g, o + k, none⟩ = some (.int .i64 (ga e.ord k)) := ((hB1.trans (hG.1.mono hB1.size)).cell (p := ⟨g, o + k, none⟩) hg).trans (hc k hlt)
        have htk := take_at e.ord k hlt
        rw [← ga_eq] at htk
        have hxr := HORR.out (ga e.ord k) (by have : ga e.ord k = e.ord[k] := by simp [ga, hlt]
                                              rw [this]; exact List.getElem_mem _)
        have hkl : (e.ord.take k).length ≤ 64 := by rw [List.length_take]; omega
        obtain ⟨x, hx⟩ : ∃ x, x = ga e.ord k := ⟨_, rfl⟩
        rw [← hx] at cx htk hxr
        have HTK := Lib.hid htk
        clear hc htk hx
        go_wp2_with ((with_reducible apply st_grow (w0 := w1) (xs := X ++ e.ord.take k) (ys := [x])); rfl; rfl; exact (hG.alloc _); (intro h; cases h); exact (Rd.ofBlk (Blk.new' _ _ _ 5 _ rfl rfl)); (simp only [List.length_append, List.length_singleton]; omega); intro v2 w2 hG2)
        rw [List.append_assoc, ← HTK.out] at hG2
        go_roundw
        case rel => exact ⟨k + 1, by go_num, by omega, hG2⟩
        case measure => simp [intOf]; omega
      · have e9 : e.ord.take k = e.ord := List.take_of_length_le (by omega)
        rw [e9, ← HENC2.out] at hG
        clear e9
        go_wp2_with fail
        go_ret2
        exact ⟨_, rfl, hB1.trans (hG.1.mono hB1.size), hG.2.mono hB1.size⟩
  · have hc0 := HCHK.out
    rw [checkR_no e hok] at hc0
    rw [encR_no e hok]
    have HC0 := Lib.hid hc0
    clear hc0 hok
    go_enter Tryd.func49, Tryd.ntmps49
    go_wp2_with ((with_reducible apply st_load (n := 69) (cs := entC e A c) (T := 39)); rfl; exact hx0; exact Tryd.underlying39; rfl; exact entSize; (rw [entC_len HE.out]; decide); exact row_all _ _ (entC_len HE.out A c))
    go_at_call 74
    refine (HC0.out _ (HO.out.up hB0)).mono ?_
    rintro r w1 ⟨rfl, hb1⟩
    go_wp2_with fail
    go_ret2
    exact ⟨_, rfl, hB0.trans (hb1.mono hB0.size), Own.nil _ _⟩

set_option maxRecDepth 100000 in
set_option maxHeartbeats 8000000 in
theorem refencode_any (w : World) (e : Ent) (he : EntB e) (A : Option Addr) (c : Nat) (ho : Nts w A c e.ord) (hl : e.ord.length ≤ 1000) :
    Calls Tryd.prog 57 #[.agg (entC e A c).toArray] w (GivesN (encR e) w) := by
  have HE := Lib.hid he
  have HO := Lib.hid ho
  have hx0 : Blk (w.alloc (.cells (entC e A c).toArray 39)) w.heap.size (entC e A c) 39 := Blk.new' _ _ _ _ _ rfl rfl
  have hB0 : Below w.heap.size w (w.alloc (.cells (entC e A c).toArray 39)) := (Below.refl _ _).alloc (Nat.le_refl _) _
  have hchk := fun w (h : Nts w A c e.ord) => refcheck_any w e he A c h hl
  have HCHK := Lib.hid hchk
  clear hchk he
  by_cases hok : OkE e
  · obtain ⟨J, hJ⟩ : ∃ J : Nat, e.job = J := ⟨e.job.toNat, by have := hok.1; omega⟩
    obtain ⟨I, hI⟩ : ∃ I : Nat, e.time = I := ⟨e.time.toNat, by have := hok.2.1; omega⟩
    obtain ⟨K, hK⟩ : ∃ K : Nat, e.kind = K := ⟨e.kind.toNat, by have := hok.2.2.1; omega⟩
    obtain ⟨R, hR⟩ : ∃ R : Nat, e.tries = R := ⟨e.tries.toNat, by have := hok.2.2.2.1; omega⟩
    have hJ2 : J ≤ 63 := by have := hok.1; omega
    have hI2 : I ≤ 1099511627776 := by have := hok.2.1; omega
    have hK2 : K ≤ 4 := by have := hok.2.2.1; omega
    have hR2 : R ≤ 1073741824 := by have := hok.2.2.2.1; omega
    have hol := hok.2.2.2.2.2.len
    have horr := hok.2.2.2.2.2.1
    have hc0 := HCHK.out
    rw [checkR_yes e hok] at hc0
    rw [encR_yes e hok]
    have hv1 := fun w => refvar_any w J (by omega)
    have hv2 := fun w => refvar_any w I (by omega)
    have hv3 := fun w => refvar_any w R (by omega)
    have hl1 := varL_len J
    have hl2 := varL_len I
    have hl3 := varL_len R
    obtain ⟨V1, hV1⟩ : ∃ V1, V1 = varL J := ⟨_, rfl⟩
    obtain ⟨V2, hV2⟩ : ∃ V2, V2 = varL I := ⟨_, rfl⟩
    obtain ⟨V3, hV3⟩ : ∃ V3, V3 = varL R := ⟨_, rfl⟩
    have henc : encL e = V1 ++ V2 ++ e.h ++ e.s ++ [(K : Int)] ++ V3 ++ [(e.ord.length : Int)] ++ e.ord := by
      unfold encL; rw [hJ, hI, hK, hR, hV1, hV2, hV3]; rfl
    rw [← hV1] at hv1 hl1
    rw [← hV2] at hv2 hl2
    rw [← hV3] at hv3 hl3
    have hh32 : e.h.length ≤ 32 := by rw [HE.out.h]; exact Nat.le_refl _
    have hs32 : e.s.length ≤ 32 := by rw [HE.out.s]; exact Nat.le_refl _
    have HENC := Lib.hid henc
    have HV1 := Lib.hid hv1
    have HV2 := Lib.hid hv2
    have HV3 := Lib.hid hv3
    have HC0 := Lib.hid hc0
    have HORR := Lib.hid horr
    have HJ := Lib.hid hJ
    have HI := Lib.hid hI
    have HK := Lib.hid hK
    have HR := Lib.hid hR
    obtain ⟨E, hE⟩ : ∃ E, E = encL e := ⟨_, rfl⟩
    have HEE := Lib.hid hE
    rw [← hE]
    clear hc0 henc hv1 hv2 hv3 hV1 hV2 hV3 horr hJ hI hK hR hE hok
    go_enter Tryd.func57, Tryd.ntmps57
    go_wp2_with ((with_reducible apply st_load (n := 69) (cs := entC e A c) (T := 39)); rfl; exact hx0; exact Tryd.underlying39; rfl; exact entSize; (rw [entC_len HE.out]; decide); exact row_all _ _ (entC_len HE.out A c))
    go_at_call 44
    refine (HC0.out _ (HO.out.up hB0)).mono ?_
    rintro r w1 ⟨rfl, hb1⟩
    have hx1 := hx0.up hb1
    have hB1 := hB0.trans (hb1.mono hB0.size)
    have hg0 := hx1.lt
    have c0 : w1.cell? ⟨w.heap.size, 0, none⟩ = some (.int .i64 J) := by rw [← HJ.out]; exact hx1.cell 0
    have c1 : w1.cell? ⟨w.heap.size, 1, none⟩ = some (.int .i64 I) := by rw [← HI.out]; exact hx1.cell 1
    have c66 : w1.cell? ⟨w.heap.size, 66, none⟩ = some (.int .i64 K) := by rw [← HK.out]; exact (hx1.cell _).trans (entC_at HE.out A c 0)
    have c67 : w1.cell? ⟨w.heap.size, 67, none⟩ = some (.slice A e.ord.length c) := (hx1.cell _).trans (entC_at HE.out A c 1)
    have c68 : w1.cell? ⟨w.heap.size, 68, none⟩ = some (.int .i64 R) := by rw [← HR.out]; exact (hx1.cell _).trans (entC_at HE.out A c 2)
    clear hb1 hB0 hx0
    go_wp2_with fail
    go_at_call 81
    refine (HV1.out _).mono ?_
    rintro r w2 ⟨v2, rfl, hb2, ho2⟩
    have hG2 : Grows w1 V1 v2 w2 := ⟨hb2, ho2⟩
    have d1w2 := (hG2.1.cell (p := ⟨w.heap.size, 1, none⟩) hg0).trans c1
    go_wp2_with fail
    go_at_call 81
    refine (HV2.out _).mono ?_
    rintro r w3 ⟨v3, rfl, hb3, ho3⟩
    obtain ⟨A3, C3, rfl, p3, q3, r3, _⟩ := ho3.from
    have hG3 := hG2.up hb3
    have hx4 : True := trivial
    go_wp2_with (first | ((with_reducible apply st_grow (w0 := w1) (xs := V1) (ys := V2)); rfl; rfl; exact hG3; exact q3; exact r3; omega; intro v4 w4 hG4; clear hx4; have hx4 := hx1.below hG4.1 hg0) | ((with_reducible apply st_allArr); exact Tryd.underlying24; kernel_rfl; rfl) | ((with_reducible apply st_grow (w0 := w1) (xs := (V1 ++ V2)) (ys := e.h)); rfl; (rw [HE.out.h]; rfl); exact hG4; (intro h; cases h); exact (rd_h hx4 HE.out); (simp only [List.length_append]; omega); intro v5 w5 hG5; have hx5 := hx1.below hG5.1 hg0) | ((with_reducible apply st_grow (w0 := w1) (xs := (V1 ++ V2 ++ e.h)) (ys := e.s)); rfl; (rw [HE.out.s]; rfl); exact hG5; (intro h; cases h); exact (rd_s hx5 HE.out); (simp only [List.length_append]; omega); intro v6 w6 hG6; have d66w6 := (hG6.1.cell (p := ⟨w.heap.size, 66, none⟩) hg0).trans c66) | ((with_reducible apply st_grow (w0 := w1) (xs := (V1 ++ V2 ++ e.h ++ e.s)) (ys := [(K : Int)])); rfl; rfl; exact (hG6.alloc _); (intro h; cases h); exact (Rd.ofBlk (Blk.new' _ _ _ 5 _ rfl rfl)); (simp only [List.length_append, List.length_singleton]; omega); intro v7 w7 hG7; have d68w7 := (hG7.1.cell (p := ⟨w.heap.size, 68, none⟩) hg0).trans c68))
    go_at_call 81
    refine (HV3.out _).mono ?_
    rintro r w8 ⟨v8, rfl, hb8, ho8⟩
    obtain ⟨A8, C8, rfl, p8, q8, r8, _⟩ := ho8.from
    have hG8 := hG7.up hb8
    go_wp2_with (first | ((with_reducible apply st_grow (w0 := w1) (xs := (V1 ++ V2 ++ e.h ++ e.s ++ [(K : Int)])) (ys := V3)); rfl; rfl; exact hG8; exact q8; exact r8; (simp only [List.length_append, List.length_singleton]; omega); intro v9 w9 hG9; have d67w9 := (hG9.1.cell (p := ⟨w.heap.size, 67, none⟩) hg0).trans c67) | ((with_reducible apply st_grow (w0 := w1) (xs := (V1 ++ V2 ++ e.h ++ e.s ++ [(K : Int)] ++ V3)) (ys := [(e.ord.length : Int)])); rfl; rfl; exact (hG9.alloc _); (intro h; cases h); exact (Rd.ofBlk (Blk.new' _ _ _ 5 _ rfl rfl)); (simp only [List.length_append, List.length_singleton]; omega); intro v11 w11 hG11; have d67w11 := (hG11.1.cell (p := ⟨w.heap.size, 67, none⟩) hg0).trans c67))
    obtain ⟨X, hX⟩ : ∃ X, X = (V1 ++ V2 ++ e.h ++ e.s ++ [(K : Int)] ++ V3 ++ [(e.ord.length : Int)]) := ⟨_, rfl⟩
    have hXl : X.length ≤ 200 := by rw [hX]; simp only [List.length_append, List.length_singleton]; omega
    rw [← hX] at hG11
    have henc := HENC.out
    rw [← hX, ← HEE.out] at henc
    have HENC2 := Lib.hid henc
    clear hX henc
    go_loopw [5, 6] (fun v i wr => ∃ k : Nat, i = .int .i64 k ∧ k ≤ e.ord.length ∧ Grows w1 (X ++ e.ord.take k) v wr) (fun _ i _ => e.ord.length - (intOf i).toNat)
    case atStart => exact ⟨0, rfl, by omega, by rw [List.take_zero, List.append_nil]; exact hG11⟩
    case round =>
      clear hG11
      obtain ⟨k, rfl, hk, hG⟩ := hrel
      have d67r := (hG.1.cell (p := ⟨w.heap.size, 67, none⟩) hg0).trans c67
      by_cases hlt : k < e.ord.length
      · obtain ⟨g, o, rfl, hg, hc⟩ := HO.out.get (by omega)
        have cx : wr.cell? ⟨g, o + k, none⟩ = some (.int .i64 (ga e.ord k)) := ((hB1.trans (hG.1.mono hB1.size)).cell (p := ⟨g, o + k, none⟩) hg).trans (hc k hlt)
        have htk := take_at e.ord k hlt
        rw [← ga_eq] at htk
        have hxr := HORR.out (ga e.ord k) (by have : ga e.ord k = e.ord[k] := by simp [ga, hlt]
                                              rw [this]; exact List.getElem_mem _)
        have hkl : (e.ord.take k).length ≤ 64 := by rw [List.length_take]; omega
        obtain ⟨x, hx⟩ : ∃ x, x = ga e.ord k := ⟨_, rfl⟩
        rw [← hx] at cx htk hxr
        have HTK := Lib.hid htk
        clear hc htk hx
        go_wp2_with ((with_reducible apply st_grow (w0 := w1) (xs := X ++ e.ord.take k) (ys := [x])); rfl; rfl; exact (hG.alloc _); (intro h; cases h); exact (Rd.ofBlk (Blk.new' _ _ _ 5 _ rfl rfl)); (simp only [List.length_append, List.length_singleton]; omega); intro v2 w2 hG2)
        rw [List.append_assoc, ← HTK.out] at hG2
        go_roundw
        case rel => exact ⟨k + 1, by go_num, by omega, hG2⟩
        case measure => simp [intOf]; omega
      · have e9 : e.ord.take k = e.ord := List.take_of_length_le (by omega)
        rw [e9, ← HENC2.out] at hG
        clear e9
        go_wp2_with fail
        go_ret2
        exact ⟨_, rfl, hB1.trans (hG.1.mono hB1.size), hG.2.mono hB1.size⟩
  · have hc0 := HCHK.out
    rw [checkR_no e hok] at hc0
    rw [encR_no e hok]
    have HC0 := Lib.hid hc0
    clear hc0 hok
    go_enter Tryd.func57, Tryd.ntmps57
    go_wp2_with ((with_reducible apply st_load (n := 69) (cs := entC e A c) (T := 39)); rfl; exact hx0; exact Tryd.underlying39; rfl; exact entSize; (rw [entC_len HE.out]; decide); exact row_all _ _ (entC_len HE.out A c))
    go_at_call 44
    refine (HC0.out _ (HO.out.up hB0)).mono ?_
    rintro r w1 ⟨rfl, hb1⟩
    go_wp2_with fail
    go_ret2
    exact ⟨_, rfl, hB0.trans (hb1.mono hB0.size), Own.nil _ _⟩
end EntE
end Go.Proofs.YtancldhincaphaaDoor
