/- A region whose order Go leaves open and that makes memory at places that are not put in order: a law over any program. What is made is met by any name; a call is asked to yield its value in every world that grew out of the first one. No condition on the program of this seat. -/
import Derived.Test.YtancldhincaphaaDoorGa
namespace Go.Proofs.YtancldhincaphaaDoor
open Go.RowKit
set_option maxRecDepth 100000

section
variable {P : Program} {ops : Array Oper} {Q : Exit → Act → World → Prop} {w0 : World} {A : List Nat} {ob : Obj} {K : Act → World → Prop}

/-- Yields v, by itself or by a call; what was there stays as it was. -/
def GrowsTo (P : Program) (m : Sem Next) (v : Value) (w : World) : Prop :=
  m.run P w = .ok (.value v) w ∨ ∃ f args, P.inits.idxOf? f = none ∧ m.run P w = .ok (.enter f args) w ∧ Calls P f args w fun e w' => e = .returned v ∧ Below w.heap.size w w'
theorem GrowsTo.one {m : Sem Next} {v v' : Value} {w : World} (h : GrowsTo P m v w) (h' : GrowsTo P m v' w) : v = v' := by
  rcases h with h | ⟨f, args, hi, h, hc⟩ <;> rcases h' with h' | ⟨f', args', hi', h', hc'⟩
  · have := h.symm.trans h'; injection this with this; injection this
  · have := h.symm.trans h'; injection this with this; cases this
  · have := h.symm.trans h'; injection this with this; cases this
  · have := h.symm.trans h'
    injection this with this
    injection this with h1 h2
    subst h1; subst h2
    exact Lib.agree hi hc hc'
/-- The worlds that grew out of the first one. -/
def Grown (w0 w : World) : Prop := Below w0.heap.size w0 w
def Steps (P : Program) (ops : Array Oper) (w0 : World) (o : Oper) (v : Value) (a : Act) : Prop :=
  (Region.wanted o (yielded ops a.tmps) = true ∧ ∀ w, Grown w0 w → GrowsTo P (execOp a.eval o) v w) ∨ (Region.wanted o (yielded ops a.tmps) = false ∧ v = undef)
theorem Steps.same {o : Oper} {v : Value} {a a' : Act} (hy : Steps P ops w0 o v a) (he : execOp a'.eval o = execOp a.eval o)
    (hw : Region.wanted o (yielded ops a'.tmps) = Region.wanted o (yielded ops a.tmps)) : Steps P ops w0 o v a' := by
  unfold Steps at hy ⊢
  rw [he, hw]
  exact hy
theorem Steps.one {o : Oper} {v v' : Value} {a : Act} (hy : Steps P ops w0 o v a) (hy' : Steps P ops w0 o v' a) : v = v' := by
  rcases hy with ⟨hw, hv⟩ | ⟨hw, rfl⟩ <;> rcases hy' with ⟨hw', hv'⟩ | ⟨hw', rfl⟩
  · exact (hv w0 (Below.refl _ _)).one (hv' w0 (Below.refl _ _))
  · rw [hw] at hw'; cases hw'
  · rw [hw] at hw'; cases hw'
  · rfl
theorem Steps.run {i : Nat} {o : Oper} {v : Value} {a : Act} {w : World} (hi : ops[i]? = some o) (hy : Steps P ops w0 o v a) (hC : Grown w0 w) (h : ∀ w', Below w.heap.size w w' → K (a.put o.dst v) w') :
    wpOp P ops Q i K a w := by
  unfold wpOp
  rw [hi]
  simp only
  rcases hy with ⟨hw, hv⟩ | ⟨hw, rfl⟩
  · rw [if_pos hw]; left; unfold Oper.wp
    rcases hv w hC with hv | ⟨f, args, _, hr, hc⟩
    · rw [hv]; exact h _ (Below.refl _ _)
    · rw [hr]
      exact Calls.mono hc fun e w' he => by obtain ⟨rfl, hb⟩ := he; exact h _ hb
  · rw [if_neg (by rw [hw]; exact Bool.false_ne_true)]; exact h _ (Below.refl _ _)
/-- The operation makes memory, and yields where it lies. -/
def Makes (P : Program) (ops : Array Oper) (ob : Obj) (o : Oper) (a : Act) : Prop :=
  Region.wanted o (yielded ops a.tmps) = true ∧ ∀ w, (execOp a.eval o).run P w = .ok (.value (.pointer (some ⟨w.heap.size, 0, none⟩))) (w.alloc ob)
theorem Makes.same {o : Oper} {a a' : Act} (hy : Makes P ops ob o a) (he : execOp a'.eval o = execOp a.eval o)
    (hw : Region.wanted o (yielded ops a'.tmps) = Region.wanted o (yielded ops a.tmps)) : Makes P ops ob o a' := by
  unfold Makes at hy ⊢
  rw [he, hw]
  exact hy

/-- The rest of a region: A names the operations that make memory; U is what they made. -/
def WR (P : Program) (ops : Array Oper) (w0 : World) (A : List Nat) (ob : Obj) (K : Act → World → Prop) : List Nat → List Nat → Act → Prop
  | [], U, a => ∀ w, Grown w0 w → (∀ g ∈ U, w.heap[g]? = some ob) → K a w
  | i :: rest, U, a =>
    if A.contains i then ∃ o, ops[i]? = some o ∧ Makes P ops ob o a ∧ ∀ g, w0.heap.size ≤ g → g ∉ U → WR P ops w0 A ob K rest (g :: U) (a.put o.dst (.pointer (some ⟨g, 0, none⟩)))
    else ∃ o v, ops[i]? = some o ∧ Steps P ops w0 o v a ∧ WR P ops w0 A ob K rest U (a.put o.dst v)

theorem WR.perm : ∀ (l U U' : List Nat) (a : Act), (∀ x, x ∈ U ↔ x ∈ U') → WR P ops w0 A ob K l U a → WR P ops w0 A ob K l U' a
  | [], U, U', a, hU, h => fun w hC hb => h w hC fun g hg => hb g ((hU g).1 hg)
  | i :: l, U, U', a, hU, h => by
    simp only [WR] at h ⊢
    by_cases hA : A.contains i = true
    · rw [if_pos hA] at h ⊢
      obtain ⟨o, ho, hm, h⟩ := h
      exact ⟨o, ho, hm, fun g hg hn => WR.perm l (g :: U) (g :: U') _ (fun x => by simp [hU x]) (h g hg (fun e => hn ((hU g).1 e)))⟩
    · rw [if_neg hA] at h ⊢
      obtain ⟨o, v, ho, hy, h⟩ := h
      exact ⟨o, v, ho, hy, WR.perm l U U' _ hU h⟩
theorem fresh_of (B : Nat) : ∀ U : List Nat, ∃ g, B ≤ g ∧ ∀ x ∈ U, x < g
  | [] => ⟨B, Nat.le_refl _, fun x hx => by cases hx⟩
  | u :: U => by
    obtain ⟨g, h1, h2⟩ := fresh_of B U
    refine ⟨g + u + 1, by omega, fun x hx => ?_⟩
    rcases List.mem_cons.1 hx with rfl | hx
    · omega
    · have := h2 x hx; omega

theorem pull_step {i : Nat} {oi : Oper} (hns : Region.noSelect ops = true) (hi : ops[i]? = some oi) (hAi : A.contains i = false) (L2 : List Nat) :
    ∀ (L1 U : List Nat) (a : Act), (∀ x ∈ L1, ∃ ox, ops[x]? = some ox ∧ ox.apart ops oi = true) → WR P ops w0 A ob K (L1 ++ i :: L2) U a →
    ∃ v, Steps P ops w0 oi v a ∧ WR P ops w0 A ob K (L1 ++ L2) U (a.put oi.dst v) := by
  intro L1
  induction L1 with
  | nil =>
    intro U a _ h
    simp only [List.nil_append, WR, hAi, Bool.false_eq_true, if_false] at h
    obtain ⟨o, v, ho, hy, h⟩ := h
    have : o = oi := Option.some.inj (ho.symm.trans hi)
    subst this
    exact ⟨v, hy, h⟩
  | cons x L1 ih =>
    intro U a hap h
    obtain ⟨ox, hx, hapx⟩ := hap x (by simp)
    obtain ⟨h1, h2, h3⟩ := Oper.apart_spec hapx
    have hsi := sel_of hns hi
    have hsx := sel_of hns hx
    have back : ∀ {v : Value} (u : Value) (a : Act), Steps P ops w0 oi v (a.put ox.dst u) → Steps P ops w0 oi v a := fun u a hy =>
      hy.same (execOp_put oi hsi a ox.dst u h1).symm (wanted_put oi a ox.dst u h1).symm
    simp only [List.cons_append, WR] at h
    by_cases hA : A.contains x = true
    · rw [if_pos hA] at h
      obtain ⟨o, ho, hm, h⟩ := h
      have : o = ox := Option.some.inj (ho.symm.trans hx)
      subst this
      obtain ⟨g0, hg0, hU0⟩ := fresh_of w0.heap.size U
      obtain ⟨v0, hy0, _⟩ := ih _ _ (fun z hz => hap z (by simp [hz])) (h g0 hg0 (fun e => Nat.lt_irrefl _ (hU0 g0 e)))
      have hv0 := back _ _ hy0
      refine ⟨v0, hv0, ?_⟩
      simp only [List.cons_append, WR]
      rw [if_pos hA]
      refine ⟨o, hx, hm.same (execOp_put o hsx a oi.dst v0 h3) (wanted_put o a oi.dst v0 h3), fun g hg hU => ?_⟩
      obtain ⟨v, hy, h'⟩ := ih _ _ (fun z hz => hap z (by simp [hz])) (h g hg hU)
      have := (back _ _ hy).one hv0
      subst this
      rwa [Act.put_comm a _ v h2] at h'
    · rw [if_neg hA] at h
      obtain ⟨o, u, ho, hyx, h⟩ := h
      have : o = ox := Option.some.inj (ho.symm.trans hx)
      subst this
      obtain ⟨v, hy, h'⟩ := ih _ _ (fun z hz => hap z (by simp [hz])) h
      refine ⟨v, back u a hy, ?_⟩
      simp only [List.cons_append, WR]
      rw [if_neg hA]
      refine ⟨o, u, hx, hyx.same (execOp_put o hsx a oi.dst v h3) (wanted_put o a oi.dst v h3), ?_⟩
      rwa [Act.put_comm a u v h2] at h'

theorem pull_make {i : Nat} {oi : Oper} (hns : Region.noSelect ops = true) (hi : ops[i]? = some oi) (hAi : A.contains i = true) (L2 : List Nat) :
    ∀ (L1 U : List Nat) (a : Act), (∀ x ∈ L1, ∃ ox, ops[x]? = some ox ∧ ox.apart ops oi = true) → WR P ops w0 A ob K (L1 ++ i :: L2) U a →
    Makes P ops ob oi a ∧ ∀ g, w0.heap.size ≤ g → g ∉ U → WR P ops w0 A ob K (L1 ++ L2) (g :: U) (a.put oi.dst (.pointer (some ⟨g, 0, none⟩))) := by
  intro L1
  induction L1 with
  | nil =>
    intro U a _ h
    simp only [List.nil_append, WR] at h
    rw [if_pos hAi] at h
    obtain ⟨o, ho, hm, h⟩ := h
    have : o = oi := Option.some.inj (ho.symm.trans hi)
    subst this
    exact ⟨hm, h⟩
  | cons x L1 ih =>
    intro U a hap h
    obtain ⟨ox, hx, hapx⟩ := hap x (by simp)
    obtain ⟨h1, h2, h3⟩ := Oper.apart_spec hapx
    have hsi := sel_of hns hi
    have hsx := sel_of hns hx
    have back : ∀ (u : Value) (a : Act), Makes P ops ob oi (a.put ox.dst u) → Makes P ops ob oi a := fun u a hy =>
      hy.same (execOp_put oi hsi a ox.dst u h1).symm (wanted_put oi a ox.dst u h1).symm
    simp only [List.cons_append, WR] at h
    by_cases hA : A.contains x = true
    · rw [if_pos hA] at h
      obtain ⟨o, ho, hm, h⟩ := h
      have : o = ox := Option.some.inj (ho.symm.trans hx)
      subst this
      obtain ⟨g0, hg0, hU0⟩ := fresh_of w0.heap.size U
      refine ⟨back _ _ (ih _ _ (fun z hz => hap z (by simp [hz])) (h g0 hg0 (fun e => Nat.lt_irrefl _ (hU0 g0 e)))).1, fun g hg hU => ?_⟩
      simp only [List.cons_append, WR]
      rw [if_pos hA]
      refine ⟨o, hx, hm.same (execOp_put o hsx a oi.dst _ h3) (wanted_put o a oi.dst _ h3), fun g' hg' hU' => ?_⟩
      have hne : g ≠ g' := fun e => hU' (by simp [e])
      have h' := (ih _ _ (fun z hz => hap z (by simp [hz])) (h g' hg' (fun e => hU' (by simp [e])))).2 g hg (by simp [hne, hU])
      rw [Act.put_comm a _ _ h2] at h'
      exact WR.perm _ _ _ _ (fun x => by simp only [List.mem_cons]; constructor <;> (rintro (h | h | h) <;> simp [h])) h'
    · rw [if_neg hA] at h
      obtain ⟨o, u, ho, hyx, h⟩ := h
      have : o = ox := Option.some.inj (ho.symm.trans hx)
      subst this
      obtain ⟨hm, h'⟩ := ih _ _ (fun z hz => hap z (by simp [hz])) h
      refine ⟨back u a hm, fun g hg hU => ?_⟩
      simp only [List.cons_append, WR]
      rw [if_neg hA]
      refine ⟨o, u, hx, hyx.same (execOp_put o hsx a oi.dst _ h3) (wanted_put o a oi.dst _ h3), ?_⟩
      have h'' := h' g hg hU
      rwa [Act.put_comm a u _ h2] at h''

/-- The second part of the region waits for all of the first but for operations that only read. -/
def partsOk (ops : Array Oper) (m : Array Nat) (A : List Nat) (n1 n : Nat) : Bool := (List.range n).all fun y => decide (y < n1) || (List.range n1).all fun x => (m.getD y 0).testBit x || (!A.contains x && ((ops[x]?).map fun o => valueOp o.op).getD false)

theorem wc_of_wr {C : World → Prop} {E S : List Nat} {Z : Nat → Bool} (hCG : ∀ w, C w → Grown w0 w) : ∀ (L U : List Nat) (a : Act) (w : World), Grown w0 w → (∀ g ∈ U, w.heap[g]? = some ob) → (∀ x ∈ L, E.contains x = false ∧ A.contains x = false ∧ ∃ o, ops[x]? = some o ∧ valueOp o.op = true) →
    WR P ops w0 A ob (fun a w => WC P ops C Q E [] Z S a w) L U a → WC P ops C Q E [] Z (L ++ S) a w
  | [], U, a, w, hG, hU, _, h => h w hG hU
  | x :: L, U, a, w, hG, hU, hL, h => by
    obtain ⟨hE, hA, ox, hox, hv⟩ := hL x (by simp)
    simp only [WR] at h
    rw [if_neg (by rw [hA]; exact Bool.false_ne_true)] at h
    obtain ⟨o, v, ho, hy, h⟩ := h
    have : o = ox := Option.some.inj (ho.symm.trans hox)
    subst this
    simp only [List.cons_append, WC]
    rw [if_neg (by rw [hE]; exact Bool.false_ne_true)]
    refine ⟨o, v, ho, ?_, wc_of_wr hCG L U _ w hG hU (fun z hz => hL z (by simp [hz])) h⟩
    rcases hy with ⟨hw, hy⟩ | hy
    · refine .inl ⟨hw, fun w' hw' => ?_⟩
      have hC : C w' := hw'.resolve_left (by simp)
      rcases hy w' (hCG w' hC) with hy | ⟨f, args, _, hr, _⟩
      · exact .inl hy
      · obtain ⟨u, hu⟩ := valueOp_run (P := P) (a := a) hv hr
        cases hu
    · exact .inr hy

theorem wpAny_of_WR {m : Array Nat} {n1 : Nat} {C : World → Prop} {E S : List Nat} (hm : m = Region.before ops) (hns : Region.noSelect ops = true) (hbk : backOk ops = true) (ht : tableOk ops m = true) (hp : pairsOk ops m E = true) (hpt : partsOk ops m A n1 ops.size = true) (hQp : ∀ c a w, ¬ Q (.panic c) a w) (hQo : ∀ a w, ¬ Q .outgrown a w)
    (hC : ∀ w, C w ↔ Grown w0 w) (hS : ∀ x ∈ S, n1 ≤ x) (hES : ∀ x, x < n1 → E.contains x = false) :
    ∀ (n : Nat) (L U : List Nat) (listed : Array Bool) (a : Act) (w : World), (L ++ S).length = n → (∀ x ∈ L, x < n1) → (L ++ S).Pairwise (· < ·) → listed.size = ops.size → (∀ j, j ∈ L ++ S ↔ listed.getD j true = false) →
    (∀ j oj, ops[j]? = some oj → listed.getD j false = true → ∀ e ∈ oj.after, Region.binds .any e = true → listed.getD e.on false = true) →
    Grown w0 w → (∀ g ∈ U, w.heap[g]? = some ob) → WR P ops w0 A ob (fun a w => WC P ops C Q E [] (sinks ops) S a w) L U a → wpAny P .any ops Q n listed a w := by
  intro n
  induction n with
  | zero =>
    intro L U listed a w hn _ _ _ hmem hcl hG hU h
    have hLS : L ++ S = [] := List.eq_nil_of_length_eq_zero hn
    obtain ⟨rfl, rfl⟩ := List.append_eq_nil_iff.1 hLS
    have hw := h w hG hU
    refine ⟨?_, hw⟩
    refine List.eq_nil_iff_forall_not_mem.2 fun j hj => ?_
    have := (hmem j).2 (mem_ready.1 hj).1
    cases this
  | succ n ih =>
    intro L U listed a w hn hL hs hsz hmem hcl hG hU h
    cases L with
    | nil =>
      exact wpAny_of_WC (C := C) (E := E) (F := []) hm hns hbk ht hp hQp hQo (n + 1) S listed a w (by simpa using hn) (by simpa using hs) hsz (by simpa using hmem) hcl (.inr ((hC w).2 hG)) (h w hG hU)
    | cons y L' =>
      refine ⟨fun h0 => ?_, fun i hi => ?_⟩
      · exfalso
        have hx := (hmem y).1 (by simp)
        have hxlt : y < ops.size := by
          by_cases hlt : y < listed.size
          · omega
          · simp [Array.getElem?_eq_none (by omega : listed.size ≤ y)] at hx
        have hr : y ∈ Region.ready .any ops listed := by
          refine mem_ready.2 ⟨hx, ops[y], by simp [hxlt], fun e he hb => ?_⟩
          have h1 := List.all_eq_true.1 hbk y (List.mem_range.2 hxlt)
          have hxo : ops[y]? = some ops[y] := by simp [hxlt]
          rw [hxo] at h1
          simp only [Option.map_some, Option.getD_some] at h1
          have h2 := (Array.all_eq_true_iff_forall_mem.1 h1) e he
          rw [hb] at h2
          simp only [Bool.not_true, Bool.false_or, decide_eq_true_eq] at h2
          cases hl : listed.getD e.on true with
          | true =>
            have hlt : e.on < listed.size := by omega
            simp [hlt] at hl ⊢; exact hl
          | false =>
            have hm := (hmem e.on).2 hl
            rcases List.mem_cons.1 hm with hm | hm
            · omega
            · have := (List.pairwise_cons.1 hs).1 e.on hm; omega
        rw [h0] at hr
        cases hr
      · obtain ⟨hun, oi, hoi, hall⟩ := mem_ready.1 hi
        have hmi := (hmem i).2 hun
        have hlt : i < ops.size := (Array.getElem?_eq_some_iff.1 hoi).1
        by_cases hiL : i ∈ y :: L'
        case neg =>
          have h1 : i ∈ S := (List.mem_append.1 hmi).resolve_left hiL
          have hin := hS i h1
          have h2 := List.all_eq_true.1 hpt i (List.mem_range.2 hlt)
          rw [decide_eq_false (by omega), Bool.false_or] at h2
          have hpure : ∀ x ∈ y :: L', E.contains x = false ∧ A.contains x = false ∧ ∃ o, ops[x]? = some o ∧ valueOp o.op = true := by
            intro x hx
            have hx1 := hL x hx
            have h3 := List.all_eq_true.1 h2 x (List.mem_range.2 hx1)
            have hxs : x < ops.size := by omega
            have hnb : (m.getD i 0).testBit x = false := by
              cases hb : (m.getD i 0).testBit x with
              | false => rfl
              | true =>
                have := table_listed ht hcl i x oi hoi hall hxs hb
                have hux := (hmem x).1 (List.mem_append.2 (.inl hx))
                rw [getD_both hux] at this
                cases this
            rw [hnb, Bool.false_or, Bool.and_eq_true] at h3
            have hxo : ops[x]? = some ops[x] := by simp [hxs]
            rw [hxo] at h3
            exact ⟨hES x hx1, by simpa using h3.1, _, hxo, by simpa using h3.2⟩
          have hw := wc_of_wr (fun w h => (hC w).1 h) (y :: L') U a w hG hU hpure h
          exact (wpAny_of_WC (C := C) (E := E) (F := []) hm hns hbk ht hp hQp hQo (n + 1) (y :: L' ++ S) listed a w hn hs hsz hmem hcl (.inr ((hC w).2 hG)) hw).2 i hi
        obtain ⟨L1, L2, hL12⟩ := List.append_of_mem hiL
        rw [hL12] at hs hL h hmem hn
        have hsa : (L1 ++ i :: (L2 ++ S)).Pairwise (· < ·) := by simpa using hs
        have hpair : ∀ x ∈ L1, ∃ ox, ops[x]? = some ox ∧ ox.apart ops oi = true := by
          intro x hx
          have hxi : x < i := (List.pairwise_append.1 hsa).2.2 x hx i (by simp)
          have hxs : x < ops.size := by omega
          have h1 := List.all_eq_true.1 (List.all_eq_true.1 hp i (List.mem_range.2 hlt)) x (List.mem_range.2 hxi)
          have hnb : (m.getD i 0).testBit x = false := by
            cases hb : (m.getD i 0).testBit x with
            | false => rfl
            | true =>
              have := table_listed ht hcl i x oi hoi hall hxs hb
              have hux := (hmem x).1 (by simp [hx])
              rw [getD_both hux] at this
              cases this
          rw [hnb] at h1
          have hxo : ops[x]? = some ops[x] := by simp [hxs]
          rw [hxo, hoi] at h1
          simp only [Bool.false_or, Bool.and_eq_true, Bool.not_eq_true'] at h1
          exact ⟨_, hxo, h1.1⟩
        have hcl' : ∀ j oj, ops[j]? = some oj → (listed.setIfInBounds i true).getD j false = true → ∀ e ∈ oj.after, Region.binds .any e = true → (listed.setIfInBounds i true).getD e.on false = true := by
          intro j oj hj hl e he hb
          by_cases hij : i = j
          · subst hij
            have : oj = oi := Option.some.inj (hj.symm.trans hoi)
            subst this
            exact getD_set_true (hall e he hb)
          · rw [getD_set_ne false hij] at hl
            exact getD_set_true (hcl j oj hj hl e he hb)
        have hs' : ((L1 ++ L2) ++ S).Pairwise (· < ·) := by
          have := List.pairwise_append.1 hsa
          rw [List.append_assoc]
          exact List.pairwise_append.2 ⟨this.1, (List.pairwise_cons.1 this.2.1).2, fun x hx y hy => this.2.2 x hx y (by simp [List.mem_append.1 hy])⟩
        have hni : i ∉ (L1 ++ L2) ++ S := by
          have := List.pairwise_append.1 hsa
          rw [List.append_assoc]
          intro hm
          rcases List.mem_append.1 hm with hm | hm
          · exact Nat.lt_irrefl _ (this.2.2 i hm i (by simp))
          · exact Nat.lt_irrefl _ ((List.pairwise_cons.1 this.2.1).1 i hm)
        have hmem' : ∀ j, j ∈ (L1 ++ L2) ++ S ↔ (listed.setIfInBounds i true).getD j true = false := by
          intro j
          by_cases hij : i = j
          · subst hij
            refine ⟨fun h => absurd h hni, fun h => ?_⟩
            simp [hsz, hlt] at h
          · rw [getD_set_ne true hij, ← hmem j]
            simp [Ne.symm hij]
        have hL' : ∀ x ∈ L1 ++ L2, x < n1 := fun x hx => hL x (by rcases List.mem_append.1 hx with hx | hx <;> simp [hx])
        have hn' : ((L1 ++ L2) ++ S).length = n := by simp at hn ⊢; omega
        have hUlt : ∀ g ∈ U, g < w.heap.size := fun g hg => (Array.getElem?_eq_some_iff.1 (hU g hg)).1
        by_cases hA : A.contains i = true
        · obtain ⟨⟨hwt, hrun⟩, hnx⟩ := pull_make hns hoi hA L2 L1 U a hpair h
          unfold wpOp
          rw [hoi]
          simp only
          rw [if_pos hwt]
          left
          unfold Oper.wp
          rw [hrun w]
          refine ih (L1 ++ L2) (w.heap.size :: U) _ _ _ hn' hL' hs' (by simp [hsz]) hmem' hcl' (Below.alloc hG hG.size _) (fun g hg => ?_) (hnx w.heap.size hG.size (fun e => Nat.lt_irrefl _ (hUlt _ e)))
          rcases List.mem_cons.1 hg with rfl | hg
          · show (w.heap.push ob)[w.heap.size]? = some ob
            simp
          · rw [Below.heap_alloc _ _ _ (hUlt g hg)]; exact hU g hg
        · have hA' : A.contains i = false := by simpa using hA
          obtain ⟨v, hy, h'⟩ := pull_step hns hoi hA' L2 L1 U a hpair h
          refine hy.run hoi hG fun w' hb => ih (L1 ++ L2) U _ _ _ hn' hL' hs' (by simp [hsz]) hmem' hcl' (hG.trans (hb.mono hG.size)) (fun g hg => ?_) h'
          rw [hb.block g (hUlt g hg)]; exact hU g hg

/-- The same over the operations themselves. -/
def WRD (P : Program) (ops : Array Oper) (w0 : World) (A : List Nat) (ob : Obj) (K : Act → World → Prop) : Nat → List Oper → List Nat → Act → Prop
  | _, [], U, a => ∀ w, Grown w0 w → (∀ g ∈ U, w.heap[g]? = some ob) → K a w
  | k, o :: rest, U, a =>
    if A.contains k then Makes P ops ob o a ∧ ∀ g, w0.heap.size ≤ g → g ∉ U → WRD P ops w0 A ob K (k + 1) rest (g :: U) (a.put o.dst (.pointer (some ⟨g, 0, none⟩)))
    else ∃ v, Steps P ops w0 o v a ∧ WRD P ops w0 A ob K (k + 1) rest U (a.put o.dst v)
theorem wr_of_wrd {K' : Act → World → Prop} (hK : ∀ a w, K a w → K' a w) : ∀ (l : List Oper) (k : Nat) (U : List Nat) (a : Act), (∀ j, j < l.length → ops[k + j]? = l[j]?) → WRD P ops w0 A ob K k l U a → WR P ops w0 A ob K' (List.range' k l.length) U a
  | [], _, _, _, _, h => fun w hG hU => hK _ _ (h w hG hU)
  | o :: l, k, U, a, hl, h => by
    have h0 : ops[k]? = some o := by simpa using hl 0 (by simp)
    have hn : ∀ j, j < l.length → ops[k + 1 + j]? = l[j]? := fun j hj => by
      have := hl (j + 1) (by simp; omega)
      simpa [Nat.add_assoc, Nat.add_comm 1 j] using this
    simp only [List.length_cons, List.range'_succ, WR]
    simp only [WRD] at h
    by_cases hA : A.contains k = true
    · rw [if_pos hA] at h ⊢
      exact ⟨o, h0, h.1, fun g hg hU => wr_of_wrd hK l (k + 1) _ _ hn (h.2 g hg hU)⟩
    · rw [if_neg hA] at h ⊢
      obtain ⟨v, hy, h⟩ := h
      exact ⟨o, v, h0, hy, wr_of_wrd hK l (k + 1) _ _ hn h⟩

def robustOk (ops : Array Oper) (A E : List Nat) (n1 : Nat) : Bool := drawOk ops E && partsOk ops (Region.before ops) A n1 ops.size && decide (n1 ≤ ops.size) && E.all fun x => decide (n1 ≤ x)
/-- One walk in the order of the text serves every order; the first n1 operations in worlds that grow, the others one behind the other. -/
theorem wp_region_R {id : Nat} {l : List Oper} {a : Act} {w : World} (n1 : Nat) (A : List Nat) (ob : Obj) (E : List Nat) (hm : P.follows .mixedOrders = true) (hB : robustOk l.toArray A E n1 = true) (hQp : ∀ c a w, ¬ Q (.panic c) a w) (hQo : ∀ a w, ¬ Q .outgrown a w)
    (h : WRD P l.toArray w.drew A ob (fun a w' => WD P l.toArray (Grown w.drew) Q E [] n1 (l.drop n1) a w') 0 (l.take n1) [] a) : (Code.region id l.toArray true).wp P Q a w := by
  simp only [robustOk, drawOk, Bool.and_eq_true, decide_eq_true_eq] at hB
  obtain ⟨⟨⟨⟨⟨⟨hns, hbk⟩, ht⟩, hp⟩, hpt⟩, hn1⟩, hEn⟩ := hB
  have hn1' : n1 ≤ l.length := by simpa using hn1
  refine wp_region_any hm ?_
  have htl : (l.take n1).length = n1 := by rw [List.length_take]; omega
  have hdl : (l.drop n1).length = l.length - n1 := List.length_drop
  have h' := wr_of_wrd (K' := fun a w' => WC P l.toArray (Grown w.drew) Q E [] (sinks l.toArray) (List.range' n1 (l.length - n1)) a w')
    (fun a w1 hh => by
      have := wc_of_wd (l.drop n1) n1 a w1 (fun j hj => by simp) hh
      rwa [hdl] at this) (l.take n1) 0 [] a (fun j hj => by rw [htl] at hj; simp [hj]) h
  rw [htl] at h'
  have hap : List.range' 0 n1 ++ List.range' n1 (l.length - n1) = List.range l.length := by
    rw [List.range_eq_range']
    have := List.range'_append (s := 0) (m := n1) (n := l.length - n1) (step := 1)
    simpa [Nat.add_sub_cancel' hn1'] using this
  have := wpAny_of_WR (P := P) (Q := Q) (A := A) (ob := ob) (w0 := w.drew) (n1 := n1) (C := Grown w.drew) (E := E) (S := List.range' n1 (l.length - n1)) rfl hns hbk ht hp hpt hQp hQo (fun _ => Iff.rfl) (fun x hx => (List.mem_range'_1.1 hx).1) (fun x hx => by
      cases hc : E.contains x with
      | false => rfl
      | true =>
        have := List.all_eq_true.1 hEn x (by simpa using hc)
        have := of_decide_eq_true this
        omega) l.length (List.range' 0 n1) [] (Array.replicate l.toArray.size false) a w.drew
    (by rw [hap]; simp) (fun x hx => by have := List.mem_range'_1.1 hx; omega) (by rw [hap]; exact List.pairwise_lt_range) (by simp)
    (fun j => by
      rw [hap, List.mem_range]
      by_cases hj : j < l.length
      · simp [hj]
      · simp [hj])
    (fun j oj _ hl => (by rw [getD_replicate_false] at hl; cases hl)) (Below.refl _ _) (fun g hg => by cases hg) h'
  simpa using this

variable {k : Nat} {rest : List Oper} {a : Act} {U : List Nat} {o : Oper} {v : Value}
theorem run_of_wpList {d : Nat} {w' : World} (hg : o.guard = none) (hq : valueOp o.op = true) (hd : o.dst = some d) (hl0 : Nat.blt d a.tmps.size = true)
    (hv : ∀ K : Act → World → Prop, (∀ a', a' = a.put (some d) v → K a' w') → wpList P #[] (Exit.then K (fun _ _ _ => False)) [o] a w') : (execOp a.eval o).run P w' = .ok (.value v) w' := by
  have hl : d < a.tmps.size := Nat.le_of_ble_eq_true hl0
  have hr := hv (fun a' w'' => a' = a.put (some d) v ∧ w'' = w') (fun a' e => ⟨e, rfl⟩)
  unfold wpList at hr
  rw [if_pos (by simp [Region.wanted, hg])] at hr
  rcases hr with hr | ⟨_, a', w'', hl⟩
  · unfold Oper.wp at hr
    have hk := fun n w'' => valueOp_run (P := P) (a := a) (w := w') hq (n := n) (w' := w'')
    generalize (execOp a.eval o).run P w' = r at hr hk ⊢
    cases r with
    | ok n w'' =>
      obtain ⟨u, rfl⟩ := hk n w'' rfl
      simp only [Oper.upon] at hr
      obtain ⟨he, rfl⟩ := hr
      rw [hd] at he
      have : u = v := by
        have h1 := congrArg (fun b : Act => b.tmps[d]?) he
        simpa [Act.put, hl] using h1
      rw [this]
    | halt z w'' => cases z <;> simp only [Oper.upon] at hr; exact absurd hr id
  · exact hl.elim
/-- A quiet operation, run as a region of its own. -/
theorem wr_w {d : Nat} (hA : A.contains k = false) (hg : o.guard = none) (hq : valueOp o.op = true) (hd : o.dst = some d) (hl0 : Nat.blt d a.tmps.size = true)
    (hv : ∀ w', Grown w0 w' → ∀ K : Act → World → Prop, (∀ a', a' = a.put (some d) v → K a' w') → wpList P #[] (Exit.then K (fun _ _ _ => False)) [o] a w')
    (h : WRD P ops w0 A ob K (k + 1) rest U (a.put (some d) v)) : WRD P ops w0 A ob K k (o :: rest) U a := by
  simp only [WRD]
  rw [if_neg (by rw [hA]; exact Bool.false_ne_true)]
  exact ⟨v, .inl ⟨by simp [Region.wanted, hg], fun w hw => .inl (run_of_wpList hg hq hd hl0 (hv w hw))⟩, by rw [hd]; exact h⟩
/-- A call. -/
theorem wr_call {f : FuncId} {args : Array Value} (hA : A.contains k = false) (hg : o.guard = none) (hi : P.inits.idxOf? f = none)
    (hr : ∀ w, (execOp a.eval o).run P w = .ok (.enter f args) w) (hc : ∀ w, Grown w0 w → Calls P f args w fun e w' => e = .returned v ∧ Below w.heap.size w w')
    (h : WRD P ops w0 A ob K (k + 1) rest U (a.put o.dst v)) : WRD P ops w0 A ob K k (o :: rest) U a := by
  simp only [WRD]
  rw [if_neg (by rw [hA]; exact Bool.false_ne_true)]
  exact ⟨v, .inl ⟨by simp [Region.wanted, hg], fun w hw => .inr ⟨f, args, hi, hr w, hc w hw⟩⟩, h⟩
/-- Memory made. -/
theorem wr_make (hA : A.contains k = true) (hg : o.guard = none) (hr : ∀ w, (execOp a.eval o).run P w = .ok (.value (.pointer (some ⟨w.heap.size, 0, none⟩))) (w.alloc ob))
    (h : ∀ g, w0.heap.size ≤ g → g ∉ U → WRD P ops w0 A ob K (k + 1) rest (g :: U) (a.put o.dst (.pointer (some ⟨g, 0, none⟩)))) : WRD P ops w0 A ob K k (o :: rest) U a := by
  simp only [WRD]
  rw [if_pos hA]
  exact ⟨⟨by simp [Region.wanted, hg], hr⟩, h⟩
theorem wr_nil (h : ∀ w, Grown w0 w → (∀ g ∈ U, w.heap[g]? = some ob) → K a w) : WRD P ops w0 A ob K k [] U a := h
end

end Go.Proofs.YtancldhincaphaaDoor
