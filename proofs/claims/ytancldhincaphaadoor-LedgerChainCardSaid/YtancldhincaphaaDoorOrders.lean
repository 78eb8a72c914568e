/- A region whose order Go leaves open and in which operations that turn the world are not put in order: one walk for each order of those. A law over any program. No condition on the program of this seat. -/
import Derived.Test.YtancldhincaphaaDoorGa
namespace Go.Proofs.YtancldhincaphaaDoor
open Go.RowKit
set_option maxRecDepth 100000

section
variable {P : Program} {ops : Array Oper} {C : World → Prop} {Q : Exit → Act → World → Prop} {E F : List Nat} {Z : Nat → Bool}

/-- Operations that turn the world by themselves: no call of a function. -/
def soloOp : Op → Bool
  | .buildSlice .. | .store .. => true
  | .call { callee := .builtin b, .. } => (match b with | .append => true | _ => false)
  | _ => false
theorem solo_run {o : Oper} {a : Act} {w w' : World} {n : Next} (hq : soloOp o.op = true) (h : (execOp a.eval o).run P w = .ok n w') : (∃ u, n = .value u) ∨ n = .skip := by
  obtain ⟨dst, op, type, pos, after, guard⟩ := o
  cases op <;> simp only [soloOp, Bool.false_eq_true] at hq <;> simp only [execOp] at h
  case buildSlice => exact .inl (val_run h)
  case store t p x =>
    simp only [Sem.run_bind] at h
    generalize Sem.run P (Instr.storeAt _ _ _) w = r at h
    cases r with
    | ok u w1 => simp only [Result.andThen_ok, Sem.run_pure] at h; injection h with h; exact .inr h.symm
    | halt z w1 => cases h
  case call c =>
    obtain ⟨callee, args, argTypes⟩ := c
    cases callee <;> simp only [Bool.false_eq_true] at hq
    case builtin b =>
      simp only [resolve, Sem.run_bind, Sem.run_pure, Result.andThen_ok, invoke] at h
      cases b <;> simp only [Bool.false_eq_true] at hq <;> exact .inl (val_run h)
theorem wpOp_all {i : Nat} {o : Oper} {a : Act} {w : World} {T : Type} {S : List T} {K : T → Act → World → Prop} (hi : ops[i]? = some o) (hs : soloOp o.op = true) (hQo : ∀ a w, ¬ Q .outgrown a w) (hQp : ∀ c a w, ¬ Q (.panic c) a w) (hne : S ≠ [])
    (h : ∀ x ∈ S, wpOp P ops Q i (K x) a w) : wpOp P ops Q i (fun a' w' => ∀ x ∈ S, K x a' w') a w := by
  obtain ⟨x0, hx0⟩ := List.exists_mem_of_ne_nil S hne
  unfold wpOp at h ⊢
  rw [hi] at h ⊢
  simp only at h ⊢
  by_cases hw : Region.wanted o (yielded ops a.tmps) = true
  · simp only [if_pos hw] at h ⊢
    left
    have h1 : ∀ x ∈ S, o.wp P a w (K x) Q := fun x hx => (h x hx).resolve_right (fun hl => by obtain ⟨_, a', w', hl⟩ := hl; exact hQo a' w' hl)
    unfold Oper.wp at h1 ⊢
    have hr := fun n w' => solo_run (P := P) (a := a) (w := w) (n := n) (w' := w') hs
    generalize (execOp a.eval o).run P w = r at h1 hr ⊢
    cases r with
    | ok n w' =>
      rcases hr n w' rfl with ⟨u, rfl⟩ | rfl
      · simp only [Oper.upon] at h1 ⊢; exact h1
      · simp only [Oper.upon] at h1 ⊢; exact h1
    | halt z w' =>
      have h0 := h1 x0 hx0
      cases z <;> simp only [Oper.upon] at h0
      exact absurd h0 (hQp _ _ _)
  · simp only [if_neg hw] at h ⊢
    exact h

theorem wpOp_every {i : Nat} {o : Oper} {a : Act} {w : World} {T : Type} {S : List T} {K : T → Act → World → Prop} (hi : ops[i]? = some o) (hs : soloOp o.op = true ∨ S.length ≤ 1) (hQo : ∀ a w, ¬ Q .outgrown a w) (hQp : ∀ c a w, ¬ Q (.panic c) a w) (hne : S ≠ [])
    (h : ∀ x ∈ S, wpOp P ops Q i (K x) a w) : wpOp P ops Q i (fun a' w' => ∀ x ∈ S, K x a' w') a w := by
  rcases hs with hs | hs
  · exact wpOp_all hi hs hQo hQp hne h
  · match S, hne, hs with
    | [x], _, _ => exact wpOp_mono (fun a' w' hk y hy => by rw [List.mem_singleton] at hy; subst hy; exact hk) (h x (by simp))
    | x :: y :: l, _, hs => simp at hs

/-- Every edge that binds stands in the table. -/
def selfOk (ops : Array Oper) (m : Array Nat) : Bool := (List.range ops.size).all fun y => !(m.getD y 0).testBit y
def edgesOk (ops : Array Oper) (m : Array Nat) : Bool := (List.range ops.size).all fun y => ((ops[y]?).map fun o => o.after.all fun e => !Region.binds .any e || (decide (e.on < ops.size) && (m.getD y 0).testBit e.on)).getD true
/-- Whatever is not put in order by the table is apart. -/
def pairsOk2 (ops : Array Oper) (m : Array Nat) : Bool :=
  (List.range ops.size).all fun y => (List.range ops.size).all fun x => decide (x = y) || (m.getD y 0).testBit x || (m.getD x 0).testBit y ||
    match ops[x]?, ops[y]? with
    | some ox, some oy => ox.apart ops oy
    | _, _ => false
/-- Operations that are put in order with all others but with those of F. -/
def sinks2 (ops : Array Oper) (F : List Nat) (i : Nat) : Bool := (List.range ops.size).all fun x => decide (x = i) || F.contains x || ((Region.before ops).getD i 0).testBit x || ((Region.before ops).getD x 0).testBit i
/-- An operation that turns the world is pulled ahead of quiet ones. -/
theorem pull_loud2 {i : Nat} {oi : Oper} (hns : Region.noSelect ops = true) (hi : ops[i]? = some oi) (hEi : E.contains i = true) (hQp : ∀ c a w, ¬ Q (.panic c) a w) (L2 : List Nat) :
    ∀ (L1 : List Nat) (a : Act) (w : World), (∀ x ∈ L1, Z i = true → F.contains x = true) → (∀ x ∈ L1, E.contains x = false ∧ ∃ ox, ops[x]? = some ox ∧ ox.apart ops oi = true) → WC P ops C Q E F Z (L1 ++ i :: L2) a w →
    wpOp P ops Q i (fun a' w' => After C F (L1 ++ L2) (Z i) w' ∧ WC P ops C Q E F Z (L1 ++ L2) a' w') a w := by
  intro L1
  induction L1 with
  | nil =>
    intro a w _ _ h
    simp only [List.nil_append, WC] at h
    rw [if_pos hEi] at h
    exact h
  | cons x L1 ih =>
    intro a w hZ hap h
    have hZx := hZ x (by simp)
    obtain ⟨hEx, ox, hx, hapx⟩ := hap x (by simp)
    obtain ⟨h1, h2, h3⟩ := Oper.apart_spec hapx
    have hsi := sel_of hns hi
    have hsx := sel_of hns hx
    simp only [List.cons_append, WC, hEx, Bool.false_eq_true, if_false] at h
    obtain ⟨o, u, ho, hyx, h⟩ := h
    have : o = ox := Option.some.inj (ho.symm.trans hx)
    subst this
    have more : ∀ w', After C F (L1 ++ L2) (Z i) w' → After C F (x :: L1 ++ L2) (Z i) w' := fun w' hh => hh.imp (fun h => ⟨by rw [List.cons_append, List.all_cons, hZx h.2, h.1]; rfl, h.2⟩) id
    have h' := ih (a.put o.dst u) w (fun z hz => hZ z (by simp [hz])) (fun z hz => hap z (by simp [hz])) h
    have onX : ∀ {D : World → Prop} (a' : Act) (v : Value), YieldsC P ops D o u a' → YieldsC P ops D o u (a'.put oi.dst v) := fun a' v hy =>
      hy.same (execOp_put o hsx a' oi.dst v h3) (wanted_put o a' oi.dst v h3)
    have fin : ∀ v w', After C F (L1 ++ L2) (Z i) w' ∧ WC P ops C Q E F Z (L1 ++ L2) ((a.put o.dst u).put oi.dst v) w' → After C F (x :: L1 ++ L2) (Z i) w' ∧ WC P ops C Q E F Z (x :: L1 ++ L2) (a.put oi.dst v) w' := by
      intro v w' ⟨hC, hw⟩
      refine ⟨more _ hC, ?_⟩
      simp only [List.cons_append, WC, hEx, Bool.false_eq_true, if_false]
      refine ⟨o, u, hx, onX a v hyx, ?_⟩
      rwa [Act.put_comm a u v h2] at hw
    unfold wpOp at h' ⊢
    rw [hi] at h' ⊢
    simp only at h' ⊢
    rw [wanted_put oi a o.dst u h1] at h'
    by_cases hw : Region.wanted oi (yielded ops a.tmps) = true
    · rw [if_pos hw] at h' ⊢
      refine h'.imp (fun h' => ?_) (fun ⟨hasks, hl⟩ => ⟨?_, hl⟩)
      · unfold Oper.wp at h' ⊢
        rw [execOp_put oi hsi a o.dst u h1] at h'
        generalize (execOp a.eval oi).run P w = r at h' ⊢
        cases r with
        | ok n w' =>
          cases n <;> simp only [Oper.upon] at h' ⊢
          case value v => exact fin v w' h'
          case skip => exact fin undef w' h'
          case defer d =>
            obtain ⟨hC, hw'⟩ := h'
            refine ⟨more _ hC, ?_⟩
            simp only [List.cons_append, WC, hEx, Bool.false_eq_true, if_false]
            have hyd : YieldsC P ops (ClassOf C F x) o u { a with defers := d :: a.defers } := hyx.same rfl rfl
            refine ⟨o, u, hx, onX _ undef hyd, ?_⟩
            rw [← Act.put_comm _ u undef h2, ← Act.put_defers]
            exact hw'
          case enter f args =>
            refine Calls.mono h' fun e w'' he => ?_
            cases e with
            | returned v => exact fin v w'' he
            | panicked c => exact absurd he (hQp c _ w'')
            | outgrown => exact he
          case row row args => exact Rows.mono h' fun v w'' he => fin v w'' he
        | halt z w' =>
          cases z <;> simp only [Oper.upon] at h' ⊢
          case panic c => exact absurd h' (hQp _ _ w')
      · unfold Oper.asks at hasks ⊢
        rw [execOp_put oi hsi a o.dst u h1] at hasks
        exact hasks
    · rw [if_neg hw] at h' ⊢
      exact fin undef w h'

/-- The list goes along the table. -/
def alongOk (m : Array Nat) : List Nat → Bool
  | [] => true
  | x :: l => l.all (fun y => !(m.getD x 0).testBit y) && alongOk m l
theorem along_pair {m : Array Nat} : ∀ {l : List Nat}, alongOk m l = true → l.Pairwise fun x y => (m.getD x 0).testBit y = false
  | [], _ => List.Pairwise.nil
  | x :: l, h => by
    simp only [alongOk, Bool.and_eq_true] at h
    refine List.pairwise_cons.2 ⟨fun y hy => ?_, along_pair h.2⟩
    have := List.all_eq_true.1 h.1 y hy
    simpa using this
/-- Whatever order the loud ones come in is the order of one of the lists. -/
def coverOk (m : Array Nat) : Nat → List (List Nat) → Bool
  | 0, fam => fam.all (·.isEmpty)
  | n + 1, fam => (fam.headD []).all fun i => ((fam.headD []).any fun j => (m.getD i 0).testBit j) ||
      (!(fam.filter fun l => l.head? == some i).isEmpty && coverOk m n ((fam.filter fun l => l.head? == some i).map (·.tail)))

theorem erase_mid {L1 L2 : List Nat} {i : Nat} (h : i ∉ L1) : (L1 ++ i :: L2).erase i = L1 ++ L2 := by
  rw [List.erase_append_right _ h, List.erase_cons_head]
theorem split_at {L : List Nat} {i : Nat} (hi : i ∈ L) : ∃ L1 L2, L = L1 ++ i :: L2 ∧ i ∉ L1 := by
  induction L with
  | nil => cases hi
  | cons x L ih =>
    by_cases h : x = i
    · subst h; exact ⟨[], L, rfl, by simp⟩
    · obtain ⟨L1, L2, rfl, h2⟩ := ih (by rcases List.mem_cons.1 hi with h' | h'; exact absurd h'.symm h; exact h')
      exact ⟨x :: L1, L2, rfl, by simp [h2, Ne.symm h]⟩

/-- What is asked of each list. -/
def Goes (P : Program) (ops : Array Oper) (C : World → Prop) (Q : Exit → Act → World → Prop) (E F : List Nat) (m : Array Nat) (n : Nat) (listed : Array Bool) (a : Act) (w : World) (L : List Nat) : Prop :=
  L.length = n ∧ L.Nodup ∧ (L.Pairwise fun x y => (m.getD x 0).testBit y = false) ∧ (∀ j, j ∈ L ↔ listed.getD j true = false) ∧ ((L.all F.contains) = true ∨ C w) ∧ WC P ops C Q E F (sinks2 ops F) L a w

theorem wpAny_of_WCs {m : Array Nat} (hm : m = Region.before ops) (hns : Region.noSelect ops = true) (hed : edgesOk ops m = true) (hse : selfOk ops m = true) (ht : tableOk ops m = true) (hp : pairsOk2 ops m = true) (hQp : ∀ c a w, ¬ Q (.panic c) a w) (hQo : ∀ a w, ¬ Q .outgrown a w) :
    ∀ (n : Nat) (fam : List (List Nat)) (k : Nat) (listed : Array Bool) (a : Act) (w : World), fam ≠ [] → (fam.length ≤ 1 ∨ ∀ i o, ops[i]? = some o → E.contains i = true → soloOp o.op = true) → coverOk m k (fam.map (·.filter E.contains)) = true → listed.size = ops.size →
    (∀ j oj, ops[j]? = some oj → listed.getD j false = true → ∀ e ∈ oj.after, Region.binds .any e = true → listed.getD e.on false = true) →
    (∀ L ∈ fam, Goes P ops C Q E F m n listed a w L) → wpAny P .any ops Q n listed a w := by
  intro n
  induction n with
  | zero =>
    intro fam k listed a w hne _ _ _ _ h
    obtain ⟨L, hL⟩ := List.exists_mem_of_ne_nil fam hne
    obtain ⟨h1, _, _, hmem, _, h⟩ := h L hL
    have : L = [] := List.eq_nil_of_length_eq_zero h1
    subst this
    refine ⟨?_, h⟩
    refine List.eq_nil_iff_forall_not_mem.2 fun j hj => ?_
    have := (hmem j).2 (mem_ready.1 hj).1
    cases this
  | succ n ih =>
    intro fam k listed a w hne hso hcov hsz hcl h
    refine ⟨fun h0 => ?_, fun i hi => ?_⟩
    · exfalso
      obtain ⟨L, hL⟩ := List.exists_mem_of_ne_nil fam hne
      obtain ⟨h1, hnd, hal, hmem, _, _⟩ := h L hL
      match L, h1 with
      | x :: L', _ =>
        have hx := (hmem x).1 (by simp)
        have hxlt : x < ops.size := by
          by_cases hlt : x < listed.size
          · omega
          · simp [Array.getElem?_eq_none (by omega : listed.size ≤ x)] at hx
        have hr : x ∈ Region.ready .any ops listed := by
          refine mem_ready.2 ⟨hx, ops[x], by simp [hxlt], fun e he hb => ?_⟩
          have h1 := List.all_eq_true.1 hed x (List.mem_range.2 hxlt)
          have hxo : ops[x]? = some ops[x] := by simp [hxlt]
          rw [hxo] at h1
          simp only [Option.map_some, Option.getD_some] at h1
          have h2 := (Array.all_eq_true_iff_forall_mem.1 h1) e he
          rw [hb] at h2
          simp only [Bool.not_true, Bool.false_or, Bool.and_eq_true, decide_eq_true_eq] at h2
          cases hl : listed.getD e.on true with
          | true =>
            have hlt : e.on < listed.size := by omega
            simp [hlt] at hl ⊢; exact hl
          | false =>
            exfalso
            have hmm := (hmem e.on).2 hl
            rcases List.mem_cons.1 hmm with hmm | hmm
            · have h3 := h2.2
              have h4 := List.all_eq_true.1 hse x (List.mem_range.2 hxlt)
              rw [hmm] at h3
              rw [h3] at h4
              cases h4
            · have := (List.pairwise_cons.1 hal).1 e.on hmm
              rw [h2.2] at this; cases this
        rw [h0] at hr
        cases hr
    · obtain ⟨hun, oi, hoi, hall⟩ := mem_ready.1 hi
      have hlt : i < ops.size := (Array.getElem?_eq_some_iff.1 hoi).1
      have hcl' : ∀ j oj, ops[j]? = some oj → (listed.setIfInBounds i true).getD j false = true → ∀ e ∈ oj.after, Region.binds .any e = true → (listed.setIfInBounds i true).getD e.on false = true := by
        intro j oj hj hl e he hb
        by_cases hij : i = j
        · subst hij
          have : oj = oi := Option.some.inj (hj.symm.trans hoi)
          subst this
          exact getD_set_true (hall e he hb)
        · rw [getD_set_ne false hij] at hl
          exact getD_set_true (hcl j oj hj hl e he hb)
      -- what each list gives
      have cut : ∀ L ∈ fam, ∃ L1 L2, L = L1 ++ i :: L2 ∧ i ∉ L1 ∧ (∀ x ∈ L1, ∃ ox, ops[x]? = some ox ∧ ox.apart ops oi = true ∧ ((m.getD i 0).testBit x = false ∧ (m.getD x 0).testBit i = false)) ∧
          (∀ a' w', ((L1 ++ L2).all F.contains = true ∨ C w') → WC P ops C Q E F (sinks2 ops F) (L1 ++ L2) a' w' → Goes P ops C Q E F m n (listed.setIfInBounds i true) a' w' (L.erase i)) := by
        intro L hL
        obtain ⟨h1, hnd, hal, hmem, hC, hw⟩ := h L hL
        obtain ⟨L1, L2, rfl, hni⟩ := split_at ((hmem i).2 hun)
        refine ⟨L1, L2, rfl, hni, fun x hx => ?_, fun a' w' hC' hw' => ?_⟩
        · have hxi : x ≠ i := fun e => hni (e ▸ hx)
          have hux := (hmem x).1 (by simp [hx])
          have hxs : x < ops.size := by
            by_cases hlt : x < listed.size
            · omega
            · simp [Array.getElem?_eq_none (by omega : listed.size ≤ x)] at hux
          have h1 := List.all_eq_true.1 (List.all_eq_true.1 hp i (List.mem_range.2 hlt)) x (List.mem_range.2 hxs)
          have hnb : (m.getD i 0).testBit x = false := by
            cases hb : (m.getD i 0).testBit x with
            | false => rfl
            | true =>
              have := table_listed ht hcl i x oi hoi hall hxs hb
              rw [getD_both hux] at this
              cases this
          have hnb2 : (m.getD x 0).testBit i = false := (List.pairwise_append.1 hal).2.2 x hx i (by simp)
          have hxo : ops[x]? = some ops[x] := by simp [hxs]
          rw [hnb, hnb2, hxo, hoi, decide_eq_false hxi] at h1
          simp only [Bool.false_or] at h1
          exact ⟨_, hxo, h1, hnb, hnb2⟩
        · rw [erase_mid hni]
          have hnd' := List.nodup_append.1 hnd
          have hni2 : i ∉ L2 := (List.nodup_cons.1 hnd'.2.1).1
          refine ⟨by simp at h1 ⊢; omega, ?_, ?_, fun j => ?_, hC', hw'⟩
          · refine List.nodup_append.2 ⟨hnd'.1, (List.nodup_cons.1 hnd'.2.1).2, fun x hx y hy => hnd'.2.2 x hx y (by simp [hy])⟩
          · have hp := List.pairwise_append.1 hal
            exact List.pairwise_append.2 ⟨hp.1, (List.pairwise_cons.1 hp.2.1).2, fun x hx y hy => hp.2.2 x hx y (by simp [hy])⟩
          · by_cases hij : i = j
            · subst hij
              refine ⟨fun h => absurd h (by simp [hni, hni2]), fun h => ?_⟩
              simp [hsz, hlt] at h
            · rw [getD_set_ne true hij, ← hmem j]
              simp [Ne.symm hij]
      have filt : ∀ L ∈ fam, E.contains i = false → (L.erase i).filter E.contains = L.filter E.contains := by
        intro L hL hE
        obtain ⟨L1, L2, rfl, hni, _⟩ := cut L hL
        rw [erase_mid hni, List.filter_append, List.filter_append, List.filter_cons_of_neg (by rw [hE]; exact Bool.false_ne_true)]
      by_cases hE : E.contains i = true
      · -- loud: the lists in which it is the first loud one
        obtain ⟨L0, hL0⟩ := List.exists_mem_of_ne_nil fam hne
        have hfirst : ∃ L0 tl, fam = L0 :: tl := by cases fam with
          | nil => exact absurd rfl hne
          | cons x l => exact ⟨x, l, rfl⟩
        obtain ⟨H0, tl0, hfam⟩ := hfirst
        have hH0 : H0 ∈ fam := by rw [hfam]; simp
        have hi0 : i ∈ H0.filter E.contains := by
          obtain ⟨_, _, _, hmem, _⟩ := h H0 hH0
          exact List.mem_filter.2 ⟨(hmem i).2 hun, hE⟩
        cases k with
        | zero =>
          exfalso
          have := List.all_eq_true.1 hcov (H0.filter E.contains) (List.mem_map.2 ⟨H0, hH0, rfl⟩)
          rw [List.isEmpty_iff] at this
          rw [this] at hi0; cases hi0
        | succ k =>
          have hc := hcov
          unfold coverOk at hc
          have hhd : ((fam.map (·.filter E.contains)).headD []) = H0.filter E.contains := by rw [hfam]; rfl
          rw [hhd] at hc
          have hc1 := List.all_eq_true.1 hc i hi0
          have hnj : ((H0.filter E.contains).any fun j => (m.getD i 0).testBit j) = false := by
            refine List.any_eq_false.2 fun j hj => ?_
            have hj0 := (List.mem_filter.1 hj).1
            obtain ⟨_, _, _, hmem, _⟩ := h H0 hH0
            have huj := (hmem j).1 hj0
            have hjs : j < ops.size := by
              by_cases hlt : j < listed.size
              · omega
              · simp [Array.getElem?_eq_none (by omega : listed.size ≤ j)] at huj
            intro hb
            have := table_listed ht hcl i j oi hoi hall hjs hb
            rw [getD_both huj] at this
            cases this
          rw [hnj, Bool.false_or, Bool.and_eq_true] at hc1
          obtain ⟨hc1, hc2⟩ := hc1
          let sub := fam.filter fun L => (L.filter E.contains).head? == some i
          have hsubm : (fam.map (·.filter E.contains)).filter (fun l => l.head? == some i) = sub.map (·.filter E.contains) := by
            rw [List.filter_map]; rfl
          have hsne : sub ≠ [] := by
            intro e
            rw [hsubm, e] at hc1
            simp at hc1
          have hsubin : ∀ L ∈ sub, L ∈ fam ∧ (L.filter E.contains).head? = some i := fun L hL => by
            have := List.mem_filter.1 hL
            exact ⟨this.1, by simpa using this.2⟩
          have one : ∀ L ∈ sub, wpOp P ops Q i (fun a' w' => Goes P ops C Q E F m n (listed.setIfInBounds i true) a' w' (L.erase i)) a w := by
            intro L hL
            obtain ⟨hLf, hhead⟩ := hsubin L hL
            obtain ⟨L1, L2, rfl, hni, hap, hgo⟩ := cut L hLf
            obtain ⟨_, _, _, _, hC, hw⟩ := h _ hLf
            have hquiet : ∀ x ∈ L1, E.contains x = false := by
              intro x hx
              cases hEx : E.contains x with
              | false => rfl
              | true =>
                exfalso
                rw [List.filter_append] at hhead
                have hxm : x ∈ L1.filter E.contains := List.mem_filter.2 ⟨hx, hEx⟩
                cases hf : L1.filter E.contains with
                | nil => rw [hf] at hxm; cases hxm
                | cons y l =>
                  rw [hf] at hhead
                  simp only [List.cons_append, List.head?_cons, Option.some.injEq] at hhead
                  have : y ∈ L1 := (List.mem_filter.1 (by rw [hf]; simp : y ∈ L1.filter E.contains)).1
                  rw [hhead] at this
                  exact hni this
            refine wpOp_mono (fun a' w' h' => hgo a' w' (h'.1.imp (fun h => h.1) id) h'.2) (pull_loud2 hns hoi hE hQp L2 L1 a w (fun x hx hz => ?_) (fun x hx => ?_) hw)
            · obtain ⟨ox, hox, _, hb1, hb2⟩ := hap x hx
              have := List.all_eq_true.1 hz x (List.mem_range.2 (Array.getElem?_eq_some_iff.1 hox).1)
              rw [← hm, hb1, hb2, decide_eq_false (fun e => hni (by rw [← e]; exact hx))] at this
              simpa using this
            · obtain ⟨ox, hox, hax, _⟩ := hap x hx
              exact ⟨hquiet x hx, ox, hox, hax⟩
          have hsl : sub.length ≤ fam.length := List.length_filter_le _ _
          refine wpOp_mono (fun a' w' h' => ?_) (wpOp_every hoi (hso.symm.imp (fun h => h i oi hoi hE) (fun h => by omega)) hQo hQp hsne one)
          refine ih (sub.map (·.erase i)) k _ a' w' (by simpa using hsne) (hso.imp (fun h => by rw [List.length_map]; omega) id) ?_ (by simp [hsz]) hcl' (fun L hL => ?_)
          · rw [hsubm, List.map_map] at hc2
            rw [List.map_map]
            have : sub.map ((fun x => x.filter E.contains) ∘ fun x => x.erase i) = sub.map ((fun x => x.tail) ∘ fun x => x.filter E.contains) := by
              refine List.map_congr_left fun L hL => ?_
              obtain ⟨hLf, hhead⟩ := hsubin L hL
              obtain ⟨L1, L2, rfl, hni, hap, _⟩ := cut L hLf
              simp only [Function.comp]
              rw [erase_mid hni]
              have hq : L1.filter E.contains = [] := by
                cases hf : L1.filter E.contains with
                | nil => rfl
                | cons y l =>
                  exfalso
                  rw [List.filter_append, hf] at hhead
                  simp only [List.cons_append, List.head?_cons, Option.some.injEq] at hhead
                  have : y ∈ L1 := (List.mem_filter.1 (by rw [hf]; simp : y ∈ L1.filter E.contains)).1
                  rw [hhead] at this
                  exact hni this
              rw [List.filter_append, List.filter_append, hq, List.filter_cons_of_pos hE]
              rfl
            rw [this]; exact hc2
          · obtain ⟨L', hL', rfl⟩ := List.mem_map.1 hL
            exact h' L' hL'
      · have hE' : E.contains i = false := by simpa using hE
        obtain ⟨L0, hL0⟩ := List.exists_mem_of_ne_nil fam hne
        have pull : ∀ L ∈ fam, ∃ v, YieldsC P ops (ClassOf C F i) oi v a ∧ Goes P ops C Q E F m n (listed.setIfInBounds i true) (a.put oi.dst v) w (L.erase i) := by
          intro L hL
          obtain ⟨L1, L2, rfl, hni, hap, hgo⟩ := cut L hL
          obtain ⟨_, _, _, _, hC, hw⟩ := h _ hL
          have hCi : ClassOf C F i w := hC.imp (fun h => List.all_eq_true.1 h i (by simp)) id
          obtain ⟨v, hy, h'⟩ := pull_quiet hns hoi hE' hQp hQo L2 L1 a w hCi (fun x hx => (let ⟨ox, hox, hap, _⟩ := hap x hx; ⟨ox, hox, hap⟩)) hw
          exact ⟨v, hy, hgo _ _ (hC.imp (fun h => List.all_eq_true.2 fun x hx => List.all_eq_true.1 h x (by rcases List.mem_append.1 hx with hx | hx <;> simp [hx])) id) h'⟩
        obtain ⟨v0, hy0, _⟩ := pull L0 hL0
        have hCi : ClassOf C F i w := by
          obtain ⟨L1, L2, rfl, hni, hap, hgo⟩ := cut L0 hL0
          obtain ⟨_, _, _, _, hC, hw⟩ := h _ hL0
          exact hC.imp (fun h => List.all_eq_true.1 h i (by simp)) id
        refine hy0.run hoi hCi (ih (fam.map (·.erase i)) k _ _ _ (by simpa using hne) (hso.imp (fun h => by rw [List.length_map]; exact h) id) ?_ (by simp [hsz]) hcl' (fun L hL => ?_))
        · rw [List.map_map]
          have : fam.map ((fun x => x.filter E.contains) ∘ fun x => x.erase i) = fam.map (fun x => x.filter E.contains) := List.map_congr_left fun L hL => filt L hL hE'
          rw [this]; exact hcov
        · obtain ⟨L', hL', rfl⟩ := List.mem_map.1 hL
          obtain ⟨v, hy, hg⟩ := pull L' hL'
          have : v = v0 := by
            rcases hy with ⟨hw, hv⟩ | ⟨hw, rfl⟩ <;> rcases hy0 with ⟨hw', hv'⟩ | ⟨hw', rfl⟩
            · exact (hv w hCi).one (hv' w hCi)
            · rw [hw] at hw'; cases hw'
            · rw [hw] at hw'; cases hw'
            · rfl
          rw [← this]; exact hg

def ordersOk (ops : Array Oper) (E : List Nat) (Os : List (List Nat)) : Bool :=
  Region.noSelect ops && edgesOk ops (Region.before ops) && selfOk ops (Region.before ops) && tableOk ops (Region.before ops) && pairsOk2 ops (Region.before ops) && (decide (Os.length ≤ 1) || E.all (fun i => ((ops[i]?).map fun o => soloOp o.op).getD true)) && !Os.isEmpty &&
  Os.all (fun L => decide (L.length = ops.size) && decide L.Nodup && L.all (fun x => decide (x < ops.size)) && (List.range ops.size).all (fun x => L.contains x) && alongOk (Region.before ops) L) && coverOk (Region.before ops) E.length (Os.map (·.filter E.contains))
/-- ONE WALK FOR EACH ORDER OF THE LOUD ONES SERVES EVERY ORDER. -/
theorem wp_region_O {id : Nat} {l : List Oper} {a : Act} {w : World} (C : World → Prop) (E F : List Nat) (Os : List (List Nat)) (hm : P.follows .mixedOrders = true) (hB : ordersOk l.toArray E Os = true) (hQp : ∀ c a w, ¬ Q (.panic c) a w) (hQo : ∀ a w, ¬ Q .outgrown a w)
    (hC : C w.drew) (h : ∀ L ∈ Os, WC P l.toArray C Q E F (sinks2 l.toArray F) L a w.drew) : (Code.region id l.toArray true).wp P Q a w := by
  simp only [ordersOk, Bool.and_eq_true] at hB
  obtain ⟨⟨⟨⟨⟨⟨⟨⟨hns, hed⟩, hse⟩, ht⟩, hp⟩, hso⟩, hne⟩, hL⟩, hcov⟩ := hB
  refine wp_region_any hm ?_
  have := wpAny_of_WCs (C := C) (E := E) (F := F) (Q := Q) (P := P) rfl hns hed hse ht hp hQp hQo l.length Os E.length (Array.replicate l.toArray.size false) a w.drew (by intro e; rw [e] at hne; cases hne) ((Bool.or_eq_true _ _ ▸ hso).imp of_decide_eq_true (fun hso i o hi hE => by
      have := List.all_eq_true.1 hso i (by simpa using hE)
      rw [hi] at this; exact this)) hcov (by simp)
    (fun j oj _ hl => (by rw [getD_replicate_false] at hl; cases hl)) (fun L hLm => by
      have h1 := List.all_eq_true.1 hL L hLm
      simp only [Bool.and_eq_true, decide_eq_true_eq] at h1
      obtain ⟨⟨⟨⟨h1, h2⟩, h3⟩, h5⟩, h4⟩ := h1
      have h3' : ∀ x ∈ L, x < l.toArray.size := fun x hx => by have := List.all_eq_true.1 h3 x hx; exact of_decide_eq_true this
      refine ⟨by simpa using h1, h2, along_pair h4, fun j => ?_, .inr hC, h L hLm⟩
      by_cases hj : j < l.length
      · have : j ∈ L := by have := List.all_eq_true.1 h5 j (List.mem_range.2 (by simpa using hj)); simpa using this
        simp [hj, this]
      · have : j ∉ L := fun hm => hj (by simpa using h3' j hm)
        simp [hj, this])
  simpa using this

variable {l : List Oper} {i : Nat} {rest : List Nat} {a : Act} {w : World} {o : Oper} {v : Value} {K : Act → World → Prop}
theorem wo_nil (h : Q .normal a w) : WC P ops C Q E F Z [] a w := h
/-- A quiet operation, run as a region of its own. -/
theorem run_of_wp1 {d : Nat} {w' : World} (hg : o.guard = none) (hq : valueOp o.op = true) (hd : o.dst = some d) (hl0 : Nat.blt d a.tmps.size = true)
    (hv : ∀ K : Act → World → Prop, (∀ a', a' = a.put (some d) v → K a' w') → wpList P #[] (Exit.then K (fun _ _ _ => False)) [o] a w') : (execOp a.eval o).run P w' = .ok (.value v) w' := by
  have hl : d < a.tmps.size := Nat.le_of_ble_eq_true hl0
  have hr := hv (fun a' w'' => a' = a.put (some d) v ∧ w'' = w') (fun a' e => ⟨e, rfl⟩)
  unfold wpList at hr
  rw [if_pos (by simp [Region.wanted, hg])] at hr
  rcases hr with hr | ⟨_, a', w'', hl⟩
  · unfold Oper.wp at hr
    have hk := fun n w'' => valueOp_run (P := P) (a := a) (w := w') hq (n := n) (w' := w'')
    generalize (execOp a.eval o).run P w' = r at hr hk ⊢
    cases r with
    | ok n w'' =>
      obtain ⟨u, rfl⟩ := hk n w'' rfl
      simp only [Oper.upon] at hr
      obtain ⟨he, rfl⟩ := hr
      rw [hd] at he
      have : u = v := by
        have h1 := congrArg (fun b : Act => b.tmps[d]?) he
        simpa [Act.put, hl] using h1
      rw [this]
    | halt z w'' => cases z <;> simp only [Oper.upon] at hr; exact absurd hr id
  · exact hl.elim
theorem wo_w {d : Nat} (ho : l[i]? = some o) (hE : E.contains i = false) (hF : F.contains i = false) (hg : o.guard = none) (hq : valueOp o.op = true) (hd : o.dst = some d) (hl0 : Nat.blt d a.tmps.size = true)
    (hv : ∀ w', C w' → ∀ K : Act → World → Prop, (∀ a', a' = a.put (some d) v → K a' w') → wpList P #[] (Exit.then K (fun _ _ _ => False)) [o] a w')
    (h : WC P l.toArray C Q E F Z rest (a.put (some d) v) w) : WC P l.toArray C Q E F Z (i :: rest) a w := by
  simp only [WC]
  rw [if_neg (by rw [hE]; exact Bool.false_ne_true)]
  exact ⟨o, v, by simpa using ho, .inl ⟨by simp [Region.wanted, hg], fun w' hC => .inl (run_of_wp1 hg hq hd hl0 (hv w' (hC.resolve_left (by rw [hF]; exact Bool.false_ne_true))))⟩, by rw [hd]; exact h⟩
/-- One that looks at no world. -/
theorem wo_f {d : Nat} (ho : l[i]? = some o) (hE : E.contains i = false) (hg : o.guard = none) (hq : valueOp o.op = true) (hd : o.dst = some d) (hl0 : Nat.blt d a.tmps.size = true)
    (hv : ∀ w', ∀ K : Act → World → Prop, (∀ a', a' = a.put (some d) v → K a' w') → wpList P #[] (Exit.then K (fun _ _ _ => False)) [o] a w')
    (h : WC P l.toArray C Q E F Z rest (a.put (some d) v) w) : WC P l.toArray C Q E F Z (i :: rest) a w := by
  simp only [WC]
  rw [if_neg (by rw [hE]; exact Bool.false_ne_true)]
  exact ⟨o, v, by simpa using ho, .inl ⟨by simp [Region.wanted, hg], fun w' _ => .inl (run_of_wp1 hg hq hd hl0 (hv w'))⟩, by rw [hd]; exact h⟩
theorem wo_loud (ho : l[i]? = some o) (hE : E.contains i = true) (hg : o.guard = none) (hQo : ∀ a w, ¬ Q .outgrown a w)
    (hK : ∀ a' w', K a' w' → After C F rest (Z i) w' ∧ WC P l.toArray C Q E F Z rest a' w')
    (h : wpList P #[] (Exit.then K Q) [o] a w) : WC P l.toArray C Q E F Z (i :: rest) a w := by
  simp only [WC]
  rw [if_pos hE]
  unfold wpOp
  have ho' : l.toArray[i]? = some o := by simpa using ho
  rw [ho']
  simp only
  rw [if_pos (by simp [Region.wanted, hg])]
  left
  unfold wpList at h
  rw [if_pos (by simp [Region.wanted, hg])] at h
  rcases h with h | ⟨_, a', w', hl⟩
  · unfold Oper.wp at h ⊢
    generalize (execOp a.eval o).run P w = r at h ⊢
    cases r with
    | ok n w' =>
      cases n <;> simp only [Oper.upon] at h ⊢
      case value u => exact hK _ _ h
      case skip => exact hK _ _ h
      case defer d => exact hK _ _ h
      case enter f args => exact Calls.mono h fun e w'' he => by
                            cases e with
                            | returned u => exact hK _ _ he
                            | panicked c => exact he
                            | outgrown => exact he
      case row row args => exact Rows.mono h fun _ _ he => hK _ _ he
    | halt z w' => cases z <;> simp only [Oper.upon] at h ⊢ <;> exact h
  · exact absurd hl (hQo a' w')
/-- A loud operation; the class holds behind it. -/
theorem wo_l (ho : l[i]? = some o) (hE : E.contains i = true) (hg : o.guard = none) (hQo : ∀ a w, ¬ Q .outgrown a w)
    (h : wpList P #[] (Exit.then (fun a' w' => C w' ∧ WC P l.toArray C Q E F Z rest a' w') Q) [o] a w) : WC P l.toArray C Q E F Z (i :: rest) a w :=
  wo_loud ho hE hg hQo (fun _ _ hk => ⟨.inr hk.1, hk.2⟩) h
/-- Nothing behind it looks at the world. -/
theorem wo_late (ho : l[i]? = some o) (hE : E.contains i = true) (hZ : Z i = true) (hF : rest.all F.contains = true) (hg : o.guard = none) (hQo : ∀ a w, ¬ Q .outgrown a w)
    (h : wpList P #[] (Exit.then (fun a' w' => WC P l.toArray C Q E F Z rest a' w') Q) [o] a w) : WC P l.toArray C Q E F Z (i :: rest) a w :=
  wo_loud ho hE hg hQo (fun _ _ hk => ⟨.inl ⟨hF, hZ⟩, hk⟩) h
end

end Go.Proofs.YtancldhincaphaaDoor
