/- A region whose order Go leaves open, walked once in the order of its text: a law over any program. Operations that yield one value in every world of a class C may stand anywhere; the others are put in order by the region's own edges. No condition on the program of this seat. -/
import Derived.Test.YtipigpeccegjgaaDoorProg
import Derived.WalkKit
import Derived.Orders
import Derived.StillTail
namespace Go.Proofs.YtipigpeccegjgaaDoor
open Go.RowKit

section
variable {P : Program} {ops : Array Oper} {C : World → Prop} {Q : Exit → Act → World → Prop} {E F : List Nat} {Z : Nat → Bool}

/-- In every world of the class the operation yields v and leaves the world alone; or it is passed over. -/
def YieldsC (P : Program) (ops : Array Oper) (C : World → Prop) (o : Oper) (v : Value) (a : Act) : Prop :=
  (Region.wanted o (yielded ops a.tmps) = true ∧ ∀ w, C w → (execOp a.eval o).run P w = .ok (.value v) w) ∨
  (Region.wanted o (yielded ops a.tmps) = false ∧ v = undef)

theorem YieldsC.same {o : Oper} {v : Value} {a a' : Act} (hy : YieldsC P ops C o v a) (he : execOp a'.eval o = execOp a.eval o)
    (hw : Region.wanted o (yielded ops a'.tmps) = Region.wanted o (yielded ops a.tmps)) : YieldsC P ops C o v a' := by
  unfold YieldsC at hy ⊢
  rw [he, hw]
  exact hy

theorem YieldsC.run {i : Nat} {o : Oper} {v : Value} {a : Act} {K : Act → World → Prop} {w : World} (hi : ops[i]? = some o) (hy : YieldsC P ops C o v a) (hC : C w) (h : K (a.put o.dst v) w) :
    wpOp P ops Q i K a w := by
  unfold wpOp
  rw [hi]
  simp only
  rcases hy with ⟨hw, hv⟩ | ⟨hw, rfl⟩
  · rw [if_pos hw]; left; unfold Oper.wp; rw [hv w hC]; exact h
  · rw [if_neg (by rw [hw]; exact Bool.false_ne_true)]; exact h

/-- The class of worlds of an operation: F names those that no world can turn. -/
def ClassOf (C : World → Prop) (F : List Nat) (i : Nat) (w : World) : Prop := F.contains i = true ∨ C w
/-- What is asked of the world behind a loud operation: the class, or that nothing of the rest looks at the world. -/
def After (C : World → Prop) (F : List Nat) (rest : List Nat) (z : Bool) (w : World) : Prop := ((rest.all F.contains) = true ∧ z = true) ∨ C w
theorem After.at {C : World → Prop} {F rest : List Nat} {z : Bool} {w : World} (h : After C F rest z w) {i : Nat} (hi : i ∈ rest) : ClassOf C F i w := h.imp (fun h => List.all_eq_true.1 h.1 i hi) id
theorem After.sub {C : World → Prop} {F rest rest' : List Nat} {z : Bool} {w : World} (h : After C F rest z w) (hs : ∀ x ∈ rest', x ∈ rest) : After C F rest' z w :=
  h.imp (fun h => ⟨List.all_eq_true.2 fun x hx => List.all_eq_true.1 h.1 x (hs x hx), h.2⟩) id

/-- The rest of a region, in the order of the list: E names the operations that may turn the world. -/
def WC (P : Program) (ops : Array Oper) (C : World → Prop) (Q : Exit → Act → World → Prop) (E F : List Nat) (Z : Nat → Bool) : List Nat → Act → World → Prop
  | [], a, w => Q .normal a w
  | i :: rest, a, w =>
    if E.contains i then wpOp P ops Q i (fun a' w' => After C F rest (Z i) w' ∧ WC P ops C Q E F Z rest a' w') a w
    else ∃ o v, ops[i]? = some o ∧ YieldsC P ops (ClassOf C F i) o v a ∧ WC P ops C Q E F Z rest (a.put o.dst v) w

/-- y waits for x, by the region's edges, one behind the other: m is a table of who waits for whom. -/
def tableOk (ops : Array Oper) (m : Array Nat) : Bool :=
  (List.range ops.size).all fun y => (List.range ops.size).all fun x => !(m.getD y 0).testBit x ||
    ((ops[y]?).map fun o => o.after.any fun e => Region.binds .any e && decide (e.on < y) && (e.on == x || (m.getD e.on 0).testBit x)).getD false

/-- Whatever is not put in order by the edges is apart, and one of the two is quiet. -/
def pairsOk (ops : Array Oper) (m : Array Nat) (E : List Nat) : Bool :=
  (List.range ops.size).all fun y => (List.range y).all fun x => (m.getD y 0).testBit x ||
    match ops[x]?, ops[y]? with
    | some ox, some oy => ox.apart ops oy && !(E.contains x && E.contains y)
    | _, _ => false

/-- Every edge that binds leads back. -/
def backOk (ops : Array Oper) : Bool :=
  (List.range ops.size).all fun y => ((ops[y]?).map fun o => o.after.all fun e => !Region.binds .any e || decide (e.on < y)).getD true

def drawOk (ops : Array Oper) (E : List Nat) : Bool :=
  Region.noSelect ops && backOk ops && tableOk ops (Region.before ops) && pairsOk ops (Region.before ops) E

theorem sel_of {i : Nat} {o : Oper} (h : Region.noSelect ops = true) (hi : ops[i]? = some o) : ∀ cs b, o.op ≠ .select cs b := fun cs b => Region.noSelect_spec h i o cs b hi

theorem table_listed {m : Array Nat} (hm : tableOk ops m = true) {listed : Array Bool} (hcl : ∀ j oj, ops[j]? = some oj → listed.getD j false = true → ∀ e ∈ oj.after, Region.binds .any e = true → listed.getD e.on false = true) :
    ∀ (y x : Nat) (oy : Oper), ops[y]? = some oy → (∀ e ∈ oy.after, Region.binds .any e = true → listed.getD e.on false = true) → x < ops.size → (m.getD y 0).testBit x = true → listed.getD x false = true := by
  intro y
  induction y using Nat.strongRecOn with
  | ind y ih =>
    intro x oy hy hall hx hb
    have hlt : y < ops.size := (Array.getElem?_eq_some_iff.1 hy).1
    have h1 := List.all_eq_true.1 (List.all_eq_true.1 hm y (List.mem_range.2 hlt)) x (List.mem_range.2 hx)
    rw [hb] at h1
    simp only [Bool.not_true, Bool.false_or, hy, Option.map_some, Option.getD_some] at h1
    obtain ⟨e, he, h2⟩ := Array.any_eq_true'.1 h1
    simp only [Bool.and_eq_true, decide_eq_true_eq, Bool.or_eq_true, beq_iff_eq] at h2
    obtain ⟨⟨hbe, hlt2⟩, h3⟩ := h2
    have hl := hall e he hbe
    rcases h3 with h3 | h3
    · rw [← h3]; exact hl
    · have hs : e.on < ops.size := by omega
      exact ih e.on hlt2 x ops[e.on] (by simp [hs]) (fun e' he' hb' => hcl e.on _ (by simp [hs]) hl e' he' hb') hx h3

/-- A quiet operation further back is pulled ahead. -/
theorem pull_quiet {i : Nat} {oi : Oper} (hns : Region.noSelect ops = true) (hi : ops[i]? = some oi) (hEi : E.contains i = false) (hQp : ∀ c a w, ¬ Q (.panic c) a w) (hQo : ∀ a w, ¬ Q .outgrown a w) (L2 : List Nat) :
    ∀ (L1 : List Nat) (a : Act) (w : World), ClassOf C F i w → (∀ x ∈ L1, ∃ ox, ops[x]? = some ox ∧ ox.apart ops oi = true) → WC P ops C Q E F Z (L1 ++ i :: L2) a w →
    ∃ v, YieldsC P ops (ClassOf C F i) oi v a ∧ WC P ops C Q E F Z (L1 ++ L2) (a.put oi.dst v) w := by
  intro L1
  induction L1 with
  | nil =>
    intro a w _ _ h
    simp only [List.nil_append, WC, hEi, Bool.false_eq_true, if_false] at h
    obtain ⟨o, v, ho, hy, h⟩ := h
    have : o = oi := Option.some.inj (ho.symm.trans hi)
    subst this
    exact ⟨v, hy, h⟩
  | cons x L1 ih =>
    intro a w hC hap h
    obtain ⟨ox, hx, hapx⟩ := hap x (by simp)
    obtain ⟨h1, h2, h3⟩ := Oper.apart_spec hapx
    have hsi := sel_of hns hi
    have hsx := sel_of hns hx
    have back : ∀ {D : World → Prop} {v : Value} (u : Value) (a : Act), YieldsC P ops D oi v (a.put ox.dst u) → YieldsC P ops D oi v a := fun u a hy =>
      hy.same (execOp_put oi hsi a ox.dst u h1).symm (wanted_put oi a ox.dst u h1).symm
    have onX : ∀ {D : World → Prop} {v : Value} (u : Value) (a : Act), YieldsC P ops D ox v a → YieldsC P ops D ox v (a.put oi.dst u) := fun u a hy =>
      hy.same (execOp_put ox hsx a oi.dst u h3) (wanted_put ox a oi.dst u h3)
    simp only [List.cons_append, WC] at h
    by_cases hE : E.contains x = true
    · rw [if_pos hE] at h
      -- the value that oi yields does not hang on what x did
      have key : ∀ u w', After C F (L1 ++ i :: L2) (Z x) w' → WC P ops C Q E F Z (L1 ++ i :: L2) (a.put ox.dst u) w' → ∃ v, YieldsC P ops (ClassOf C F i) oi v a ∧ WC P ops C Q E F Z (L1 ++ L2) ((a.put oi.dst v).put ox.dst u) w' := by
        intro u w' hC' h'
        obtain ⟨v, hy, h''⟩ := ih (a.put ox.dst u) w' (hC'.at (by simp)) (fun z hz => hap z (by simp [hz])) h'
        refine ⟨v, back u a hy, ?_⟩
        rwa [Act.put_comm a u v h2] at h''
      have less : ∀ w', After C F (L1 ++ i :: L2) (Z x) w' → After C F (L1 ++ L2) (Z x) w' := fun w' h => h.sub (by intro y hy; rcases List.mem_append.1 hy with hy | hy <;> simp [hy])
      have uniq : ∀ v v', YieldsC P ops (ClassOf C F i) oi v a → YieldsC P ops (ClassOf C F i) oi v' a → v = v' := by
        intro v v' hy hy'
        rcases hy with ⟨hw, hv⟩ | ⟨hw, rfl⟩ <;> rcases hy' with ⟨hw', hv'⟩ | ⟨hw', rfl⟩
        · have := (hv w hC).symm.trans (hv' w hC)
          injection this with this
          injection this
        · rw [hw] at hw'; cases hw'
        · rw [hw] at hw'; cases hw'
        · rfl
      unfold wpOp at h
      rw [hx] at h
      simp only at h
      by_cases hw : Region.wanted ox (yielded ops a.tmps) = true
      · rw [if_pos hw] at h
        rcases h with h | ⟨_, a', w', hl⟩
        case inr => exact absurd hl (hQo a' w')
        -- there is a world behind x
        have some_v : ∃ v, YieldsC P ops (ClassOf C F i) oi v a := by
          unfold Oper.wp at h
          generalize (execOp a.eval ox).run P w = r at h
          cases r with
          | ok n w' =>
            cases n <;> simp only [Oper.upon] at h
            case value u => obtain ⟨v, hy, _⟩ := key u w' h.1 h.2; exact ⟨v, hy⟩
            case skip => obtain ⟨v, hy, _⟩ := key undef w' h.1 h.2; exact ⟨v, hy⟩
            case defer d =>
              obtain ⟨v, hy, _⟩ := ih _ w' (h.1.at (by simp)) (fun z hz => hap z (by simp [hz])) h.2
              have hy2 : YieldsC P ops (ClassOf C F i) oi v (a.put ox.dst undef) := by
                refine hy.same ?_ ?_ <;> (cases ox.dst <;> rfl)
              exact ⟨v, back undef a hy2⟩
            case enter f args =>
              obtain ⟨e, w'', fr, hR, _⟩ := h []
              cases e with
              | returned u => obtain ⟨v, hy, _⟩ := key u w'' hR.1 hR.2; exact ⟨v, hy⟩
              | panicked c => exact absurd hR (hQp c a w'')
              | outgrown => obtain ⟨a', w', hl⟩ := hR; exact absurd hl (hQo a' w')
            case row row args =>
              obtain ⟨u, w'', hR, _⟩ := h default []
              obtain ⟨v, hy, _⟩ := key u w'' hR.1 hR.2; exact ⟨v, hy⟩
          | halt x w' =>
            cases x <;> simp only [Oper.upon] at h
            case panic c => exact absurd h (hQp _ a w')
        obtain ⟨v, hyv⟩ := some_v
        refine ⟨v, hyv, ?_⟩
        simp only [List.cons_append, WC]
        rw [if_pos hE]
        unfold wpOp
        rw [hx]
        simp only
        rw [if_pos (by rw [wanted_put ox a oi.dst v h3]; exact hw)]
        left
        unfold Oper.wp at h ⊢
        rw [execOp_put ox hsx a oi.dst v h3]
        have fin : ∀ u w', After C F (L1 ++ i :: L2) (Z x) w' → WC P ops C Q E F Z (L1 ++ i :: L2) (a.put ox.dst u) w' → WC P ops C Q E F Z (L1 ++ L2) ((a.put oi.dst v).put ox.dst u) w' := by
          intro u w' hC' h'
          obtain ⟨v', hy', h''⟩ := key u w' hC' h'
          rw [uniq v v' hyv hy']; exact h''
        generalize (execOp a.eval ox).run P w = r at h ⊢
        cases r with
        | ok n w' =>
          cases n <;> simp only [Oper.upon] at h ⊢
          case value u => exact ⟨less _ h.1, fin u w' h.1 h.2⟩
          case skip => exact ⟨less _ h.1, fin undef w' h.1 h.2⟩
          case defer d =>
            refine ⟨less _ h.1, ?_⟩
            obtain ⟨v', hy', h''⟩ := ih _ w' (h.1.at (by simp)) (fun z hz => hap z (by simp [hz])) h.2
            have hy2 : YieldsC P ops (ClassOf C F i) oi v' (a.put ox.dst undef) := by
              refine hy'.same ?_ ?_ <;> (cases ox.dst <;> rfl)
            have := uniq v v' hyv (back undef a hy2)
            subst this
            rw [Act.put_defers, ← Act.put_comm _ undef v h2]
            exact h''
          case enter f args =>
            refine Calls.mono h fun e w'' he => ?_
            cases e with
            | returned u => exact ⟨less _ he.1, fin u w'' he.1 he.2⟩
            | panicked c => exact absurd he (hQp c a w'')
            | outgrown => exact he
          case row row args => exact Rows.mono h fun u w'' he => ⟨less _ he.1, fin u w'' he.1 he.2⟩
        | halt x w' =>
          cases x <;> simp only [Oper.upon] at h ⊢
          case panic c => exact absurd h (hQp _ a w')
      · rw [if_neg hw] at h
        obtain ⟨v, hy, h''⟩ := key undef w h.1 h.2
        refine ⟨v, hy, ?_⟩
        simp only [List.cons_append, WC]
        rw [if_pos hE]
        unfold wpOp
        rw [hx]
        simp only
        rw [if_neg (by rw [wanted_put ox a oi.dst v h3]; exact hw)]
        exact ⟨less _ h.1, h''⟩
    · rw [if_neg hE] at h
      obtain ⟨o, u, ho, hyx, h⟩ := h
      have : o = ox := Option.some.inj (ho.symm.trans hx)
      subst this
      obtain ⟨v, hy, h''⟩ := ih (a.put o.dst u) w hC (fun z hz => hap z (by simp [hz])) h
      refine ⟨v, back u a hy, ?_⟩
      simp only [List.cons_append, WC]
      rw [if_neg hE]
      refine ⟨o, u, hx, onX v a hyx, ?_⟩
      rwa [Act.put_comm a u v h2] at h''

/-- An operation that turns the world is pulled ahead of quiet ones. -/
theorem pull_loud {i : Nat} {oi : Oper} (hns : Region.noSelect ops = true) (hi : ops[i]? = some oi) (hEi : E.contains i = true) (hQp : ∀ c a w, ¬ Q (.panic c) a w) (L2 : List Nat) :
    ∀ (L1 : List Nat) (a : Act) (w : World), (L1 ≠ [] → Z i = false) → (∀ x ∈ L1, E.contains x = false ∧ ∃ ox, ops[x]? = some ox ∧ ox.apart ops oi = true) → WC P ops C Q E F Z (L1 ++ i :: L2) a w →
    wpOp P ops Q i (fun a' w' => After C F (L1 ++ L2) (Z i) w' ∧ WC P ops C Q E F Z (L1 ++ L2) a' w') a w := by
  intro L1
  induction L1 with
  | nil =>
    intro a w _ _ h
    simp only [List.nil_append, WC] at h
    rw [if_pos hEi] at h
    exact h
  | cons x L1 ih =>
    intro a w hZ hap h
    have hZi : Z i = false := hZ (by simp)
    obtain ⟨hEx, ox, hx, hapx⟩ := hap x (by simp)
    obtain ⟨h1, h2, h3⟩ := Oper.apart_spec hapx
    have hsi := sel_of hns hi
    have hsx := sel_of hns hx
    simp only [List.cons_append, WC, hEx, Bool.false_eq_true, if_false] at h
    obtain ⟨o, u, ho, hyx, h⟩ := h
    have : o = ox := Option.some.inj (ho.symm.trans hx)
    subst this
    have h' := wpOp_mono (K' := fun a' w' => C w' ∧ WC P ops C Q E F Z (L1 ++ L2) a' w') (fun a' w' hh => ⟨hh.1.resolve_left (by rw [hZi]; simp), hh.2⟩) (ih (a.put o.dst u) w (fun _ => hZi) (fun z hz => hap z (by simp [hz])) h)
    have onX : ∀ {D : World → Prop} (a' : Act) (v : Value), YieldsC P ops D o u a' → YieldsC P ops D o u (a'.put oi.dst v) := fun a' v hy =>
      hy.same (execOp_put o hsx a' oi.dst v h3) (wanted_put o a' oi.dst v h3)
    have fin : ∀ v w', C w' ∧ WC P ops C Q E F Z (L1 ++ L2) ((a.put o.dst u).put oi.dst v) w' → After C F (x :: L1 ++ L2) (Z i) w' ∧ WC P ops C Q E F Z (x :: L1 ++ L2) (a.put oi.dst v) w' := by
      intro v w' ⟨hC, hw⟩
      refine ⟨.inr hC, ?_⟩
      simp only [List.cons_append, WC, hEx, Bool.false_eq_true, if_false]
      refine ⟨o, u, hx, onX a v hyx, ?_⟩
      rwa [Act.put_comm a u v h2] at hw
    unfold wpOp at h' ⊢
    rw [hi] at h' ⊢
    simp only at h' ⊢
    rw [wanted_put oi a o.dst u h1] at h'
    by_cases hw : Region.wanted oi (yielded ops a.tmps) = true
    · rw [if_pos hw] at h' ⊢
      refine h'.imp (fun h' => ?_) (fun ⟨hasks, hl⟩ => ⟨?_, hl⟩)
      · unfold Oper.wp at h' ⊢
        rw [execOp_put oi hsi a o.dst u h1] at h'
        generalize (execOp a.eval oi).run P w = r at h' ⊢
        cases r with
        | ok n w' =>
          cases n <;> simp only [Oper.upon] at h' ⊢
          case value v => exact fin v w' h'
          case skip => exact fin undef w' h'
          case defer d =>
            obtain ⟨hC, hw'⟩ := h'
            refine ⟨.inr hC, ?_⟩
            simp only [List.cons_append, WC, hEx, Bool.false_eq_true, if_false]
            have hyd : YieldsC P ops (ClassOf C F x) o u { a with defers := d :: a.defers } := hyx.same rfl rfl
            refine ⟨o, u, hx, onX _ undef hyd, ?_⟩
            rw [← Act.put_comm _ u undef h2, ← Act.put_defers]
            exact hw'
          case enter f args =>
            refine Calls.mono h' fun e w'' he => ?_
            cases e with
            | returned v => exact fin v w'' he
            | panicked c => exact absurd he (hQp c _ w'')
            | outgrown => exact he
          case row row args => exact Rows.mono h' fun v w'' he => fin v w'' he
        | halt z w' =>
          cases z <;> simp only [Oper.upon] at h' ⊢
          case panic c => exact absurd h' (hQp _ _ w')
      · unfold Oper.asks at hasks ⊢
        rw [execOp_put oi hsi a o.dst u h1] at hasks
        exact hasks
    · rw [if_neg hw] at h' ⊢
      exact fin undef w h'

/-- Operations that wait for all that stand ahead of them. -/
def sinks (ops : Array Oper) (i : Nat) : Bool := (List.range i).all fun x => ((Region.before ops).getD i 0).testBit x

theorem wpAny_of_WC {m : Array Nat} (hm : m = Region.before ops) (hns : Region.noSelect ops = true) (hbk : backOk ops = true) (ht : tableOk ops m = true) (hp : pairsOk ops m E = true) (hQp : ∀ c a w, ¬ Q (.panic c) a w) (hQo : ∀ a w, ¬ Q .outgrown a w) :
    ∀ (n : Nat) (L : List Nat) (listed : Array Bool) (a : Act) (w : World), L.length = n → L.Pairwise (· < ·) → listed.size = ops.size → (∀ j, j ∈ L ↔ listed.getD j true = false) →
    (∀ j oj, ops[j]? = some oj → listed.getD j false = true → ∀ e ∈ oj.after, Region.binds .any e = true → listed.getD e.on false = true) →
    ((L.all F.contains) = true ∨ C w) → WC P ops C Q E F (sinks ops) L a w → wpAny P .any ops Q n listed a w := by
  intro n
  induction n with
  | zero =>
    intro L listed a w hn _ _ hmem _ _ h
    have : L = [] := List.eq_nil_of_length_eq_zero hn
    subst this
    refine ⟨?_, h⟩
    refine List.eq_nil_iff_forall_not_mem.2 fun j hj => ?_
    have := (hmem j).2 (mem_ready.1 hj).1
    cases this
  | succ n ih =>
    intro L listed a w hn hs hsz hmem hcl hC h
    refine ⟨fun h0 => ?_, fun i hi => ?_⟩
    · -- the first of the list is ready
      exfalso
      match L, hn with
      | x :: L', _ =>
        have hx := (hmem x).1 (by simp)
        have hxlt : x < ops.size := by
          by_cases hlt : x < listed.size
          · omega
          · simp [Array.getElem?_eq_none (by omega : listed.size ≤ x)] at hx
        have hr : x ∈ Region.ready .any ops listed := by
          refine mem_ready.2 ⟨hx, ops[x], by simp [hxlt], fun e he hb => ?_⟩
          -- an edge of x leads back to one that is listed: it lies ahead of x, by the table of pairs
          have h1 := List.all_eq_true.1 hbk x (List.mem_range.2 hxlt)
          have hxo : ops[x]? = some ops[x] := by simp [hxlt]
          rw [hxo] at h1
          simp only [Option.map_some, Option.getD_some] at h1
          have h2 := (Array.all_eq_true_iff_forall_mem.1 h1) e he
          rw [hb] at h2
          simp only [Bool.not_true, Bool.false_or, decide_eq_true_eq] at h2
          cases hl : listed.getD e.on true with
          | true =>
            have hlt : e.on < listed.size := by omega
            simp [hlt] at hl ⊢; exact hl
          | false =>
            have hm := (hmem e.on).2 hl
            rcases List.mem_cons.1 hm with hm | hm
            · omega
            · have := (List.pairwise_cons.1 hs).1 e.on hm; omega
        rw [h0] at hr
        cases hr
    · obtain ⟨hun, oi, hoi, hall⟩ := mem_ready.1 hi
      have hmi := (hmem i).2 hun
      obtain ⟨L1, L2, rfl⟩ := List.append_of_mem hmi
      have hlt : i < ops.size := (Array.getElem?_eq_some_iff.1 hoi).1
      have hpair : ∀ x ∈ L1, ∃ ox, ops[x]? = some ox ∧ ox.apart ops oi = true ∧ (E.contains x && E.contains i) = false ∧ (m.getD i 0).testBit x = false := by
        intro x hx
        have hxi : x < i := by
          have := List.pairwise_append.1 hs
          exact this.2.2 x hx i (by simp)
        have hxs : x < ops.size := by omega
        have h1 := List.all_eq_true.1 (List.all_eq_true.1 hp i (List.mem_range.2 hlt)) x (List.mem_range.2 hxi)
        have hnb : (m.getD i 0).testBit x = false := by
          cases hb : (m.getD i 0).testBit x with
          | false => rfl
          | true =>
            have := table_listed ht hcl i x oi hoi hall hxs hb
            have hux := (hmem x).1 (by simp [hx])
            rw [getD_both hux] at this
            cases this
        rw [hnb] at h1
        have hxo : ops[x]? = some ops[x] := by simp [hxs]
        rw [hxo, hoi] at h1
        simp only [Bool.false_or, Bool.and_eq_true, Bool.not_eq_true'] at h1
        exact ⟨_, hxo, h1.1, h1.2, hnb⟩
      have hcl' : ∀ j oj, ops[j]? = some oj → (listed.setIfInBounds i true).getD j false = true → ∀ e ∈ oj.after, Region.binds .any e = true → (listed.setIfInBounds i true).getD e.on false = true := by
        intro j oj hj hl e he hb
        by_cases hij : i = j
        · subst hij
          have : oj = oi := Option.some.inj (hj.symm.trans hoi)
          subst this
          exact getD_set_true (hall e he hb)
        · rw [getD_set_ne false hij] at hl
          exact getD_set_true (hcl j oj hj hl e he hb)
      have hs' : (L1 ++ L2).Pairwise (· < ·) := by
        have := List.pairwise_append.1 hs
        refine List.pairwise_append.2 ⟨this.1, (List.pairwise_cons.1 this.2.1).2, fun x hx y hy => this.2.2 x hx y (by simp [hy])⟩
      have hni : i ∉ L1 ++ L2 := by
        have := List.pairwise_append.1 hs
        intro hm
        rcases List.mem_append.1 hm with hm | hm
        · exact Nat.lt_irrefl _ (this.2.2 i hm i (by simp))
        · exact Nat.lt_irrefl _ ((List.pairwise_cons.1 this.2.1).1 i hm)
      have hmem' : ∀ j, j ∈ L1 ++ L2 ↔ (listed.setIfInBounds i true).getD j true = false := by
        intro j
        by_cases hij : i = j
        · subst hij
          refine ⟨fun h => absurd h hni, fun h => ?_⟩
          simp [hsz, hlt] at h
        · rw [getD_set_ne true hij, ← hmem j]
          simp [Ne.symm hij]
      have hCi : ClassOf C F i w := hC.imp (fun h => List.all_eq_true.1 h i (by simp)) id
      have hnext : ∀ a' w', (((L1 ++ L2).all F.contains) = true ∨ C w') ∧ WC P ops C Q E F (sinks ops) (L1 ++ L2) a' w' → wpAny P .any ops Q n (listed.setIfInBounds i true) a' w' := fun a' w' h' =>
        ih (L1 ++ L2) _ a' w' (by simp at hn ⊢; omega) hs' (by simp [hsz]) hmem' hcl' h'.1 h'.2
      by_cases hE : E.contains i = true
      · refine wpOp_mono (fun a' w' h' => hnext a' w' ⟨h'.1.imp (fun h => h.1) id, h'.2⟩) (pull_loud hns hoi hE hQp L2 L1 a w (fun hne => ?_) (fun x hx => ?_) h)
        · obtain ⟨x, L1', rfl⟩ := List.exists_cons_of_ne_nil hne
          obtain ⟨_, _, _, _, hnb⟩ := hpair x (by simp)
          have hxi : x < i := (List.pairwise_append.1 hs).2.2 x (by simp) i (by simp)
          cases hz : sinks ops i with
          | false => rfl
          | true =>
            have := List.all_eq_true.1 hz x (List.mem_range.2 hxi)
            rw [← hm] at this
            rw [hnb] at this; cases this
        obtain ⟨ox, hox, hap, hee, _⟩ := hpair x hx
        refine ⟨?_, ox, hox, hap⟩
        rw [hE] at hee
        simpa using hee
      · have hE' : E.contains i = false := by simpa using hE
        obtain ⟨v, hy, h'⟩ := pull_quiet hns hoi hE' hQp hQo L2 L1 a w hCi (fun x hx => (let ⟨ox, hox, hap, _⟩ := hpair x hx; ⟨ox, hox, hap⟩)) h
        exact hy.run hoi hCi (hnext _ _ ⟨hC.imp (fun h => List.all_eq_true.2 fun x hx => List.all_eq_true.1 h x (by rcases List.mem_append.1 hx with hx | hx <;> simp [hx])) id, h'⟩)

/-- The same over the operations themselves. -/
def WD (P : Program) (ops : Array Oper) (C : World → Prop) (Q : Exit → Act → World → Prop) (E F : List Nat) : Nat → List Oper → Act → World → Prop
  | _, [], a, w => Q .normal a w
  | k, o :: rest, a, w =>
    if E.contains k then
      (if Region.wanted o (yielded ops a.tmps) then o.wp P a w (fun a' w' => After C F (List.range' (k + 1) rest.length) (sinks ops k) w' ∧ WD P ops C Q E F (k + 1) rest a' w') Q else C w ∧ WD P ops C Q E F (k + 1) rest (a.put o.dst undef) w)
    else ∃ v, YieldsC P ops (ClassOf C F k) o v a ∧ WD P ops C Q E F (k + 1) rest (a.put o.dst v) w

theorem wc_of_wd : ∀ (l : List Oper) (k : Nat) (a : Act) (w : World), (∀ j, j < l.length → ops[k + j]? = l[j]?) → WD P ops C Q E F k l a w → WC P ops C Q E F (sinks ops) (List.range' k l.length) a w
  | [], _, _, _, _, h => h
  | o :: l, k, a, w, hl, h => by
    have h0 : ops[k]? = some o := by simpa using hl 0 (by simp)
    have hn : ∀ j, j < l.length → ops[k + 1 + j]? = l[j]? := fun j hj => by
      have := hl (j + 1) (by simp; omega)
      simpa [Nat.add_assoc, Nat.add_comm 1 j] using this
    simp only [List.length_cons, List.range'_succ, WC]
    simp only [WD] at h
    by_cases hE : E.contains k = true
    · rw [if_pos hE] at h ⊢
      unfold wpOp
      rw [h0]
      simp only
      by_cases hw : Region.wanted o (yielded ops a.tmps) = true
      · rw [if_pos hw] at h ⊢
        exact .inl (Oper.wp_mono (fun a' w' h' => ⟨h'.1, wc_of_wd l (k + 1) a' w' hn h'.2⟩) h)
      · rw [if_neg hw] at h ⊢
        exact ⟨.inr h.1, wc_of_wd l (k + 1) _ w hn h.2⟩
    · rw [if_neg hE] at h ⊢
      obtain ⟨v, hy, h⟩ := h
      exact ⟨o, v, h0, hy, wc_of_wd l (k + 1) _ w hn h⟩

/-- ONE WALK IN THE ORDER OF THE TEXT SERVES EVERY ORDER. -/
theorem wp_region_CF {id : Nat} {l : List Oper} {a : Act} {w : World} (C : World → Prop) (E F : List Nat) (hm : P.follows .mixedOrders = true) (hB : drawOk l.toArray E = true) (hQp : ∀ c a w, ¬ Q (.panic c) a w) (hQo : ∀ a w, ¬ Q .outgrown a w)
    (hC : C w.drew) (h : WD P l.toArray C Q E F 0 l a w.drew) : (Code.region id l.toArray true).wp P Q a w := by
  simp only [drawOk, Bool.and_eq_true] at hB
  obtain ⟨⟨⟨hns, hbk⟩, ht⟩, hp⟩ := hB
  refine wp_region_any hm ?_
  have h' := wc_of_wd l 0 a w.drew (fun j _ => by simp) h
  rw [← List.range_eq_range'] at h'
  have := wpAny_of_WC (C := C) (E := E) (F := F) (Q := Q) (P := P) rfl hns hbk ht hp hQp hQo l.length (List.range l.length) (Array.replicate l.toArray.size false) a w.drew (by simp) List.pairwise_lt_range (by simp)
    (fun j => by
      rw [List.mem_range]
      by_cases hj : j < l.length
      · simp [hj]
      · simp [hj])
    (fun j oj _ hl => (by rw [getD_replicate_false] at hl; cases hl)) (.inr hC) h'
  simpa using this
theorem wp_region_C {id : Nat} {l : List Oper} {a : Act} {w : World} (C : World → Prop) (E : List Nat) (hm : P.follows .mixedOrders = true) (hB : drawOk l.toArray E = true) (hQp : ∀ c a w, ¬ Q (.panic c) a w) (hQo : ∀ a w, ¬ Q .outgrown a w)
    (hC : C w.drew) (h : WD P l.toArray C Q E [] 0 l a w.drew) : (Code.region id l.toArray true).wp P Q a w := wp_region_CF C E [] hm hB hQp hQo hC h

variable {k : Nat} {rest : List Oper} {a : Act} {w : World} {o : Oper} {v : Value}
theorem wd_nil (h : Q .normal a w) : WD P ops C Q E F k [] a w := h
theorem wd_quiet (hE : E.contains k = false) (hF : F.contains k = false) (hg : Region.wanted o (yielded ops a.tmps) = true)
    (hv : ∀ w, C w → (execOp a.eval o).run P w = .ok (.value v) w) (h : WD P ops C Q E F (k + 1) rest (a.put o.dst v) w) : WD P ops C Q E F k (o :: rest) a w := by
  simp only [WD]
  rw [if_neg (by rw [hE]; exact Bool.false_ne_true)]
  exact ⟨v, .inl ⟨hg, fun w hC => hv w (hC.resolve_left (by rw [hF]; exact Bool.false_ne_true))⟩, h⟩
/-- An assignment that no world can turn. -/
theorem wd_assign {x : Operand} (ho : o.op = .assign x) (hE : E.contains k = false) (hg : o.guard = none) (hv : a.eval x = v)
    (h : WD P ops C Q E F (k + 1) rest (a.put o.dst v) w) : WD P ops C Q E F k (o :: rest) a w := by
  subst hv
  simp only [WD]
  rw [if_neg (by rw [hE]; exact Bool.false_ne_true)]
  exact ⟨_, .inl ⟨by simp [Region.wanted, hg], fun w _ => by unfold execOp; rw [ho]; rfl⟩, h⟩

/-- Operations that yield a value, and nothing else. -/
def valueOp : Op → Bool
  | .move _ | .assign _ | .load .. | .binOp .. | .unOp .. | .convert .. | .slice .. | .fieldAddr .. | .field .. | .indexAddr .. | .index .. | .extract .. | .build .. | .makeInterface .. | .sliceToArrayPointer .. => true
  | .nilCheck _ => true
  | .call { callee := .builtin b, .. } => (match b with | .len | .cap | .min | .max => true | _ => false)
  | _ => false

theorem val_run {s : Sem Value} {n : Next} {w w' : World} (h : (do pure (Next.value (← s)) : Sem Next).run P w = .ok n w') : ∃ u, n = .value u := by
  rw [Sem.run_bind] at h
  cases hs : s.run P w with
  | ok u w1 => rw [hs] at h; simp only [Result.andThen_ok, Sem.run_pure] at h; injection h with h; exact ⟨u, h.symm⟩
  | halt x w1 => rw [hs] at h; cases h

theorem valueOp_run (hq : valueOp o.op = true) {n : Next} {w' : World} (h : (execOp a.eval o).run P w = .ok n w') : ∃ u, n = .value u := by
  obtain ⟨dst, op, type, pos, after, guard⟩ := o
  cases op <;> simp only [valueOp, Bool.false_eq_true] at hq <;> simp only [execOp] at h
  case move => simp only [Sem.run_pure] at h; injection h with h; exact ⟨_, h.symm⟩
  case assign => simp only [Sem.run_pure] at h; injection h with h; exact ⟨_, h.symm⟩
  case nilCheck x =>
    split at h
    · cases h
    · cases h
    · cases h
    · split at h
      · cases h
      · simp only [Sem.run_bind] at h
        generalize Sem.run P program w = r1 at h
        cases r1 with
        | ok p1 w1 =>
          simp only [Result.andThen_ok] at h
          generalize Sem.run P (nilAhead _ _ _ _) w1 = r2 at h
          cases r2 with
          | ok b w2 =>
            simp only [Result.andThen_ok] at h
            split at h
            · cases h
            · simp only [Sem.run_pure] at h; injection h with h; exact ⟨_, h.symm⟩
          | halt z w2 => cases h
        | halt z w1 => cases h
      · simp only [Sem.run_pure] at h; injection h with h; exact ⟨_, h.symm⟩
    · simp only [Sem.run_pure] at h; injection h with h; exact ⟨_, h.symm⟩
  case call c =>
    obtain ⟨callee, args, argTypes⟩ := c
    cases callee <;> simp only [Bool.false_eq_true] at hq
    case builtin b =>
      simp only [resolve, Sem.run_bind, Sem.run_pure, Result.andThen_ok, invoke] at h
      cases b <;> simp only [Bool.false_eq_true] at hq <;> exact val_run h
  all_goals exact val_run h

/-- A quiet operation, run as the walk runs it, in whatever world of the class. -/
theorem wd_q {d : Nat} (hE : E.contains k = false) (hF : F.contains k = false) (hg : Region.wanted o (yielded ops a.tmps) = true) (hq : valueOp o.op = true) (hd : o.dst = some d) (hl0 : Nat.blt d a.tmps.size = true)
    (hv : ∀ w', C w' → ∀ K : Act → World → Prop, (∀ a', a' = a.put (some d) v → K a' w') → o.wp P a w' K (fun _ _ _ => False))
    (h : WD P ops C Q E F (k + 1) rest (a.put (some d) v) w) : WD P ops C Q E F k (o :: rest) a w := by
  have hl : d < a.tmps.size := Nat.le_of_ble_eq_true hl0
  refine wd_quiet hE hF hg (fun w' hC => ?_) (by rw [hd]; exact h)
  have hr := hv w' hC (fun a' w'' => a' = a.put (some d) v ∧ w'' = w') (fun a' e => ⟨e, rfl⟩)
  unfold Oper.wp at hr
  have hk := fun n w'' => valueOp_run (P := P) (a := a) (w := w') hq (n := n) (w' := w'')
  generalize (execOp a.eval o).run P w' = r at hr hk ⊢
  cases r with
  | ok n w'' =>
    obtain ⟨u, rfl⟩ := hk n w'' rfl
    simp only [Oper.upon] at hr
    obtain ⟨he, rfl⟩ := hr
    rw [hd] at he
    have : u = v := by
      have h1 := congrArg (fun b : Act => b.tmps[d]?) he
      simpa [Act.put, hl] using h1
    rw [this]
  | halt z w'' => cases z <;> simp only [Oper.upon] at hr

theorem wd_pass (hE : E.contains k = false) (hg : Region.wanted o (yielded ops a.tmps) = false)
    (h : WD P ops C Q E F (k + 1) rest (a.put o.dst undef) w) : WD P ops C Q E F k (o :: rest) a w := by
  simp only [WD]
  rw [if_neg (by rw [hE]; exact Bool.false_ne_true)]
  exact ⟨undef, .inr ⟨hg, rfl⟩, h⟩
theorem wd_loud (hE : E.contains k = true) (hg : Region.wanted o (yielded ops a.tmps) = true)
    (h : o.wp P a w (fun a' w' => After C F (List.range' (k + 1) rest.length) (sinks ops k) w' ∧ WD P ops C Q E F (k + 1) rest a' w') Q) : WD P ops C Q E F k (o :: rest) a w := by
  simp only [WD]
  rw [if_pos hE, if_pos hg]
  exact h
/-- An operation that turns the world, run as a region of its own. -/
theorem wd_l (hE : E.contains k = true) (hg : o.guard = none) (hQo : ∀ a w, ¬ Q .outgrown a w)
    (h : wpList P #[] (Exit.then (fun a' w' => After C F (List.range' (k + 1) rest.length) (sinks ops k) w' ∧ WD P ops C Q E F (k + 1) rest a' w') Q) [o] a w) : WD P ops C Q E F k (o :: rest) a w := by
  refine wd_loud hE (by simp [Region.wanted, hg]) ?_
  unfold wpList at h
  rw [if_pos (by simp [Region.wanted, hg])] at h
  rcases h with h | ⟨_, a', w', hl⟩
  · have hfun : ∀ r, o.upon P a (wpList P #[] (Exit.then (fun a' w' => After C F (List.range' (k + 1) rest.length) (sinks ops k) w' ∧ WD P ops C Q E F (k + 1) rest a' w') Q) []) (Exit.then (fun a' w' => After C F (List.range' (k + 1) rest.length) (sinks ops k) w' ∧ WD P ops C Q E F (k + 1) rest a' w') Q) r →
        o.upon P a (fun a' w' => After C F (List.range' (k + 1) rest.length) (sinks ops k) w' ∧ WD P ops C Q E F (k + 1) rest a' w') Q r := by
      intro r hr
      cases r with
      | ok n w' =>
        cases n <;> simp only [Oper.upon] at hr ⊢
        case value u => exact hr
        case skip => exact hr
        case defer d => exact hr
        case enter f args => exact Calls.mono hr fun e w'' he => by cases e <;> exact he
        case row row args => exact Rows.mono hr fun _ _ he => he
      | halt z w' => cases z <;> simp only [Oper.upon] at hr ⊢ <;> exact hr
    exact hfun _ h
  · exact absurd hl (hQo a' w')
/-- The last operation: nothing is asked of the world behind it. -/
theorem wd_last (hE : E.contains k = true) (hZ : sinks ops k = true) (hg : o.guard = none) (hQo : ∀ a w, ¬ Q .outgrown a w) (h : wpList P #[] Q [o] a w) : WD P ops C Q E F k [o] a w := by
  refine wd_l hE hg hQo ?_
  unfold wpList at h ⊢
  rw [if_pos (by simp [Region.wanted, hg])] at h ⊢
  rcases h with h | ⟨hasks, a', w', hl⟩
  · left
    unfold Oper.wp at h ⊢
    generalize (execOp a.eval o).run P w = r at h ⊢
    cases r with
    | ok n w' =>
      cases n <;> simp only [Oper.upon] at h ⊢
      case value u => exact ⟨.inl ⟨rfl, hZ⟩, h⟩
      case skip => exact ⟨.inl ⟨rfl, hZ⟩, h⟩
      case defer d => exact ⟨.inl ⟨rfl, hZ⟩, h⟩
      case enter f args => exact Calls.mono h fun e w'' he => by
                            cases e with
                            | returned u => exact ⟨.inl ⟨rfl, hZ⟩, he⟩
                            | panicked c => exact he
                            | outgrown => exact he
      case row row args => exact Rows.mono h fun _ _ he => ⟨.inl ⟨rfl, hZ⟩, he⟩
    | halt z w' => cases z <;> simp only [Oper.upon] at h ⊢ <;> exact h
  · exact absurd hl (hQo a' w')
/-- An operation that turns the world, behind which nothing looks at it. -/
theorem wd_late (hE : E.contains k = true) (hZ : sinks ops k = true) (hF : (List.range' (k + 1) rest.length).all F.contains = true) (hg : o.guard = none) (hQo : ∀ a w, ¬ Q .outgrown a w)
    (h : wpList P #[] (Exit.then (fun a' w' => WD P ops C Q E F (k + 1) rest a' w') Q) [o] a w) : WD P ops C Q E F k (o :: rest) a w := by
  refine wd_l hE hg hQo ?_
  unfold wpList at h ⊢
  rw [if_pos (by simp [Region.wanted, hg])] at h ⊢
  rcases h with h | ⟨hasks, a', w', hl⟩
  · left
    unfold Oper.wp at h ⊢
    generalize (execOp a.eval o).run P w = r at h ⊢
    cases r with
    | ok n w' =>
      cases n <;> simp only [Oper.upon] at h ⊢
      case value u => exact ⟨.inl ⟨hF, hZ⟩, h⟩
      case skip => exact ⟨.inl ⟨hF, hZ⟩, h⟩
      case defer d => exact ⟨.inl ⟨hF, hZ⟩, h⟩
      case enter f args => exact Calls.mono h fun e w'' he => by
                            cases e with
                            | returned u => exact ⟨.inl ⟨hF, hZ⟩, he⟩
                            | panicked c => exact he
                            | outgrown => exact he
      case row row args => exact Rows.mono h fun _ _ he => ⟨.inl ⟨hF, hZ⟩, he⟩
    | halt z w' => cases z <;> simp only [Oper.upon] at h ⊢ <;> exact h
  · exact absurd hl (hQo a' w')
theorem wd_loud_pass (hE : E.contains k = true) (hg : Region.wanted o (yielded ops a.tmps) = false)
    (h : C w ∧ WD P ops C Q E F (k + 1) rest (a.put o.dst undef) w) : WD P ops C Q E F k (o :: rest) a w := by
  simp only [WD]
  rw [if_pos hE, if_neg (by rw [hg]; exact Bool.false_ne_true)]
  exact h
end
end Go.Proofs.YtipigpeccegjgaaDoor
