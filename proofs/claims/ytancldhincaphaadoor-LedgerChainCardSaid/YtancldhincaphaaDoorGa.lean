/- A region whose order Go leaves open, walked once in the order of its text: a law over any program. Operations that yield one value in every world of a class C may stand anywhere; the others are put in order by the region's own edges. No condition on the program of this seat. Words and small laws that the walks of this seat use: rows of cells in memory, numbers of 32 bits. No condition: nothing is claimed here of the program. What word.Turn, sha.First and sha.spread answer. No condition but the kinds' own bounds. -/
import Derived.Test.YtancldhincaphaaDoorProg
import Derived.WalkKit
import Derived.Orders
import Derived.StillTail
import Derived.Lib.Agree
import Derived.WalkSpells
import Derived.WalkLawsBesides
import Derived.Deep.QuietTactic
import Derived.BigQuiet
import Derived.StillTailTactics
import Derived.BigRegion
import Derived.Deep.DeepCutAuto
import Derived.Lib.Hide
import Derived.Laws.CopyOwn
namespace Go.Proofs.YtancldhincaphaaDoor
set_option maxRecDepth 100000
section Region
open Go.RowKit

section
variable {P : Program} {ops : Array Oper} {C : World → Prop} {Q : Exit → Act → World → Prop} {E F : List Nat} {Z : Nat → Bool}

/-- The operation yields v in this world and leaves it alone: by itself, or by a call that does so. -/
def Gets (P : Program) (m : Sem Next) (v : Value) (w : World) : Prop :=
  m.run P w = .ok (.value v) w ∨ ∃ f args, P.inits.idxOf? f = none ∧ m.run P w = .ok (.enter f args) w ∧ Calls P f args w fun e w' => e = .returned v ∧ w' = w

theorem Gets.one {m : Sem Next} {v v' : Value} {w : World} (h : Gets P m v w) (h' : Gets P m v' w) : v = v' := by
  rcases h with h | ⟨f, args, hi, h, hc⟩ <;> rcases h' with h' | ⟨f', args', hi', h', hc'⟩
  · have := h.symm.trans h'; injection this with this; injection this
  · have := h.symm.trans h'; injection this with this; cases this
  · have := h.symm.trans h'; injection this with this; cases this
  · have := h.symm.trans h'
    injection this with this
    injection this with h1 h2
    subst h1; subst h2
    exact Lib.agree hi hc hc'

/-- In every world of the class the operation yields v and leaves the world alone; or it is passed over. -/
def YieldsC (P : Program) (ops : Array Oper) (C : World → Prop) (o : Oper) (v : Value) (a : Act) : Prop :=
  (Region.wanted o (yielded ops a.tmps) = true ∧ ∀ w, C w → Gets P (execOp a.eval o) v w) ∨
  (Region.wanted o (yielded ops a.tmps) = false ∧ v = undef)

theorem YieldsC.same {o : Oper} {v : Value} {a a' : Act} (hy : YieldsC P ops C o v a) (he : execOp a'.eval o = execOp a.eval o)
    (hw : Region.wanted o (yielded ops a'.tmps) = Region.wanted o (yielded ops a.tmps)) : YieldsC P ops C o v a' := by
  unfold YieldsC at hy ⊢
  rw [he, hw]
  exact hy

theorem YieldsC.run {i : Nat} {o : Oper} {v : Value} {a : Act} {K : Act → World → Prop} {w : World} (hi : ops[i]? = some o) (hy : YieldsC P ops C o v a) (hC : C w) (h : K (a.put o.dst v) w) :
    wpOp P ops Q i K a w := by
  unfold wpOp
  rw [hi]
  simp only
  rcases hy with ⟨hw, hv⟩ | ⟨hw, rfl⟩
  · rw [if_pos hw]; left; unfold Oper.wp
    rcases hv w hC with hv | ⟨f, args, _, hr, hc⟩
    · rw [hv]; exact h
    · rw [hr]
      exact Calls.mono hc fun e w' he => by obtain ⟨rfl, rfl⟩ := he; exact h
  · rw [if_neg (by rw [hw]; exact Bool.false_ne_true)]; exact h

/-- The class of worlds of an operation: F names those that no world can turn. -/
def ClassOf (C : World → Prop) (F : List Nat) (i : Nat) (w : World) : Prop := F.contains i = true ∨ C w
/-- What is asked of the world behind a loud operation: the class, or that nothing of the rest looks at the world. -/
def After (C : World → Prop) (F : List Nat) (rest : List Nat) (z : Bool) (w : World) : Prop := ((rest.all F.contains) = true ∧ z = true) ∨ C w
theorem After.at {C : World → Prop} {F rest : List Nat} {z : Bool} {w : World} (h : After C F rest z w) {i : Nat} (hi : i ∈ rest) : ClassOf C F i w := h.imp (fun h => List.all_eq_true.1 h.1 i hi) id
theorem After.sub {C : World → Prop} {F rest rest' : List Nat} {z : Bool} {w : World} (h : After C F rest z w) (hs : ∀ x ∈ rest', x ∈ rest) : After C F rest' z w :=
  h.imp (fun h => ⟨List.all_eq_true.2 fun x hx => List.all_eq_true.1 h.1 x (hs x hx), h.2⟩) id

/-- The rest of a region, in the order of the list: E names the operations that may turn the world. -/
def WC (P : Program) (ops : Array Oper) (C : World → Prop) (Q : Exit → Act → World → Prop) (E F : List Nat) (Z : Nat → Bool) : List Nat → Act → World → Prop
  | [], a, w => Q .normal a w
  | i :: rest, a, w =>
    if E.contains i then wpOp P ops Q i (fun a' w' => After C F rest (Z i) w' ∧ WC P ops C Q E F Z rest a' w') a w
    else ∃ o v, ops[i]? = some o ∧ YieldsC P ops (ClassOf C F i) o v a ∧ WC P ops C Q E F Z rest (a.put o.dst v) w

/-- y waits for x, by the region's edges, one behind the other: m is a table of who waits for whom. -/
def tableOk (ops : Array Oper) (m : Array Nat) : Bool :=
  (List.range ops.size).all fun y => (List.range ops.size).all fun x => !(m.getD y 0).testBit x ||
    ((ops[y]?).map fun o => o.after.any fun e => Region.binds .any e && decide (e.on < y) && (e.on == x || (m.getD e.on 0).testBit x)).getD false

/-- Whatever is not put in order by the edges is apart, and one of the two is quiet. -/
def pairsOk (ops : Array Oper) (m : Array Nat) (E : List Nat) : Bool :=
  (List.range ops.size).all fun y => (List.range y).all fun x => (m.getD y 0).testBit x ||
    match ops[x]?, ops[y]? with
    | some ox, some oy => ox.apart ops oy && !(E.contains x && E.contains y)
    | _, _ => false

/-- Every edge that binds leads back. -/
def backOk (ops : Array Oper) : Bool :=
  (List.range ops.size).all fun y => ((ops[y]?).map fun o => o.after.all fun e => !Region.binds .any e || decide (e.on < y)).getD true

def drawOk (ops : Array Oper) (E : List Nat) : Bool :=
  Region.noSelect ops && backOk ops && tableOk ops (Region.before ops) && pairsOk ops (Region.before ops) E

theorem sel_of {i : Nat} {o : Oper} (h : Region.noSelect ops = true) (hi : ops[i]? = some o) : ∀ cs b, o.op ≠ .select cs b := fun cs b => Region.noSelect_spec h i o cs b hi

theorem table_listed {m : Array Nat} (hm : tableOk ops m = true) {listed : Array Bool} (hcl : ∀ j oj, ops[j]? = some oj → listed.getD j false = true → ∀ e ∈ oj.after, Region.binds .any e = true → listed.getD e.on false = true) :
    ∀ (y x : Nat) (oy : Oper), ops[y]? = some oy → (∀ e ∈ oy.after, Region.binds .any e = true → listed.getD e.on false = true) → x < ops.size → (m.getD y 0).testBit x = true → listed.getD x false = true := by
  intro y
  induction y using Nat.strongRecOn with
  | ind y ih =>
    intro x oy hy hall hx hb
    have hlt : y < ops.size := (Array.getElem?_eq_some_iff.1 hy).1
    have h1 := List.all_eq_true.1 (List.all_eq_true.1 hm y (List.mem_range.2 hlt)) x (List.mem_range.2 hx)
    rw [hb] at h1
    simp only [Bool.not_true, Bool.false_or, hy, Option.map_some, Option.getD_some] at h1
    obtain ⟨e, he, h2⟩ := Array.any_eq_true'.1 h1
    simp only [Bool.and_eq_true, decide_eq_true_eq, Bool.or_eq_true, beq_iff_eq] at h2
    obtain ⟨⟨hbe, hlt2⟩, h3⟩ := h2
    have hl := hall e he hbe
    rcases h3 with h3 | h3
    · rw [← h3]; exact hl
    · have hs : e.on < ops.size := by omega
      exact ih e.on hlt2 x ops[e.on] (by simp [hs]) (fun e' he' hb' => hcl e.on _ (by simp [hs]) hl e' he' hb') hx h3

/-- A quiet operation further back is pulled ahead. -/
theorem pull_quiet {i : Nat} {oi : Oper} (hns : Region.noSelect ops = true) (hi : ops[i]? = some oi) (hEi : E.contains i = false) (hQp : ∀ c a w, ¬ Q (.panic c) a w) (hQo : ∀ a w, ¬ Q .outgrown a w) (L2 : List Nat) :
    ∀ (L1 : List Nat) (a : Act) (w : World), ClassOf C F i w → (∀ x ∈ L1, ∃ ox, ops[x]? = some ox ∧ ox.apart ops oi = true) → WC P ops C Q E F Z (L1 ++ i :: L2) a w →
    ∃ v, YieldsC P ops (ClassOf C F i) oi v a ∧ WC P ops C Q E F Z (L1 ++ L2) (a.put oi.dst v) w := by
  intro L1
  induction L1 with
  | nil =>
    intro a w _ _ h
    simp only [List.nil_append, WC, hEi, Bool.false_eq_true, if_false] at h
    obtain ⟨o, v, ho, hy, h⟩ := h
    have : o = oi := Option.some.inj (ho.symm.trans hi)
    subst this
    exact ⟨v, hy, h⟩
  | cons x L1 ih =>
    intro a w hC hap h
    obtain ⟨ox, hx, hapx⟩ := hap x (by simp)
    obtain ⟨h1, h2, h3⟩ := Oper.apart_spec hapx
    have hsi := sel_of hns hi
    have hsx := sel_of hns hx
    have back : ∀ {D : World → Prop} {v : Value} (u : Value) (a : Act), YieldsC P ops D oi v (a.put ox.dst u) → YieldsC P ops D oi v a := fun u a hy =>
      hy.same (execOp_put oi hsi a ox.dst u h1).symm (wanted_put oi a ox.dst u h1).symm
    have onX : ∀ {D : World → Prop} {v : Value} (u : Value) (a : Act), YieldsC P ops D ox v a → YieldsC P ops D ox v (a.put oi.dst u) := fun u a hy =>
      hy.same (execOp_put ox hsx a oi.dst u h3) (wanted_put ox a oi.dst u h3)
    simp only [List.cons_append, WC] at h
    by_cases hE : E.contains x = true
    · rw [if_pos hE] at h
      -- the value that oi yields does not hang on what x did
      have key : ∀ u w', After C F (L1 ++ i :: L2) (Z x) w' → WC P ops C Q E F Z (L1 ++ i :: L2) (a.put ox.dst u) w' → ∃ v, YieldsC P ops (ClassOf C F i) oi v a ∧ WC P ops C Q E F Z (L1 ++ L2) ((a.put oi.dst v).put ox.dst u) w' := by
        intro u w' hC' h'
        obtain ⟨v, hy, h''⟩ := ih (a.put ox.dst u) w' (hC'.at (by simp)) (fun z hz => hap z (by simp [hz])) h'
        refine ⟨v, back u a hy, ?_⟩
        rwa [Act.put_comm a u v h2] at h''
      have less : ∀ w', After C F (L1 ++ i :: L2) (Z x) w' → After C F (L1 ++ L2) (Z x) w' := fun w' h => h.sub (by intro y hy; rcases List.mem_append.1 hy with hy | hy <;> simp [hy])
      have uniq : ∀ v v', YieldsC P ops (ClassOf C F i) oi v a → YieldsC P ops (ClassOf C F i) oi v' a → v = v' := by
        intro v v' hy hy'
        rcases hy with ⟨hw, hv⟩ | ⟨hw, rfl⟩ <;> rcases hy' with ⟨hw', hv'⟩ | ⟨hw', rfl⟩
        · exact (hv w hC).one (hv' w hC)
        · rw [hw] at hw'; cases hw'
        · rw [hw] at hw'; cases hw'
        · rfl
      unfold wpOp at h
      rw [hx] at h
      simp only at h
      by_cases hw : Region.wanted ox (yielded ops a.tmps) = true
      · rw [if_pos hw] at h
        rcases h with h | ⟨_, a', w', hl⟩
        case inr => exact absurd hl (hQo a' w')
        -- there is a world behind x
        have some_v : ∃ v, YieldsC P ops (ClassOf C F i) oi v a := by
          unfold Oper.wp at h
          generalize (execOp a.eval ox).run P w = r at h
          cases r with
          | ok n w' =>
            cases n <;> simp only [Oper.upon] at h
            case value u => obtain ⟨v, hy, _⟩ := key u w' h.1 h.2; exact ⟨v, hy⟩
            case skip => obtain ⟨v, hy, _⟩ := key undef w' h.1 h.2; exact ⟨v, hy⟩
            case defer d =>
              obtain ⟨v, hy, _⟩ := ih _ w' (h.1.at (by simp)) (fun z hz => hap z (by simp [hz])) h.2
              have hy2 : YieldsC P ops (ClassOf C F i) oi v (a.put ox.dst undef) := by
                refine hy.same ?_ ?_ <;> (cases ox.dst <;> rfl)
              exact ⟨v, back undef a hy2⟩
            case enter f args =>
              obtain ⟨e, w'', fr, hR, _⟩ := h []
              cases e with
              | returned u => obtain ⟨v, hy, _⟩ := key u w'' hR.1 hR.2; exact ⟨v, hy⟩
              | panicked c => exact absurd hR (hQp c a w'')
              | outgrown => obtain ⟨a', w', hl⟩ := hR; exact absurd hl (hQo a' w')
            case row row args =>
              obtain ⟨u, w'', hR, _⟩ := h default []
              obtain ⟨v, hy, _⟩ := key u w'' hR.1 hR.2; exact ⟨v, hy⟩
          | halt x w' =>
            cases x <;> simp only [Oper.upon] at h
            case panic c => exact absurd h (hQp _ a w')
        obtain ⟨v, hyv⟩ := some_v
        refine ⟨v, hyv, ?_⟩
        simp only [List.cons_append, WC]
        rw [if_pos hE]
        unfold wpOp
        rw [hx]
        simp only
        rw [if_pos (by rw [wanted_put ox a oi.dst v h3]; exact hw)]
        left
        unfold Oper.wp at h ⊢
        rw [execOp_put ox hsx a oi.dst v h3]
        have fin : ∀ u w', After C F (L1 ++ i :: L2) (Z x) w' → WC P ops C Q E F Z (L1 ++ i :: L2) (a.put ox.dst u) w' → WC P ops C Q E F Z (L1 ++ L2) ((a.put oi.dst v).put ox.dst u) w' := by
          intro u w' hC' h'
          obtain ⟨v', hy', h''⟩ := key u w' hC' h'
          rw [uniq v v' hyv hy']; exact h''
        generalize (execOp a.eval ox).run P w = r at h ⊢
        cases r with
        | ok n w' =>
          cases n <;> simp only [Oper.upon] at h ⊢
          case value u => exact ⟨less _ h.1, fin u w' h.1 h.2⟩
          case skip => exact ⟨less _ h.1, fin undef w' h.1 h.2⟩
          case defer d =>
            refine ⟨less _ h.1, ?_⟩
            obtain ⟨v', hy', h''⟩ := ih _ w' (h.1.at (by simp)) (fun z hz => hap z (by simp [hz])) h.2
            have hy2 : YieldsC P ops (ClassOf C F i) oi v' (a.put ox.dst undef) := by
              refine hy'.same ?_ ?_ <;> (cases ox.dst <;> rfl)
            have := uniq v v' hyv (back undef a hy2)
            subst this
            rw [Act.put_defers, ← Act.put_comm _ undef v h2]
            exact h''
          case enter f args =>
            refine Calls.mono h fun e w'' he => ?_
            cases e with
            | returned u => exact ⟨less _ he.1, fin u w'' he.1 he.2⟩
            | panicked c => exact absurd he (hQp c a w'')
            | outgrown => exact he
          case row row args => exact Rows.mono h fun u w'' he => ⟨less _ he.1, fin u w'' he.1 he.2⟩
        | halt x w' =>
          cases x <;> simp only [Oper.upon] at h ⊢
          case panic c => exact absurd h (hQp _ a w')
      · rw [if_neg hw] at h
        obtain ⟨v, hy, h''⟩ := key undef w h.1 h.2
        refine ⟨v, hy, ?_⟩
        simp only [List.cons_append, WC]
        rw [if_pos hE]
        unfold wpOp
        rw [hx]
        simp only
        rw [if_neg (by rw [wanted_put ox a oi.dst v h3]; exact hw)]
        exact ⟨less _ h.1, h''⟩
    · rw [if_neg hE] at h
      obtain ⟨o, u, ho, hyx, h⟩ := h
      have : o = ox := Option.some.inj (ho.symm.trans hx)
      subst this
      obtain ⟨v, hy, h''⟩ := ih (a.put o.dst u) w hC (fun z hz => hap z (by simp [hz])) h
      refine ⟨v, back u a hy, ?_⟩
      simp only [List.cons_append, WC]
      rw [if_neg hE]
      refine ⟨o, u, hx, onX v a hyx, ?_⟩
      rwa [Act.put_comm a u v h2] at h''

/-- An operation that turns the world is pulled ahead of quiet ones. -/
theorem pull_loud {i : Nat} {oi : Oper} (hns : Region.noSelect ops = true) (hi : ops[i]? = some oi) (hEi : E.contains i = true) (hQp : ∀ c a w, ¬ Q (.panic c) a w) (L2 : List Nat) :
    ∀ (L1 : List Nat) (a : Act) (w : World), (L1 ≠ [] → Z i = false) → (∀ x ∈ L1, E.contains x = false ∧ ∃ ox, ops[x]? = some ox ∧ ox.apart ops oi = true) → WC P ops C Q E F Z (L1 ++ i :: L2) a w →
    wpOp P ops Q i (fun a' w' => After C F (L1 ++ L2) (Z i) w' ∧ WC P ops C Q E F Z (L1 ++ L2) a' w') a w := by
  intro L1
  induction L1 with
  | nil =>
    intro a w _ _ h
    simp only [List.nil_append, WC] at h
    rw [if_pos hEi] at h
    exact h
  | cons x L1 ih =>
    intro a w hZ hap h
    have hZi : Z i = false := hZ (by simp)
    obtain ⟨hEx, ox, hx, hapx⟩ := hap x (by simp)
    obtain ⟨h1, h2, h3⟩ := Oper.apart_spec hapx
    have hsi := sel_of hns hi
    have hsx := sel_of hns hx
    simp only [List.cons_append, WC, hEx, Bool.false_eq_true, if_false] at h
    obtain ⟨o, u, ho, hyx, h⟩ := h
    have : o = ox := Option.some.inj (ho.symm.trans hx)
    subst this
    have h' := wpOp_mono (K' := fun a' w' => C w' ∧ WC P ops C Q E F Z (L1 ++ L2) a' w') (fun a' w' hh => ⟨hh.1.resolve_left (by rw [hZi]; simp), hh.2⟩) (ih (a.put o.dst u) w (fun _ => hZi) (fun z hz => hap z (by simp [hz])) h)
    have onX : ∀ {D : World → Prop} (a' : Act) (v : Value), YieldsC P ops D o u a' → YieldsC P ops D o u (a'.put oi.dst v) := fun a' v hy =>
      hy.same (execOp_put o hsx a' oi.dst v h3) (wanted_put o a' oi.dst v h3)
    have fin : ∀ v w', C w' ∧ WC P ops C Q E F Z (L1 ++ L2) ((a.put o.dst u).put oi.dst v) w' → After C F (x :: L1 ++ L2) (Z i) w' ∧ WC P ops C Q E F Z (x :: L1 ++ L2) (a.put oi.dst v) w' := by
      intro v w' ⟨hC, hw⟩
      refine ⟨.inr hC, ?_⟩
      simp only [List.cons_append, WC, hEx, Bool.false_eq_true, if_false]
      refine ⟨o, u, hx, onX a v hyx, ?_⟩
      rwa [Act.put_comm a u v h2] at hw
    unfold wpOp at h' ⊢
    rw [hi] at h' ⊢
    simp only at h' ⊢
    rw [wanted_put oi a o.dst u h1] at h'
    by_cases hw : Region.wanted oi (yielded ops a.tmps) = true
    · rw [if_pos hw] at h' ⊢
      refine h'.imp (fun h' => ?_) (fun ⟨hasks, hl⟩ => ⟨?_, hl⟩)
      · unfold Oper.wp at h' ⊢
        rw [execOp_put oi hsi a o.dst u h1] at h'
        generalize (execOp a.eval oi).run P w = r at h' ⊢
        cases r with
        | ok n w' =>
          cases n <;> simp only [Oper.upon] at h' ⊢
          case value v => exact fin v w' h'
          case skip => exact fin undef w' h'
          case defer d =>
            obtain ⟨hC, hw'⟩ := h'
            refine ⟨.inr hC, ?_⟩
            simp only [List.cons_append, WC, hEx, Bool.false_eq_true, if_false]
            have hyd : YieldsC P ops (ClassOf C F x) o u { a with defers := d :: a.defers } := hyx.same rfl rfl
            refine ⟨o, u, hx, onX _ undef hyd, ?_⟩
            rw [← Act.put_comm _ u undef h2, ← Act.put_defers]
            exact hw'
          case enter f args =>
            refine Calls.mono h' fun e w'' he => ?_
            cases e with
            | returned v => exact fin v w'' he
            | panicked c => exact absurd he (hQp c _ w'')
            | outgrown => exact he
          case row row args => exact Rows.mono h' fun v w'' he => fin v w'' he
        | halt z w' =>
          cases z <;> simp only [Oper.upon] at h' ⊢
          case panic c => exact absurd h' (hQp _ _ w')
      · unfold Oper.asks at hasks ⊢
        rw [execOp_put oi hsi a o.dst u h1] at hasks
        exact hasks
    · rw [if_neg hw] at h' ⊢
      exact fin undef w h'

/-- Operations that wait for all that stand ahead of them. -/
def sinks (ops : Array Oper) (i : Nat) : Bool := (List.range i).all fun x => ((Region.before ops).getD i 0).testBit x

theorem wpAny_of_WC {m : Array Nat} (hm : m = Region.before ops) (hns : Region.noSelect ops = true) (hbk : backOk ops = true) (ht : tableOk ops m = true) (hp : pairsOk ops m E = true) (hQp : ∀ c a w, ¬ Q (.panic c) a w) (hQo : ∀ a w, ¬ Q .outgrown a w) :
    ∀ (n : Nat) (L : List Nat) (listed : Array Bool) (a : Act) (w : World), L.length = n → L.Pairwise (· < ·) → listed.size = ops.size → (∀ j, j ∈ L ↔ listed.getD j true = false) →
    (∀ j oj, ops[j]? = some oj → listed.getD j false = true → ∀ e ∈ oj.after, Region.binds .any e = true → listed.getD e.on false = true) →
    ((L.all F.contains) = true ∨ C w) → WC P ops C Q E F (sinks ops) L a w → wpAny P .any ops Q n listed a w := by
  intro n
  induction n with
  | zero =>
    intro L listed a w hn _ _ hmem _ _ h
    have : L = [] := List.eq_nil_of_length_eq_zero hn
    subst this
    refine ⟨?_, h⟩
    refine List.eq_nil_iff_forall_not_mem.2 fun j hj => ?_
    have := (hmem j).2 (mem_ready.1 hj).1
    cases this
  | succ n ih =>
    intro L listed a w hn hs hsz hmem hcl hC h
    refine ⟨fun h0 => ?_, fun i hi => ?_⟩
    · -- the first of the list is ready
      exfalso
      match L, hn with
      | x :: L', _ =>
        have hx := (hmem x).1 (by simp)
        have hxlt : x < ops.size := by
          by_cases hlt : x < listed.size
          · omega
          · simp [Array.getElem?_eq_none (by omega : listed.size ≤ x)] at hx
        have hr : x ∈ Region.ready .any ops listed := by
          refine mem_ready.2 ⟨hx, ops[x], by simp [hxlt], fun e he hb => ?_⟩
          -- an edge of x leads back to one that is listed: it lies ahead of x, by the table of pairs
          have h1 := List.all_eq_true.1 hbk x (List.mem_range.2 hxlt)
          have hxo : ops[x]? = some ops[x] := by simp [hxlt]
          rw [hxo] at h1
          simp only [Option.map_some, Option.getD_some] at h1
          have h2 := (Array.all_eq_true_iff_forall_mem.1 h1) e he
          rw [hb] at h2
          simp only [Bool.not_true, Bool.false_or, decide_eq_true_eq] at h2
          cases hl : listed.getD e.on true with
          | true =>
            have hlt : e.on < listed.size := by omega
            simp [hlt] at hl ⊢; exact hl
          | false =>
            have hm := (hmem e.on).2 hl
            rcases List.mem_cons.1 hm with hm | hm
            · omega
            · have := (List.pairwise_cons.1 hs).1 e.on hm; omega
        rw [h0] at hr
        cases hr
    · obtain ⟨hun, oi, hoi, hall⟩ := mem_ready.1 hi
      have hmi := (hmem i).2 hun
      obtain ⟨L1, L2, rfl⟩ := List.append_of_mem hmi
      have hlt : i < ops.size := (Array.getElem?_eq_some_iff.1 hoi).1
      have hpair : ∀ x ∈ L1, ∃ ox, ops[x]? = some ox ∧ ox.apart ops oi = true ∧ (E.contains x && E.contains i) = false ∧ (m.getD i 0).testBit x = false := by
        intro x hx
        have hxi : x < i := by
          have := List.pairwise_append.1 hs
          exact this.2.2 x hx i (by simp)
        have hxs : x < ops.size := by omega
        have h1 := List.all_eq_true.1 (List.all_eq_true.1 hp i (List.mem_range.2 hlt)) x (List.mem_range.2 hxi)
        have hnb : (m.getD i 0).testBit x = false := by
          cases hb : (m.getD i 0).testBit x with
          | false => rfl
          | true =>
            have := table_listed ht hcl i x oi hoi hall hxs hb
            have hux := (hmem x).1 (by simp [hx])
            rw [getD_both hux] at this
            cases this
        rw [hnb] at h1
        have hxo : ops[x]? = some ops[x] := by simp [hxs]
        rw [hxo, hoi] at h1
        simp only [Bool.false_or, Bool.and_eq_true, Bool.not_eq_true'] at h1
        exact ⟨_, hxo, h1.1, h1.2, hnb⟩
      have hcl' : ∀ j oj, ops[j]? = some oj → (listed.setIfInBounds i true).getD j false = true → ∀ e ∈ oj.after, Region.binds .any e = true → (listed.setIfInBounds i true).getD e.on false = true := by
        intro j oj hj hl e he hb
        by_cases hij : i = j
        · subst hij
          have : oj = oi := Option.some.inj (hj.symm.trans hoi)
          subst this
          exact getD_set_true (hall e he hb)
        · rw [getD_set_ne false hij] at hl
          exact getD_set_true (hcl j oj hj hl e he hb)
      have hs' : (L1 ++ L2).Pairwise (· < ·) := by
        have := List.pairwise_append.1 hs
        refine List.pairwise_append.2 ⟨this.1, (List.pairwise_cons.1 this.2.1).2, fun x hx y hy => this.2.2 x hx y (by simp [hy])⟩
      have hni : i ∉ L1 ++ L2 := by
        have := List.pairwise_append.1 hs
        intro hm
        rcases List.mem_append.1 hm with hm | hm
        · exact Nat.lt_irrefl _ (this.2.2 i hm i (by simp))
        · exact Nat.lt_irrefl _ ((List.pairwise_cons.1 this.2.1).1 i hm)
      have hmem' : ∀ j, j ∈ L1 ++ L2 ↔ (listed.setIfInBounds i true).getD j true = false := by
        intro j
        by_cases hij : i = j
        · subst hij
          refine ⟨fun h => absurd h hni, fun h => ?_⟩
          simp [hsz, hlt] at h
        · rw [getD_set_ne true hij, ← hmem j]
          simp [Ne.symm hij]
      have hCi : ClassOf C F i w := hC.imp (fun h => List.all_eq_true.1 h i (by simp)) id
      have hnext : ∀ a' w', (((L1 ++ L2).all F.contains) = true ∨ C w') ∧ WC P ops C Q E F (sinks ops) (L1 ++ L2) a' w' → wpAny P .any ops Q n (listed.setIfInBounds i true) a' w' := fun a' w' h' =>
        ih (L1 ++ L2) _ a' w' (by simp at hn ⊢; omega) hs' (by simp [hsz]) hmem' hcl' h'.1 h'.2
      by_cases hE : E.contains i = true
      · refine wpOp_mono (fun a' w' h' => hnext a' w' ⟨h'.1.imp (fun h => h.1) id, h'.2⟩) (pull_loud hns hoi hE hQp L2 L1 a w (fun hne => ?_) (fun x hx => ?_) h)
        · obtain ⟨x, L1', rfl⟩ := List.exists_cons_of_ne_nil hne
          obtain ⟨_, _, _, _, hnb⟩ := hpair x (by simp)
          have hxi : x < i := (List.pairwise_append.1 hs).2.2 x (by simp) i (by simp)
          cases hz : sinks ops i with
          | false => rfl
          | true =>
            have := List.all_eq_true.1 hz x (List.mem_range.2 hxi)
            rw [← hm] at this
            rw [hnb] at this; cases this
        obtain ⟨ox, hox, hap, hee, _⟩ := hpair x hx
        refine ⟨?_, ox, hox, hap⟩
        rw [hE] at hee
        simpa using hee
      · have hE' : E.contains i = false := by simpa using hE
        obtain ⟨v, hy, h'⟩ := pull_quiet hns hoi hE' hQp hQo L2 L1 a w hCi (fun x hx => (let ⟨ox, hox, hap, _⟩ := hpair x hx; ⟨ox, hox, hap⟩)) h
        exact hy.run hoi hCi (hnext _ _ ⟨hC.imp (fun h => List.all_eq_true.2 fun x hx => List.all_eq_true.1 h x (by rcases List.mem_append.1 hx with hx | hx <;> simp [hx])) id, h'⟩)

/-- The same over the operations themselves. -/
def WD (P : Program) (ops : Array Oper) (C : World → Prop) (Q : Exit → Act → World → Prop) (E F : List Nat) : Nat → List Oper → Act → World → Prop
  | _, [], a, w => Q .normal a w
  | k, o :: rest, a, w =>
    if E.contains k then
      (if Region.wanted o (yielded ops a.tmps) then o.wp P a w (fun a' w' => After C F (List.range' (k + 1) rest.length) (sinks ops k) w' ∧ WD P ops C Q E F (k + 1) rest a' w') Q else C w ∧ WD P ops C Q E F (k + 1) rest (a.put o.dst undef) w)
    else ∃ v, YieldsC P ops (ClassOf C F k) o v a ∧ WD P ops C Q E F (k + 1) rest (a.put o.dst v) w

theorem wc_of_wd : ∀ (l : List Oper) (k : Nat) (a : Act) (w : World), (∀ j, j < l.length → ops[k + j]? = l[j]?) → WD P ops C Q E F k l a w → WC P ops C Q E F (sinks ops) (List.range' k l.length) a w
  | [], _, _, _, _, h => h
  | o :: l, k, a, w, hl, h => by
    have h0 : ops[k]? = some o := by simpa using hl 0 (by simp)
    have hn : ∀ j, j < l.length → ops[k + 1 + j]? = l[j]? := fun j hj => by
      have := hl (j + 1) (by simp; omega)
      simpa [Nat.add_assoc, Nat.add_comm 1 j] using this
    simp only [List.length_cons, List.range'_succ, WC]
    simp only [WD] at h
    by_cases hE : E.contains k = true
    · rw [if_pos hE] at h ⊢
      unfold wpOp
      rw [h0]
      simp only
      by_cases hw : Region.wanted o (yielded ops a.tmps) = true
      · rw [if_pos hw] at h ⊢
        exact .inl (Oper.wp_mono (fun a' w' h' => ⟨h'.1, wc_of_wd l (k + 1) a' w' hn h'.2⟩) h)
      · rw [if_neg hw] at h ⊢
        exact ⟨.inr h.1, wc_of_wd l (k + 1) _ w hn h.2⟩
    · rw [if_neg hE] at h ⊢
      obtain ⟨v, hy, h⟩ := h
      exact ⟨o, v, h0, hy, wc_of_wd l (k + 1) _ w hn h⟩

/-- ONE WALK IN THE ORDER OF THE TEXT SERVES EVERY ORDER. -/
theorem wp_region_CF {id : Nat} {l : List Oper} {a : Act} {w : World} (C : World → Prop) (E F : List Nat) (hm : P.follows .mixedOrders = true) (hB : drawOk l.toArray E = true) (hQp : ∀ c a w, ¬ Q (.panic c) a w) (hQo : ∀ a w, ¬ Q .outgrown a w)
    (hC : C w.drew) (h : WD P l.toArray C Q E F 0 l a w.drew) : (Code.region id l.toArray true).wp P Q a w := by
  simp only [drawOk, Bool.and_eq_true] at hB
  obtain ⟨⟨⟨hns, hbk⟩, ht⟩, hp⟩ := hB
  refine wp_region_any hm ?_
  have h' := wc_of_wd l 0 a w.drew (fun j _ => by simp) h
  rw [← List.range_eq_range'] at h'
  have := wpAny_of_WC (C := C) (E := E) (F := F) (Q := Q) (P := P) rfl hns hbk ht hp hQp hQo l.length (List.range l.length) (Array.replicate l.toArray.size false) a w.drew (by simp) List.pairwise_lt_range (by simp)
    (fun j => by
      rw [List.mem_range]
      by_cases hj : j < l.length
      · simp [hj]
      · simp [hj])
    (fun j oj _ hl => (by rw [getD_replicate_false] at hl; cases hl)) (.inr hC) h'
  simpa using this
theorem wp_region_C {id : Nat} {l : List Oper} {a : Act} {w : World} (C : World → Prop) (E : List Nat) (hm : P.follows .mixedOrders = true) (hB : drawOk l.toArray E = true) (hQp : ∀ c a w, ¬ Q (.panic c) a w) (hQo : ∀ a w, ¬ Q .outgrown a w)
    (hC : C w.drew) (h : WD P l.toArray C Q E [] 0 l a w.drew) : (Code.region id l.toArray true).wp P Q a w := wp_region_CF C E [] hm hB hQp hQo hC h

variable {k : Nat} {rest : List Oper} {a : Act} {w : World} {o : Oper} {v : Value}
theorem wd_nil (h : Q .normal a w) : WD P ops C Q E F k [] a w := h
theorem wd_quiet (hE : E.contains k = false) (hF : F.contains k = false) (hg : Region.wanted o (yielded ops a.tmps) = true)
    (hv : ∀ w, C w → (execOp a.eval o).run P w = .ok (.value v) w) (h : WD P ops C Q E F (k + 1) rest (a.put o.dst v) w) : WD P ops C Q E F k (o :: rest) a w := by
  simp only [WD]
  rw [if_neg (by rw [hE]; exact Bool.false_ne_true)]
  exact ⟨v, .inl ⟨hg, fun w hC => .inl (hv w (hC.resolve_left (by rw [hF]; exact Bool.false_ne_true)))⟩, h⟩
/-- A call that leaves the world alone. -/
theorem wd_qc {f : FuncId} {args : Array Value} (hE : E.contains k = false) (hg : Region.wanted o (yielded ops a.tmps) = true) (hi : P.inits.idxOf? f = none)
    (hr : ∀ w, (execOp a.eval o).run P w = .ok (.enter f args) w) (hc : ∀ w, Calls P f args w fun e w' => e = .returned v ∧ w = w')
    (h : WD P ops C Q E F (k + 1) rest (a.put o.dst v) w) : WD P ops C Q E F k (o :: rest) a w := by
  simp only [WD]
  rw [if_neg (by rw [hE]; exact Bool.false_ne_true)]
  exact ⟨v, .inl ⟨hg, fun w _ => .inr ⟨f, args, hi, hr w, (hc w).mono fun e w' he => ⟨he.1, he.2.symm⟩⟩⟩, h⟩
/-- An assignment that no world can turn. -/
theorem wd_assign {x : Operand} (ho : o.op = .assign x) (hE : E.contains k = false) (hg : o.guard = none) (hv : a.eval x = v)
    (h : WD P ops C Q E F (k + 1) rest (a.put o.dst v) w) : WD P ops C Q E F k (o :: rest) a w := by
  subst hv
  simp only [WD]
  rw [if_neg (by rw [hE]; exact Bool.false_ne_true)]
  exact ⟨_, .inl ⟨by simp [Region.wanted, hg], fun w _ => .inl (by unfold execOp; rw [ho]; rfl)⟩, h⟩

/-- Operations that yield a value, and nothing else. -/
def valueOp : Op → Bool
  | .move _ | .assign _ | .load .. | .binOp .. | .unOp .. | .convert .. | .slice .. | .fieldAddr .. | .field .. | .indexAddr .. | .index .. | .extract .. | .build .. | .makeInterface .. | .sliceToArrayPointer .. => true
  | .nilCheck _ => true
  | .call { callee := .builtin b, .. } => (match b with | .len | .cap | .min | .max => true | _ => false)
  | _ => false

theorem val_run {s : Sem Value} {n : Next} {w w' : World} (h : (do pure (Next.value (← s)) : Sem Next).run P w = .ok n w') : ∃ u, n = .value u := by
  rw [Sem.run_bind] at h
  cases hs : s.run P w with
  | ok u w1 => rw [hs] at h; simp only [Result.andThen_ok, Sem.run_pure] at h; injection h with h; exact ⟨u, h.symm⟩
  | halt x w1 => rw [hs] at h; cases h

theorem valueOp_run (hq : valueOp o.op = true) {n : Next} {w' : World} (h : (execOp a.eval o).run P w = .ok n w') : ∃ u, n = .value u := by
  obtain ⟨dst, op, type, pos, after, guard⟩ := o
  cases op <;> simp only [valueOp, Bool.false_eq_true] at hq <;> simp only [execOp] at h
  case move => simp only [Sem.run_pure] at h; injection h with h; exact ⟨_, h.symm⟩
  case assign => simp only [Sem.run_pure] at h; injection h with h; exact ⟨_, h.symm⟩
  case nilCheck x =>
    split at h
    · cases h
    · cases h
    · cases h
    · split at h
      · cases h
      · simp only [Sem.run_bind] at h
        generalize Sem.run P program w = r1 at h
        cases r1 with
        | ok p1 w1 =>
          simp only [Result.andThen_ok] at h
          generalize Sem.run P (nilAhead _ _ _ _) w1 = r2 at h
          cases r2 with
          | ok b w2 =>
            simp only [Result.andThen_ok] at h
            split at h
            · cases h
            · simp only [Sem.run_pure] at h; injection h with h; exact ⟨_, h.symm⟩
          | halt z w2 => cases h
        | halt z w1 => cases h
      · simp only [Sem.run_pure] at h; injection h with h; exact ⟨_, h.symm⟩
    · simp only [Sem.run_pure] at h; injection h with h; exact ⟨_, h.symm⟩
  case call c =>
    obtain ⟨callee, args, argTypes⟩ := c
    cases callee <;> simp only [Bool.false_eq_true] at hq
    case builtin b =>
      simp only [resolve, Sem.run_bind, Sem.run_pure, Result.andThen_ok, invoke] at h
      cases b <;> simp only [Bool.false_eq_true] at hq <;> exact val_run h
  all_goals exact val_run h

/-- A quiet operation, run as the walk runs it, in whatever world of the class. -/
theorem wd_q {d : Nat} (hE : E.contains k = false) (hF : F.contains k = false) (hg : Region.wanted o (yielded ops a.tmps) = true) (hq : valueOp o.op = true) (hd : o.dst = some d) (hl0 : Nat.blt d a.tmps.size = true)
    (hv : ∀ w', C w' → ∀ K : Act → World → Prop, (∀ a', a' = a.put (some d) v → K a' w') → o.wp P a w' K (fun _ _ _ => False))
    (h : WD P ops C Q E F (k + 1) rest (a.put (some d) v) w) : WD P ops C Q E F k (o :: rest) a w := by
  have hl : d < a.tmps.size := Nat.le_of_ble_eq_true hl0
  refine wd_quiet hE hF hg (fun w' hC => ?_) (by rw [hd]; exact h)
  have hr := hv w' hC (fun a' w'' => a' = a.put (some d) v ∧ w'' = w') (fun a' e => ⟨e, rfl⟩)
  unfold Oper.wp at hr
  have hk := fun n w'' => valueOp_run (P := P) (a := a) (w := w') hq (n := n) (w' := w'')
  generalize (execOp a.eval o).run P w' = r at hr hk ⊢
  cases r with
  | ok n w'' =>
    obtain ⟨u, rfl⟩ := hk n w'' rfl
    simp only [Oper.upon] at hr
    obtain ⟨he, rfl⟩ := hr
    rw [hd] at he
    have : u = v := by
      have h1 := congrArg (fun b : Act => b.tmps[d]?) he
      simpa [Act.put, hl] using h1
    rw [this]
  | halt z w'' => cases z <;> simp only [Oper.upon] at hr

theorem wd_pass (hE : E.contains k = false) (hg : Region.wanted o (yielded ops a.tmps) = false)
    (h : WD P ops C Q E F (k + 1) rest (a.put o.dst undef) w) : WD P ops C Q E F k (o :: rest) a w := by
  simp only [WD]
  rw [if_neg (by rw [hE]; exact Bool.false_ne_true)]
  exact ⟨undef, .inr ⟨hg, rfl⟩, h⟩
theorem wd_loud (hE : E.contains k = true) (hg : Region.wanted o (yielded ops a.tmps) = true)
    (h : o.wp P a w (fun a' w' => After C F (List.range' (k + 1) rest.length) (sinks ops k) w' ∧ WD P ops C Q E F (k + 1) rest a' w') Q) : WD P ops C Q E F k (o :: rest) a w := by
  simp only [WD]
  rw [if_pos hE, if_pos hg]
  exact h
/-- An operation that turns the world, run as a region of its own. -/
theorem wd_l (hE : E.contains k = true) (hg : o.guard = none) (hQo : ∀ a w, ¬ Q .outgrown a w)
    (h : wpList P #[] (Exit.then (fun a' w' => After C F (List.range' (k + 1) rest.length) (sinks ops k) w' ∧ WD P ops C Q E F (k + 1) rest a' w') Q) [o] a w) : WD P ops C Q E F k (o :: rest) a w := by
  refine wd_loud hE (by simp [Region.wanted, hg]) ?_
  unfold wpList at h
  rw [if_pos (by simp [Region.wanted, hg])] at h
  rcases h with h | ⟨_, a', w', hl⟩
  · have hfun : ∀ r, o.upon P a (wpList P #[] (Exit.then (fun a' w' => After C F (List.range' (k + 1) rest.length) (sinks ops k) w' ∧ WD P ops C Q E F (k + 1) rest a' w') Q) []) (Exit.then (fun a' w' => After C F (List.range' (k + 1) rest.length) (sinks ops k) w' ∧ WD P ops C Q E F (k + 1) rest a' w') Q) r →
        o.upon P a (fun a' w' => After C F (List.range' (k + 1) rest.length) (sinks ops k) w' ∧ WD P ops C Q E F (k + 1) rest a' w') Q r := by
      intro r hr
      cases r with
      | ok n w' =>
        cases n <;> simp only [Oper.upon] at hr ⊢
        case value u => exact hr
        case skip => exact hr
        case defer d => exact hr
        case enter f args => exact Calls.mono hr fun e w'' he => by cases e <;> exact he
        case row row args => exact Rows.mono hr fun _ _ he => he
      | halt z w' => cases z <;> simp only [Oper.upon] at hr ⊢ <;> exact hr
    exact hfun _ h
  · exact absurd hl (hQo a' w')
/-- The last operation: nothing is asked of the world behind it. -/
theorem wd_last (hE : E.contains k = true) (hZ : sinks ops k = true) (hg : o.guard = none) (hQo : ∀ a w, ¬ Q .outgrown a w) (h : wpList P #[] Q [o] a w) : WD P ops C Q E F k [o] a w := by
  refine wd_l hE hg hQo ?_
  unfold wpList at h ⊢
  rw [if_pos (by simp [Region.wanted, hg])] at h ⊢
  rcases h with h | ⟨hasks, a', w', hl⟩
  · left
    unfold Oper.wp at h ⊢
    generalize (execOp a.eval o).run P w = r at h ⊢
    cases r with
    | ok n w' =>
      cases n <;> simp only [Oper.upon] at h ⊢
      case value u => exact ⟨.inl ⟨rfl, hZ⟩, h⟩
      case skip => exact ⟨.inl ⟨rfl, hZ⟩, h⟩
      case defer d => exact ⟨.inl ⟨rfl, hZ⟩, h⟩
      case enter f args => exact Calls.mono h fun e w'' he => by
                            cases e with
                            | returned u => exact ⟨.inl ⟨rfl, hZ⟩, he⟩
                            | panicked c => exact he
                            | outgrown => exact he
      case row row args => exact Rows.mono h fun _ _ he => ⟨.inl ⟨rfl, hZ⟩, he⟩
    | halt z w' => cases z <;> simp only [Oper.upon] at h ⊢ <;> exact h
  · exact absurd hl (hQo a' w')
/-- An operation that turns the world, behind which nothing looks at it. -/
theorem wd_late (hE : E.contains k = true) (hZ : sinks ops k = true) (hF : (List.range' (k + 1) rest.length).all F.contains = true) (hg : o.guard = none) (hQo : ∀ a w, ¬ Q .outgrown a w)
    (h : wpList P #[] (Exit.then (fun a' w' => WD P ops C Q E F (k + 1) rest a' w') Q) [o] a w) : WD P ops C Q E F k (o :: rest) a w := by
  refine wd_l hE hg hQo ?_
  unfold wpList at h ⊢
  rw [if_pos (by simp [Region.wanted, hg])] at h ⊢
  rcases h with h | ⟨hasks, a', w', hl⟩
  · left
    unfold Oper.wp at h ⊢
    generalize (execOp a.eval o).run P w = r at h ⊢
    cases r with
    | ok n w' =>
      cases n <;> simp only [Oper.upon] at h ⊢
      case value u => exact ⟨.inl ⟨hF, hZ⟩, h⟩
      case skip => exact ⟨.inl ⟨hF, hZ⟩, h⟩
      case defer d => exact ⟨.inl ⟨hF, hZ⟩, h⟩
      case enter f args => exact Calls.mono h fun e w'' he => by
                            cases e with
                            | returned u => exact ⟨.inl ⟨hF, hZ⟩, he⟩
                            | panicked c => exact he
                            | outgrown => exact he
      case row row args => exact Rows.mono h fun _ _ he => ⟨.inl ⟨hF, hZ⟩, he⟩
    | halt z w' => cases z <;> simp only [Oper.upon] at h ⊢ <;> exact h
  · exact absurd hl (hQo a' w')
theorem wd_loud_pass (hE : E.contains k = true) (hg : Region.wanted o (yielded ops a.tmps) = false)
    (h : C w ∧ WD P ops C Q E F (k + 1) rest (a.put o.dst undef) w) : WD P ops C Q E F k (o :: rest) a w := by
  simp only [WD]
  rw [if_pos hE, if_neg (by rw [hg]; exact Bool.false_ne_true)]
  exact h
end
end Region
section Base
open Go.RowKit

/-- Block g of w is a row of these cells, none of them shared with a string. -/
def Blk (w : World) (g : Nat) (cs : List Value) (T : TypeId) : Prop := w.heap[g]? = some (.cells cs.toArray T (0, 0))

theorem Blk.cell {w : World} {g : Nat} {cs : List Value} {T : TypeId} (h : Blk w g cs T) (j : Nat) : w.cell? ⟨g, j, none⟩ = cs[j]? := by
  unfold Blk at h; simp [World.cell?, h]
theorem Blk.frozen {w : World} {g : Nat} {cs : List Value} {T : TypeId} (h : Blk w g cs T) (j : Nat) : w.frozen? ⟨g, j, none⟩ = false := by
  unfold Blk at h; simp [World.frozen?, h]
theorem Blk.lt {w : World} {g : Nat} {cs : List Value} {T : TypeId} (h : Blk w g cs T) : g < w.heap.size := by
  unfold Blk at h; exact (Array.getElem?_eq_some_iff.1 h).1
theorem Blk.set {w : World} {g : Nat} {cs : List Value} {T : TypeId} (h : Blk w g cs T) (j : Nat) (v : Value) : Blk (w.setCell ⟨g, j, none⟩ v) g (cs.set j v) T := by
  unfold Blk at h ⊢; rw [heap_setCell_same w g j cs.toArray T v h]; simp
theorem Blk.far {w : World} {g : Nat} {cs : List Value} {T : TypeId} (h : Blk w g cs T) (p : Addr) (v : Value) (hne : g ≠ p.block) : Blk (w.setCell p v) g cs T := by
  unfold Blk at h ⊢; rw [heap_setCell_other w p g v hne]; exact h
theorem Blk.alloc {w : World} {g : Nat} {cs : List Value} {T : TypeId} (h : Blk w g cs T) (o : Obj) : Blk (w.alloc o) g cs T := by
  have hl := h.lt
  unfold Blk at h ⊢; rw [Below.heap_alloc w o g hl]; exact h
theorem Blk.new (w : World) (cs : List Value) (T : TypeId) : Blk (w.alloc (.cells cs.toArray T)) w.heap.size cs T := heap_alloc_new w _
theorem Blk.new' (w : World) (c : Array Value) (cs : List Value) (T : TypeId) (g : Nat) (hc : c = cs.toArray) (hg : g = w.heap.size) : Blk (w.alloc (.cells c T)) g cs T := by
  subst hc; subst hg; exact Blk.new w cs T
theorem Blk.below {w w' : World} {B g : Nat} {cs : List Value} {T : TypeId} (h : Blk w g cs T) (hb : Below B w w') (hg : g < B) : Blk w' g cs T := by
  unfold Blk at h ⊢; rw [hb.block g hg]; exact h
theorem Blk.drew {w : World} {g : Nat} {cs : List Value} {T : TypeId} (h : Blk w g cs T) : Blk w.drew g cs T := h
theorem Blk.drewN {w : World} {g n : Nat} {cs : List Value} {T : TypeId} (h : Blk w g cs T) : Blk (w.drewN n) g cs T := h

/-- The blocks of the list are as they were. -/
def Same (S : List Nat) (w w' : World) : Prop := ∀ g, g ∈ S → w'.heap[g]? = w.heap[g]?
theorem Same.refl (S : List Nat) (w : World) : Same S w w := fun _ _ => rfl
theorem Same.drew {S : List Nat} {w w' : World} (h : Same S w w') : Same S w.drew w' := h
theorem Same.cell {S : List Nat} {w w' : World} (h : Same S w w') (g : Nat) (hg : g ∈ S) (j : Nat) : w'.cell? ⟨g, j, none⟩ = w.cell? ⟨g, j, none⟩ := World.cell?_of_block (w := w) (h g hg)
theorem Same.below {S : List Nat} {w w' w'' : World} {B : Nat} (h : Same S w w') (hb : Below B w' w'') (hS : ∀ g, g ∈ S → g < B) : Same S w w'' := fun g hg => (hb.block g (hS g hg)).trans (h g hg)
theorem Same.set {S : List Nat} {w w' : World} (h : Same S w w') (p : Addr) (v : Value) (hp : p.block ∉ S) : Same S w (w'.setCell p v) := fun g hg => (heap_setCell_other w' p g v (fun e => hp (e ▸ hg))).trans (h g hg)

/-- Every cell of block g but the one at place k is as it was. -/
def SameBut (g k : Nat) (w w' : World) : Prop := ∀ j, j ≠ k → w'.cell? ⟨g, j, none⟩ = w.cell? ⟨g, j, none⟩
theorem SameBut.refl (g k : Nat) (w : World) : SameBut g k w w := fun _ _ => rfl
theorem SameBut.set {g k : Nat} {w w' : World} (h : SameBut g k w w') (v : Value) : SameBut g k w (w'.setCell ⟨g, k, none⟩ v) := fun j hj => by
  rw [World.cell?_setCell_other (h := fun e => hj (by injection e with _ e2; exact e2.symm))]; exact h j hj

def nums (k : IntKind) (xs : List Int) : List Value := xs.map (Value.int k)
theorem nums_at (k : IntKind) (xs : List Int) (j : Nat) (h : j < xs.length) : (nums k xs)[j]? = some (.int k (xs.getD j 0)) := by
  simp [nums, h]
theorem nums_set (k : IntKind) (xs : List Int) (j : Nat) (x : Int) : (nums k xs).set j (.int k x) = nums k (xs.set j x) := by
  simp [nums, List.map_set]
theorem nums_length (k : IntKind) (xs : List Int) : (nums k xs).length = xs.length := by simp [nums]
theorem Blk.setNum {w : World} {g : Nat} {k : IntKind} {xs : List Int} {T : TypeId} (h : Blk w g (nums k xs) T) (j : Nat) (x : Int) : Blk (w.setCell ⟨g, j, none⟩ (.int k x)) g (nums k (xs.set j x)) T := by
  rw [← nums_set]; exact h.set j _

/-- A number of a list, by its place; 0 behind its end. -/
def ga (xs : List Int) (i : Nat) : Int := xs.getD i 0
theorem ga_eq (xs : List Int) (i : Nat) : ga xs i = xs.getD i 0 := rfl
theorem Blk.num {w : World} {g : Nat} {k : IntKind} {xs : List Int} {T : TypeId} (h : Blk w g (nums k xs) T) (j : Nat) (hj : j < xs.length) : w.cell? ⟨g, j, none⟩ = some (.int k (ga xs j)) := by
  rw [h.cell, nums_at k xs j hj]; rfl
theorem Blk.up {w w' : World} {g : Nat} {cs : List Value} {T : TypeId} (h : Blk w g cs T) (hb : Below w.heap.size w w') : Blk w' g cs T := h.below hb h.lt
theorem Blk.row {w : World} {g : Nat} {cs : List Value} {T : TypeId} (h : Blk w g cs T) (cs' : List Value) : Blk (w.setRow g cs'.toArray) g cs' T := setRow_heap w g _ _ T (0, 0) h
theorem Blk.row' {w : World} {g : Nat} {cs : List Value} {T : TypeId} (h : Blk w g cs T) (r : Array Value) (cs' : List Value) (hr : r = cs'.toArray) : Blk (w.setRow g r) g cs' T := by
  subst hr; exact h.row cs'
theorem Blk.rowFar {w : World} {g k : Nat} {cs : List Value} {T : TypeId} (h : Blk w g cs T) (r : Array Value) (hne : g ≠ k) : Blk (w.setRow k r) g cs T := by
  unfold Blk at h ⊢; rw [setRow_other w k g r hne]; exact h
theorem Same.row {S : List Nat} {w w' : World} (h : Same S w w') (g : Nat) (r : Array Value) (hp : g ∉ S) : Same S w (w'.setRow g r) := fun k hk => (setRow_other w' g k r (fun e => hp (e ▸ hk))).trans (h k hk)
theorem Same.blk {S : List Nat} {w w' : World} {g : Nat} {cs : List Value} {T : TypeId} (h : Same S w w') (hb : Blk w g cs T) (hg : g ∈ S) : Blk w' g cs T := by
  unfold Blk at hb ⊢; rw [h g hg]; exact hb
theorem nums_one (k : IntKind) (xs : List Int) : ∀ v ∈ nums k xs, v.oneCell' = true := by
  intro v hv
  obtain ⟨x, _, rfl⟩ := List.mem_map.1 hv
  rfl

section
variable {P : Program}
def isRow : TypeDesc → Bool
  | .struct _ | .array _ _ => true
  | _ => false

theorem run_load_at (w : World) (g off n : Nat) (ty : TypeId) (cs : List Value) (T : TypeId) (d : TypeDesc) (hg : Blk w g cs T) (hu : P.underlying ty = some d) (hd : isRow d = true)
    (hi : (P.info? ty).map (·.size) = some n) (hle : off + n ≤ cs.length) : (loadVar ty ⟨g, off, none⟩).run P w = .ok (.agg ((cs.drop off).take n).toArray) w := by
  have hlen : ((cs.drop off).take n).length = n := by simp; omega
  have hl : (loadCells ⟨g, off, none⟩ ((cs.drop off).take n).length).run P w = .ok ((cs.drop off).take n).toArray w :=
    run_loadCells_list (P := P) w ⟨g, off, none⟩ _ (fun j v hv => by
      have hadd : (⟨g, off, none⟩ : Addr).add j = ⟨g, off + j, none⟩ := by unfold Addr.add; split <;> simp_all
      rw [hadd, hg.cell]
      by_cases hj : j < n
      · rw [List.getElem?_take_of_lt hj, List.getElem?_drop] at hv; exact hv
      · rw [List.getElem?_eq_none (by rw [hlen]; omega)] at hv; cases hv)
  cases hq : P.info? ty with
  | none => simp [hq] at hi
  | some i =>
    have hs : i.size = n := by simpa [hq] using hi
    have hagg : (isAgg ty).run P w = .ok true w := by
      unfold isAgg
      rw [Sem.run_bind, run_underlying hu w]
      cases d <;> simp_all [isRow]
    rw [hlen] at hl
    simp [loadVar, Sem.run_bind, hagg, sizeOf, typeInfo, hq, hs, hl]

/-- A row of cells loaded as one value. -/
theorem wpList_load_at {ops : Array Oper} {rest : List Oper} {o : Oper} {a : Act} {w : World} {Q : Exit → Act → World → Prop} (hgd : o.guard = none) (ty : TypeId) (x : Operand) (ho : o.op = .load ty x)
    (g off n : Nat) (hx : a.eval x = .pointer (some ⟨g, off, none⟩)) (cs : List Value) (T : TypeId) (d : TypeDesc) (hg : Blk w g cs T) (hu : P.underlying ty = some d) (hd : isRow d = true)
    (hi : (P.info? ty).map (·.size) = some n) (hle : off + n ≤ cs.length) (r : Array Value) (hr : ((cs.drop off).take n).toArray = r)
    (h : wpList P ops Q rest (a.put o.dst (.agg r)) w) : wpList P ops Q (o :: rest) a w :=
  wpList_plain hgd fun K hK => by
    subst hr
    unfold Oper.wp execOp
    simp only [ho, hx, Instr.loadAt, Instr.sureAddr, Sem.run_bind, Sem.run_pure, Result.andThen_ok, run_load_at w g off n ty cs T d hg hu hd hi hle]
    exact hK _ _ h

/-- What stands in a row behind a store of several cells. -/
def laid (cs : List Value) (off : Nat) (vs : List Value) : List Value := cs.take off ++ vs ++ cs.drop (off + vs.length)
theorem laid_all (cs vs : List Value) (h : vs.length = cs.length) : laid cs 0 vs = vs := by simp [laid, h]

theorem run_store_at (w : World) (g off : Nat) (ty : TypeId) (cs vs : List Value) (T : TypeId) (hg : Blk w g cs T)
    (hi : (P.info? ty).map (·.size) = some vs.length) (hle : off + vs.length ≤ cs.length) (h1 : ∀ v ∈ vs, v.oneCell' = true) :
    (storeVar ty ⟨g, off, none⟩ (.agg vs.toArray)).run P w = .ok () (w.setRow g (laid cs off vs).toArray) := by
  have hst := run_storeCells_at P g off T vs 0 cs.toArray w hg (by simpa using hle) h1
  cases hq : P.info? ty with
  | none => simp [hq] at hi
  | some i =>
    have hs : i.size = vs.length := by simpa [hq] using hi
    simp only [Nat.add_zero] at hst
    simp [storeVar, Value.cells, Sem.run_bind, sizeOf, typeInfo, hq, hs, hst, laid]

/-- One value of several cells stored into a row. -/
theorem wpList_store_at {ops : Array Oper} {rest : List Oper} {o : Oper} {a : Act} {w : World} {Q : Exit → Act → World → Prop} (hgd : o.guard = none) (ty : TypeId) (x y : Operand) (ho : o.op = .store ty x y) (hdst : o.dst = none)
    (g off : Nat) (hx : a.eval x = .pointer (some ⟨g, off, none⟩)) (vs : List Value) (hy : a.eval y = .agg vs.toArray) (cs : List Value) (T : TypeId) (hg : Blk w g cs T)
    (hi : (P.info? ty).map (·.size) = some vs.length) (hle : off + vs.length ≤ cs.length) (h1 : ∀ v ∈ vs, v.oneCell' = true)
    (h : wpList P ops Q rest a (w.setRow g (laid cs off vs).toArray)) : wpList P ops Q (o :: rest) a w :=
  wpList_plain hgd fun K hK => by
    unfold Oper.wp execOp
    simp only [ho, hx, hy, Instr.storeAt, Instr.sureAddr, Sem.run_bind, Sem.run_pure, Result.andThen_ok, run_store_at w g off ty cs vs T hg hi hle h1, Oper.upon, Act.put, hdst]
    exact hK _ _ h

theorem row_all (cs : List Value) (n : Nat) (h : cs.length = n) : ((cs.drop 0).take n).toArray = cs.toArray := by
  rw [List.drop_zero, List.take_of_length_le (by omega)]

theorem st_store {ops : Array Oper} {rest : List Oper} {a : Act} {w : World} {Q : Exit → Act → World → Prop} {ty tt : TypeId} {x y : Operand} {pos : String} {after : Array Edge} {g off : Nat} {vs cs : List Value} {T : TypeId}
    (hx : a.eval x = .pointer (some ⟨g, off, none⟩)) (hy : a.eval y = .agg vs.toArray) (hg : Blk w g cs T)
    (hi : (P.info? ty).map (·.size) = some vs.length) (hle : off + vs.length ≤ cs.length) (h1 : ∀ v ∈ vs, v.oneCell' = true)
    (h : wpList P ops Q rest a (w.setRow g (laid cs off vs).toArray)) : wpList P ops Q (⟨none, .store ty x y, tt, pos, after, none⟩ :: rest) a w :=
  wpList_store_at rfl ty x y rfl rfl g off hx vs hy cs T hg hi hle h1 h
theorem st_load {ops : Array Oper} {rest : List Oper} {a : Act} {w : World} {Q : Exit → Act → World → Prop} {d' : Option Tmp} {ty tt : TypeId} {x : Operand} {pos : String} {after : Array Edge} {g off n : Nat} {cs : List Value} {T : TypeId} {d : TypeDesc} {r : Array Value}
    (hx : a.eval x = .pointer (some ⟨g, off, none⟩)) (hg : Blk w g cs T) (hu : P.underlying ty = some d) (hd : isRow d = true) (hi : (P.info? ty).map (·.size) = some n) (hle : off + n ≤ cs.length)
    (hr : ((cs.drop off).take n).toArray = r) (h : wpList P ops Q rest (a.put d' (.agg r)) w) : wpList P ops Q (⟨d', .load ty x, tt, pos, after, none⟩ :: rest) a w :=
  wpList_load_at rfl ty x rfl g off n hx cs T d hg hu hd hi hle r hr h

/-- A call's one result, a row in memory. -/
theorem ret_row {fn : Func} {p : Tmp} {ty : TypeId} (hf : fn.results = #[.cell p ty]) (tmps : Array Value) (w : World) (g : Nat) (cs : List Value) (T : TypeId) (d : TypeDesc)
    (hp : tmps.getD p undef = .pointer (some ⟨g, 0, none⟩)) (hg : Blk w g cs T) (hu : P.underlying ty = some d) (hd : isRow d = true) (hi : (P.info? ty).map (·.size) = some cs.length) :
    (results fn tmps).run P w = .ok (.agg cs.toArray) w :=
  results_cell_row hf tmps w g T cs.toArray (0, 0) d hp hg hu (by cases d <;> simp_all [isRow]) (by simpa using hi)
end

@[go_sem] theorem run_shr32 {P : Program} (x y : Int) (yk : IntKind) (h : 0 ≤ y) (w : World) : (Op.shift .shr .u32 x yk y).run P w = .ok (.int .u32 (x.fdiv (2 ^ min y.toNat 32))) w := by
  unfold Op.shift
  rw [if_neg (by omega)]
  rfl
@[go_sem] theorem run_shl32 {P : Program} (x y : Int) (yk : IntKind) (h : 0 ≤ y) (w : World) : (Op.shift .shl .u32 x yk y).run P w = .ok (.int .u32 (IntKind.u32.wrap (x * 2 ^ min y.toNat 32))) w := by
  unfold Op.shift
  rw [if_neg (by omega)]
  rfl
end Base
section Spread
open Go.RowKit

theorem and31 (n : Int) (h0 : 0 ≤ n) (h1 : n < 32) : bits BinOp.and IntKind.u64 n 31 = n := by
  obtain ⟨m, rfl⟩ := Int.eq_ofNat_of_zero_le h0
  have : m < 32 := by omega
  have h : ∀ m : Fin 32, bits BinOp.and IntKind.u64 ((m.val : Nat) : Int) 31 = ((m.val : Nat) : Int) := by decide +kernel
  exact h ⟨m, this⟩

/-- A number of 32 bits turned by n places to the right, as word.Turn reckons it. -/
def turnZ (x n : Int) : Int := bits .or .u32 (x / 2 ^ n.toNat) (x * 2 ^ (32 - n).toNat % 4294967296)

set_option maxRecDepth 100000 in
set_option maxHeartbeats 400000 in
theorem turn_any (x n : Int) (w : World) (h0 : 0 ≤ n) (h1 : n < 32) :
    Calls Tryd.prog 95 #[.int .u32 x, .int .i64 n] w fun e w' => e = .returned (.int .u32 (turnZ x n)) ∧ w = w' := by
  have hb := and31 n h0 h1
  go_enter Tryd.func95, Tryd.ntmps95
  go_wp2
  go_ret
  exact ⟨rfl, rfl⟩

/-- Four bytes as a number, the highest first, as sha.spread reckons it. -/
def be4 (a b c d : Int) : Int :=
  bits .or .u32 (bits .or .u32 (bits .or .u32 (a % 4294967296 * 16777216 % 4294967296) (b % 4294967296 * 65536 % 4294967296)) (c % 4294967296 * 256 % 4294967296)) (d % 4294967296)
/-- The next number of a block out of four that stand ahead of it. -/
def nextZ (a p c q : Int) : Int :=
  (a + bits .xor .u32 (bits .xor .u32 (turnZ p 7) (turnZ p 18)) (p / 8) + c + bits .xor .u32 (bits .xor .u32 (turnZ q 17) (turnZ q 19)) (q / 1024)) % 4294967296
/-- The number behind so many numbers of a block. -/
def nextW (bs l : List Int) : Int :=
  if l.length < 16 then be4 (ga bs (4 * l.length)) (ga bs (4 * l.length + 1)) (ga bs (4 * l.length + 2)) (ga bs (4 * l.length + 3)) else
    nextZ (ga l (l.length - 16)) (ga l (l.length - 15)) (ga l (l.length - 7)) (ga l (l.length - 2))
/-- The first numbers of a block. -/
def wordsW (bs : List Int) : Nat → List Int
  | 0 => []
  | k + 1 => wordsW bs k ++ [nextW bs (wordsW bs k)]
theorem wordsW_len (bs : List Int) (k : Nat) : (wordsW bs k).length = k := by
  induction k with
  | zero => rfl
  | succ k ih => simp [wordsW, ih]
/-- The row of 64 numbers when so many are reckoned. -/
def rowW (bs : List Int) (k : Nat) : List Int := wordsW bs k ++ List.replicate (64 - k) 0
theorem rowW_len (bs : List Int) (k : Nat) (h : k ≤ 64) : (rowW bs k).length = 64 := by simp [rowW, wordsW_len]; omega
theorem rowW_at (bs : List Int) (k i : Nat) (h : i < k) : ga (rowW bs k) i = ga (wordsW bs k) i := by
  have e := wordsW_len bs k
  unfold ga rowW
  rw [List.getD_eq_getElem?_getD, List.getD_eq_getElem?_getD, List.getElem?_append_left (by omega)]
theorem rowW_set (bs : List Int) (k : Nat) (h : k < 64) (x : Int) (hx : x = nextW bs (wordsW bs k)) : (rowW bs k).set k x = rowW bs (k + 1) := by
  subst hx
  unfold rowW
  obtain ⟨n, hn⟩ : ∃ n, 64 - k = n + 1 := ⟨63 - k, by omega⟩
  rw [hn, show 64 - (k + 1) = n by omega]
  have e := wordsW_len bs k
  simp [wordsW, e, List.replicate_succ]

set_option maxRecDepth 100000 in
set_option maxHeartbeats 1000000 in
set_option maxRecDepth 100000 in
theorem spread_any (w : World) (b : Nat) (bs : List Int) (T : TypeId) (hn : bs.length = 64) (hc : Blk w b (nums .u8 bs) T) :
    Calls Tryd.prog 94 #[.pointer (some ⟨b, 0, none⟩)] w fun e w' => e = .returned (.agg (nums .u32 (wordsW bs 64)).toArray) ∧ Below w.heap.size w w' := by
  have HN := Lib.hid hn
  clear hn
  have hbb : b < w.heap.size := hc.lt
  go_enter Tryd.func94, Tryd.ntmps94
  go_wp2
  go_loopw [4, 10] (fun _ i wr => ∃ k : Nat, i = .int .i64 k ∧ k ≤ 16 ∧ Below w.heap.size w wr ∧ Blk wr (w.heap.size + 1) (nums .u32 (rowW bs k)) 126 ∧ Blk wr w.heap.size (nums .u32 (List.replicate 64 0)) 126) (fun _ i _ => 16 - (intOf i).toNat)
  case atStart => exact ⟨0, rfl, by omega, (((Below.refl _ _).alloc (Nat.le_refl _) _).alloc (by simp) _), Blk.new' _ _ _ _ _ rfl (by simp), (Blk.new' _ _ _ _ _ rfl rfl).alloc _⟩
  case round =>
    obtain ⟨k, rfl, hk, hB, hbw, hbr⟩ := hrel
    by_cases hlt : k < 16
    · have hcr : Blk wr b (nums .u8 bs) T := hc.below hB hbb
      have c0 := hcr.num (4 * k) (by rw [HN.out]; omega)
      have c1 := hcr.num (4 * k + 1) (by rw [HN.out]; omega)
      have c2 := hcr.num (4 * k + 2) (by rw [HN.out]; omega)
      have c3 := hcr.num (4 * k + 3) (by rw [HN.out]; omega)
      have cw := hbw.num k (by rw [rowW_len bs k (by omega)]; omega)
      have fw := hbw.frozen k
      go_wp2
      refine wp_region_C (Same [b] wr) [39] (by kernel_rfl) (by kernel_rfl) (by intro c a w h; first | (obtain ⟨_, h, _⟩ := h; cases h; done) | (obtain ⟨_, _, h, _⟩ := h; cases h; done) | (obtain ⟨_, _, _, h, _⟩ := h; cases h; done) | (obtain ⟨_, _, _, _, h, _⟩ := h; cases h; done) | (rcases h with ⟨_, ⟨_, _, _, _, h, _⟩ | ⟨_, _, _, _, h, _⟩⟩ <;> cases h; done)) (by intro a w h; first | (obtain ⟨h, _⟩ := h; cases h; done) | (obtain ⟨_, h, _⟩ := h; cases h; done) | (obtain ⟨_, _, h, _⟩ := h; cases h; done) | (obtain ⟨_, _, _, h, _⟩ := h; cases h; done) | (rcases h with ⟨_, _, _, _, h, _⟩ | ⟨_, _, _, _, h, _⟩ <;> cases h; done)) (Same.refl _ _) ?_
      repeat (refine wd_q (v := ?_) rfl rfl rfl rfl rfl rfl (fun w' hw' K hK => ?_) ?_; rotate_left; (have e1 := hw'.cell b (by simp); go_wp2; exact rfl); simp only [Act.put, List.setIfInBounds_toArray, List.set_cons_zero, List.set_cons_succ])
      refine wd_last rfl (by kernel_rfl) rfl (by intro a w h; first | (obtain ⟨h, _⟩ := h; cases h; done) | (obtain ⟨_, h, _⟩ := h; cases h; done) | (obtain ⟨_, _, h, _⟩ := h; cases h; done) | (obtain ⟨_, _, _, h, _⟩ := h; cases h; done) | (rcases h with ⟨_, _, _, _, h, _⟩ | ⟨_, _, _, _, h, _⟩ <;> cases h; done)) ?_
      go_wp2
      go_roundw
      case rel =>
        refine ⟨k + 1, by go_num, by omega, hB.drew.setCell (by simp) _, ?_, ?_⟩
        · rw [← rowW_set bs k (by omega) _ (by rw [nextW, wordsW_len, if_pos hlt])]
          exact hbw.drew.setNum k _
        · exact hbr.drew.far _ _ (by simp)
      case measure => simp [intOf]; omega
    · have e16 : k = 16 := by omega
      rw [e16] at hbw
      clear e16
      go_wp2
      go_loopw [5] (fun i wr => ∃ k : Nat, i = .int .i64 k ∧ 16 ≤ k ∧ k ≤ 64 ∧ Below w.heap.size w wr ∧ Blk wr (w.heap.size + 1) (nums .u32 (rowW bs k)) 126 ∧ Blk wr w.heap.size (nums .u32 (List.replicate 64 0)) 126) (fun i _ => 64 - (intOf i).toNat)
      case atStart => exact ⟨16, rfl, by omega, by omega, hB, hbw, hbr⟩
      case round =>
        clear hB hbw hbr hk hlt
        obtain ⟨k1, hk1⟩ : ∃ k1 : Int, k1 = (k : Int) := ⟨_, rfl⟩
        rw [← hk1]
        clear hk1
        obtain ⟨k, rfl, hk0, hk, hB, hbw, hbr⟩ := hrel
        by_cases hlt : k < 64
        · have hl := rowW_len bs k (by omega)
          have c15 := hbw.num (k - 15) (by omega)
          have c16 := hbw.num (k - 16) (by omega)
          have c7 := hbw.num (k - 7) (by omega)
          have c2 := hbw.num (k - 2) (by omega)
          have cw := hbw.num k (by omega)
          have fw := hbw.frozen k
          have HL := Lib.hid hl
          clear hl
          go_wp2
          refine wp_region_C (Same [w.heap.size + 1] wr) [] (by kernel_rfl) (by kernel_rfl) (by intro c a w h; first | (obtain ⟨_, h, _⟩ := h; cases h; done) | (obtain ⟨_, _, h, _⟩ := h; cases h; done) | (obtain ⟨_, _, _, h, _⟩ := h; cases h; done) | (obtain ⟨_, _, _, _, h, _⟩ := h; cases h; done) | (rcases h with ⟨_, ⟨_, _, _, _, h, _⟩ | ⟨_, _, _, _, h, _⟩⟩ <;> cases h; done)) (by intro a w h; first | (obtain ⟨h, _⟩ := h; cases h; done) | (obtain ⟨_, h, _⟩ := h; cases h; done) | (obtain ⟨_, _, h, _⟩ := h; cases h; done) | (obtain ⟨_, _, _, h, _⟩ := h; cases h; done) | (rcases h with ⟨_, _, _, _, h, _⟩ | ⟨_, _, _, _, h, _⟩ <;> cases h; done)) (Same.refl _ _) ?_
          repeat (refine wd_q (v := ?_) rfl rfl rfl rfl rfl rfl (fun w' hw' K hK => ?_) ?_; rotate_left; (have e1 := hw'.cell (w.heap.size + 1) (by simp); go_wp2; exact rfl); simp only [Act.put, List.setIfInBounds_toArray, List.set_cons_zero, List.set_cons_succ])
          refine wd_nil ?_
          go_wp2_with (go_at_call 95; refine (turn_any _ _ _ (by omega) (by omega)).mono ?_; rintro e w' ⟨rfl, rfl⟩)
          refine wp_region_C (Same [w.heap.size + 1] wr) [15] (by kernel_rfl) (by kernel_rfl) (by intro c a w h; first | (obtain ⟨_, h, _⟩ := h; cases h; done) | (obtain ⟨_, _, h, _⟩ := h; cases h; done) | (obtain ⟨_, _, _, h, _⟩ := h; cases h; done) | (obtain ⟨_, _, _, _, h, _⟩ := h; cases h; done) | (rcases h with ⟨_, ⟨_, _, _, _, h, _⟩ | ⟨_, _, _, _, h, _⟩⟩ <;> cases h; done)) (by intro a w h; first | (obtain ⟨h, _⟩ := h; cases h; done) | (obtain ⟨_, h, _⟩ := h; cases h; done) | (obtain ⟨_, _, h, _⟩ := h; cases h; done) | (obtain ⟨_, _, _, h, _⟩ := h; cases h; done) | (rcases h with ⟨_, _, _, _, h, _⟩ | ⟨_, _, _, _, h, _⟩ <;> cases h; done)) (Same.refl _ _) ?_
          repeat (refine wd_q (v := ?_) rfl rfl rfl rfl rfl rfl (fun w' hw' K hK => ?_) ?_; rotate_left; (have e1 := hw'.cell (w.heap.size + 1) (by simp); go_wp2; exact rfl); simp only [Act.put, List.setIfInBounds_toArray, List.set_cons_zero, List.set_cons_succ])
          refine wd_last rfl (by kernel_rfl) rfl (by intro a w h; first | (obtain ⟨h, _⟩ := h; cases h; done) | (obtain ⟨_, h, _⟩ := h; cases h; done) | (obtain ⟨_, _, h, _⟩ := h; cases h; done) | (obtain ⟨_, _, _, h, _⟩ := h; cases h; done) | (rcases h with ⟨_, _, _, _, h, _⟩ | ⟨_, _, _, _, h, _⟩ <;> cases h; done)) ?_
          go_wp2
          go_roundw
          case rel =>
            refine ⟨k + 1, by go_num, by omega, by omega, hB.drew.drew.setCell (by simp) _, ?_, ?_⟩
            · rw [← rowW_set bs k (by omega) _ (by rw [nextW, wordsW_len, if_neg (by omega), nextZ, ← rowW_at bs k (k - 16) (by omega), ← rowW_at bs k (k - 15) (by omega), ← rowW_at bs k (k - 7) (by omega), ← rowW_at bs k (k - 2) (by omega)])]
              exact hbw.drew.drew.setNum k _
            · exact hbr.drew.drew.far _ _ (by simp)
          case measure => simp [intOf]; omega
        · obtain rfl : k = 64 := by omega
          have hl := rowW_len bs 64 (by omega)
          have e64 : rowW bs 64 = wordsW bs 64 := by simp [rowW]
          rw [e64] at hbw hl
          have HL := Lib.hid hl
          have HE := Lib.hid e64
          clear hl e64
          go_wp2_with (first | (refine wpList_load_at rfl 126 _ rfl _ 0 64 rfl _ _ _ hbw Tryd.underlying126 rfl (by kernel_rfl) (by rw [nums_length, HL.out]; exact Nat.le_refl _) _ (row_all _ _ (by rw [nums_length, HL.out])) ?_) | (refine wpList_store_at rfl 126 _ _ rfl rfl _ 0 rfl _ rfl _ _ hbr (by rw [nums_length, HL.out]; kernel_rfl) (by rw [nums_length, HL.out]; simp [nums]) (nums_one _ _) ?_))
          refine bodyPost_ret (ret_row rfl _ _ _ (nums .u32 (wordsW bs 64)) 126 _ rfl ?_ Tryd.underlying126 rfl (by rw [nums_length, HL.out]; kernel_rfl)) rfl ⟨rfl, ?_⟩
          · have := hbr.row (laid (nums .u32 (List.replicate 64 0)) 0 (nums .u32 (wordsW bs 64)))
            rw [laid_all _ _ (by rw [nums_length, HL.out]; simp [nums])] at this ⊢
            exact this
          · exact below_setRow hB (Nat.le_refl _) _
end Spread
end Go.Proofs.YtancldhincaphaaDoor
