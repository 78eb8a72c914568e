/- A region whose order Go leaves open and in which some operations that turn the world are not put in order, calls of functions behind them: one walk for each order of those. A law over any program; guarded operations too. No condition on the program of this seat. -/
import Derived.Test.YtancldhincaphaaDoorOrders
import Derived.Test.YtancldhincaphaaDoorGe
namespace Go.Proofs.YtancldhincaphaaDoor
open Go.RowKit
set_option maxRecDepth 100000

section
variable {P : Program} {ops : Array Oper} {C : World → Prop} {Q : Exit → Act → World → Prop} {E F : List Nat} {Z : Nat → Bool}

/-- Whatever order the loud ones come in is the order of one of the lists. -/
def coverOk2 (m : Array Nat) (solo : Nat → Bool) : Nat → List (List Nat) → Bool
  | 0, fam => fam.all (·.isEmpty)
  | n + 1, fam => (fam.headD []).all fun i => ((fam.headD []).any fun j => (m.getD i 0).testBit j) ||
      (!(fam.filter fun l => l.head? == some i).isEmpty && (decide ((fam.filter fun l => l.head? == some i).length ≤ 1) || solo i) && coverOk2 m solo n ((fam.filter fun l => l.head? == some i).map (·.tail)))

theorem wpAny_of_WCs2 {m : Array Nat} {solo : Nat → Bool} (hsolo : ∀ i o, ops[i]? = some o → solo i = true → soloOp o.op = true) (hm : m = Region.before ops) (hns : Region.noSelect ops = true) (hed : edgesOk ops m = true) (hse : selfOk ops m = true) (ht : tableOk ops m = true) (hp : pairsOk2 ops m = true) (hQp : ∀ c a w, ¬ Q (.panic c) a w) (hQo : ∀ a w, ¬ Q .outgrown a w) :
    ∀ (n : Nat) (fam : List (List Nat)) (k : Nat) (listed : Array Bool) (a : Act) (w : World), fam ≠ [] → coverOk2 m solo k (fam.map (·.filter E.contains)) = true → listed.size = ops.size →
    (∀ j oj, ops[j]? = some oj → listed.getD j false = true → ∀ e ∈ oj.after, Region.binds .any e = true → listed.getD e.on false = true) →
    (∀ L ∈ fam, Goes P ops C Q E F m n listed a w L) → wpAny P .any ops Q n listed a w := by
  intro n
  induction n with
  | zero =>
    intro fam k listed a w hne _ _ _ h
    obtain ⟨L, hL⟩ := List.exists_mem_of_ne_nil fam hne
    obtain ⟨h1, _, _, hmem, _, h⟩ := h L hL
    have : L = [] := List.eq_nil_of_length_eq_zero h1
    subst this
    refine ⟨?_, h⟩
    refine List.eq_nil_iff_forall_not_mem.2 fun j hj => ?_
    have := (hmem j).2 (mem_ready.1 hj).1
    cases this
  | succ n ih =>
    intro fam k listed a w hne hcov hsz hcl h
    refine ⟨fun h0 => ?_, fun i hi => ?_⟩
    · exfalso
      obtain ⟨L, hL⟩ := List.exists_mem_of_ne_nil fam hne
      obtain ⟨h1, hnd, hal, hmem, _, _⟩ := h L hL
      match L, h1 with
      | x :: L', _ =>
        have hx := (hmem x).1 (by simp)
        have hxlt : x < ops.size := by
          by_cases hlt : x < listed.size
          · omega
          · simp [Array.getElem?_eq_none (by omega : listed.size ≤ x)] at hx
        have hr : x ∈ Region.ready .any ops listed := by
          refine mem_ready.2 ⟨hx, ops[x], by simp [hxlt], fun e he hb => ?_⟩
          have h1 := List.all_eq_true.1 hed x (List.mem_range.2 hxlt)
          have hxo : ops[x]? = some ops[x] := by simp [hxlt]
          rw [hxo] at h1
          simp only [Option.map_some, Option.getD_some] at h1
          have h2 := (Array.all_eq_true_iff_forall_mem.1 h1) e he
          rw [hb] at h2
          simp only [Bool.not_true, Bool.false_or, Bool.and_eq_true, decide_eq_true_eq] at h2
          cases hl : listed.getD e.on true with
          | true =>
            have hlt : e.on < listed.size := by omega
            simp [hlt] at hl ⊢; exact hl
          | false =>
            exfalso
            have hmm := (hmem e.on).2 hl
            rcases List.mem_cons.1 hmm with hmm | hmm
            · have h3 := h2.2
              have h4 := List.all_eq_true.1 hse x (List.mem_range.2 hxlt)
              rw [hmm] at h3
              rw [h3] at h4
              cases h4
            · have := (List.pairwise_cons.1 hal).1 e.on hmm
              rw [h2.2] at this; cases this
        rw [h0] at hr
        cases hr
    · obtain ⟨hun, oi, hoi, hall⟩ := mem_ready.1 hi
      have hlt : i < ops.size := (Array.getElem?_eq_some_iff.1 hoi).1
      have hcl' : ∀ j oj, ops[j]? = some oj → (listed.setIfInBounds i true).getD j false = true → ∀ e ∈ oj.after, Region.binds .any e = true → (listed.setIfInBounds i true).getD e.on false = true := by
        intro j oj hj hl e he hb
        by_cases hij : i = j
        · subst hij
          have : oj = oi := Option.some.inj (hj.symm.trans hoi)
          subst this
          exact getD_set_true (hall e he hb)
        · rw [getD_set_ne false hij] at hl
          exact getD_set_true (hcl j oj hj hl e he hb)
      -- what each list gives
      have cut : ∀ L ∈ fam, ∃ L1 L2, L = L1 ++ i :: L2 ∧ i ∉ L1 ∧ (∀ x ∈ L1, ∃ ox, ops[x]? = some ox ∧ ox.apart ops oi = true ∧ ((m.getD i 0).testBit x = false ∧ (m.getD x 0).testBit i = false)) ∧
          (∀ a' w', ((L1 ++ L2).all F.contains = true ∨ C w') → WC P ops C Q E F (sinks2 ops F) (L1 ++ L2) a' w' → Goes P ops C Q E F m n (listed.setIfInBounds i true) a' w' (L.erase i)) := by
        intro L hL
        obtain ⟨h1, hnd, hal, hmem, hC, hw⟩ := h L hL
        obtain ⟨L1, L2, rfl, hni⟩ := split_at ((hmem i).2 hun)
        refine ⟨L1, L2, rfl, hni, fun x hx => ?_, fun a' w' hC' hw' => ?_⟩
        · have hxi : x ≠ i := fun e => hni (e ▸ hx)
          have hux := (hmem x).1 (by simp [hx])
          have hxs : x < ops.size := by
            by_cases hlt : x < listed.size
            · omega
            · simp [Array.getElem?_eq_none (by omega : listed.size ≤ x)] at hux
          have h1 := List.all_eq_true.1 (List.all_eq_true.1 hp i (List.mem_range.2 hlt)) x (List.mem_range.2 hxs)
          have hnb : (m.getD i 0).testBit x = false := by
            cases hb : (m.getD i 0).testBit x with
            | false => rfl
            | true =>
              have := table_listed ht hcl i x oi hoi hall hxs hb
              rw [getD_both hux] at this
              cases this
          have hnb2 : (m.getD x 0).testBit i = false := (List.pairwise_append.1 hal).2.2 x hx i (by simp)
          have hxo : ops[x]? = some ops[x] := by simp [hxs]
          rw [hnb, hnb2, hxo, hoi, decide_eq_false hxi] at h1
          simp only [Bool.false_or] at h1
          exact ⟨_, hxo, h1, hnb, hnb2⟩
        · rw [erase_mid hni]
          have hnd' := List.nodup_append.1 hnd
          have hni2 : i ∉ L2 := (List.nodup_cons.1 hnd'.2.1).1
          refine ⟨by simp at h1 ⊢; omega, ?_, ?_, fun j => ?_, hC', hw'⟩
          · refine List.nodup_append.2 ⟨hnd'.1, (List.nodup_cons.1 hnd'.2.1).2, fun x hx y hy => hnd'.2.2 x hx y (by simp [hy])⟩
          · have hp := List.pairwise_append.1 hal
            exact List.pairwise_append.2 ⟨hp.1, (List.pairwise_cons.1 hp.2.1).2, fun x hx y hy => hp.2.2 x hx y (by simp [hy])⟩
          · by_cases hij : i = j
            · subst hij
              refine ⟨fun h => absurd h (by simp [hni, hni2]), fun h => ?_⟩
              simp [hsz, hlt] at h
            · rw [getD_set_ne true hij, ← hmem j]
              simp [Ne.symm hij]
      have filt : ∀ L ∈ fam, E.contains i = false → (L.erase i).filter E.contains = L.filter E.contains := by
        intro L hL hE
        obtain ⟨L1, L2, rfl, hni, _⟩ := cut L hL
        rw [erase_mid hni, List.filter_append, List.filter_append, List.filter_cons_of_neg (by rw [hE]; exact Bool.false_ne_true)]
      by_cases hE : E.contains i = true
      · -- loud: the lists in which it is the first loud one
        obtain ⟨L0, hL0⟩ := List.exists_mem_of_ne_nil fam hne
        have hfirst : ∃ L0 tl, fam = L0 :: tl := by cases fam with
          | nil => exact absurd rfl hne
          | cons x l => exact ⟨x, l, rfl⟩
        obtain ⟨H0, tl0, hfam⟩ := hfirst
        have hH0 : H0 ∈ fam := by rw [hfam]; simp
        have hi0 : i ∈ H0.filter E.contains := by
          obtain ⟨_, _, _, hmem, _⟩ := h H0 hH0
          exact List.mem_filter.2 ⟨(hmem i).2 hun, hE⟩
        cases k with
        | zero =>
          exfalso
          have := List.all_eq_true.1 hcov (H0.filter E.contains) (List.mem_map.2 ⟨H0, hH0, rfl⟩)
          rw [List.isEmpty_iff] at this
          rw [this] at hi0; cases hi0
        | succ k =>
          have hc := hcov
          unfold coverOk2 at hc
          have hhd : ((fam.map (·.filter E.contains)).headD []) = H0.filter E.contains := by rw [hfam]; rfl
          rw [hhd] at hc
          have hc1 := List.all_eq_true.1 hc i hi0
          have hnj : ((H0.filter E.contains).any fun j => (m.getD i 0).testBit j) = false := by
            refine List.any_eq_false.2 fun j hj => ?_
            have hj0 := (List.mem_filter.1 hj).1
            obtain ⟨_, _, _, hmem, _⟩ := h H0 hH0
            have huj := (hmem j).1 hj0
            have hjs : j < ops.size := by
              by_cases hlt : j < listed.size
              · omega
              · simp [Array.getElem?_eq_none (by omega : listed.size ≤ j)] at huj
            intro hb
            have := table_listed ht hcl i j oi hoi hall hjs hb
            rw [getD_both huj] at this
            cases this
          rw [hnj, Bool.false_or, Bool.and_eq_true] at hc1
          obtain ⟨hc1, hc2⟩ := hc1
          obtain ⟨hc1, hc3⟩ := (Bool.and_eq_true _ _ ▸ hc1 : _ ∧ _)
          let sub := fam.filter fun L => (L.filter E.contains).head? == some i
          have hsubm : (fam.map (·.filter E.contains)).filter (fun l => l.head? == some i) = sub.map (·.filter E.contains) := by
            rw [List.filter_map]; rfl
          have hsne : sub ≠ [] := by
            intro e
            rw [hsubm, e] at hc1
            simp at hc1
          have hsubin : ∀ L ∈ sub, L ∈ fam ∧ (L.filter E.contains).head? = some i := fun L hL => by
            have := List.mem_filter.1 hL
            exact ⟨this.1, by simpa using this.2⟩
          have one : ∀ L ∈ sub, wpOp P ops Q i (fun a' w' => Goes P ops C Q E F m n (listed.setIfInBounds i true) a' w' (L.erase i)) a w := by
            intro L hL
            obtain ⟨hLf, hhead⟩ := hsubin L hL
            obtain ⟨L1, L2, rfl, hni, hap, hgo⟩ := cut L hLf
            obtain ⟨_, _, _, _, hC, hw⟩ := h _ hLf
            have hquiet : ∀ x ∈ L1, E.contains x = false := by
              intro x hx
              cases hEx : E.contains x with
              | false => rfl
              | true =>
                exfalso
                rw [List.filter_append] at hhead
                have hxm : x ∈ L1.filter E.contains := List.mem_filter.2 ⟨hx, hEx⟩
                cases hf : L1.filter E.contains with
                | nil => rw [hf] at hxm; cases hxm
                | cons y l =>
                  rw [hf] at hhead
                  simp only [List.cons_append, List.head?_cons, Option.some.injEq] at hhead
                  have : y ∈ L1 := (List.mem_filter.1 (by rw [hf]; simp : y ∈ L1.filter E.contains)).1
                  rw [hhead] at this
                  exact hni this
            refine wpOp_mono (fun a' w' h' => hgo a' w' (h'.1.imp (fun h => h.1) id) h'.2) (pull_loud2 hns hoi hE hQp L2 L1 a w (fun x hx hz => ?_) (fun x hx => ?_) hw)
            · obtain ⟨ox, hox, _, hb1, hb2⟩ := hap x hx
              have := List.all_eq_true.1 hz x (List.mem_range.2 (Array.getElem?_eq_some_iff.1 hox).1)
              rw [← hm, hb1, hb2, decide_eq_false (fun e => hni (by rw [← e]; exact hx))] at this
              simpa using this
            · obtain ⟨ox, hox, hax, _⟩ := hap x hx
              exact ⟨hquiet x hx, ox, hox, hax⟩
          have hsl : soloOp oi.op = true ∨ sub.length ≤ 1 := by
            rw [hsubm, List.length_map] at hc3
            rcases (Bool.or_eq_true _ _ ▸ hc3 : _ ∨ _) with h | h
            · exact .inr (of_decide_eq_true h)
            · exact .inl (hsolo i oi hoi h)
          refine wpOp_mono (fun a' w' h' => ?_) (wpOp_every hoi hsl hQo hQp hsne one)
          refine ih (sub.map (·.erase i)) k _ a' w' (by simpa using hsne) ?_ (by simp [hsz]) hcl' (fun L hL => ?_)
          · rw [hsubm, List.map_map] at hc2
            rw [List.map_map]
            have : sub.map ((fun x => x.filter E.contains) ∘ fun x => x.erase i) = sub.map ((fun x => x.tail) ∘ fun x => x.filter E.contains) := by
              refine List.map_congr_left fun L hL => ?_
              obtain ⟨hLf, hhead⟩ := hsubin L hL
              obtain ⟨L1, L2, rfl, hni, hap, _⟩ := cut L hLf
              simp only [Function.comp]
              rw [erase_mid hni]
              have hq : L1.filter E.contains = [] := by
                cases hf : L1.filter E.contains with
                | nil => rfl
                | cons y l =>
                  exfalso
                  rw [List.filter_append, hf] at hhead
                  simp only [List.cons_append, List.head?_cons, Option.some.injEq] at hhead
                  have : y ∈ L1 := (List.mem_filter.1 (by rw [hf]; simp : y ∈ L1.filter E.contains)).1
                  rw [hhead] at this
                  exact hni this
              rw [List.filter_append, List.filter_append, hq, List.filter_cons_of_pos hE]
              rfl
            rw [this]; exact hc2
          · obtain ⟨L', hL', rfl⟩ := List.mem_map.1 hL
            exact h' L' hL'
      · have hE' : E.contains i = false := by simpa using hE
        obtain ⟨L0, hL0⟩ := List.exists_mem_of_ne_nil fam hne
        have pull : ∀ L ∈ fam, ∃ v, YieldsC P ops (ClassOf C F i) oi v a ∧ Goes P ops C Q E F m n (listed.setIfInBounds i true) (a.put oi.dst v) w (L.erase i) := by
          intro L hL
          obtain ⟨L1, L2, rfl, hni, hap, hgo⟩ := cut L hL
          obtain ⟨_, _, _, _, hC, hw⟩ := h _ hL
          have hCi : ClassOf C F i w := hC.imp (fun h => List.all_eq_true.1 h i (by simp)) id
          obtain ⟨v, hy, h'⟩ := pull_quiet hns hoi hE' hQp hQo L2 L1 a w hCi (fun x hx => (let ⟨ox, hox, hap, _⟩ := hap x hx; ⟨ox, hox, hap⟩)) hw
          exact ⟨v, hy, hgo _ _ (hC.imp (fun h => List.all_eq_true.2 fun x hx => List.all_eq_true.1 h x (by rcases List.mem_append.1 hx with hx | hx <;> simp [hx])) id) h'⟩
        obtain ⟨v0, hy0, _⟩ := pull L0 hL0
        have hCi : ClassOf C F i w := by
          obtain ⟨L1, L2, rfl, hni, hap, hgo⟩ := cut L0 hL0
          obtain ⟨_, _, _, _, hC, hw⟩ := h _ hL0
          exact hC.imp (fun h => List.all_eq_true.1 h i (by simp)) id
        refine hy0.run hoi hCi (ih (fam.map (·.erase i)) k _ _ _ (by simpa using hne) ?_ (by simp [hsz]) hcl' (fun L hL => ?_))
        · rw [List.map_map]
          have : fam.map ((fun x => x.filter E.contains) ∘ fun x => x.erase i) = fam.map (fun x => x.filter E.contains) := List.map_congr_left fun L hL => filt L hL hE'
          rw [this]; exact hcov
        · obtain ⟨L', hL', rfl⟩ := List.mem_map.1 hL
          obtain ⟨v, hy, hg⟩ := pull L' hL'
          have : v = v0 := by
            rcases hy with ⟨hw, hv⟩ | ⟨hw, rfl⟩ <;> rcases hy0 with ⟨hw', hv'⟩ | ⟨hw', rfl⟩
            · exact (hv w hCi).one (hv' w hCi)
            · rw [hw] at hw'; cases hw'
            · rw [hw] at hw'; cases hw'
            · rfl
          rw [← this]; exact hg

def ordersOk2 (ops : Array Oper) (E : List Nat) (Os : List (List Nat)) : Bool :=
  Region.noSelect ops && edgesOk ops (Region.before ops) && selfOk ops (Region.before ops) && tableOk ops (Region.before ops) && pairsOk2 ops (Region.before ops) && !Os.isEmpty &&
  Os.all (fun L => decide (L.length = ops.size) && decide L.Nodup && L.all (fun x => decide (x < ops.size)) && (List.range ops.size).all (fun x => L.contains x) && alongOk (Region.before ops) L) && coverOk2 (Region.before ops) (fun i => ((ops[i]?).map fun o => soloOp o.op).getD false) E.length (Os.map (·.filter E.contains))
/-- ONE WALK FOR EACH ORDER OF THE LOUD ONES SERVES EVERY ORDER. -/
theorem wp_region_O2 {id : Nat} {l : List Oper} {a : Act} {w : World} (C : World → Prop) (E F : List Nat) (Os : List (List Nat)) (hm : P.follows .mixedOrders = true) (hB : ordersOk2 l.toArray E Os = true) (hQp : ∀ c a w, ¬ Q (.panic c) a w) (hQo : ∀ a w, ¬ Q .outgrown a w)
    (hC : C w.drew) (h : ∀ L ∈ Os, WC P l.toArray C Q E F (sinks2 l.toArray F) L a w.drew) : (Code.region id l.toArray true).wp P Q a w := by
  simp only [ordersOk2, Bool.and_eq_true] at hB
  obtain ⟨⟨⟨⟨⟨⟨⟨hns, hed⟩, hse⟩, ht⟩, hp⟩, hne⟩, hL⟩, hcov⟩ := hB
  refine wp_region_any hm ?_
  have := wpAny_of_WCs2 (C := C) (E := E) (F := F) (Q := Q) (P := P) (solo := fun i => ((l.toArray[i]?).map fun o => soloOp o.op).getD false) (fun i o hi hs => by rw [hi] at hs; exact hs) rfl hns hed hse ht hp hQp hQo l.length Os E.length (Array.replicate l.toArray.size false) a w.drew (by intro e; rw [e] at hne; cases hne) hcov (by simp)
    (fun j oj _ hl => (by rw [getD_replicate_false] at hl; cases hl)) (fun L hLm => by
      have h1 := List.all_eq_true.1 hL L hLm
      simp only [Bool.and_eq_true, decide_eq_true_eq] at h1
      obtain ⟨⟨⟨⟨h1, h2⟩, h3⟩, h5⟩, h4⟩ := h1
      have h3' : ∀ x ∈ L, x < l.toArray.size := fun x hx => by have := List.all_eq_true.1 h3 x hx; exact of_decide_eq_true this
      refine ⟨by simpa using h1, h2, along_pair h4, fun j => ?_, .inr hC, h L hLm⟩
      by_cases hj : j < l.length
      · have : j ∈ L := by have := List.all_eq_true.1 h5 j (List.mem_range.2 (by simpa using hj)); simpa using this
        simp [hj, this]
      · have : j ∉ L := fun hm => hj (by simpa using h3' j hm)
        simp [hj, this])
  simpa using this


variable {l : List Oper} {i : Nat} {rest : List Nat} {a : Act} {w : World} {o : Oper} {v : Value} {K : Act → World → Prop}
/-- A quiet operation with a guard that is met, run as the walk runs it. -/
theorem wo_wg {d : Nat} (ho : l[i]? = some o) (hE : E.contains i = false) (hF : F.contains i = false) (hg : Region.wanted o (yielded l.toArray a.tmps) = true) (hq : valueOp o.op = true) (hd : o.dst = some d) (hl0 : Nat.blt d a.tmps.size = true)
    (hv : ∀ w', C w' → ∀ K : Act → World → Prop, (∀ a', a' = a.put (some d) v → K a' w') → wpList P #[] (Exit.then K (fun _ _ _ => False)) [{ o with guard := none }] a w')
    (h : WC P l.toArray C Q E F Z rest (a.put (some d) v) w) : WC P l.toArray C Q E F Z (i :: rest) a w := by
  simp only [WC]
  rw [if_neg (by rw [hE]; exact Bool.false_ne_true)]
  refine ⟨o, v, by simpa using ho, .inl ⟨hg, fun w' hC => .inl ?_⟩, by rw [hd]; exact h⟩
  have := run_of_wp1 (P := P) (o := { o with guard := none }) (a := a) (v := v) (w' := w') rfl hq hd hl0 (hv w' (hC.resolve_left (by rw [hF]; exact Bool.false_ne_true)))
  exact this
/-- A loud operation with a guard that is met; the class holds behind it. -/
theorem wo_lg (ho : l[i]? = some o) (hE : E.contains i = true) (hg : Region.wanted o (yielded l.toArray a.tmps) = true) (hQo : ∀ a w, ¬ Q .outgrown a w)
    (h : wpList P #[] (Exit.then (fun a' w' => C w' ∧ WC P l.toArray C Q E F Z rest a' w') Q) [{ o with guard := none }] a w) : WC P l.toArray C Q E F Z (i :: rest) a w := by
  simp only [WC]
  rw [if_pos hE]
  unfold wpOp
  have ho' : l.toArray[i]? = some o := by simpa using ho
  rw [ho']
  simp only
  rw [if_pos hg]
  left
  unfold wpList at h
  rw [if_pos (by simp [Region.wanted])] at h
  rcases h with h | ⟨_, a', w', hl⟩
  · obtain ⟨dst, op, type, pos, after, guard⟩ := o
    unfold Oper.wp at h ⊢
    dsimp only at h
    have he : execOp a.eval ⟨dst, op, type, pos, after, guard⟩ = execOp a.eval ⟨dst, op, type, pos, after, none⟩ := rfl
    rw [he]
    generalize (execOp a.eval ⟨dst, op, type, pos, after, none⟩).run P w = r at h ⊢
    cases r with
    | ok n w' =>
      cases n <;> simp only [Oper.upon] at h ⊢
      case value u => exact ⟨.inr h.1, h.2⟩
      case skip => exact ⟨.inr h.1, h.2⟩
      case defer d => exact ⟨.inr h.1, h.2⟩
      case enter f args => exact Calls.mono h fun e w'' he => by
                            cases e with
                            | returned u => exact ⟨.inr he.1, he.2⟩
                            | panicked c => exact he
                            | outgrown => exact he
      case row row args => exact Rows.mono h fun _ _ he => ⟨.inr he.1, he.2⟩
    | halt z w' => cases z <;> simp only [Oper.upon] at h ⊢ <;> exact h
  · exact absurd hl (hQo a' w')
/-- A pick, in every world. -/
theorem wo_pick {c x y : Operand} {b : Bool} (hl : l[i]? = some o) (ho : o.op = .pick c x y) (hE : E.contains i = false) (hg : o.guard = none) (hc : a.eval c = .bool b) (hv : (if b then a.eval x else a.eval y) = v)
    (h : WC P l.toArray C Q E F Z rest (a.put o.dst v) w) : WC P l.toArray C Q E F Z (i :: rest) a w := by
  subst hv
  simp only [WC]
  rw [if_neg (by rw [hE]; exact Bool.false_ne_true)]
  refine ⟨o, _, by simpa using hl, .inl ⟨by simp [Region.wanted, hg], fun w _ => .inl ?_⟩, h⟩
  unfold execOp
  rw [ho]
  simp [hc, asBool]
end

end Go.Proofs.YtancldhincaphaaDoor
