/- A row of texts in memory with its own blocks; what the reference's Add of layer 21 makes of it. No condition. -/
import Derived.Test.YtancldhincaphaaDoorTells
namespace Go.Proofs.YtancldhincaphaaDoor
open Go.RowKit
set_option maxRecDepth 100000

/-- A list of texts in memory: its blocks are those of G. -/
structure TG (w : World) (base : Nat) (G : Nat → Prop) (L : List (List Int)) (v : Value) : Prop where
  lo : ∀ k, G k → base ≤ k ∧ k < w.heap.size
  ex : ∃ cs, OwnC w base 22 v cs ∧ (∀ k, v.ownBlock = some k → G k) ∧ TxtsIn w cs L (fun k => G k ∧ v.ownBlock ≠ some k)
theorem TG.nil (w : World) (base : Nat) : TG w base (fun _ => False) [] (.slice none 0 0) := ⟨fun _ h => h.elim, [], OwnC.nil _ _ _, fun k hk => by simp [Value.ownBlock] at hk, TxtsIn.nil _ _⟩
theorem TG.ch {X : Nat → Prop} {w w' : World} {base : Nat} {G : Nat → Prop} {L : List (List Int)} {v : Value} (h : TG w base G L v) (hc : Ch X w w') (hx : ∀ k, G k → ¬ X k) : TG w' base G L v := by
  obtain ⟨cs, h1, h2, h3⟩ := h.ex
  exact ⟨fun k hk => ⟨(h.lo k hk).1, Nat.lt_of_lt_of_le (h.lo k hk).2 hc.size⟩, cs, h1.ch hc (fun k hk => hx k (h2 k hk)), h2, h3.ch hc (fun k hk => hx k hk.1)⟩
theorem TG.up {w w' : World} {base : Nat} {G : Nat → Prop} {L : List (List Int)} {v : Value} (h : TG w base G L v) (hb : Below w.heap.size w w') : TG w' base G L v := h.ch (Ch.of (X := fun _ => False) hb) (fun _ _ h => h)
theorem TG.to {w : World} {base : Nat} {G G' : Nat → Prop} {L : List (List Int)} {v : Value} (h : TG w base G L v) (hG : ∀ k, G k → G' k) (hb : ∀ k, G' k → base ≤ k ∧ k < w.heap.size) : TG w base G' L v := by
  obtain ⟨cs, h1, h2, h3⟩ := h.ex
  exact ⟨hb, cs, h1, fun k hk => hG k (h2 k hk), h3.mono (fun k hk => ⟨hG k hk.1, hk.2⟩)⟩
theorem TG.wide {w w' : World} {base : Nat} {G : Nat → Prop} {L : List (List Int)} {v : Value} (h : TG w' base G L v) (hb : base ≤ w.heap.size) : TG w' base (ext G w w') L v :=
  h.to (fun k hk => .inl hk) (fun k hk => by rcases hk with hk | hk; exact h.lo k hk; exact ⟨by omega, hk.2⟩)
theorem TG.own {w : World} {base : Nat} {G : Nat → Prop} {L : List (List Int)} {v : Value} (h : TG w base G L v) : ∀ k, v.ownBlock = some k → base ≤ k ∧ k < w.heap.size := fun k hk => by obtain ⟨cs, h1, h2, _⟩ := h.ex; exact h.lo k (h2 k hk)
theorem TG.ownG {w : World} {base : Nat} {G : Nat → Prop} {L : List (List Int)} {v : Value} (h : TG w base G L v) : ∀ k, v.ownBlock = some k → G k := fun k hk => by obtain ⟨cs, h1, h2, _⟩ := h.ex; exact h2 k hk
theorem TG.tl {w : World} {base : Nat} {G : Nat → Prop} {L : List (List Int)} {v : Value} (h : TG w base G L v) : TL w base L v := by
  obtain ⟨cs, h1, h2, h3⟩ := h.ex
  exact ⟨cs, h1, h3.mono (fun k hk => ⟨(h.lo k hk.1).1, (h.lo k hk.1).2, hk.2⟩)⟩
theorem TL.spotP {w : World} {base n c : Nat} {L : List (List Int)} {A : Option Addr} (h : TL w base L (.slice A n c)) : ∀ ad, A = some ad → ad.spot = none := by
  obtain ⟨cs, h1, _⟩ := h
  rcases h1.2 with ⟨h, _⟩ | ⟨g, cap, cur, hv, _⟩
  · injection h with h; subst h; intro ad ha; cases ha
  · injection hv with h; subst h; intro ad ha; injection ha with ha; subst ha; rfl
/-- append(x, y) of one text. -/
theorem st_pushG {ops : Array Oper} {rest : List Oper} {a : Act} {w : World} {Q : Exit → Act → World → Prop} {d' : Option Tmp} {tt : TypeId} {s x : Operand} {pos : String} {after : Array Edge} {base g2 d : Nat} {G : Nat → Prop} {v : Value} {L : List (List Int)} {b : List Int} {B : Option Addr}
    (hs : a.eval s = v) (hx : a.eval x = .slice (some ⟨g2, 0, none⟩) 1 1) (ht : TG w base G L v) (hr : Blk w g2 [.slice B b.length d] 22) (hb : Byt w B d b) (hB : ∀ a, B = some a → G a.block ∧ v.ownBlock ≠ some a.block) (hl : L.length ≤ 1000000) (hbase : base ≤ w.heap.size)
    (h : ∀ v' w', TG w' base (ext G w w') (L ++ [b]) v' → w.grownBy w' v.ownBlock → wpList Tryd.prog ops Q rest (a.put d' v') w') :
    wpList Tryd.prog ops Q (⟨d', .call ⟨.builtin .append, #[s, x], #[43, 43]⟩, tt, pos, after, none⟩ :: rest) a w := by
  obtain ⟨cs, h1, h2, h3⟩ := ht.ex
  refine st_appendT (base := base) (g2 := g2) (v := v) (y := .slice B b.length d) (cs := cs) hs hx h1 hr rfl (by rw [h3.1]; omega) hbase (fun v' w' ho hg hat => h v' w' ⟨fun k hk => ?_, cs ++ [.slice B b.length d], ho, fun k hk => ?_, ?_⟩ hg)
  · rcases hk with hk | hk
    · have h4 := ht.lo k hk; have h5 := hg.size; exact ⟨h4.1, by omega⟩
    · exact ⟨by omega, hk.2⟩
  · have h4 := (World.ownsRow.lt ho k hk).2
    rcases hat with hat | hat
    · exact .inl (h2 k (hat ▸ hk))
    · rw [hat] at hk; injection hk with hk; exact .inr ⟨by omega, h4⟩
  · have hch : Ch (fun k => v.ownBlock = some k) w w' := Ch.grown hg (fun k hk => hk)
    have own : ∀ k, v.ownBlock ≠ some k → k < w.heap.size → v'.ownBlock ≠ some k := fun k h1 h2 e => by
      rcases hat with hat | hat
      · exact h1 (hat.symm.trans e)
      · rw [hat] at e; injection e with e; omega
    refine ((h3.ch hch (fun k hk => hk.2)).mono (fun k hk => ⟨.inl hk.1, own k hk.2 (ht.lo k hk.1).2⟩)).snoc (hb.ch hch (fun a ha => (hB a ha).2)) (fun a ha => ?_)
    have h5 := hB a ha
    exact ⟨.inl h5.1, own _ h5.2 (ht.lo _ h5.1).2⟩

/-- What the reference's Add answers, and what it leaves of the row. -/
def RefAddG (w : World) (base : Nat) (G : Nat → Prop) (v : Value) (T : List (List Int)) (e : Ent) (r : Ending) (w' : World) : Prop :=
  ∃ v', r = .returned (.tuple #[v', .int .i64 (addR T e).2]) ∧ TG w' base (ext G w w') (addR T e).1 v' ∧ Ch (fun k => v.ownBlock = some k) w w'
set_option maxRecDepth 100000 in
set_option maxHeartbeats 8000000 in
theorem refaddg_any (w : World) (base : Nat) (G : Nat → Prop) (T : List (List Int)) (A : Option Addr) (c : Nat) (hT : TG w base G T (.slice A T.length c)) (hl : T.length ≤ 64) (hbase : base ≤ w.heap.size) (e : Ent) (he : EntB e) (B : Option Addr) (d : Nat) (ho : Nts w B d e.ord) (hol : e.ord.length ≤ 1000) :
    Calls Tryd.prog 30 #[.slice A T.length c, .agg (entC e B d).toArray] w (RefAddG w base G (.slice A T.length c) T e) := by
  have henc := fun w (h : Nts w B d e.ord) => refencode_any w e he B d h hol
  obtain ⟨w0, hw0⟩ : ∃ W, W = w.alloc (.cells (entC e B d).toArray 39) := ⟨_, rfl⟩
  have hx0 : Blk w0 w.heap.size (entC e B d) 39 := by rw [hw0]; exact Blk.new' _ _ _ _ _ rfl rfl
  have hB0 : Below w.heap.size w w0 := by rw [hw0]; exact (Below.refl _ _).alloc (Nat.le_refl _) _
  have HENC := Lib.hid henc
  have HLEN := Lib.hid (entC_len he B d)
  have HW0 := Lib.hid hw0
  have HO := Lib.hid ho
  have HE := Lib.hid he
  have HT := Lib.hid hT
  clear hw0 henc ho he hT
  go_enter Tryd.func30, Tryd.ntmps30
  go_upto_region 1 with (fail)
  rw [← HW0.out]
  go_wp2_with ((with_reducible apply st_load (n := 69) (cs := entC e B d) (T := 39)); rfl; exact hx0; exact Tryd.underlying39; rfl; exact entSize; (rw [HLEN.out]; decide); exact row_all _ _ HLEN.out)
  --MARK4
  go_at_call 57
  refine (HENC.out w0 (HO.out.up hB0)).mono ?_
  rintro r w1 ⟨v1, rfl, hb1, ho1⟩
  have hx1 := hx0.up hb1
  have hB1 := hB0.trans (hb1.mono hB0.size)
  have hl1 := hx1.lt
  have HT1 := Lib.hid ((HT.out.up hB1).wide hbase)
  have HC1 := Lib.hid (Ch.of (X := fun k => (Value.slice A T.length c).ownBlock = some k) hB1)
  by_cases hok : OkE e
  · have heu := encL_u8L hok HE.out
    have hfull := fun h => addR_full T e hok h
    have harg := fun h1 h2 => addR_arg T e hok h1 h2
    have hyes := fun h1 h2 => addR_ok T e hok h1 h2
    rw [encR_yes e hok] at ho1 ⊢
    obtain ⟨b, hBe⟩ : ∃ b, b = encL e := ⟨_, rfl⟩
    rw [← hBe] at heu hyes ho1
    obtain ⟨B1, d1, rfl, hy1, hn1⟩ := ho1.byt heu
    have hlt1 : ∀ a, B1 = some a → a.block < w1.heap.size := fun a ha => (World.ownsRow.lt ho1 a.block (by rw [ha]; rfl)).2
    have HY1 := Lib.hid hy1
    have HN1 := Lib.hid (And.intro hn1 hlt1)
    have HFULL := Lib.hid hfull
    have HARG := Lib.hid harg
    have HYES := Lib.hid hyes
    clear heu hfull harg hyes hBe ho1 hy1 hn1 hlt1 hok
    by_cases h64 : 64 ≤ T.length
    · have HF := HFULL.out h64
      go_wp2_with fail
      go_ret2
      unfold RefAddG
      rw [HF]
      exact ⟨_, rfl, HT1.out, HC1.out⟩
    · have hlt : T.length < 64 := by omega
      clear h64
      have cj : w1.cell? ⟨w.heap.size, 0, none⟩ = some (.int .i64 e.job) := hx1.cell 0
      by_cases hj : e.job = T.length
      · have HF := HYES.out hlt hj
        rw [hj] at cj
        clear hj
        have hba : Below w1.heap.size w1 (w1.alloc (.cells #[.slice B1 b.length d1] 22)) := (Below.refl _ _).alloc (Nat.le_refl _) _
        have hra : Blk (w1.alloc (.cells #[.slice B1 b.length d1] 22)) w1.heap.size [.slice B1 b.length d1] 22 := Blk.new' _ _ _ _ _ rfl rfl
        have HT2 := Lib.hid (HT1.out.up hba)
        have hTG := (HT.out.own)
        have HTG := Lib.hid hTG
        clear hTG
        have hown : ∀ a, B1 = some a → ext G w w1 a.block ∧ (Value.slice A T.length c).ownBlock ≠ some a.block := fun a ha => by
          have h1 := HN1.out.1 a ha
          have h2 := HN1.out.2 a ha
          have h3 := hB0.size
          refine ⟨.inr ⟨by omega, h2⟩, fun h => ?_⟩
          have := (HTG.out _ h).2
          omega
        have HOWN := Lib.hid hown
        have hs1 := hB1.size
        clear hown
        --MARK5
        go_wp2_with ((with_reducible apply st_pushG (base := base) (G := ext G w w1) (g2 := w1.heap.size) (v := .slice A T.length c) (L := T) (b := b) (B := B1) (d := d1)); rfl; rfl; exact HT2.out; exact hra; exact (HY1.out.up hba); exact HOWN.out; omega; (have := hba.size; omega); intro v2 w2 ht2 hg2)
        --MARK6
        go_ret2
        unfold RefAddG
        rw [HF]
        have hsz2 := hg2.size
        have hsa := hba.size
        exact ⟨v2, rfl, ht2.to (fun k hk => by
          rcases hk with (hk | hk) | hk
          · exact .inl hk
          · exact .inr ⟨hk.1, by omega⟩
          · exact .inr ⟨by have := hB1.size; omega, hk.2⟩) (fun k hk => by
          rcases hk with hk | hk
          · have h4 := HT.out.lo k hk; have h5 := hB1.size; exact ⟨h4.1, by omega⟩
          · exact ⟨by omega, hk.2⟩), (HC1.out.trans (Ch.of hba)).trans (Ch.grown hg2 (fun k hk => hk))⟩
      · have HF := HARG.out hlt hj
        obtain ⟨J, hJ⟩ : ∃ J, J = e.job := ⟨_, rfl⟩
        rw [← hJ] at cj hj
        clear hJ
        go_wp2_with fail
        go_ret2
        unfold RefAddG
        rw [HF]
        exact ⟨_, rfl, HT1.out, HC1.out⟩
  · have HF := addR_no T e hok
    rw [encR_no e hok]
    clear hok
    go_wp2_with fail
    go_ret2
    unfold RefAddG
    rw [HF]
    exact ⟨_, rfl, HT1.out, HC1.out⟩

end Go.Proofs.YtancldhincaphaaDoor
