/- What Ledger.Add answers, and what it makes of a ledger. Condition: the table of layer 2 reads as its text lays it. -/
import Derived.Test.YtancldhincaphaaDoorLedP
import Derived.Test.YtancldhincaphaaDoorOrders
import Derived.Test.YtancldhincaphaaDoorGg
namespace Go.Proofs.YtancldhincaphaaDoor
open Go.RowKit
set_option maxRecDepth 100000

theorem OwnD.pos {w : World} {base n c : Nat} {A : Option Addr} {ds : List (List Int)} (h : OwnD w base (.slice A n c) ds) (hl : 0 < ds.length) : ∃ g, A = some ⟨g, 0, none⟩ := by
  rcases h.1.2 with ⟨_, h0⟩ | ⟨g, cap, cur, hv, _⟩
  · omega
  · injection hv with h1; exact ⟨g, h1⟩
theorem OwnD.cells {w : World} {base g n c : Nat} {ds : List (List Int)} (h : OwnD w base (.slice (some ⟨g, 0, none⟩) n c) ds) (i : Nat) (hi : i < ds.length) : ∀ j v, (nums .u8 ds[i])[j]? = some v → w.cell? ⟨g, i * 32 + j, none⟩ = some v := by
  obtain ⟨A, c', hv, hd, _⟩ := h.dg
  injection hv with h1 h2 h3
  obtain ⟨g', off, hA, _, hc⟩ := hd.get (by omega)
  have := h1.trans hA
  injection this with this
  injection this with e1 e2
  subst e1; subst e2
  intro j v hv
  have := hc i hi j v hv
  rwa [Nat.zero_add] at this

theorem led_done {w wf : World} {base g m ck d1 : Nat} {key B : List Int} {T : List (List Int)} {F S : Nat → Prop} {K B1 : Option Addr} {tv lv cv tv' lv' cv' : Value} {cs : List Value}
    (H : LedAt w base g key T F S K ck tv lv cv cs) (hm : w.heap.size ≤ m) (hm2 : m ≤ wf.heap.size) (hC : Ch (fun k => k = g ∨ tv.ownBlock = some k ∨ lv.ownBlock = some k ∨ cv.ownBlock = some k) w wf)
    (hB : Blk wf g (ledC true (.slice K key.length ck) tv' lv' cv') 68) (hT : OwnC wf base 22 tv' (cs ++ [.slice B1 B.length d1])) (hb : Byt wf B1 d1 B) (hB1 : ∀ a, B1 = some a → w.heap.size ≤ a.block ∧ a.block < m)
    (hL : OwnD wf base lv' (lleavesF T ++ [leafF B 256])) (hV : OwnD wf base cv' (lchainL T ++ [nodeF (lchainF T) (leafF B 256) 256]))
    (ht : ∀ k, tv'.ownBlock = some k → tv.ownBlock = some k ∨ m ≤ k) (hl : ∀ k, lv'.ownBlock = some k → lv.ownBlock = some k ∨ m ≤ k) (hv : ∀ k, cv'.ownBlock = some k → cv.ownBlock = some k ∨ m ≤ k)
    (htl : ∀ k, lv'.ownBlock = some k → tv'.ownBlock ≠ some k) (htv : ∀ k, cv'.ownBlock = some k → tv'.ownBlock ≠ some k ∧ lv'.ownBlock ≠ some k) :
    Led wf base g key (T ++ [B]) (ext F w wf) ∧ Ch F w wf := by
  have hgl := H.lo g H.fg.1
  have hsl : ∀ k, S k → k < w.heap.size := fun k hk => (H.lo k (H.sF k hk)).2
  have inF : ∀ k, (k = g ∨ tv.ownBlock = some k ∨ lv.ownBlock = some k ∨ cv.ownBlock = some k) → F k := fun k hk => by
    rcases hk with rfl | hk | hk | hk
    · exact H.fg.1
    · exact (H.tvF k hk).1
    · exact (H.lvF k hk).1
    · exact (H.cvF k hk).1
  have notS : ∀ k, S k → ¬ (k = g ∨ tv.ownBlock = some k ∨ lv.ownBlock = some k ∨ cv.ownBlock = some k) := fun k hk h => by
    rcases h with rfl | h | h | h
    · exact H.fg.2 hk
    · exact (H.tvF k h).2.1 hk
    · exact (H.lvF k h).2.1 hk
    · exact (H.cvF k h).2.1 hk
  have far : ∀ k, F k ∨ m ≤ k → k < wf.heap.size → ¬ S k → k ≠ g → ext F w wf k ∧ ¬ (S k ∨ (w.heap.size ≤ k ∧ k < m)) ∧ k ≠ g := fun k h1 h2 h3 h4 => by
    refine ⟨?_, fun h => ?_, h4⟩
    · rcases h1 with h1 | h1
      · exact .inl h1
      · exact .inr ⟨by omega, h2⟩
    · rcases h with h | h
      · exact h3 h
      · rcases h1 with h1 | h1
        · have := (H.lo k h1).2; omega
        · omega
  refine ⟨⟨fun k => S k ∨ (w.heap.size ≤ k ∧ k < m), K, ck, tv', lv', cv', cs ++ [.slice B1 B.length d1], ?_⟩, hC.mono inF⟩
  refine ⟨fun k hk => ?_, hB, ⟨.inl H.fg.1, fun h => ?_⟩, H.key.ch hC (fun a ha => notS _ (H.kS a ha)), fun a ha => .inl (H.kS a ha), hT, ?_, by rw [lleavesF_snoc]; exact hL, by rw [lchainL_snoc]; exact hV, fun k hk => ?_, fun k hk => ?_, fun k hk => ?_, fun k hk => ?_⟩
  · rcases hk with hk | hk
    · have h1 := H.lo k hk; have h2 := hC.size; exact ⟨h1.1, by omega⟩
    · exact ⟨by omega, hk.2⟩
  · rcases h with h | h
    · exact H.fg.2 h
    · omega
  · exact ((H.txt.ch hC notS).mono (fun k hk => .inl hk)).snoc hb (fun a ha => .inr (hB1 a ha))
  · have h2 := (World.ownsRow.lt hT k hk).2
    rcases ht k hk with h | h
    · have := H.tvF k h; exact far k (.inl this.1) h2 this.2.1 this.2.2
    · exact far k (.inr h) h2 (fun x => by have := hsl k x; omega) (by omega)
  · have h2 := (hL.lt k hk).2
    rcases hl k hk with h | h
    · have := H.lvF k h
      have h3 := far k (.inl this.1) h2 this.2.1 this.2.2.1
      exact ⟨h3.1, h3.2.1, h3.2.2, htl k hk⟩
    · have h3 := far k (.inr h) h2 (fun x => by have := hsl k x; omega) (by omega)
      exact ⟨h3.1, h3.2.1, h3.2.2, htl k hk⟩
  · have h2 := (hV.lt k hk).2
    rcases hv k hk with h | h
    · have := H.cvF k h
      have h3 := far k (.inl this.1) h2 this.2.1 this.2.2.1
      exact ⟨h3.1, h3.2.1, h3.2.2, htv k hk⟩
    · have h3 := far k (.inr h) h2 (fun x => by have := hsl k x; omega) (by omega)
      exact ⟨h3.1, h3.2.1, h3.2.2, htv k hk⟩
  · rcases hk with hk | hk
    · exact .inl (H.sF k hk)
    · exact .inr ⟨hk.1, by omega⟩

theorem Ch.set {X : Nat → Prop} {w : World} {g j : Nat} {v : Value} (hx : X g) : Ch X w (w.setCell ⟨g, j, none⟩ v) :=
  ⟨rfl, rfl, rfl, by simp [World.setCell], fun k hk hn => Below.heap_setCell _ _ _ _ (fun e => hn (e ▸ hx))⟩
theorem own_slice (A : Option Addr) (n c : Nat) : (Value.slice A n c).ownBlock = A.map (·.block) := by cases A <;> rfl
/-- In the midst of the region that grows the row of texts and the row of leaves. -/
structure St12 (w7 W : World) (base : Nat) (tv lv tvc : Value) (csc : List Value) (lvc : Value) (dsc : List (List Int)) : Prop where
  ch : Ch (fun k => tv.ownBlock = some k ∨ lv.ownBlock = some k) w7 W
  t : OwnC W base 22 tvc csc
  l : OwnD W base lvc dsc
  td : ∀ k, tvc.ownBlock = some k → tv.ownBlock = some k ∨ w7.heap.size ≤ k
  ld : ∀ k, lvc.ownBlock = some k → lv.ownBlock = some k ∨ w7.heap.size ≤ k
  ne : ∀ k, lvc.ownBlock = some k → tvc.ownBlock ≠ some k
section
variable {w7 W W' : World} {base : Nat} {tv lv tvc lvc v : Value} {csc cs' : List Value} {dsc ds' : List (List Int)}
theorem St12.size7 (s : St12 w7 W base tv lv tvc csc lvc dsc) : w7.heap.size ≤ W.heap.size := s.ch.size
theorem St12.hb (s : St12 w7 W base tv lv tvc csc lvc dsc) (h : base ≤ w7.heap.size) : base ≤ W.heap.size := Nat.le_trans h s.ch.size
theorem St12.alloc (s : St12 w7 W base tv lv tvc csc lvc dsc) (ob : Obj) : St12 w7 (W.alloc ob) base tv lv tvc csc lvc dsc :=
  have hb : Below W.heap.size W (W.alloc ob) := (Below.refl _ _).alloc (Nat.le_refl _) _
  ⟨s.ch.trans (Ch.of hb), s.t.kept hb, s.l.kept hb, s.td, s.ld, s.ne⟩
theorem St12.appT (s : St12 w7 W base tv lv tvc csc lvc dsc) (ho : OwnC W' base 22 v cs') (hg : W.grownBy W' tvc.ownBlock) (hat : v.ownBlock = tvc.ownBlock ∨ v.ownBlock = some W.heap.size) (h7 : tvc = tv) : St12 w7 W' base tv lv v cs' lvc dsc := by
  subst h7
  refine ⟨s.ch.trans (Ch.grown hg (fun k hk => .inl hk)), ho, s.l.ch (Ch.grown (X := fun k => tvc.ownBlock = some k) hg (fun k hk => hk)) (fun k hk h => s.ne k hk h), fun k hk => ?_, s.ld, fun k hk h => ?_⟩
  · rcases hat with h | h
    · left; rw [← h]; exact hk
    · right; rw [h] at hk; injection hk with hk; have := s.ch.size; omega
  · rcases hat with h' | h'
    · exact s.ne k hk (h' ▸ h)
    · rw [h'] at h; injection h with h; have := (s.l.lt k hk).2; omega
theorem St12.appL (s : St12 w7 W base tv lv tvc csc lvc dsc) (ho : OwnD W' base v ds') (hg : W.grownBy W' lvc.ownBlock) (hat : v.ownBlock = lvc.ownBlock ∨ v.ownBlock = some W.heap.size) (h7 : lvc = lv) : St12 w7 W' base tv lv tvc csc v ds' := by
  subst h7
  refine ⟨s.ch.trans (Ch.grown hg (fun k hk => .inr hk)), s.t.ch (Ch.grown (X := fun k => lvc.ownBlock = some k) hg (fun k hk => hk)) (fun k hk h => s.ne k h hk), ho, s.td, fun k hk => ?_, fun k hk h => ?_⟩
  · rcases hat with h | h
    · left; rw [← h]; exact hk
    · right; rw [h] at hk; injection hk with hk; have := s.ch.size; omega
  · rcases hat with h' | h'
    · exact s.ne k (h' ▸ hk) h
    · rw [h'] at hk; injection hk with hk; have := (World.ownsRow.lt s.t k h).2; omega
theorem St12.fin {w w3 : World} {g ck d1 gc : Nat} {key B N X D : List Int} {T : List (List Int)} {F S : Nat → Prop} {K B1 : Option Addr} {cv cv' : Value} {cs : List Value} 
    (s : St12 w7 W base tv lv tvc (cs ++ [.slice B1 B.length d1]) lvc (lleavesF T ++ [D])) (H : LedAt w base g key T F S K ck tv lv cv cs) (hgc : cv.ownBlock = some gc) (hO7 : OwnD w7 base cv' (lchainL T ++ [N])) (hown : ∀ k, cv'.ownBlock = some k → k = gc ∨ w3.heap.size ≤ k)
    (hBz : Blk ((W.setCell ⟨g, 2, none⟩ tvc).setCell ⟨g, 3, none⟩ lvc) g (((ledC true (.slice K key.length ck) tv lv cv').set 2 tvc).set 3 lvc) 68)
    (hC : Ch (fun k => k = gc ∨ k = g) w3 w7) (hB3 : Below w.heap.size w w3) (hY : Byt w3 B1 d1 B) (hB1 : ∀ a, B1 = some a → w.heap.size ≤ a.block ∧ a.block < w3.heap.size) (hN : N = nodeF X D 256) (hX : X = lchainF T) (hD : D = leafF B 256) :
    Led ((W.setCell ⟨g, 2, none⟩ tvc).setCell ⟨g, 3, none⟩ lvc) base g key (T ++ [B]) (ext F w ((W.setCell ⟨g, 2, none⟩ tvc).setCell ⟨g, 3, none⟩ lvc)) ∧ Ch F w ((W.setCell ⟨g, 2, none⟩ tvc).setCell ⟨g, 3, none⟩ lvc) := by
  subst hX; subst hD; subst hN
  have hg := H.lo g H.fg.1
  have hs3 := hB3.size
  have hs7 := hC.size
  have hsW := s.ch.size
  have hset : Ch (fun k => k = g) W ((W.setCell ⟨g, 2, none⟩ tvc).setCell ⟨g, 3, none⟩ lvc) := (Ch.set (X := fun k => k = g) rfl).trans (Ch.set rfl)
  have hsz := hset.size
  have tg : ∀ k, tvc.ownBlock = some k → k ≠ g := fun k hk => by
    rcases s.td k hk with h | h
    · exact (H.tvF k h).2.2
    · omega
  have lg : ∀ k, lvc.ownBlock = some k → k ≠ g := fun k hk => by
    rcases s.ld k hk with h | h
    · exact (H.lvF k h).2.2.1
    · omega
  have cF := H.cvF gc hgc
  have vg : ∀ k, cv'.ownBlock = some k → k ≠ g := fun k hk => by
    rcases hown k hk with rfl | h
    · exact cF.2.2.1
    · omega
  have tl : ∀ k, tv.ownBlock = some k → k < w.heap.size := fun k hk => (H.lo k (H.tvF k hk).1).2
  have ll : ∀ k, lv.ownBlock = some k → k < w.heap.size := fun k hk => (H.lo k (H.lvF k hk).1).2
  have vt : ∀ k, cv'.ownBlock = some k → ¬ (tv.ownBlock = some k ∨ lv.ownBlock = some k) := fun k hk h => by
    rcases hown k hk with rfl | h'
    · rcases h with h | h
      · exact cF.2.2.2.1 h
      · exact cF.2.2.2.2 h
    · rcases h with h | h
      · have := tl k h; omega
      · have := ll k h; omega
  have h3 : Ch (fun k => k = g ∨ tv.ownBlock = some k ∨ lv.ownBlock = some k ∨ cv.ownBlock = some k) w3 ((W.setCell ⟨g, 2, none⟩ tvc).setCell ⟨g, 3, none⟩ lvc) :=
    ((hC.mono (fun k hk => by rcases hk with rfl | rfl; exact .inr (.inr (.inr hgc)); exact .inl rfl)).trans (s.ch.mono (fun k hk => by rcases hk with h | h; exact .inr (.inl h); exact .inr (.inr (.inl h))))).trans (hset.mono (fun k hk => .inl hk))
  refine led_done (m := w3.heap.size) H hs3 (by omega) ((Ch.of hB3).trans h3) hBz (s.t.ch hset tg) (hY.ch h3 (fun a ha h => ?_)) hB1 (s.l.ch hset lg) ((hO7.ch s.ch vt).ch hset vg) (fun k hk => ?_) (fun k hk => ?_) (fun k hk => ?_) s.ne (fun k hk => ?_)
  · have := (hB1 a ha).1
    rcases h with h | h | h | h
    · omega
    · have := tl _ h; omega
    · have := ll _ h; omega
    · have := (H.lo _ (H.cvF _ h).1).2; omega
  · exact (s.td k hk).imp id (fun h => by omega)
  · exact (s.ld k hk).imp id (fun h => by omega)
  · rcases hown k hk with rfl | h
    · exact .inl hgc
    · exact .inr h
  · have h1 := vt k hk
    have h2 := (hO7.lt k hk).2
    refine ⟨fun h => ?_, fun h => ?_⟩
    · rcases s.td k h with h | h
      · exact h1 (.inl h)
      · omega
    · rcases s.ld k h with h | h
      · exact h1 (.inr h)
      · omega
end

/-- What Add answers. -/
def AddPost (w : World) (base g : Nat) (key : List Int) (T : List (List Int)) (F : Nat → Prop) (e : Ent) (r : Ending) (w' : World) : Prop :=
  r = .returned (.int .i64 (addR T e).2) ∧ Led w' base g key (addR T e).1 (ext F w w') ∧ Ch F w w'

set_option maxRecDepth 100000 in
set_option maxHeartbeats 16000000 in
theorem ledadd_any (w : World) (base g : Nat) (key : List Int) (T : List (List Int)) (F : Nat → Prop) (hL : Led w base g key T F) (hT : T.length ≤ 64) (hb : base ≤ w.heap.size) (e : Ent) (he : EntB e) (A : Option Addr) (c : Nat) (ho : Nts w A c e.ord) (hl : e.ord.length ≤ 1000) (hk : KV w) :
    Calls Tryd.prog 21 #[.pointer (some ⟨g, 0, none⟩), .agg (entC e A c).toArray] w (AddPost w base g key T F e) := by
  obtain ⟨S, K, ck, tv, lv, cv, cs, H⟩ := hL
  obtain ⟨At, ct, rfl, -, -, -, -⟩ := H.own.from
  rw [H.txt.1] at H
  obtain ⟨Al, cl, rfl, hdl, -⟩ := H.lea.dg
  rw [lleavesF_len] at H
  obtain ⟨Ac, cc, rfl, hdc, -⟩ := H.cha.dg
  rw [lchainL_len] at H
  have hencL := fun w (h : Nts w A c e.ord) => encode_any w e he A c h hl
  obtain ⟨w0, hw0⟩ : ∃ W, W = w.alloc (.cells (entC e A c).toArray 39) := ⟨_, rfl⟩
  have hx0 : Blk w0 w.heap.size (entC e A c) 39 := by rw [hw0]; exact Blk.new' _ _ _ _ _ rfl rfl
  have hB0 : Below w.heap.size w w0 := by rw [hw0]; exact (Below.refl _ _).alloc (Nat.le_refl _) _
  have hg0 := H.blk.lt
  have HBL := Lib.hid H.blk
  have HENC := Lib.hid hencL
  have HLEN := Lib.hid (entC_len he A c)
  have HW0 := Lib.hid hw0
  have HO := Lib.hid ho
  have HE := Lib.hid he
  have HK := Lib.hid hk
  have HH := Lib.hid H
  have HDC := Lib.hid hdc
  clear hw0 hencL ho he hk H hdl hdc
  go_enter Tryd.func21, Tryd.ntmps21
  go_upto_region 1 with (fail)
  rw [← HW0.out]
  go_wp2_with fail
  go_at_call 48
  refine (ok_any w0 g true _ _ _ _ (HBL.out.up hB0)).mono ?_
  rintro r wz ⟨rfl, rfl⟩
  go_wp2_with ((with_reducible apply st_load (n := 69) (cs := entC e A c) (T := 39)); rfl; exact hx0; exact Tryd.underlying39; rfl; exact entSize; (rw [HLEN.out]; decide); exact row_all _ _ HLEN.out)
  go_at_call 49
  refine (HENC.out w0 (HO.out.up hB0)).mono ?_
  rintro r w1 ⟨v1, rfl, hb1, ho1⟩
  have hx1 := hx0.up hb1
  have hB1 := hB0.trans (hb1.mono hB0.size)
  have H1 := Lib.hid (HH.out.ch (Ch.of (X := fun _ => False) hB1) (fun _ _ h => h))
  have hl1 := H1.out.blk.lt
  have c2 : w1.cell? ⟨g, 2, none⟩ = some (.slice At T.length ct) := H1.out.blk.cell 2
  by_cases hok : OkE e
  · have hel := encL_len e hok HE.out.h HE.out.s
    have heu := encL_u8L hok HE.out
    have hfull := fun h => addR_full T e hok h
    have harg := fun h1 h2 => addR_arg T e hok h1 h2
    have hyes := fun h1 h2 => addR_ok T e hok h1 h2
    rw [encR_yes e hok] at ho1 ⊢
    obtain ⟨B, hBe⟩ : ∃ B, B = encL e := ⟨_, rfl⟩
    rw [← hBe] at hel heu hyes ho1
    obtain ⟨B1, d1, rfl, hy1, hn1⟩ := ho1.byt heu
    have hlt1 : ∀ a, B1 = some a → a.block < w1.heap.size := fun a ha => (World.ownsRow.lt ho1 a.block (by rw [ha]; rfl)).2
    have HY1 := Lib.hid hy1
    have HN1 := Lib.hid (And.intro hn1 hlt1)
    have HFULL := Lib.hid hfull
    have HARG := Lib.hid harg
    have HYES := Lib.hid hyes
    have hl0 := hx1.lt
    clear heu hfull harg hyes hBe ho1 hy1 hn1 hlt1 hok
    by_cases h64 : 64 ≤ T.length
    · have HF := HFULL.out h64
      go_wp2_with fail
      --MARK2
      go_ret
      unfold AddPost
      rw [HF]
      exact ⟨rfl, Led.wide ⟨S, K, ck, _, _, _, cs, H1.out⟩ hb, Ch.of hB1⟩
    · have hlt : T.length < 64 := by omega
      clear h64
      have cj : w1.cell? ⟨w.heap.size, 0, none⟩ = some (.int .i64 e.job) := hx1.cell 0
      by_cases hj : e.job = T.length
      · have HF := HYES.out hlt hj
        rw [hj] at cj
        clear hj
        go_wp2_with fail
        --MARK3
        refine wp_region_C (Same [w.heap.size, g] w1) [] (by kernel_rfl) (by kernel_rfl) (by intro c a w h; first | (obtain ⟨_, h, _⟩ := h; cases h; done) | (obtain ⟨_, _, h, _⟩ := h; cases h; done) | (obtain ⟨_, _, _, h, _⟩ := h; cases h; done) | (obtain ⟨_, _, _, _, h, _⟩ := h; cases h; done) | (rcases h with ⟨_, ⟨_, _, _, _, h, _⟩ | ⟨_, _, _, _, h, _⟩⟩ <;> cases h; done)) (by intro a w h; first | (obtain ⟨h, _⟩ := h; cases h; done) | (obtain ⟨_, h, _⟩ := h; cases h; done) | (obtain ⟨_, _, h, _⟩ := h; cases h; done) | (obtain ⟨_, _, _, h, _⟩ := h; cases h; done) | (rcases h with ⟨_, _, _, _, h, _⟩ | ⟨_, _, _, _, h, _⟩ <;> cases h; done)) (Same.refl _ _) ?_
        repeat (refine wd_w (v := ?_) rfl rfl rfl rfl rfl rfl (fun w' hw' K hK => ?_) ?_; rotate_left; (have e1 := (hw'.cell w.heap.size (by simp) 0).trans cj; have e2 := (hw'.cell g (by simp) 2).trans c2; go_wp2_with (fail); exact rfl); simp only [Act.put, List.setIfInBounds_toArray, List.set_cons_zero, List.set_cons_succ])
        refine wd_nil ?_
        --MARK4
        go_wp2_with fail
        go_at_call 36
        have hBd := hB1.drew
        have hleaf := leaf_any w1.drew B B1 d1 (HY1.out.up ((Below.refl _ _).drew)) (by omega) 256 (HK.out.up hBd)
        obtain ⟨D, hD⟩ : ∃ D, D = leafF B 256 := ⟨_, rfl⟩
        have hDl : D.length = 32 := by rw [hD]; exact leafF_len _ _
        have hDu : U8 D := by rw [hD]; exact leafF_range _ _
        rw [← hD] at hleaf
        have HLEAF := Lib.hid hleaf
        have HD := Lib.hid hD
        have HDL := Lib.hid hDl
        have HDU := Lib.hid hDu
        clear hleaf hD hDl hDu
        refine HLEAF.out.mono ?_
        rintro r w2 ⟨rfl, hb2⟩
        have hz : Blk (w2.alloc (.cells (nums .u8 (List.replicate 32 0)).toArray 24)) w2.heap.size (nums .u8 (List.replicate 32 0)) 24 := Blk.new' _ _ _ _ _ rfl rfl
        --MARK5
        go_upto_region 11 with (((with_reducible apply st_storeW (off := 0) (vs := nums .u8 (D)) (cs := nums .u8 (List.replicate 32 0)) (T := 24)); rfl; rfl; exact hz; (rw [nums_length, HDL.out]; kernel_rfl); (rw [nums_length, HDL.out]; decide); exact nums_one _ _; intro w3 hd3 hw3; rw [laid_all _ _ (by rw [nums_length, HDL.out]; rfl)] at hd3))
        have hB2 := hBd.trans (hb2.mono hBd.size)
        have h23 := Wrote.below ((Below.refl w2.heap.size w2).alloc (Nat.le_refl _) (.cells (nums .u8 (List.replicate 32 0)).toArray 24)) hw3 (Nat.le_refl _)
        have hB3 := hB2.trans (h23.mono hB2.size)
        have h13 : Below w1.heap.size w1 w3 := ((Below.refl w1.heap.size w1).drew.trans hb2).trans (h23.mono hb2.size)
        have H3 := Lib.hid (HH.out.ch (Ch.of (X := fun _ => False) hB3) (fun _ _ h => h))
        have hsz2 := hB2.size
        have HY3 := Lib.hid (HY1.out.up h13)
        obtain ⟨gc, hAc⟩ : ∃ gc, Ac = some ⟨gc, 0, none⟩ := OwnD.pos H3.out.cha (by rw [lchainL_len]; omega)
        subst hAc
        have hgc := H3.out.cha.lt gc rfl
        have hcF := H3.out.cvF gc rfl
        have hcells := H3.out.cha.cells T.length (by rw [lchainL_len]; omega)
        rw [lchainL_at T T.length (Nat.le_refl _), List.take_length] at hcells
        obtain ⟨X, hX⟩ : ∃ X, X = lchainF T := ⟨_, rfl⟩
        have hXo := lchainF_ok T
        rw [← hX] at hcells hXo
        have HXL := Lib.hid hXo.1
        have HX := Lib.hid hX
        have HCE := Lib.hid hcells
        have hnode := fun w h => node_any w X D hXo.1 HDL.out 256 h
        obtain ⟨N, hN⟩ : ∃ N, N = nodeF X D 256 := ⟨_, rfl⟩
        have hNl : N.length = 32 := by rw [hN]; exact nodeF_len _ _ _
        have hNu : U8 N := by rw [hN]; exact nodeF_range _ _ _
        rw [← hN] at hnode
        have HNODE := Lib.hid hnode
        have HN := Lib.hid hN
        have HNL := Lib.hid hNl
        have HNU := Lib.hid hNu
        have c32 : w3.cell? ⟨g, 2, none⟩ = some (.slice At T.length ct) := H3.out.blk.cell 2
        have c34 : w3.cell? ⟨g, 4, none⟩ = some (.slice (some ⟨gc, 0, none⟩) (T.length + 1) cc) := H3.out.blk.cell 4
        have hg3 := H3.out.blk.lt
        have hBL3 := Lib.hid H3.out.blk
        clear hcells hXo hX hnode hN hNl hNu c2 cj hb1 hx1 hb2 hz
        --MARK6
        refine wp_region_O (fun w' => Same [g, w2.heap.size] w3 w' ∧ Hid (∀ j v, (nums .u8 X)[j]? = some v → w'.cell? ⟨gc, T.length * 32 + j, none⟩ = some v)) [17, 18, 19, 22] [0, 20, 21, 22] [[0, 1, 2, 3, 4, 5, 6, 7, 8, 9, 10, 11, 12, 13, 14, 15, 16, 17, 18, 19, 20, 21, 22]] (by kernel_rfl) (by kernel_rfl) (by intro c a w h; first | (obtain ⟨_, h, _⟩ := h; cases h; done) | (obtain ⟨_, _, h, _⟩ := h; cases h; done) | (obtain ⟨_, _, _, h, _⟩ := h; cases h; done) | (obtain ⟨_, _, _, _, h, _⟩ := h; cases h; done) | (rcases h with ⟨_, ⟨_, _, _, _, h, _⟩ | ⟨_, _, _, _, h, _⟩⟩ <;> cases h; done)) (by intro a w h; first | (obtain ⟨h, _⟩ := h; cases h; done) | (obtain ⟨_, h, _⟩ := h; cases h; done) | (obtain ⟨_, _, h, _⟩ := h; cases h; done) | (obtain ⟨_, _, _, h, _⟩ := h; cases h; done) | (rcases h with ⟨_, _, _, _, h, _⟩ | ⟨_, _, _, _, h, _⟩ <;> cases h; done)) (⟨Same.refl _ _, HCE⟩) ?_
        intro LO hLO
        simp only [List.mem_cons, List.not_mem_nil, or_false] at hLO
        --MARK10
        subst hLO
        have hKV3 := HK.out.up hB3
        have HKV3 := Lib.hid hKV3
        clear hKV3
        repeat (refine wo_f (v := ?_) rfl rfl rfl rfl rfl rfl (fun w' K hK => ?_) ?_; rotate_left; (go_wp2_with (fail); exact rfl); simp only [Act.put, List.setIfInBounds_toArray, List.set_cons_zero, List.set_cons_succ])
        --MARK11
        repeat (refine wo_w (v := ?_) rfl rfl rfl rfl rfl rfl rfl (fun w' hw' K hK => ?_) ?_; rotate_left; (have e2 := (hw'.1.cell g (by simp) 2).trans c32; have e4 := (hw'.1.cell g (by simp) 4).trans c34; have e5 := hw'.1.blk hd3 (by simp); go_wp2_with ((first | ((with_reducible apply st_loadCells (cs := nums .u8 (X))); rfl; exact hw'.2.out; exact Tryd.underlying24; rfl; (rw [nums_length, HXL.out]; kernel_rfl)) | ((with_reducible apply st_load (n := 32) (cs := nums .u8 (D)) (T := 24)); rfl; exact e5; exact Tryd.underlying24; rfl; kernel_rfl; (rw [nums_length, HDL.out]; exact Nat.le_refl _); (exact row_all _ _ (by rw [nums_length, HDL.out]))))); exact rfl); simp only [Act.put, List.setIfInBounds_toArray, List.set_cons_zero, List.set_cons_succ])
        --MARK12
        refine wo_l rfl rfl rfl (by intro a w h; first | (obtain ⟨h, _⟩ := h; cases h; done) | (obtain ⟨_, h, _⟩ := h; cases h; done) | (obtain ⟨_, _, h, _⟩ := h; cases h; done) | (obtain ⟨_, _, _, h, _⟩ := h; cases h; done) | (rcases h with ⟨_, _, _, _, h, _⟩ | ⟨_, _, _, _, h, _⟩ <;> cases h; done)) ?_
        go_wp2_with fail
        go_at_call 50
        refine (HNODE.out _ (HKV3.out.up ((Below.refl _ _).drew))).mono ?_
        rintro r w4 ⟨rfl, hb4⟩
        have hb4 : Below w3.heap.size w3 w4 := (Below.refl w3.heap.size w3).drew.trans hb4
        have hdl3 := hd3.lt
        go_wp2_with fail
        have hcl4 : ∀ j v, (nums .u8 X)[j]? = some v → w4.cell? ⟨gc, T.length * 32 + j, none⟩ = some v := fun j v hv => (hb4.cell (p := ⟨gc, _, none⟩) hgc.2).trans (HCE.out j v hv)
        refine ⟨⟨fun k hk => hb4.block k (by simp at hk; omega), hcl4⟩, ?_⟩
        --MARK13
        refine wo_l rfl rfl rfl (by intro a w h; first | (obtain ⟨h, _⟩ := h; cases h; done) | (obtain ⟨_, h, _⟩ := h; cases h; done) | (obtain ⟨_, _, h, _⟩ := h; cases h; done) | (obtain ⟨_, _, _, h, _⟩ := h; cases h; done) | (rcases h with ⟨_, _, _, _, h, _⟩ | ⟨_, _, _, _, h, _⟩ <;> cases h; done)) ?_
        go_wp2_with ((with_reducible apply st_buildD (d := N)); rfl; exact HNL.out)
        have hb5 : Below w3.heap.size w3 (w4.alloc (.cells (nums .u8 N).toArray 24)) := hb4.alloc hb4.size _
        refine ⟨⟨fun k hk => hb5.block k (by simp at hk; omega), fun j v hv => (hb5.cell (p := ⟨gc, _, none⟩) hgc.2).trans (HCE.out j v hv)⟩, ?_⟩
        have hrow : Dg (w4.alloc (.cells (nums .u8 N).toArray 24)) (some ⟨w4.heap.size, 0, none⟩) 1 [N] := ⟨by rw [show [N].flatten = N by simp]; exact Rd.ofBlk (Blk.new' _ _ _ 24 _ rfl rfl), Nat.le_refl _, fun h => (by cases h), Dgs.one HNL.out HNU.out⟩
        have hcv5 := H3.out.cha.ch (Ch.of (X := fun _ => False) hb5) (fun _ _ h => h)
        have hbs5 : base ≤ (w4.alloc (.cells (nums .u8 N).toArray 24)).heap.size := by have := hb5.size; have := hB3.size; omega
        obtain ⟨w5, hw5⟩ : ∃ W, W = w4.alloc (.cells (nums .u8 N).toArray 24) := ⟨_, rfl⟩
        have hs45 : w5.heap.size = w4.heap.size + 1 := by rw [hw5]; simp
        rw [← hw5] at hb5 hrow hcv5 hbs5 ⊢
        clear hw5
        --MARK14
        refine wo_late rfl rfl (by kernel_rfl) (by kernel_rfl) rfl (by intro a w h; first | (obtain ⟨h, _⟩ := h; cases h; done) | (obtain ⟨_, h, _⟩ := h; cases h; done) | (obtain ⟨_, _, h, _⟩ := h; cases h; done) | (obtain ⟨_, _, _, h, _⟩ := h; cases h; done) | (rcases h with ⟨_, _, _, _, h, _⟩ | ⟨_, _, _, _, h, _⟩ <;> cases h; done)) ?_
        go_wp2_with ((with_reducible apply st_appendD (v := .slice (some ⟨gc, 0, none⟩) (T.length + 1) cc) (base := base) (xs := lchainL T) (ys := [N])); rfl; rfl; exact hcv5; exact hrow; (rw [lchainL_len]; simp; omega); exact hbs5; intro v6 w6 hO6 hG6 hat6)
        --MARK15
        repeat (refine wo_f (v := ?_) rfl rfl rfl rfl rfl rfl (fun w' K hK => ?_) ?_; rotate_left; (go_wp2_with (fail); exact rfl); simp only [Act.put, List.setIfInBounds_toArray, List.set_cons_zero, List.set_cons_succ])
        --MARK16
        obtain ⟨A6, c6, rfl, -, hA6⟩ := hO6.dg
        have hX6 : Ch (fun k => k = gc) w5 w6 := Ch.grown hG6 (fun k hk => by injection hk with hk; exact hk.symm)
        have hBL6 := (hBL3.out.up hb5).ch hX6 (fun h => hcF.2.2.1 h.symm)
        have c64 := hBL6.cell 4
        have f64 := hBL6.frozen 4
        have hg6 := hBL6.lt
        --MARK17
        refine wo_late rfl rfl (by kernel_rfl) (by kernel_rfl) rfl (by intro a w h; first | (obtain ⟨h, _⟩ := h; cases h; done) | (obtain ⟨_, h, _⟩ := h; cases h; done) | (obtain ⟨_, _, h, _⟩ := h; cases h; done) | (obtain ⟨_, _, _, h, _⟩ := h; cases h; done) | (rcases h with ⟨_, _, _, _, h, _⟩ | ⟨_, _, _, _, h, _⟩ <;> cases h; done)) ?_
        go_wp2_with fail
        --MARK18
        refine wo_nil ?_
        --MARK19
        obtain ⟨w7, hw7⟩ : ∃ W, W = w6.setCell ⟨g, 4, none⟩ (.slice A6 ((lchainL T).length + 1) c6) := ⟨_, rfl⟩
        rw [← hw7]
        have hS7 : Ch (fun k => k = g) w6 w7 := by rw [hw7]; exact Ch.set rfl
        have hC37 : Ch (fun k => k = gc ∨ k = g) w3 w7 := ((Ch.of hb5).trans (hX6.mono (fun k hk => .inl hk))).trans (hS7.mono fun k hk => .inr hk)
        have hBL7 : Blk w7 g (ledC true (.slice K key.length ck) (.slice At T.length ct) (.slice Al T.length cl) (.slice A6 ((lchainL T).length + 1) c6)) 68 := by rw [hw7]; exact hBL6.set 4 _
        have hgw := HH.out.lo gc hcF.1
        have hs23 := h23.size
        have hs35 := hb5.size
        have hs37 := hC37.size
        have hdl3 := hd3.lt
        have hd7 := hd3.ch hC37 (by rintro (h | h) <;> omega)
        have hown6 : ∀ k, (Value.slice A6 ((lchainL T).length + 1) c6).ownBlock = some k → k = gc ∨ w3.heap.size ≤ k := fun k hk => by
          rw [own_slice] at hk hat6
          rcases hat6 with h | h
          · rw [h] at hk; injection hk with hk; exact .inl hk.symm
          · rw [h] at hk; injection hk with hk; right; omega
        have hO7 : OwnD w7 base (.slice A6 ((lchainL T).length + 1) c6) (lchainL T ++ [N]) := by
          have h1 := hO6.ch hS7 (fun k hk => by rw [own_slice] at hk; have := hown6 k (by rw [own_slice]; exact hk); have := hcF.2.2.1; omega)
          rw [List.length_append] at h1; exact h1
        have hT7 : OwnC w7 base 22 (.slice At T.length ct) cs := H3.out.own.ch hC37 (fun k hk => by
          have h1 := (H3.out.tvF k hk).2.2
          rintro (rfl | rfl)
          · exact hcF.2.2.2.1 hk
          · exact h1 rfl)
        have hL7 : OwnD w7 base (.slice Al T.length cl) (lleavesF T) := H3.out.lea.ch hC37 (fun k hk => by
          have h1 := (H3.out.lvF k hk).2.2.1
          rintro (rfl | rfl)
          · exact hcF.2.2.2.2 hk
          · exact h1 rfl)
        have s0 : St12 w7 w7.drew base (.slice At T.length ct) (.slice Al T.length cl) (.slice At T.length ct) cs (.slice Al T.length cl) (lleavesF T) := ⟨(Ch.refl _ _).drew, hT7, hL7, fun k hk => .inl hk, fun k hk => .inl hk, fun k hk => (H3.out.lvF k hk).2.2.2⟩
        have c72 : w7.cell? ⟨g, 2, none⟩ = some (.slice At T.length ct) := hBL7.cell 2
        have c73 : w7.cell? ⟨g, 3, none⟩ = some (.slice Al T.length cl) := hBL7.cell 3
        have hnx : ∀ k, k ∈ [g, w2.heap.size] → k < w7.heap.size ∧ ¬ ((Value.slice At T.length ct).ownBlock = some k ∨ (Value.slice Al T.length cl).ownBlock = some k) := fun k hk => by
          simp only [List.mem_cons, List.not_mem_nil, or_false] at hk
          have h1 := fun h => H3.out.tvF k h
          have h2 := fun h => H3.out.lvF k h
          have h3 := fun h => HH.out.lo k h
          refine ⟨by omega, ?_⟩
          rintro (h | h)
          · have h4 := h1 h; have := h3 h4.1; have := h4.2.2; omega
          · have h4 := h2 h; have := h3 h4.1; have := h4.2.2.1; omega
        have hnB : ∀ k, w7.heap.size ≤ k → ¬ (Value.slice At T.length ct).ownBlock = some k ∧ ¬ (Value.slice Al T.length cl).ownBlock = some k := fun k hk => by
          have h1 := fun h => H3.out.tvF k h
          have h2 := fun h => H3.out.lvF k h
          have h3 := fun h => HH.out.lo k h
          refine ⟨fun h => ?_, fun h => ?_⟩
          · have := h3 (h1 h).1; omega
          · have := h3 (h2 h).1; omega
        have hcs : cs.length = T.length := H3.out.txt.1
        have HNX := Lib.hid hnx
        have HNB := Lib.hid hnB
        have HCS := Lib.hid hcs
        have HB7 := Lib.hid hBL7
        have HO7 := Lib.hid hO7
        have HOW6 := Lib.hid hown6
        have hbs7 : base ≤ w7.heap.size := by omega
        clear hw7 hX6 hBL6 c64 f64 hg6 hO6 hG6 hat6 hO7 hT7 hL7 hnx hnB hcs hBL7 hown6 hrow hcv5 hb5 hs45 hcl4 hb4 c32 c34 hBL3 hA6 hbs5
        go_upto_region 12 with (fail)
        --MARK20
        refine wp_region_O (Same [g, w2.heap.size] w7) [7, 8, 14, 15, 18, 21] [1, 19, 20, 21] [[0, 1, 2, 3, 4, 5, 6, 7, 8, 9, 10, 11, 12, 13, 14, 15, 16, 17, 18, 19, 20, 21], [0, 1, 2, 3, 4, 5, 6, 7, 9, 10, 11, 12, 13, 14, 8, 15, 16, 17, 18, 19, 20, 21], [0, 1, 2, 3, 4, 5, 6, 9, 10, 11, 12, 13, 14, 7, 8, 15, 16, 17, 18, 19, 20, 21]] (by kernel_rfl) (by kernel_rfl) (by intro c a w h; first | (obtain ⟨_, h, _⟩ := h; cases h; done) | (obtain ⟨_, _, h, _⟩ := h; cases h; done) | (obtain ⟨_, _, _, h, _⟩ := h; cases h; done) | (obtain ⟨_, _, _, _, h, _⟩ := h; cases h; done) | (rcases h with ⟨_, ⟨_, _, _, _, h, _⟩ | ⟨_, _, _, _, h, _⟩⟩ <;> cases h; done)) (by intro a w h; first | (obtain ⟨h, _⟩ := h; cases h; done) | (obtain ⟨_, h, _⟩ := h; cases h; done) | (obtain ⟨_, _, h, _⟩ := h; cases h; done) | (obtain ⟨_, _, _, h, _⟩ := h; cases h; done) | (rcases h with ⟨_, _, _, _, h, _⟩ | ⟨_, _, _, _, h, _⟩ <;> cases h; done)) (Same.refl _ _) ?_
        intro LO hLO
        simp only [List.mem_cons, List.not_mem_nil, or_false] at hLO
        have hsame : ∀ W, Ch (fun k => (Value.slice At T.length ct).ownBlock = some k ∨ (Value.slice Al T.length cl).ownBlock = some k) w7 W → Same [g, w2.heap.size] w7 W := fun W h k hk => h.block k (HNX.out k hk).1 (HNX.out k hk).2
        have HSAME := Lib.hid hsame
        clear hsame
        obtain ⟨wd0, hwd0⟩ : ∃ W, W = w7.drew := ⟨_, rfl⟩
        rw [← hwd0] at s0 ⊢
        clear hwd0
        rcases hLO with rfl | rfl | rfl
        · --ORDER1
          repeat (refine wo_w (v := ?_) rfl rfl rfl rfl rfl rfl rfl (fun w' hw' K hK => ?_) ?_; rotate_left; (have e2 := (hw'.cell g (by simp) 2).trans c72; have e3 := (hw'.cell g (by simp) 3).trans c73; have e5 := hw'.blk hd7 (by simp); go_wp2_with (((with_reducible apply st_load (n := 32) (cs := nums .u8 (D)) (T := 24)); rfl; exact e5; exact Tryd.underlying24; rfl; kernel_rfl; (rw [nums_length, HDL.out]; exact Nat.le_refl _); (exact row_all _ _ (by rw [nums_length, HDL.out])))); exact rfl); simp only [Act.put, List.setIfInBounds_toArray, List.set_cons_zero, List.set_cons_succ])
          repeat (refine wo_f (v := ?_) rfl rfl rfl rfl rfl rfl (fun w' K hK => ?_) ?_; rotate_left; (go_wp2_with (fail); exact rfl); simp only [Act.put, List.setIfInBounds_toArray, List.set_cons_zero, List.set_cons_succ])
          repeat (refine wo_w (v := ?_) rfl rfl rfl rfl rfl rfl rfl (fun w' hw' K hK => ?_) ?_; rotate_left; (have e2 := (hw'.cell g (by simp) 2).trans c72; have e3 := (hw'.cell g (by simp) 3).trans c73; have e5 := hw'.blk hd7 (by simp); go_wp2_with (((with_reducible apply st_load (n := 32) (cs := nums .u8 (D)) (T := 24)); rfl; exact e5; exact Tryd.underlying24; rfl; kernel_rfl; (rw [nums_length, HDL.out]; exact Nat.le_refl _); (exact row_all _ _ (by rw [nums_length, HDL.out])))); exact rfl); simp only [Act.put, List.setIfInBounds_toArray, List.set_cons_zero, List.set_cons_succ])
          refine wo_l rfl rfl rfl (by intro a w h; first | (obtain ⟨h, _⟩ := h; cases h; done) | (obtain ⟨_, h, _⟩ := h; cases h; done) | (obtain ⟨_, _, h, _⟩ := h; cases h; done) | (obtain ⟨_, _, _, h, _⟩ := h; cases h; done) | (rcases h with ⟨_, _, _, _, h, _⟩ | ⟨_, _, _, _, h, _⟩ <;> cases h; done)) ?_
          go_wp2_with fail
          have s17 := s0.alloc (.cells #[(.slice B1 B.length d1)] 22)
          have r17 : Blk (wd0.alloc (.cells #[(.slice B1 B.length d1)] 22)) wd0.heap.size [(.slice B1 B.length d1)] 22 := Blk.new' _ _ _ _ _ rfl rfl
          have q17 := s0.size7
          obtain ⟨wa, hwa⟩ : ∃ W, W = wd0.alloc (.cells #[(.slice B1 B.length d1)] 22) := ⟨_, rfl⟩
          obtain ⟨ga, hga⟩ : ∃ G, G = wd0.heap.size := ⟨_, rfl⟩
          rw [← hwa, ← hga] at r17
          rw [← hwa] at s17
          rw [← hwa]
          try rw [← hga]
          clear hwa hga
          refine ⟨HSAME.out _ s17.ch, ?_⟩
          try simp only [Act.put, List.setIfInBounds_toArray, List.set_cons_zero, List.set_cons_succ]
          refine wo_l rfl rfl rfl (by intro a w h; first | (obtain ⟨h, _⟩ := h; cases h; done) | (obtain ⟨_, h, _⟩ := h; cases h; done) | (obtain ⟨_, _, h, _⟩ := h; cases h; done) | (obtain ⟨_, _, _, h, _⟩ := h; cases h; done) | (rcases h with ⟨_, _, _, _, h, _⟩ | ⟨_, _, _, _, h, _⟩ <;> cases h; done)) ?_
          go_wp2_with ((with_reducible apply st_appendT (base := base) (g2 := ga) (v := .slice At T.length ct) (y := (.slice B1 B.length d1)) (cs := cs)); rfl; rfl; exact s17.t; exact r17; rfl; (rw [HCS.out]; omega); exact s17.hb hbs7; intro v8 w8 hO8 hG8 hat8)
          have s18 := s17.appT hO8 hG8 hat8 rfl
          obtain ⟨A8, c8, rfl, -, -, -, -⟩ := hO8.from
          rw [show (cs ++ [Value.slice B1 B.length d1]).length = cs.length + 1 by simp] at s18
          refine ⟨HSAME.out _ s18.ch, ?_⟩
          try simp only [Act.put, List.setIfInBounds_toArray, List.set_cons_zero, List.set_cons_succ]
          repeat (refine wo_w (v := ?_) rfl rfl rfl rfl rfl rfl rfl (fun w' hw' K hK => ?_) ?_; rotate_left; (have e2 := (hw'.cell g (by simp) 2).trans c72; have e3 := (hw'.cell g (by simp) 3).trans c73; have e5 := hw'.blk hd7 (by simp); go_wp2_with (((with_reducible apply st_load (n := 32) (cs := nums .u8 (D)) (T := 24)); rfl; exact e5; exact Tryd.underlying24; rfl; kernel_rfl; (rw [nums_length, HDL.out]; exact Nat.le_refl _); (exact row_all _ _ (by rw [nums_length, HDL.out])))); exact rfl); simp only [Act.put, List.setIfInBounds_toArray, List.set_cons_zero, List.set_cons_succ])
          refine wo_l rfl rfl rfl (by intro a w h; first | (obtain ⟨h, _⟩ := h; cases h; done) | (obtain ⟨_, h, _⟩ := h; cases h; done) | (obtain ⟨_, _, h, _⟩ := h; cases h; done) | (obtain ⟨_, _, _, h, _⟩ := h; cases h; done) | (rcases h with ⟨_, _, _, _, h, _⟩ | ⟨_, _, _, _, h, _⟩ <;> cases h; done)) ?_
          go_wp2_with ((with_reducible apply st_buildD (d := D)); rfl; exact HDL.out)
          have s114 := s18.alloc (.cells (nums .u8 D).toArray 24)
          have r114 : Blk (w8.alloc (.cells (nums .u8 D).toArray 24)) w8.heap.size (nums .u8 D) 24 := Blk.new' _ _ _ _ _ rfl rfl
          have hgb7 := s18.size7
          obtain ⟨wb, hwb⟩ : ∃ W, W = w8.alloc (.cells (nums .u8 D).toArray 24) := ⟨_, rfl⟩
          obtain ⟨gb, hgb⟩ : ∃ G, G = w8.heap.size := ⟨_, rfl⟩
          rw [← hwb, ← hgb] at r114
          rw [← hwb] at s114
          rw [← hwb]
          try rw [← hgb]
          rw [← hgb] at hgb7
          clear hwb hgb
          refine ⟨HSAME.out _ s114.ch, ?_⟩
          try simp only [Act.put, List.setIfInBounds_toArray, List.set_cons_zero, List.set_cons_succ]
          have hdy : Dg wb (some ⟨gb, 0, none⟩) 1 [D] := ⟨by rw [show [D].flatten = D by simp]; exact Rd.ofBlk r114, Nat.le_refl _, fun h => (by cases h), Dgs.one HDL.out HDU.out⟩
          refine wo_l rfl rfl rfl (by intro a w h; first | (obtain ⟨h, _⟩ := h; cases h; done) | (obtain ⟨_, h, _⟩ := h; cases h; done) | (obtain ⟨_, _, h, _⟩ := h; cases h; done) | (obtain ⟨_, _, _, h, _⟩ := h; cases h; done) | (rcases h with ⟨_, _, _, _, h, _⟩ | ⟨_, _, _, _, h, _⟩ <;> cases h; done)) ?_
          go_wp2_with ((with_reducible apply st_appendD (v := .slice Al T.length cl) (base := base) (xs := lleavesF T) (ys := [D])); rfl; rfl; exact s114.l; exact hdy; (rw [lleavesF_len]; simp; omega); exact s114.hb hbs7; intro v15 w15 hO15 hG15 hat15)
          have s115 := s114.appL hO15 hG15 hat15 rfl
          obtain ⟨A15, c15, rfl, -, -⟩ := hO15.dg
          rw [show (lleavesF T ++ [D]).length = (lleavesF T).length + 1 by simp] at s115
          refine ⟨HSAME.out _ s115.ch, ?_⟩
          try simp only [Act.put, List.setIfInBounds_toArray, List.set_cons_zero, List.set_cons_succ]
          --MARK21
          repeat (refine wo_w (v := ?_) rfl rfl rfl rfl rfl rfl rfl (fun w' hw' K hK => ?_) ?_; rotate_left; (have e2 := (hw'.cell g (by simp) 2).trans c72; have e3 := (hw'.cell g (by simp) 3).trans c73; have e5 := hw'.blk hd7 (by simp); go_wp2_with (((with_reducible apply st_load (n := 32) (cs := nums .u8 (D)) (T := 24)); rfl; exact e5; exact Tryd.underlying24; rfl; kernel_rfl; (rw [nums_length, HDL.out]; exact Nat.le_refl _); (exact row_all _ _ (by rw [nums_length, HDL.out])))); exact rfl); simp only [Act.put, List.setIfInBounds_toArray, List.set_cons_zero, List.set_cons_succ])
          have hBx := HB7.out.ch s115.ch (HNX.out g (by simp)).2
          have c92 := hBx.cell 2
          have f92 := hBx.frozen 2
          have g9 := hBx.lt
          refine wo_late rfl rfl (by kernel_rfl) (by kernel_rfl) rfl (by intro a w h; first | (obtain ⟨h, _⟩ := h; cases h; done) | (obtain ⟨_, h, _⟩ := h; cases h; done) | (obtain ⟨_, _, h, _⟩ := h; cases h; done) | (obtain ⟨_, _, _, h, _⟩ := h; cases h; done) | (rcases h with ⟨_, _, _, _, h, _⟩ | ⟨_, _, _, _, h, _⟩ <;> cases h; done)) ?_
          go_wp2_with fail
          --MARK31
          repeat (refine wo_f (v := ?_) rfl rfl rfl rfl rfl rfl (fun w' K hK => ?_) ?_; rotate_left; (go_wp2_with (fail); exact rfl); simp only [Act.put, List.setIfInBounds_toArray, List.set_cons_zero, List.set_cons_succ])
          have hBy := hBx.set 2 (.slice A8 (cs.length + 1) c8)
          have c93 := hBy.cell 3
          have f93 := hBy.frozen 3
          have g93 := hBy.lt
          refine wo_late rfl rfl (by kernel_rfl) (by kernel_rfl) rfl (by intro a w h; first | (obtain ⟨h, _⟩ := h; cases h; done) | (obtain ⟨_, h, _⟩ := h; cases h; done) | (obtain ⟨_, _, h, _⟩ := h; cases h; done) | (obtain ⟨_, _, _, h, _⟩ := h; cases h; done) | (rcases h with ⟨_, _, _, _, h, _⟩ | ⟨_, _, _, _, h, _⟩ <;> cases h; done)) ?_
          go_wp2_with fail
          refine wo_nil ?_
          --MARK41
          go_wp2_with fail
          --MARK51
          go_ret
          unfold AddPost
          rw [HF]
          have hBz := hBy.set 3 (.slice A15 ((lleavesF T).length + 1) c15)
          have hfin := s115.fin HH.out rfl HO7.out HOW6.out hBz hC37 hB3 HY3.out (fun a ha => ⟨by have := HN1.out.1 a ha; have := hB0.size; omega, by have := HN1.out.2 a ha; have := h13.size; omega⟩) HN.out HX.out HD.out
          --MARK61
          exact ⟨rfl, hfin⟩
        · --ORDER2
          repeat (refine wo_w (v := ?_) rfl rfl rfl rfl rfl rfl rfl (fun w' hw' K hK => ?_) ?_; rotate_left; (have e2 := (hw'.cell g (by simp) 2).trans c72; have e3 := (hw'.cell g (by simp) 3).trans c73; have e5 := hw'.blk hd7 (by simp); go_wp2_with (((with_reducible apply st_load (n := 32) (cs := nums .u8 (D)) (T := 24)); rfl; exact e5; exact Tryd.underlying24; rfl; kernel_rfl; (rw [nums_length, HDL.out]; exact Nat.le_refl _); (exact row_all _ _ (by rw [nums_length, HDL.out])))); exact rfl); simp only [Act.put, List.setIfInBounds_toArray, List.set_cons_zero, List.set_cons_succ])
          repeat (refine wo_f (v := ?_) rfl rfl rfl rfl rfl rfl (fun w' K hK => ?_) ?_; rotate_left; (go_wp2_with (fail); exact rfl); simp only [Act.put, List.setIfInBounds_toArray, List.set_cons_zero, List.set_cons_succ])
          repeat (refine wo_w (v := ?_) rfl rfl rfl rfl rfl rfl rfl (fun w' hw' K hK => ?_) ?_; rotate_left; (have e2 := (hw'.cell g (by simp) 2).trans c72; have e3 := (hw'.cell g (by simp) 3).trans c73; have e5 := hw'.blk hd7 (by simp); go_wp2_with (((with_reducible apply st_load (n := 32) (cs := nums .u8 (D)) (T := 24)); rfl; exact e5; exact Tryd.underlying24; rfl; kernel_rfl; (rw [nums_length, HDL.out]; exact Nat.le_refl _); (exact row_all _ _ (by rw [nums_length, HDL.out])))); exact rfl); simp only [Act.put, List.setIfInBounds_toArray, List.set_cons_zero, List.set_cons_succ])
          refine wo_l rfl rfl rfl (by intro a w h; first | (obtain ⟨h, _⟩ := h; cases h; done) | (obtain ⟨_, h, _⟩ := h; cases h; done) | (obtain ⟨_, _, h, _⟩ := h; cases h; done) | (obtain ⟨_, _, _, h, _⟩ := h; cases h; done) | (rcases h with ⟨_, _, _, _, h, _⟩ | ⟨_, _, _, _, h, _⟩ <;> cases h; done)) ?_
          go_wp2_with fail
          have s27 := s0.alloc (.cells #[(.slice B1 B.length d1)] 22)
          have r27 : Blk (wd0.alloc (.cells #[(.slice B1 B.length d1)] 22)) wd0.heap.size [(.slice B1 B.length d1)] 22 := Blk.new' _ _ _ _ _ rfl rfl
          have q27 := s0.size7
          obtain ⟨wa, hwa⟩ : ∃ W, W = wd0.alloc (.cells #[(.slice B1 B.length d1)] 22) := ⟨_, rfl⟩
          obtain ⟨ga, hga⟩ : ∃ G, G = wd0.heap.size := ⟨_, rfl⟩
          rw [← hwa, ← hga] at r27
          rw [← hwa] at s27
          rw [← hwa]
          try rw [← hga]
          clear hwa hga
          refine ⟨HSAME.out _ s27.ch, ?_⟩
          try simp only [Act.put, List.setIfInBounds_toArray, List.set_cons_zero, List.set_cons_succ]
          repeat (refine wo_w (v := ?_) rfl rfl rfl rfl rfl rfl rfl (fun w' hw' K hK => ?_) ?_; rotate_left; (have e2 := (hw'.cell g (by simp) 2).trans c72; have e3 := (hw'.cell g (by simp) 3).trans c73; have e5 := hw'.blk hd7 (by simp); go_wp2_with (((with_reducible apply st_load (n := 32) (cs := nums .u8 (D)) (T := 24)); rfl; exact e5; exact Tryd.underlying24; rfl; kernel_rfl; (rw [nums_length, HDL.out]; exact Nat.le_refl _); (exact row_all _ _ (by rw [nums_length, HDL.out])))); exact rfl); simp only [Act.put, List.setIfInBounds_toArray, List.set_cons_zero, List.set_cons_succ])
          refine wo_l rfl rfl rfl (by intro a w h; first | (obtain ⟨h, _⟩ := h; cases h; done) | (obtain ⟨_, h, _⟩ := h; cases h; done) | (obtain ⟨_, _, h, _⟩ := h; cases h; done) | (obtain ⟨_, _, _, h, _⟩ := h; cases h; done) | (rcases h with ⟨_, _, _, _, h, _⟩ | ⟨_, _, _, _, h, _⟩ <;> cases h; done)) ?_
          go_wp2_with ((with_reducible apply st_buildD (d := D)); rfl; exact HDL.out)
          have s214 := s27.alloc (.cells (nums .u8 D).toArray 24)
          have r214 : Blk (wa.alloc (.cells (nums .u8 D).toArray 24)) wa.heap.size (nums .u8 D) 24 := Blk.new' _ _ _ _ _ rfl rfl
          have r27 := r27.alloc (.cells (nums .u8 D).toArray 24)
          have hgb7 := s27.size7
          obtain ⟨wb, hwb⟩ : ∃ W, W = wa.alloc (.cells (nums .u8 D).toArray 24) := ⟨_, rfl⟩
          obtain ⟨gb, hgb⟩ : ∃ G, G = wa.heap.size := ⟨_, rfl⟩
          rw [← hwb, ← hgb] at r214
          rw [← hwb] at s214
          rw [← hwb] at r27
          rw [← hwb]
          try rw [← hgb]
          rw [← hgb] at hgb7
          clear hwb hgb
          refine ⟨HSAME.out _ s214.ch, ?_⟩
          try simp only [Act.put, List.setIfInBounds_toArray, List.set_cons_zero, List.set_cons_succ]
          refine wo_l rfl rfl rfl (by intro a w h; first | (obtain ⟨h, _⟩ := h; cases h; done) | (obtain ⟨_, h, _⟩ := h; cases h; done) | (obtain ⟨_, _, h, _⟩ := h; cases h; done) | (obtain ⟨_, _, _, h, _⟩ := h; cases h; done) | (rcases h with ⟨_, _, _, _, h, _⟩ | ⟨_, _, _, _, h, _⟩ <;> cases h; done)) ?_
          go_wp2_with ((with_reducible apply st_appendT (base := base) (g2 := ga) (v := .slice At T.length ct) (y := (.slice B1 B.length d1)) (cs := cs)); rfl; rfl; exact s214.t; exact r27; rfl; (rw [HCS.out]; omega); exact s214.hb hbs7; intro v8 w8 hO8 hG8 hat8)
          have s28 := s214.appT hO8 hG8 hat8 rfl
          have r214 : Blk w8 gb (nums .u8 D) 24 := r214.ch (Ch.grown (X := fun k => (Value.slice At T.length ct).ownBlock = some k) hG8 (fun k hk => hk)) (HNB.out gb hgb7).1
          obtain ⟨A8, c8, rfl, -, -, -, -⟩ := hO8.from
          rw [show (cs ++ [Value.slice B1 B.length d1]).length = cs.length + 1 by simp] at s28
          refine ⟨HSAME.out _ s28.ch, ?_⟩
          try simp only [Act.put, List.setIfInBounds_toArray, List.set_cons_zero, List.set_cons_succ]
          have hdy : Dg w8 (some ⟨gb, 0, none⟩) 1 [D] := ⟨by rw [show [D].flatten = D by simp]; exact Rd.ofBlk r214, Nat.le_refl _, fun h => (by cases h), Dgs.one HDL.out HDU.out⟩
          refine wo_l rfl rfl rfl (by intro a w h; first | (obtain ⟨h, _⟩ := h; cases h; done) | (obtain ⟨_, h, _⟩ := h; cases h; done) | (obtain ⟨_, _, h, _⟩ := h; cases h; done) | (obtain ⟨_, _, _, h, _⟩ := h; cases h; done) | (rcases h with ⟨_, _, _, _, h, _⟩ | ⟨_, _, _, _, h, _⟩ <;> cases h; done)) ?_
          go_wp2_with ((with_reducible apply st_appendD (v := .slice Al T.length cl) (base := base) (xs := lleavesF T) (ys := [D])); rfl; rfl; exact s28.l; exact hdy; (rw [lleavesF_len]; simp; omega); exact s28.hb hbs7; intro v15 w15 hO15 hG15 hat15)
          have s215 := s28.appL hO15 hG15 hat15 rfl
          obtain ⟨A15, c15, rfl, -, -⟩ := hO15.dg
          rw [show (lleavesF T ++ [D]).length = (lleavesF T).length + 1 by simp] at s215
          refine ⟨HSAME.out _ s215.ch, ?_⟩
          try simp only [Act.put, List.setIfInBounds_toArray, List.set_cons_zero, List.set_cons_succ]
          --MARK22
          repeat (refine wo_w (v := ?_) rfl rfl rfl rfl rfl rfl rfl (fun w' hw' K hK => ?_) ?_; rotate_left; (have e2 := (hw'.cell g (by simp) 2).trans c72; have e3 := (hw'.cell g (by simp) 3).trans c73; have e5 := hw'.blk hd7 (by simp); go_wp2_with (((with_reducible apply st_load (n := 32) (cs := nums .u8 (D)) (T := 24)); rfl; exact e5; exact Tryd.underlying24; rfl; kernel_rfl; (rw [nums_length, HDL.out]; exact Nat.le_refl _); (exact row_all _ _ (by rw [nums_length, HDL.out])))); exact rfl); simp only [Act.put, List.setIfInBounds_toArray, List.set_cons_zero, List.set_cons_succ])
          have hBx := HB7.out.ch s215.ch (HNX.out g (by simp)).2
          have c92 := hBx.cell 2
          have f92 := hBx.frozen 2
          have g9 := hBx.lt
          refine wo_late rfl rfl (by kernel_rfl) (by kernel_rfl) rfl (by intro a w h; first | (obtain ⟨h, _⟩ := h; cases h; done) | (obtain ⟨_, h, _⟩ := h; cases h; done) | (obtain ⟨_, _, h, _⟩ := h; cases h; done) | (obtain ⟨_, _, _, h, _⟩ := h; cases h; done) | (rcases h with ⟨_, _, _, _, h, _⟩ | ⟨_, _, _, _, h, _⟩ <;> cases h; done)) ?_
          go_wp2_with fail
          --MARK32
          repeat (refine wo_f (v := ?_) rfl rfl rfl rfl rfl rfl (fun w' K hK => ?_) ?_; rotate_left; (go_wp2_with (fail); exact rfl); simp only [Act.put, List.setIfInBounds_toArray, List.set_cons_zero, List.set_cons_succ])
          have hBy := hBx.set 2 (.slice A8 (cs.length + 1) c8)
          have c93 := hBy.cell 3
          have f93 := hBy.frozen 3
          have g93 := hBy.lt
          refine wo_late rfl rfl (by kernel_rfl) (by kernel_rfl) rfl (by intro a w h; first | (obtain ⟨h, _⟩ := h; cases h; done) | (obtain ⟨_, h, _⟩ := h; cases h; done) | (obtain ⟨_, _, h, _⟩ := h; cases h; done) | (obtain ⟨_, _, _, h, _⟩ := h; cases h; done) | (rcases h with ⟨_, _, _, _, h, _⟩ | ⟨_, _, _, _, h, _⟩ <;> cases h; done)) ?_
          go_wp2_with fail
          refine wo_nil ?_
          --MARK42
          go_wp2_with fail
          --MARK52
          go_ret
          unfold AddPost
          rw [HF]
          have hBz := hBy.set 3 (.slice A15 ((lleavesF T).length + 1) c15)
          have hfin := s215.fin HH.out rfl HO7.out HOW6.out hBz hC37 hB3 HY3.out (fun a ha => ⟨by have := HN1.out.1 a ha; have := hB0.size; omega, by have := HN1.out.2 a ha; have := h13.size; omega⟩) HN.out HX.out HD.out
          --MARK62
          exact ⟨rfl, hfin⟩
        · --ORDER3
          repeat (refine wo_w (v := ?_) rfl rfl rfl rfl rfl rfl rfl (fun w' hw' K hK => ?_) ?_; rotate_left; (have e2 := (hw'.cell g (by simp) 2).trans c72; have e3 := (hw'.cell g (by simp) 3).trans c73; have e5 := hw'.blk hd7 (by simp); go_wp2_with (((with_reducible apply st_load (n := 32) (cs := nums .u8 (D)) (T := 24)); rfl; exact e5; exact Tryd.underlying24; rfl; kernel_rfl; (rw [nums_length, HDL.out]; exact Nat.le_refl _); (exact row_all _ _ (by rw [nums_length, HDL.out])))); exact rfl); simp only [Act.put, List.setIfInBounds_toArray, List.set_cons_zero, List.set_cons_succ])
          repeat (refine wo_f (v := ?_) rfl rfl rfl rfl rfl rfl (fun w' K hK => ?_) ?_; rotate_left; (go_wp2_with (fail); exact rfl); simp only [Act.put, List.setIfInBounds_toArray, List.set_cons_zero, List.set_cons_succ])
          repeat (refine wo_w (v := ?_) rfl rfl rfl rfl rfl rfl rfl (fun w' hw' K hK => ?_) ?_; rotate_left; (have e2 := (hw'.cell g (by simp) 2).trans c72; have e3 := (hw'.cell g (by simp) 3).trans c73; have e5 := hw'.blk hd7 (by simp); go_wp2_with (((with_reducible apply st_load (n := 32) (cs := nums .u8 (D)) (T := 24)); rfl; exact e5; exact Tryd.underlying24; rfl; kernel_rfl; (rw [nums_length, HDL.out]; exact Nat.le_refl _); (exact row_all _ _ (by rw [nums_length, HDL.out])))); exact rfl); simp only [Act.put, List.setIfInBounds_toArray, List.set_cons_zero, List.set_cons_succ])
          refine wo_l rfl rfl rfl (by intro a w h; first | (obtain ⟨h, _⟩ := h; cases h; done) | (obtain ⟨_, h, _⟩ := h; cases h; done) | (obtain ⟨_, _, h, _⟩ := h; cases h; done) | (obtain ⟨_, _, _, h, _⟩ := h; cases h; done) | (rcases h with ⟨_, _, _, _, h, _⟩ | ⟨_, _, _, _, h, _⟩ <;> cases h; done)) ?_
          go_wp2_with ((with_reducible apply st_buildD (d := D)); rfl; exact HDL.out)
          have s314 := s0.alloc (.cells (nums .u8 D).toArray 24)
          have r314 : Blk (wd0.alloc (.cells (nums .u8 D).toArray 24)) wd0.heap.size (nums .u8 D) 24 := Blk.new' _ _ _ _ _ rfl rfl
          have hgb7 := s0.size7
          obtain ⟨wb, hwb⟩ : ∃ W, W = wd0.alloc (.cells (nums .u8 D).toArray 24) := ⟨_, rfl⟩
          obtain ⟨gb, hgb⟩ : ∃ G, G = wd0.heap.size := ⟨_, rfl⟩
          rw [← hwb, ← hgb] at r314
          rw [← hwb] at s314
          rw [← hwb]
          try rw [← hgb]
          rw [← hgb] at hgb7
          clear hwb hgb
          refine ⟨HSAME.out _ s314.ch, ?_⟩
          try simp only [Act.put, List.setIfInBounds_toArray, List.set_cons_zero, List.set_cons_succ]
          refine wo_l rfl rfl rfl (by intro a w h; first | (obtain ⟨h, _⟩ := h; cases h; done) | (obtain ⟨_, h, _⟩ := h; cases h; done) | (obtain ⟨_, _, h, _⟩ := h; cases h; done) | (obtain ⟨_, _, _, h, _⟩ := h; cases h; done) | (rcases h with ⟨_, _, _, _, h, _⟩ | ⟨_, _, _, _, h, _⟩ <;> cases h; done)) ?_
          go_wp2_with fail
          have s37 := s314.alloc (.cells #[(.slice B1 B.length d1)] 22)
          have r37 : Blk (wb.alloc (.cells #[(.slice B1 B.length d1)] 22)) wb.heap.size [(.slice B1 B.length d1)] 22 := Blk.new' _ _ _ _ _ rfl rfl
          have q37 := s314.size7
          obtain ⟨wa, hwa⟩ : ∃ W, W = wb.alloc (.cells #[(.slice B1 B.length d1)] 22) := ⟨_, rfl⟩
          obtain ⟨ga, hga⟩ : ∃ G, G = wb.heap.size := ⟨_, rfl⟩
          have r314 : Blk wa gb (nums .u8 D) 24 := by rw [hwa]; exact r314.alloc _
          rw [← hwa, ← hga] at r37
          rw [← hwa] at s37
          rw [← hwa]
          try rw [← hga]
          clear hwa hga
          refine ⟨HSAME.out _ s37.ch, ?_⟩
          try simp only [Act.put, List.setIfInBounds_toArray, List.set_cons_zero, List.set_cons_succ]
          refine wo_l rfl rfl rfl (by intro a w h; first | (obtain ⟨h, _⟩ := h; cases h; done) | (obtain ⟨_, h, _⟩ := h; cases h; done) | (obtain ⟨_, _, h, _⟩ := h; cases h; done) | (obtain ⟨_, _, _, h, _⟩ := h; cases h; done) | (rcases h with ⟨_, _, _, _, h, _⟩ | ⟨_, _, _, _, h, _⟩ <;> cases h; done)) ?_
          go_wp2_with ((with_reducible apply st_appendT (base := base) (g2 := ga) (v := .slice At T.length ct) (y := (.slice B1 B.length d1)) (cs := cs)); rfl; rfl; exact s37.t; exact r37; rfl; (rw [HCS.out]; omega); exact s37.hb hbs7; intro v8 w8 hO8 hG8 hat8)
          have s38 := s37.appT hO8 hG8 hat8 rfl
          have r314 : Blk w8 gb (nums .u8 D) 24 := r314.ch (Ch.grown (X := fun k => (Value.slice At T.length ct).ownBlock = some k) hG8 (fun k hk => hk)) (HNB.out gb hgb7).1
          obtain ⟨A8, c8, rfl, -, -, -, -⟩ := hO8.from
          rw [show (cs ++ [Value.slice B1 B.length d1]).length = cs.length + 1 by simp] at s38
          refine ⟨HSAME.out _ s38.ch, ?_⟩
          try simp only [Act.put, List.setIfInBounds_toArray, List.set_cons_zero, List.set_cons_succ]
          have hdy : Dg w8 (some ⟨gb, 0, none⟩) 1 [D] := ⟨by rw [show [D].flatten = D by simp]; exact Rd.ofBlk r314, Nat.le_refl _, fun h => (by cases h), Dgs.one HDL.out HDU.out⟩
          refine wo_l rfl rfl rfl (by intro a w h; first | (obtain ⟨h, _⟩ := h; cases h; done) | (obtain ⟨_, h, _⟩ := h; cases h; done) | (obtain ⟨_, _, h, _⟩ := h; cases h; done) | (obtain ⟨_, _, _, h, _⟩ := h; cases h; done) | (rcases h with ⟨_, _, _, _, h, _⟩ | ⟨_, _, _, _, h, _⟩ <;> cases h; done)) ?_
          go_wp2_with ((with_reducible apply st_appendD (v := .slice Al T.length cl) (base := base) (xs := lleavesF T) (ys := [D])); rfl; rfl; exact s38.l; exact hdy; (rw [lleavesF_len]; simp; omega); exact s38.hb hbs7; intro v15 w15 hO15 hG15 hat15)
          have s315 := s38.appL hO15 hG15 hat15 rfl
          obtain ⟨A15, c15, rfl, -, -⟩ := hO15.dg
          rw [show (lleavesF T ++ [D]).length = (lleavesF T).length + 1 by simp] at s315
          refine ⟨HSAME.out _ s315.ch, ?_⟩
          try simp only [Act.put, List.setIfInBounds_toArray, List.set_cons_zero, List.set_cons_succ]
          --MARK23
          repeat (refine wo_w (v := ?_) rfl rfl rfl rfl rfl rfl rfl (fun w' hw' K hK => ?_) ?_; rotate_left; (have e2 := (hw'.cell g (by simp) 2).trans c72; have e3 := (hw'.cell g (by simp) 3).trans c73; have e5 := hw'.blk hd7 (by simp); go_wp2_with (((with_reducible apply st_load (n := 32) (cs := nums .u8 (D)) (T := 24)); rfl; exact e5; exact Tryd.underlying24; rfl; kernel_rfl; (rw [nums_length, HDL.out]; exact Nat.le_refl _); (exact row_all _ _ (by rw [nums_length, HDL.out])))); exact rfl); simp only [Act.put, List.setIfInBounds_toArray, List.set_cons_zero, List.set_cons_succ])
          have hBx := HB7.out.ch s315.ch (HNX.out g (by simp)).2
          have c92 := hBx.cell 2
          have f92 := hBx.frozen 2
          have g9 := hBx.lt
          refine wo_late rfl rfl (by kernel_rfl) (by kernel_rfl) rfl (by intro a w h; first | (obtain ⟨h, _⟩ := h; cases h; done) | (obtain ⟨_, h, _⟩ := h; cases h; done) | (obtain ⟨_, _, h, _⟩ := h; cases h; done) | (obtain ⟨_, _, _, h, _⟩ := h; cases h; done) | (rcases h with ⟨_, _, _, _, h, _⟩ | ⟨_, _, _, _, h, _⟩ <;> cases h; done)) ?_
          go_wp2_with fail
          --MARK33
          repeat (refine wo_f (v := ?_) rfl rfl rfl rfl rfl rfl (fun w' K hK => ?_) ?_; rotate_left; (go_wp2_with (fail); exact rfl); simp only [Act.put, List.setIfInBounds_toArray, List.set_cons_zero, List.set_cons_succ])
          have hBy := hBx.set 2 (.slice A8 (cs.length + 1) c8)
          have c93 := hBy.cell 3
          have f93 := hBy.frozen 3
          have g93 := hBy.lt
          refine wo_late rfl rfl (by kernel_rfl) (by kernel_rfl) rfl (by intro a w h; first | (obtain ⟨h, _⟩ := h; cases h; done) | (obtain ⟨_, h, _⟩ := h; cases h; done) | (obtain ⟨_, _, h, _⟩ := h; cases h; done) | (obtain ⟨_, _, _, h, _⟩ := h; cases h; done) | (rcases h with ⟨_, _, _, _, h, _⟩ | ⟨_, _, _, _, h, _⟩ <;> cases h; done)) ?_
          go_wp2_with fail
          refine wo_nil ?_
          --MARK43
          go_wp2_with fail
          --MARK53
          go_ret
          unfold AddPost
          rw [HF]
          have hBz := hBy.set 3 (.slice A15 ((lleavesF T).length + 1) c15)
          have hfin := s315.fin HH.out rfl HO7.out HOW6.out hBz hC37 hB3 HY3.out (fun a ha => ⟨by have := HN1.out.1 a ha; have := hB0.size; omega, by have := HN1.out.2 a ha; have := h13.size; omega⟩) HN.out HX.out HD.out
          --MARK63
          exact ⟨rfl, hfin⟩
      · have HF := HARG.out hlt hj
        obtain ⟨J, hJ⟩ : ∃ J, J = e.job := ⟨_, rfl⟩
        rw [← hJ] at cj hj
        clear hJ
        go_wp2_with fail
        refine wp_region_C (Same [w.heap.size, g] w1) [] (by kernel_rfl) (by kernel_rfl) (by intro c a w h; first | (obtain ⟨_, h, _⟩ := h; cases h; done) | (obtain ⟨_, _, h, _⟩ := h; cases h; done) | (obtain ⟨_, _, _, h, _⟩ := h; cases h; done) | (obtain ⟨_, _, _, _, h, _⟩ := h; cases h; done) | (rcases h with ⟨_, ⟨_, _, _, _, h, _⟩ | ⟨_, _, _, _, h, _⟩⟩ <;> cases h; done)) (by intro a w h; first | (obtain ⟨h, _⟩ := h; cases h; done) | (obtain ⟨_, h, _⟩ := h; cases h; done) | (obtain ⟨_, _, h, _⟩ := h; cases h; done) | (obtain ⟨_, _, _, h, _⟩ := h; cases h; done) | (rcases h with ⟨_, _, _, _, h, _⟩ | ⟨_, _, _, _, h, _⟩ <;> cases h; done)) (Same.refl _ _) ?_
        repeat (refine wd_w (v := ?_) rfl rfl rfl rfl rfl rfl (fun w' hw' K hK => ?_) ?_; rotate_left; (have e1 := (hw'.cell w.heap.size (by simp) 0).trans cj; have e2 := (hw'.cell g (by simp) 2).trans c2; go_wp2_with (fail); exact rfl); simp only [Act.put, List.setIfInBounds_toArray, List.set_cons_zero, List.set_cons_succ])
        refine wd_nil ?_
        --MARK7
        go_wp2_with fail
        go_ret
        unfold AddPost
        rw [HF]
        exact ⟨rfl, Led.wide ⟨S, K, ck, _, _, _, cs, HH.out.ch (Ch.of (X := fun _ => False) hB1.drew) (fun _ _ h => h)⟩ hb, Ch.of hB1.drew⟩
  · have HF := addR_no T e hok
    rw [encR_no e hok]
    clear hok
    go_wp2_with fail
    --MARK9
    go_ret
    unfold AddPost
    rw [HF]
    exact ⟨rfl, Led.wide ⟨S, K, ck, _, _, _, cs, H1.out⟩ hb, Ch.of hB1⟩

end Go.Proofs.YtancldhincaphaaDoor
