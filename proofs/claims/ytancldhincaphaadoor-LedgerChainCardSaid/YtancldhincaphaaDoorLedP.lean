/- A ledger in memory: what it is made of, what of it stays as other blocks are turned; what Add makes of a row of texts. No condition. -/
import Derived.Test.YtancldhincaphaaDoorLedW
import Derived.Test.YtancldhincaphaaDoorGi
namespace Go.Proofs.YtancldhincaphaaDoor
open Go.RowKit
set_option maxRecDepth 100000

/-- All blocks but those of X are as they were. -/
structure Ch (X : Nat → Prop) (w w' : World) : Prop where
  os : w'.os = w.os
  tape : w'.tape = w.tape
  output : w'.output = w.output
  size : w.heap.size ≤ w'.heap.size
  block : ∀ k, k < w.heap.size → ¬ X k → w'.heap[k]? = w.heap[k]?
theorem Ch.refl (X : Nat → Prop) (w : World) : Ch X w w := ⟨rfl, rfl, rfl, Nat.le_refl _, fun _ _ _ => rfl⟩
theorem Ch.trans {X : Nat → Prop} {a b c : World} (h : Ch X a b) (k : Ch X b c) : Ch X a c :=
  ⟨k.os.trans h.os, k.tape.trans h.tape, k.output.trans h.output, Nat.le_trans h.size k.size, fun i hi hx => (k.block i (Nat.lt_of_lt_of_le hi h.size) hx).trans (h.block i hi hx)⟩
theorem Ch.mono {X Y : Nat → Prop} {w w' : World} (h : Ch X w w') (hy : ∀ k, X k → Y k) : Ch Y w w' := ⟨h.os, h.tape, h.output, h.size, fun k hk hx => h.block k hk (fun e => hx (hy k e))⟩
theorem Ch.of {X : Nat → Prop} {w w' : World} (h : Below w.heap.size w w') : Ch X w w' := ⟨h.os, h.tape, h.output, h.size, fun k hk _ => h.block k hk⟩
theorem Ch.grown {X : Nat → Prop} {w w' : World} {row : Option Nat} (h : w.grownBy w' row) (hx : ∀ k, row = some k → X k) : Ch X w w' := ⟨h.os, h.tape, h.output, h.size, fun k hk hn => h.block k hk (fun e => hn (hx k e.symm))⟩
theorem Ch.wrote {X : Nat → Prop} {w w' : World} {g : Nat} (h : Wrote w w' g) (hx : X g) : Ch X w w' := ⟨h.os, h.tape, h.output, by rw [h.size]; exact Nat.le_refl _, fun k _ hn => h.far k (fun e => hn (e ▸ hx))⟩
theorem Ch.below {X : Nat → Prop} {w w' : World} {B : Nat} (h : Ch X w w') (hx : ∀ k, X k → B ≤ k) (hB : B ≤ w.heap.size) : Below B w w' := ⟨h.os, h.tape, h.output, h.size, fun k hk => h.block k (by omega) (fun e => by have := hx k e; omega)⟩
theorem Ch.drew {X : Nat → Prop} {w w' : World} (h : Ch X w w') : Ch X w w'.drew := ⟨h.os, h.tape, h.output, h.size, h.block⟩
/-- Blocks added to a set of blocks: those that came between two worlds. -/
def ext (F : Nat → Prop) (w w' : World) : Nat → Prop := fun k => F k ∨ (w.heap.size ≤ k ∧ k < w'.heap.size)
theorem Ch.trans' {X : Nat → Prop} {a b c : World} (h : Ch X a b) (k : Ch (ext X a b) b c) : Ch X a c :=
  ⟨k.os.trans h.os, k.tape.trans h.tape, k.output.trans h.output, Nat.le_trans h.size k.size, fun i hi hx => (k.block i (Nat.lt_of_lt_of_le hi h.size) (fun e => by rcases e with e | e; exact hx e; omega)).trans (h.block i hi hx)⟩
theorem Blk.ch {X : Nat → Prop} {w w' : World} {g : Nat} {cs : List Value} {T : TypeId} (h : Blk w g cs T) (hc : Ch X w w') (hx : ¬ X g) : Blk w' g cs T := by
  have hl := h.lt
  unfold Blk at h ⊢; rw [hc.block g hl hx]; exact h
theorem ownsRow_ch {X : Nat → Prop} {w w' : World} {base : Nat} {e : TypeId} {sz n : Nat} {v : Value} {xs : List Value} (h : w.ownsRow base e sz v n xs) (hc : Ch X w w') (hx : ∀ k, v.ownBlock = some k → ¬ X k) : w'.ownsRow base e sz v n xs := by
  refine ⟨h.1, ?_⟩
  rcases h.2 with hn | ⟨g, cap, cur, rfl, hb, hgg, rest⟩
  · exact .inl hn
  · refine .inr ⟨g, cap, cur, rfl, hb, ?_, rest⟩
    rw [hc.block g (Array.getElem?_eq_some_iff.1 hgg).1 (hx g rfl)]
    exact hgg
theorem OwnC.ch {X : Nat → Prop} {w w' : World} {base : Nat} {e : TypeId} {v : Value} {cs : List Value} (h : OwnC w base e v cs) (hc : Ch X w w') (hx : ∀ k, v.ownBlock = some k → ¬ X k) : OwnC w' base e v cs := ownsRow_ch h hc hx
theorem OwnD.ch {X : Nat → Prop} {w w' : World} {base : Nat} {v : Value} {ds : List (List Int)} (h : OwnD w base v ds) (hc : Ch X w w') (hx : ∀ k, v.ownBlock = some k → ¬ X k) : OwnD w' base v ds := ⟨ownsRow_ch h.1 hc hx, h.2⟩
theorem Rd.lt' {w : World} {A : Option Addr} {cs : List Value} (h : Rd w A cs) : cs = [] ∨ ∀ a, A = some a → a.block < w.heap.size := by
  rcases h with h | ⟨g, off, rfl, h2⟩
  · exact .inl h
  · cases cs with
    | nil => exact .inl rfl
    | cons c cs => exact .inr fun a ha => by injection ha with ha; subst ha; exact World.block_lt_of_cell? (h := h2 0 c rfl)
theorem Byt.ch {X : Nat → Prop} {w w' : World} {A : Option Addr} {c : Nat} {bs : List Int} (h : Byt w A c bs) (hc : Ch X w w') (hx : ∀ a, A = some a → ¬ X a.block) : Byt w' A c bs :=
  ⟨by
    rcases h.rd with h1 | ⟨g1, off, h1, h2⟩
    · exact .inl h1
    · exact .inr ⟨g1, off, h1, fun j v hv => by
        have h3 := h2 j v hv
        have hl := World.block_lt_of_cell? (h := h3)
        exact (World.cell?_of_block (a := ⟨g1, off + j, none⟩) (show w'.heap[g1]? = w.heap[g1]? from hc.block g1 hl (hx ⟨g1, off, none⟩ h1))).trans h3⟩, h.le, h.nn, h.u⟩

/-- The chain along texts. -/
def lchainF (T : List (List Int)) : List Int := T.foldl (fun d b => nodeF d (leafF b 256) 256) (List.replicate 32 0)
theorem lchainF_snoc (T : List (List Int)) (b : List Int) : lchainF (T ++ [b]) = nodeF (lchainF T) (leafF b 256) 256 := by unfold lchainF; rw [List.foldl_append]; rfl
theorem lchainF_nil : lchainF [] = List.replicate 32 0 := rfl
theorem zero_ok : (List.replicate 32 (0 : Int)).length = 32 ∧ U8 (List.replicate 32 0) := ⟨List.length_replicate, U8.of fun x hx => by rw [(List.mem_replicate.1 hx).2]; omega⟩
theorem snoc_or (T : List (List Int)) : T = [] ∨ ∃ S b, T = S ++ [b] := by
  cases h : T.reverse with
  | nil => left; simpa using h
  | cons b S => right; exact ⟨S.reverse, b, by have := congrArg List.reverse h; simpa using this⟩
theorem lchainF_ok (T : List (List Int)) : (lchainF T).length = 32 ∧ U8 (lchainF T) := by
  rcases snoc_or T with rfl | ⟨S, b, rfl⟩
  · exact zero_ok
  · rw [lchainF_snoc]; exact ⟨nodeF_len _ _ _, nodeF_range _ _ _⟩
def lchainL (T : List (List Int)) : List (List Int) := (List.range (T.length + 1)).map fun n => lchainF (T.take n)
theorem lchainL_len (T : List (List Int)) : (lchainL T).length = T.length + 1 := by simp [lchainL]
theorem lchainL_snoc (T : List (List Int)) (b : List Int) : lchainL (T ++ [b]) = lchainL T ++ [nodeF (lchainF T) (leafF b 256) 256] := by
  unfold lchainL
  rw [List.length_append, show T.length + [b].length + 1 = (T.length + 1) + 1 from rfl, List.range_succ, List.map_append]
  congr 1
  · refine List.map_congr_left fun n hn => ?_
    rw [List.take_append_of_le_length (by have := List.mem_range.1 hn; omega)]
  · rw [← lchainF_snoc]
    simp [List.take_of_length_le]
theorem lchainL_at (T : List (List Int)) (n : Nat) (hn : n ≤ T.length) : (lchainL T)[n]'(by rw [lchainL_len]; omega) = lchainF (T.take n) := by simp [lchainL]
theorem lchainL_ok (T : List (List Int)) : Dgs (lchainL T) := fun d hd => by
  obtain ⟨n, _, rfl⟩ := List.mem_map.1 hd
  exact lchainF_ok _
theorem lchainL_nil : lchainL [] = [List.replicate 32 0] := rfl
def lleavesF (T : List (List Int)) : List (List Int) := T.map fun b => leafF b 256
theorem lleavesF_len (T : List (List Int)) : (lleavesF T).length = T.length := by simp [lleavesF]
theorem lleavesF_ok (T : List (List Int)) : Dgs (lleavesF T) := fun d hd => by
  obtain ⟨b, _, rfl⟩ := List.mem_map.1 hd
  exact ⟨leafF_len b 256, leafF_range b 256⟩
theorem lleavesF_snoc (T : List (List Int)) (b : List Int) : lleavesF (T ++ [b]) = lleavesF T ++ [leafF b 256] := by simp [lleavesF]

/-- What Add makes of a row of texts. -/
def addR (T : List (List Int)) (e : Ent) : List (List Int) × Int := if ¬ OkE e then (T, 2) else if 64 ≤ T.length then (T, 11) else if e.job ≠ T.length then (T, 2) else (T ++ [encL e], 0)
theorem addR_no (T : List (List Int)) (e : Ent) (h : ¬ OkE e) : addR T e = (T, 2) := by unfold addR; rw [if_pos h]
theorem addR_full (T : List (List Int)) (e : Ent) (h : OkE e) (h1 : 64 ≤ T.length) : addR T e = (T, 11) := by unfold addR; rw [if_neg (fun x => x h), if_pos h1]
theorem addR_arg (T : List (List Int)) (e : Ent) (h : OkE e) (h1 : T.length < 64) (h2 : e.job ≠ T.length) : addR T e = (T, 2) := by unfold addR; rw [if_neg (fun x => x h), if_neg (by omega), if_pos h2]
theorem addR_ok (T : List (List Int)) (e : Ent) (h : OkE e) (h1 : T.length < 64) (h2 : e.job = T.length) : addR T e = (T ++ [encL e], 0) := by unfold addR; rw [if_neg (fun x => x h), if_neg (by omega), if_neg (fun x => x h2)]
theorem varL_u8L (x : Nat) : U8 (varL x) := U8.of (varT_u8 10 x)
theorem encL_u8L {e : Ent} (h : OkE e) (hb : EntB e) : U8 (encL e) := by
  have hl := h.2.2.2.2.2.len
  have hk := h.2.2.1
  unfold encL
  refine ((((((varL_u8L _).append (varL_u8L _)).append hb.uh).append hb.us).append (U8.of fun x hx => ?_)).append (varL_u8L _) |>.append (U8.of fun x hx => ?_)).append (U8.of fun x hx => ?_)
  · rw [List.mem_singleton.1 hx]; omega
  · rw [List.mem_singleton.1 hx]; omega
  · have := h.2.2.2.2.2.1 x hx; omega

/-- A list of texts that lie in blocks of S. -/
def TxtsIn (w : World) (cs : List Value) (T : List (List Int)) (S : Nat → Prop) : Prop :=
  cs.length = T.length ∧ ∀ j (hj : j < T.length), ∃ B d, cs[j]? = some (.slice B (T[j]).length d) ∧ Byt w B d T[j] ∧ ∀ a, B = some a → S a.block
theorem TxtsIn.ch {X S : Nat → Prop} {w w' : World} {cs : List Value} {T : List (List Int)} (h : TxtsIn w cs T S) (hc : Ch X w w') (hx : ∀ k, S k → ¬ X k) : TxtsIn w' cs T S :=
  ⟨h.1, fun j hj => by obtain ⟨B, d, h1, h2, h3⟩ := h.2 j hj; exact ⟨B, d, h1, h2.ch hc (fun a ha => hx _ (h3 a ha)), h3⟩⟩
theorem TxtsIn.mono {S S' : Nat → Prop} {w : World} {cs : List Value} {T : List (List Int)} (h : TxtsIn w cs T S) (hs : ∀ k, S k → S' k) : TxtsIn w cs T S' :=
  ⟨h.1, fun j hj => by obtain ⟨B, d, h1, h2, h3⟩ := h.2 j hj; exact ⟨B, d, h1, h2, fun a ha => hs _ (h3 a ha)⟩⟩
theorem TxtsIn.snoc {S : Nat → Prop} {w : World} {cs : List Value} {T : List (List Int)} (h : TxtsIn w cs T S) {B : Option Addr} {d : Nat} {b : List Int} (hb : Byt w B d b) (hB : ∀ a, B = some a → S a.block) : TxtsIn w (cs ++ [.slice B b.length d]) (T ++ [b]) S := by
  refine ⟨by simp [h.1], fun j hj => ?_⟩
  by_cases hlt : j < T.length
  · obtain ⟨B', d', h1, h2, h3⟩ := h.2 j hlt
    have hL : (T ++ [b])[j] = T[j] := List.getElem_append_left hlt
    rw [hL]
    exact ⟨B', d', by rw [List.getElem?_append_left (by rw [h.1]; exact hlt)]; exact h1, h2, h3⟩
  · have hje : j = T.length := by simp at hj; omega
    subst hje
    have hL : (T ++ [b])[T.length] = b := by simp
    rw [hL]
    exact ⟨B, d, by rw [List.getElem?_append_right (by rw [h.1]; exact Nat.le_refl _), h.1]; simp, hb, hB⟩
theorem TxtsIn.nil (w : World) (S : Nat → Prop) : TxtsIn w [] [] S := ⟨rfl, fun j hj => by simp at hj⟩

/-- A ledger: its own blocks are those of F; g: the ledger itself; S: what is never written; the three rows. -/
structure LedAt (w : World) (base g : Nat) (key : List Int) (T : List (List Int)) (F S : Nat → Prop) (K : Option Addr) (ck : Nat) (tv lv cv : Value) (cs : List Value) : Prop where
  lo : ∀ k, F k → base ≤ k ∧ k < w.heap.size
  blk : Blk w g (ledC true (.slice K key.length ck) tv lv cv) 68
  fg : F g ∧ ¬ S g
  key : Byt w K ck key
  kS : ∀ a, K = some a → S a.block
  own : OwnC w base 22 tv cs
  txt : TxtsIn w cs T S
  lea : OwnD w base lv (lleavesF T)
  cha : OwnD w base cv (lchainL T)
  tvF : ∀ k, tv.ownBlock = some k → F k ∧ ¬ S k ∧ k ≠ g
  lvF : ∀ k, lv.ownBlock = some k → F k ∧ ¬ S k ∧ k ≠ g ∧ tv.ownBlock ≠ some k
  cvF : ∀ k, cv.ownBlock = some k → F k ∧ ¬ S k ∧ k ≠ g ∧ tv.ownBlock ≠ some k ∧ lv.ownBlock ≠ some k
  sF : ∀ k, S k → F k
def Led (w : World) (base g : Nat) (key : List Int) (T : List (List Int)) (F : Nat → Prop) : Prop := ∃ S K ck tv lv cv cs, LedAt w base g key T F S K ck tv lv cv cs
theorem LedAt.ch {X : Nat → Prop} {w w' : World} {base g : Nat} {key : List Int} {T : List (List Int)} {F S : Nat → Prop} {K : Option Addr} {ck : Nat} {tv lv cv : Value} {cs : List Value}
    (h : LedAt w base g key T F S K ck tv lv cv cs) (hc : Ch X w w') (hx : ∀ k, F k → ¬ X k) : LedAt w' base g key T F S K ck tv lv cv cs :=
  ⟨fun k hk => ⟨(h.lo k hk).1, Nat.lt_of_lt_of_le (h.lo k hk).2 hc.size⟩, h.blk.ch hc (hx g h.fg.1), h.fg, h.key.ch hc (fun a ha => hx _ (h.sF _ (h.kS a ha))), h.kS, h.own.ch hc (fun k hk => hx k (h.tvF k hk).1),
    h.txt.ch hc (fun k hk => hx k (h.sF k hk)), h.lea.ch hc (fun k hk => hx k (h.lvF k hk).1), h.cha.ch hc (fun k hk => hx k (h.cvF k hk).1), h.tvF, h.lvF, h.cvF, h.sF⟩
theorem Led.ch {X : Nat → Prop} {w w' : World} {base g : Nat} {key : List Int} {T : List (List Int)} {F : Nat → Prop} (h : Led w base g key T F) (hc : Ch X w w') (hx : ∀ k, F k → ¬ X k) : Led w' base g key T F := by
  obtain ⟨S, K, ck, tv, lv, cv, cs, h⟩ := h
  exact ⟨S, K, ck, tv, lv, cv, cs, h.ch hc hx⟩
theorem Led.wide {w w' : World} {base g : Nat} {key : List Int} {T : List (List Int)} {F : Nat → Prop} (h : Led w' base g key T F) (hb : base ≤ w.heap.size) : Led w' base g key T (ext F w w') := by
  obtain ⟨S, K, ck, tv, lv, cv, cs, h⟩ := h
  refine ⟨S, K, ck, tv, lv, cv, cs, ⟨fun k hk => ?_, h.blk, ⟨.inl h.fg.1, h.fg.2⟩, h.key, h.kS, h.own, h.txt, h.lea, h.cha, fun k hk => ?_, fun k hk => ?_, fun k hk => ?_, fun k hk => .inl (h.sF k hk)⟩⟩
  · rcases hk with hk | hk
    · exact h.lo k hk
    · exact ⟨by omega, hk.2⟩
  · have := h.tvF k hk; exact ⟨.inl this.1, this.2⟩
  · have := h.lvF k hk; exact ⟨.inl this.1, this.2⟩
  · have := h.cvF k hk; exact ⟨.inl this.1, this.2⟩

/-- append(x, y) of one text, x a row of the ledger's own. -/
theorem tinfoL : (Tryd.prog.info? 22).map (fun i => (i.zero, i.size, i.bytes)) = some (some (.slice none 0 0), 1, 24) := by kernel_rfl
theorem st_appendT {ops : Array Oper} {rest : List Oper} {a : Act} {w : World} {Q : Exit → Act → World → Prop} {d' : Option Tmp} {tt : TypeId} {s x : Operand} {pos : String} {after : Array Edge} {base g2 : Nat} {v y : Value} {cs : List Value}
    (hs : a.eval s = v) (hx : a.eval x = .slice (some ⟨g2, 0, none⟩) 1 1) (ho : OwnC w base 22 v cs) (hr : Blk w g2 [y] 22) (hy : y.oneCell' = true) (hl : cs.length ≤ 1000000) (hbase : base ≤ w.heap.size)
    (h : ∀ v' w', OwnC w' base 22 v' (cs ++ [y]) → w.grownBy w' v.ownBlock → (v'.ownBlock = v.ownBlock ∨ v'.ownBlock = some w.heap.size) → wpList Tryd.prog ops Q rest (a.put d' v') w') :
    wpList Tryd.prog ops Q (⟨d', .call ⟨.builtin .append, #[s, x], #[43, 43]⟩, tt, pos, after, none⟩ :: rest) a w := by
  obtain ⟨i0, hi, hz0, hz1, hz2⟩ := info_parts tinfoL
  refine wpList_append_own_at (w := w) rfl s x 43 rfl base 22 i0 (.slice none 0 0) 1 24 Tryd.underlying43 hi hz0 hz1 hz2 rfl (by decide) v cs.length cs hs ho ⟨g2, 0, none⟩ 1 1 [y] hx rfl (fun j u hu => ?_) (fun u hu => ?_) (by unfold maxLen; omega) (by omega) hbase ?_
  · have := hr.cell j
    rw [hu] at this
    have e : (⟨g2, 0, none⟩ : Addr).add j = ⟨g2, j, none⟩ := by unfold Addr.add; split <;> simp_all
    rw [e]; exact this
  · simp at hu; subst hu; exact hy
  · intro v' w' ho' hgr _ hat
    refine h v' w' ?_ hgr hat
    unfold OwnC
    rw [List.length_append]
    exact ho'

end Go.Proofs.YtancldhincaphaaDoor
