/- What entry.read answers. No condition but the kinds' own bounds. -/
import Derived.Test.YtepicdcmcagipaaEntV
namespace Go.Proofs.Ytepicdcmcagipaa
open Go.RowKit

/-- The world while an entry is filled: the result's row, the entry's. -/
structure St (w : World) (cs : List Value) (wi : World) : Prop where
  r : Blk wi w.heap.size entZ 28
  x : Blk wi (w.heap.size + 1) cs 28
  B : Below w.heap.size w wi
theorem St.start (w : World) : St w entZ ((w.alloc (.cells entZ.toArray 28)).alloc (.cells entZ.toArray 28)) :=
  ⟨(Blk.new' _ _ _ _ _ rfl rfl).alloc _, Blk.new' _ _ _ _ _ rfl (by simp), ((Below.refl _ _).alloc (Nat.le_refl _) _).alloc (by simp) _⟩
theorem St.up {w wi wj : World} {cs : List Value} (h : St w cs wi) (hb : Below wi.heap.size wi wj) : St w cs wj := ⟨h.r.up hb, h.x.up hb, h.B.trans (hb.mono h.B.size)⟩
theorem St.set {w wi : World} {cs : List Value} (h : St w cs wi) (i : Nat) (v : Value) : St w (cs.set i v) (wi.setCell ⟨w.heap.size + 1, i, none⟩ v) := ⟨h.r.far _ _ (by simp), h.x.set i v, h.B.setCell (by simp) v⟩
theorem St.wrote {w wi wj : World} {cs cs' : List Value} (h : St w cs wi) (hw : Wrote wi wj (w.heap.size + 1)) (hd : Blk wj (w.heap.size + 1) cs' 28) : St w cs' wj := ⟨hw.blk h.r (by simp), hd, Wrote.below h.B hw (by simp)⟩
theorem St.drew {w wi : World} {cs : List Value} (h : St w cs wi) : St w cs wi.drew := h.up (Below.refl _ _).drew
def ReadPost (b : List Int) (w : World) (r : Ending) (w' : World) : Prop :=
  (∃ e A c, readR b = some e ∧ r = .returned (.tuple #[.agg (entC e A c).toArray, .bool true]) ∧ GrowI w e.ord (.slice A e.ord.length c) w') ∨
  (∃ cs : List Value, readR b = none ∧ cs.length = 69 ∧ (∀ v ∈ cs, v.oneCell' = true) ∧ r = .returned (.tuple #[.agg cs.toArray, .bool false]) ∧ Below w.heap.size w w')
theorem entZ_len : entZ.length = 69 := entV_len _ _ _ _ _ _ _ Z32_len Z32_len
theorem zeroE_run (w : World) : (zeroValue 28).run Try.prog w = .ok (.agg entZ.toArray) w := by kernel_rfl
/-- var e Entry. -/
theorem st_allocE {ops : Array Oper} {Q : Exit → Act → World → Prop} {rest : List Oper} {a : Act} {w : World} {d' : Option Tmp} {tt : TypeId} {pos : String} {after : Array Edge}
    (h : wpList Try.prog ops Q rest (a.put d' (.pointer (some ⟨w.heap.size, 0, none⟩))) (w.alloc (.cells entZ.toArray 28))) :
    wpList Try.prog ops Q (⟨d', .alloc 28, tt, pos, after, none⟩ :: rest) a w :=
  wpList_plain rfl fun K hK => by
    unfold Oper.wp execOp
    simp only [Sem.run_bind]
    exact hK _ _ h
theorem numR_nil (most : Nat) : numR [] most = none := rfl
theorem Byt.nil (w : World) : Byt w none 0 [] := ⟨Rd.nil _ _, Nat.le_refl _, fun _ => rfl, U8.nil⟩
theorem numbernil_any (w : World) (most : Nat) (M : Int) (hM : M = most) : Calls Try.prog 32 #[.slice none 0 0, .int .u64 M] w fun r w' => r = .returned (.tuple #[.int .i64 0, .slice none 0 0, .bool false]) ∧ w = w' :=
  number_none w none 0 [] (Byt.nil w) (by simp) most M hM rfl
theorem number_noneB (w : World) (A : Option Addr) (c : Nat) (b : List Int) (hb : Byt w A c b) (hl : b.length ≤ 1099511627776) (most : Nat) (M : Int) (hM : M = most) (h : numR b most = none) :
    Calls Try.prog 32 #[.slice A b.length c, .int .u64 M] w fun r w' => r = .returned (.tuple #[.int .i64 0, .slice none 0 0, .bool false]) ∧ Below w.heap.size w w' :=
  (number_none w A c b hb hl most M hM h).mono fun _ _ ⟨h1, h2⟩ => ⟨h1, h2 ▸ Below.refl _ _⟩
theorem numbernil_B (w : World) (most : Nat) (M : Int) (hM : M = most) : Calls Try.prog 32 #[.slice none 0 0, .int .u64 M] w fun r w' => r = .returned (.tuple #[.int .i64 0, .slice none 0 0, .bool false]) ∧ Below w.heap.size w w' :=
  (numbernil_any w most M hM).mono fun _ _ ⟨h1, h2⟩ => ⟨h1, h2 ▸ Below.refl _ _⟩


theorem St.below {w wi wj : World} {cs : List Value} {base : Nat} (h : St w cs wi) (hb : Below base wi wj) (hl : w.heap.size + 2 ≤ base) : St w cs wj := ⟨h.r.below hb (by omega), h.x.below hb (by omega), h.B.trans (hb.mono (by omega))⟩
theorem OwnC.farSet {w : World} {base : Nat} {e : TypeId} {v : Value} {cs : List Value} (h : OwnC w base e v cs) {p : Addr} (hp : p.block < base) (x : Value) : OwnC (w.setCell p x) base e v cs := by
  obtain ⟨hl, h | ⟨g, cap, cur, hv, hg, hh, r⟩⟩ := h
  · exact ⟨hl, .inl h⟩
  · exact ⟨hl, .inr ⟨g, cap, cur, hv, hg, (heap_setCell_other w p g x (by omega)).trans hh, r⟩⟩
theorem OwnC.farWrote {w w' : World} {base k : Nat} {e : TypeId} {v : Value} {cs : List Value} (h : OwnC w base e v cs) (hw : Wrote w w' k) (hk : k < base) : OwnC w' base e v cs := by
  obtain ⟨hl, h | ⟨g, cap, cur, hv, hg, hh, r⟩⟩ := h
  · exact ⟨hl, .inl h⟩
  · exact ⟨hl, .inr ⟨g, cap, cur, hv, hg, (hw.far g (by omega)).trans hh, r⟩⟩
theorem OwnC.mono {w : World} {base base' : Nat} {e : TypeId} {v : Value} {cs : List Value} (h : OwnC w base e v cs) (hb : base' ≤ base) : OwnC w base' e v cs := by
  obtain ⟨hl, h | ⟨g, cap, cur, hv, hg, r⟩⟩ := h
  · exact ⟨hl, .inl h⟩
  · exact ⟨hl, .inr ⟨g, cap, cur, hv, by omega, r⟩⟩
/-- append(x, n) of a whole number, from block base on. -/
theorem st_appendI {ops : Array Oper} {rest : List Oper} {a : Act} {w : World} {Q : Exit → Act → World → Prop} {d' : Option Tmp} {tt : TypeId} {s x : Operand} {pos : String} {after : Array Edge} {base : Nat} {v : Value} {g c : Nat} {l : List Int} {n : Int}
    (hs : a.eval s = v) (hx : a.eval x = .slice (some ⟨g, 0, none⟩) 1 c) (hown : OwnC w base 3 v (nums .i64 l)) (hr : w.cell? ⟨g, 0, none⟩ = some (.int .i64 n)) (hl : l.length ≤ 1099511627775) (hbase : base ≤ w.heap.size)
    (h : ∀ v' w', OwnC w' base 3 v' (nums .i64 (l ++ [n])) → Below base w w' → wpList Try.prog ops Q rest (a.put d' v') w') :
    wpList Try.prog ops Q (⟨d', .call ⟨.builtin .append, #[s, x], #[24, 24]⟩, tt, pos, after, none⟩ :: rest) a w := by
  obtain ⟨i0, hi, hz0, hz1, hz2⟩ := info_parts intInfo
  refine wpList_append_own_at (w := w) rfl s x 24 rfl base 3 i0 (.int .i64 0) 1 8 Try.underlying24 hi hz0 hz1 hz2 rfl (by decide) v (nums .i64 l).length (nums .i64 l) hs hown ⟨g, 0, none⟩ 1 c [.int .i64 n] hx rfl ?_ (fun u hu => by rw [List.mem_singleton.1 hu]; rfl) (by rw [nums_length]; unfold maxLen; omega) (by rw [nums_length]; omega) hbase ?_
  · intro j u hu
    cases j with
    | zero =>
      have : (⟨g, 0, none⟩ : Addr).add 0 = ⟨g, 0, none⟩ := by simp [Addr.add]
      rw [this]; simp at hu; rw [hr, hu]
    | succ j => simp at hu
  · intro v' w' ho hgr _ hat
    refine h v' w' ?_ ((Below.refl base w).grown hgr hbase (fun k hk => by have := World.ownsRow.lt hown k hk; omega))
    unfold OwnC
    rw [show nums .i64 (l ++ [n]) = nums .i64 l ++ [.int .i64 n] by simp [nums], List.length_append]
    exact ho
theorem take_mem {l : List Int} {n j : Nat} {v : Value} (h : (nums .u8 (l.take n))[j]? = some v) : (nums .u8 l)[j]? = some v := by
  rw [nums_take, List.getElem?_take] at h
  split at h
  · exact h
  · cases h
theorem drop_mem {l : List Int} {k n j : Nat} {v : Value} (h : (nums .u8 ((l.drop k).take n))[j]? = some v) : (nums .u8 l)[k + j]? = some v := by
  have := take_mem h
  rwa [nums_drop, List.getElem?_drop] at this

set_option maxRecDepth 100000 in
set_option maxHeartbeats 16000000 in
theorem read_any (w : World) (A : Option Addr) (c : Nat) (b : List Int) (hby : Byt w A c b) (hl : b.length ≤ 1000000) :
    Calls Try.prog 24 #[.slice A b.length c] w (ReadPost b w) := by
  have HBY := Lib.hid hby
  have z32 := Z32_len
  cases hn1 : numR b 64 with
  | none =>
    have hno : readR b = none := by unfold readR; rw [hn1]
    have HNO := Lib.hid hno
    have h1 := fun W h => number_noneB W A c b h (by omega) 64 64 rfl hn1
    have HN1 := Lib.hid h1
    clear hno h1 hn1 hby
    go_enter Try.func24, Try.ntmps24
    go_wp2_with (with_reducible apply st_allocE)
    go_at_call 32
    refine (HN1.out _ (HBY.out.up (St.start w).B)).mono ?_
    rintro r w1 ⟨rfl, hb1⟩
    have s0 := (St.start w).up hb1
    clear hb1
    have cb0 : (w1).cell? ⟨w.heap.size + 1, 0, none⟩ = some (.int .i64 0) := s0.x.cell 0
    have fb0 : (w1).frozen? ⟨w.heap.size + 1, 0, none⟩ = false := s0.x.frozen 0
    go_wp2_with fail
    have s1 : St w (entV 0 0 Z32 Z32 0 (.slice none 0 0) 0) _ := s0.set 0 (.int .i64 0)
    clear s0 cb0 fb0
    go_at_call 32
    refine (numbernil_B _ 1099511627776 _ rfl).mono ?_
    rintro r w2 ⟨rfl, hb2⟩
    have s1 := s1.up hb2
    clear hb2
    have cb1 : (w2).cell? ⟨w.heap.size + 1, 1, none⟩ = some (.int .i64 0) := s1.x.cell 1
    have fb1 : (w2).frozen? ⟨w.heap.size + 1, 1, none⟩ = false := s1.x.frozen 1
    have s2 : St w (entV 0 0 Z32 Z32 0 (.slice none 0 0) 0) _ := s1.set 1 (.int .i64 0)
    clear s1
    obtain ⟨CS, hCS⟩ : ∃ CS, CS = (entV 0 0 Z32 Z32 0 (.slice none 0 0) 0) := ⟨_, rfl⟩
    have hlen : CS.length = 69 := by rw [hCS]; exact entV_len _ _ _ _ _ _ _ (by assumption) (by assumption)
    have hone : ∀ v ∈ CS, v.oneCell' = true := by rw [hCS]; exact entV_one _ _ _ _ _ _ _ rfl
    rw [← hCS] at s2
    have HLEN := Lib.hid hlen
    have HONE := Lib.hid hone
    clear hCS hlen hone
    try clear z32
    go_wp2_with (first | ((with_reducible apply st_load (n := 69) (cs := CS) (T := 28)); rfl; exact s2.x; exact Try.underlying28; rfl; exact entSize; (rw [HLEN.out]; decide); exact row_all _ _ HLEN.out) | ((with_reducible apply st_storeW (off := 0) (vs := CS) (cs := entZ) (T := 28)); rfl; rfl; exact s2.r; (rw [HLEN.out]; exact entSize); (rw [HLEN.out, entZ_len]; decide); exact HONE.out; intro w99 hd99 hw99; rw [laid_all _ _ (by rw [HLEN.out, entZ_len])] at hd99))
    refine bodyPost_ret (ret_row_tmp rfl _ _ _ CS 28 _ rfl hd99 Try.underlying28 rfl (by rw [HLEN.out]; exact entSize)) rfl (.inr ⟨CS, HNO.out, HLEN.out, HONE.out, rfl, Wrote.below s2.B hw99 (Nat.le_refl _)⟩)

  | some p =>
    obtain ⟨J, b1⟩ := p
    obtain ⟨A1, c1, hby1, hl1, hj, HN1⟩ := num_cut hby (by omega) 64 64 rfl (by decide) hn1
    have HBY1 := Lib.hid hby1
    cases hn2 : numR b1 1099511627776 with
    | none =>
      have hno : readR b = none := by unfold readR; rw [hn1]; dsimp only; rw [hn2]
      have HNO := Lib.hid hno
      have h2 := fun W h => number_noneB W A1 c1 b1 h (by omega) 1099511627776 1099511627776 rfl hn2
      have HN2 := Lib.hid h2
      clear hno h2 hn1 hn2 hby hby1
      go_enter Try.func24, Try.ntmps24
      go_wp2_with (with_reducible apply st_allocE)
      go_at_call 32
      refine (HN1.out _ (HBY.out.up (St.start w).B)).mono ?_
      rintro r w1 ⟨rfl, hb1⟩
      have s0 := (St.start w).up hb1
      clear hb1
      have cb0 : (w1).cell? ⟨w.heap.size + 1, 0, none⟩ = some (.int .i64 0) := s0.x.cell 0
      have fb0 : (w1).frozen? ⟨w.heap.size + 1, 0, none⟩ = false := s0.x.frozen 0
      go_wp2_with fail
      have s1 : St w (entV J 0 Z32 Z32 0 (.slice none 0 0) 0) _ := s0.set 0 (.int .i64 J)
      clear s0 cb0 fb0
      go_at_call 32
      refine (HN2.out _ (HBY1.out.up s1.B)).mono ?_
      rintro r w2 ⟨rfl, hb2⟩
      have s1 := s1.up hb2
      clear hb2
      have cb1 : (w2).cell? ⟨w.heap.size + 1, 1, none⟩ = some (.int .i64 0) := s1.x.cell 1
      have fb1 : (w2).frozen? ⟨w.heap.size + 1, 1, none⟩ = false := s1.x.frozen 1
      have s2 : St w (entV J 0 Z32 Z32 0 (.slice none 0 0) 0) _ := s1.set 1 (.int .i64 0)
      clear s1
      obtain ⟨CS, hCS⟩ : ∃ CS, CS = (entV J 0 Z32 Z32 0 (.slice none 0 0) 0) := ⟨_, rfl⟩
      have hlen : CS.length = 69 := by rw [hCS]; exact entV_len _ _ _ _ _ _ _ (by assumption) (by assumption)
      have hone : ∀ v ∈ CS, v.oneCell' = true := by rw [hCS]; exact entV_one _ _ _ _ _ _ _ rfl
      rw [← hCS] at s2
      have HLEN := Lib.hid hlen
      have HONE := Lib.hid hone
      clear hCS hlen hone
      try clear z32
      go_wp2_with (first | ((with_reducible apply st_load (n := 69) (cs := CS) (T := 28)); rfl; exact s2.x; exact Try.underlying28; rfl; exact entSize; (rw [HLEN.out]; decide); exact row_all _ _ HLEN.out) | ((with_reducible apply st_storeW (off := 0) (vs := CS) (cs := entZ) (T := 28)); rfl; rfl; exact s2.r; (rw [HLEN.out]; exact entSize); (rw [HLEN.out, entZ_len]; decide); exact HONE.out; intro w99 hd99 hw99; rw [laid_all _ _ (by rw [HLEN.out, entZ_len])] at hd99))
      refine bodyPost_ret (ret_row_tmp rfl _ _ _ CS 28 _ rfl hd99 Try.underlying28 rfl (by rw [HLEN.out]; exact entSize)) rfl (.inr ⟨CS, HNO.out, HLEN.out, HONE.out, rfl, Wrote.below s2.B hw99 (Nat.le_refl _)⟩)

    | some p =>
      obtain ⟨T, b2⟩ := p
      obtain ⟨A2, c2, hby2, hl2, ht, HN2⟩ := num_cut hby1 (by omega) 1099511627776 1099511627776 rfl (by decide) hn2
      by_cases h65 : b2.length < 65
      · have hno : readR b = none := by unfold readR; rw [hn1]; dsimp only; rw [hn2]; dsimp only; rw [if_pos h65]
        have HNO := Lib.hid hno
        clear hno hn1 hn2 hby hby1 hby2
        go_enter Try.func24, Try.ntmps24
        go_wp2_with (with_reducible apply st_allocE)
        go_at_call 32
        refine (HN1.out _ (HBY.out.up (St.start w).B)).mono ?_
        rintro r w1 ⟨rfl, hb1⟩
        have s0 := (St.start w).up hb1
        clear hb1
        have cb0 : (w1).cell? ⟨w.heap.size + 1, 0, none⟩ = some (.int .i64 0) := s0.x.cell 0
        have fb0 : (w1).frozen? ⟨w.heap.size + 1, 0, none⟩ = false := s0.x.frozen 0
        go_wp2_with fail
        have s1 : St w (entV J 0 Z32 Z32 0 (.slice none 0 0) 0) _ := s0.set 0 (.int .i64 J)
        clear s0 cb0 fb0
        go_at_call 32
        refine (HN2.out _ (HBY1.out.up s1.B)).mono ?_
        rintro r w2 ⟨rfl, hb2⟩
        have s1 := s1.up hb2
        clear hb2
        have cb1 : (w2).cell? ⟨w.heap.size + 1, 1, none⟩ = some (.int .i64 0) := s1.x.cell 1
        have fb1 : (w2).frozen? ⟨w.heap.size + 1, 1, none⟩ = false := s1.x.frozen 1
        have s2 : St w (entV J T Z32 Z32 0 (.slice none 0 0) 0) _ := s1.set 1 (.int .i64 T)
        clear s1
        obtain ⟨CS, hCS⟩ : ∃ CS, CS = (entV J T Z32 Z32 0 (.slice none 0 0) 0) := ⟨_, rfl⟩
        have hlen : CS.length = 69 := by rw [hCS]; exact entV_len _ _ _ _ _ _ _ (by assumption) (by assumption)
        have hone : ∀ v ∈ CS, v.oneCell' = true := by rw [hCS]; exact entV_one _ _ _ _ _ _ _ rfl
        rw [← hCS] at s2
        have HLEN := Lib.hid hlen
        have HONE := Lib.hid hone
        clear hCS hlen hone
        try clear z32
        go_wp2_with (first | ((with_reducible apply st_load (n := 69) (cs := CS) (T := 28)); rfl; exact s2.x; exact Try.underlying28; rfl; exact entSize; (rw [HLEN.out]; decide); exact row_all _ _ HLEN.out) | ((with_reducible apply st_storeW (off := 0) (vs := CS) (cs := entZ) (T := 28)); rfl; rfl; exact s2.r; (rw [HLEN.out]; exact entSize); (rw [HLEN.out, entZ_len]; decide); exact HONE.out; intro w99 hd99 hw99; rw [laid_all _ _ (by rw [HLEN.out, entZ_len])] at hd99))
        refine bodyPost_ret (ret_row_tmp rfl _ _ _ CS 28 _ rfl hd99 Try.underlying28 rfl (by rw [HLEN.out]; exact entSize)) rfl (.inr ⟨CS, HNO.out, HLEN.out, HONE.out, rfl, Wrote.below s2.B hw99 (Nat.le_refl _)⟩)

      · have hle2 := hby2.le
        obtain ⟨g, o, rfl, hg⟩ := hby2.rd.get (by rw [nums_length]; omega)
        have hglt : g < w.heap.size := World.block_lt_of_cell? (h := hg 0 _ (nums_at .u8 b2 0 (by omega)))
        obtain ⟨H, hH⟩ : ∃ H, H = b2.take 32 := ⟨_, rfl⟩
        obtain ⟨S, hS⟩ : ∃ S, S = (b2.drop 32).take 32 := ⟨_, rfl⟩
        obtain ⟨K, hK⟩ : ∃ K, K = ga b2 64 := ⟨_, rfl⟩
        have hKr := hby2.u 64
        rw [← hK] at hKr
        have hHl : H.length = 32 := by rw [hH, List.length_take]; omega
        have hSl : S.length = 32 := by rw [hS, List.length_take, List.length_drop]; omega
        have hsrc : ∀ W, Below w.heap.size w W → ∀ j v, (nums .u8 H)[j]? = some v → W.cell? ⟨g, o + j, none⟩ = some v := fun W hW j v hv => (hW.cell (p := ⟨g, o + j, none⟩) hglt).trans (hg j v (take_mem (hH ▸ hv)))
        have hsrc2 : ∀ W, Below w.heap.size w W → ∀ j v, (nums .u8 S)[j]? = some v → W.cell? ⟨g, o + 32 + j, none⟩ = some v := fun W hW j v hv => (hW.cell (p := ⟨g, o + 32 + j, none⟩) hglt).trans (by rw [Nat.add_assoc]; exact hg _ v (drop_mem (hS ▸ hv)))
        have hc64 : ∀ W, Below w.heap.size w W → W.cell? ⟨g, o + 64, none⟩ = some (.int .u8 K) := fun W hW => (hW.cell (p := ⟨g, o + 64, none⟩) hglt).trans (by rw [hK]; exact hg 64 _ (nums_at .u8 b2 64 (by omega)))
        have hby3 := hby2.drop 65 (by omega)
        obtain ⟨A3, hA3⟩ : ∃ A3, A3 = (if c2 = 65 then (some ⟨g, o, none⟩ : Option Addr) else (some ⟨g, o, none⟩ : Option Addr).map (·.add 65)) := ⟨_, rfl⟩
        rw [← hA3] at hby3
        have hdl : (b2.drop 65).length = b2.length - 65 := List.length_drop
        have HSRC := Lib.hid hsrc
        have HSRC2 := Lib.hid hsrc2
        have HC64 := Lib.hid hc64
        have HA3 := Lib.hid hA3
        have HBY3 := Lib.hid hby3
        have HH := Lib.hid hH
        have HS := Lib.hid hS
        have HK := Lib.hid hK
        cases hn3 : numR (b2.drop 65) 1073741824 with
        | none =>
          have hno : readR b = none := by unfold readR; rw [hn1]; dsimp only; rw [hn2]; dsimp only; rw [if_neg h65, hn3]
          have HNO := Lib.hid hno
          have h3 := fun W h => number_noneB W A3 (c2 - 65) (b2.drop 65) h (by omega) 1073741824 1073741824 rfl hn3
          rw [hdl] at h3
          have HN3 := Lib.hid h3
          clear hno h3 hn1 hn2 hn3 hby hby1 hby2 hby3 hg hsrc hsrc2 hc64 hA3 hH hS hK hdl
          go_enter Try.func24, Try.ntmps24
          go_wp2_with (with_reducible apply st_allocE)
          go_at_call 32
          refine (HN1.out _ (HBY.out.up (St.start w).B)).mono ?_
          rintro r w1 ⟨rfl, hb1⟩
          have s0 := (St.start w).up hb1
          clear hb1
          have cb0 : (w1).cell? ⟨w.heap.size + 1, 0, none⟩ = some (.int .i64 0) := s0.x.cell 0
          have fb0 : (w1).frozen? ⟨w.heap.size + 1, 0, none⟩ = false := s0.x.frozen 0
          go_wp2_with fail
          have s1 : St w (entV J 0 Z32 Z32 0 (.slice none 0 0) 0) _ := s0.set 0 (.int .i64 J)
          clear s0 cb0 fb0
          go_at_call 32
          refine (HN2.out _ (HBY1.out.up s1.B)).mono ?_
          rintro r w2 ⟨rfl, hb2⟩
          have s1 := s1.up hb2
          clear hb2
          have cb1 : (w2).cell? ⟨w.heap.size + 1, 1, none⟩ = some (.int .i64 0) := s1.x.cell 1
          have fb1 : (w2).frozen? ⟨w.heap.size + 1, 1, none⟩ = false := s1.x.frozen 1
          have s2 : St w (entV J T Z32 Z32 0 (.slice none 0 0) 0) _ := s1.set 1 (.int .i64 T)
          clear s1
          go_wp2_with (first | ((with_reducible apply st_allArr); exact Try.underlying23; kernel_rfl; rfl) | ((with_reducible apply st_copyW (m := 32) (cs := nums .u8 (H)) (cur := (entV J T Z32 Z32 0 (.slice none 0 0) 0)) (T := 28)); exact Try.underlying29; kernel_rfl; rfl; rfl; exact s2.x; (rw [nums_length]; exact hHl); (show 32 = min _ _; omega); exact (HSRC.out _ s2.B); (rw [entV_len _ _ _ _ _ _ _ (by assumption) (by assumption)]; decide); exact nums_one _ _; intro w3 hd hw; rw [entV_h _ _ _ _ _ _ _ _ (by assumption) (by assumption)] at hd; have s3 := s2.wrote hw hd))
          clear s2
          refine wp_region_C (Same [] w3) [4] (by kernel_rfl) (by kernel_rfl) (by intro c a w h; first | (obtain ⟨_, h, _⟩ := h; cases h; done) | (obtain ⟨_, _, h, _⟩ := h; cases h; done) | (obtain ⟨_, _, _, h, _⟩ := h; cases h; done) | (obtain ⟨_, _, _, _, h, _⟩ := h; cases h; done) | (rcases h with ⟨_, ⟨_, _, _, _, h, _⟩ | ⟨_, _, _, _, h, _⟩⟩ <;> cases h; done)) (by intro a w h; first | (obtain ⟨h, _⟩ := h; cases h; done) | (obtain ⟨_, h, _⟩ := h; cases h; done) | (obtain ⟨_, _, h, _⟩ := h; cases h; done) | (obtain ⟨_, _, _, h, _⟩ := h; cases h; done) | (rcases h with ⟨_, _, _, _, h, _⟩ | ⟨_, _, _, _, h, _⟩ <;> cases h; done)) (Same.refl _ _) ?_
          repeat (refine wd_w (v := ?_) rfl rfl rfl rfl rfl rfl (fun w' hw' K hK => ?_) ?_; rotate_left; (skip; go_wp2_with ((first | ((with_reducible apply st_allArr); exact Try.underlying23; kernel_rfl; rfl) | ((with_reducible apply st_fromLt (i := 32)); exact Try.underlying29; kernel_rfl; rfl; rfl; rfl; omega; omega))); exact rfl); simp only [Act.put, List.setIfInBounds_toArray, List.set_cons_zero, List.set_cons_succ])
          refine wd_l rfl rfl (by intro a w h; first | (obtain ⟨h, _⟩ := h; cases h; done) | (obtain ⟨_, h, _⟩ := h; cases h; done) | (obtain ⟨_, _, h, _⟩ := h; cases h; done) | (obtain ⟨_, _, _, h, _⟩ := h; cases h; done) | (rcases h with ⟨_, _, _, _, h, _⟩ | ⟨_, _, _, _, h, _⟩ <;> cases h; done)) ?_
          have s3d := s3.drew
          clear s3
          go_wp2_with ((with_reducible apply st_copyW (m := 32) (cs := nums .u8 (S)) (cur := (entV J T H Z32 0 (.slice none 0 0) 0)) (T := 28)); exact Try.underlying29; kernel_rfl; rfl; rfl; exact s3d.x; (rw [nums_length]; exact hSl); (show 32 = min _ _; omega); exact (HSRC2.out _ s3d.B); (rw [entV_len _ _ _ _ _ _ _ (by assumption) (by assumption)]; decide); exact nums_one _ _; intro w4 hd hw; rw [entV_s _ _ _ _ _ _ _ _ (by assumption) (by assumption) (by assumption)] at hd; have s4 := s3d.wrote hw hd)
          refine ⟨.inr (fun g hg => by simp at hg), ?_⟩
          refine wd_nil ?_
          clear s3d
          have c64 := HC64.out _ s4.B
          have cb66 : (w4).cell? ⟨w.heap.size + 1, 66, none⟩ = some (.int .i64 0) := (s4.x.cell _).trans (entV_at _ _ _ _ _ _ _ (by assumption) (by assumption) 0)
          have fb66 : (w4).frozen? ⟨w.heap.size + 1, 66, none⟩ = false := s4.x.frozen 66
          have s5 : St w (entV J T H S K (.slice none 0 0) 0) _ := entV_kind J T H S 0 K (.slice none 0 0) 0 hHl hSl ▸ s4.set 66 (.int .i64 K)
          clear s4
          go_wp2_with ((with_reducible apply st_fromE (A2 := A3) (i := 65)); exact Try.underlying29; kernel_rfl; rfl; rfl; rfl; omega; exact HA3.out)
          go_at_call 32
          refine (HN3.out _ (HBY3.out.up s5.B)).mono ?_
          rintro r w6 ⟨rfl, hb6⟩
          have s5 := s5.up hb6
          clear hb6 cb66 fb66 c64
          have cb68 : (w6).cell? ⟨w.heap.size + 1, 68, none⟩ = some (.int .i64 0) := (s5.x.cell _).trans (entV_at _ _ _ _ _ _ _ (by assumption) (by assumption) 2)
          have fb68 : (w6).frozen? ⟨w.heap.size + 1, 68, none⟩ = false := s5.x.frozen 68
          have s6 : St w (entV J T H S K (.slice none 0 0) 0) _ := entV_tries J T H S K (.slice none 0 0) 0 0 hHl hSl ▸ s5.set 68 (.int .i64 0)
          clear s5
          go_wp2_with fail
          go_at_call 32
          refine (numbernil_B _ 64 _ rfl).mono ?_
          rintro r w7 ⟨rfl, hb7⟩
          have s7 := s6.up hb7
          clear hb7 s6
          obtain ⟨CS, hCS⟩ : ∃ CS, CS = (entV J T H S K (.slice none 0 0) 0) := ⟨_, rfl⟩
          have hlen : CS.length = 69 := by rw [hCS]; exact entV_len _ _ _ _ _ _ _ (by assumption) (by assumption)
          have hone : ∀ v ∈ CS, v.oneCell' = true := by rw [hCS]; exact entV_one _ _ _ _ _ _ _ rfl
          rw [← hCS] at s7
          have HLEN := Lib.hid hlen
          have HONE := Lib.hid hone
          clear hCS hlen hone
          try clear z32
          go_wp2_with (first | ((with_reducible apply st_load (n := 69) (cs := CS) (T := 28)); rfl; exact s7.x; exact Try.underlying28; rfl; exact entSize; (rw [HLEN.out]; decide); exact row_all _ _ HLEN.out) | ((with_reducible apply st_storeW (off := 0) (vs := CS) (cs := entZ) (T := 28)); rfl; rfl; exact s7.r; (rw [HLEN.out]; exact entSize); (rw [HLEN.out, entZ_len]; decide); exact HONE.out; intro w99 hd99 hw99; rw [laid_all _ _ (by rw [HLEN.out, entZ_len])] at hd99))
          refine bodyPost_ret (ret_row_tmp rfl _ _ _ CS 28 _ rfl hd99 Try.underlying28 rfl (by rw [HLEN.out]; exact entSize)) rfl (.inr ⟨CS, HNO.out, HLEN.out, HONE.out, rfl, Wrote.below s7.B hw99 (Nat.le_refl _)⟩)

        | some p =>
          obtain ⟨R, b3⟩ := p
          obtain ⟨A4, c4, hby4, hl4, hr, HN3⟩ := num_cut hby3 (by omega) 1073741824 1073741824 rfl (by decide) hn3
          have HBY4 := Lib.hid hby4
          have h3 := HN3.out
          rw [hdl] at h3 hl4
          clear HN3
          have HN3 := Lib.hid h3
          clear h3
          cases hn4 : numR b3 64 with
          | none =>
            have hno : readR b = none := by unfold readR; rw [hn1]; dsimp only; rw [hn2]; dsimp only; rw [if_neg h65, hn3]; dsimp only; rw [hn4]
            have HNO := Lib.hid hno
            have h4 := fun W h => number_noneB W A4 c4 b3 h (by omega) 64 64 rfl hn4
            have HN4 := Lib.hid h4
            clear hno h4 hn4 hby4 hn1 hn2 hn3 hby hby1 hby2 hby3 hg hsrc hsrc2 hc64 hA3 hH hS hK hdl
            go_enter Try.func24, Try.ntmps24
            go_wp2_with (with_reducible apply st_allocE)
            go_at_call 32
            refine (HN1.out _ (HBY.out.up (St.start w).B)).mono ?_
            rintro r w1 ⟨rfl, hb1⟩
            have s0 := (St.start w).up hb1
            clear hb1
            have cb0 : (w1).cell? ⟨w.heap.size + 1, 0, none⟩ = some (.int .i64 0) := s0.x.cell 0
            have fb0 : (w1).frozen? ⟨w.heap.size + 1, 0, none⟩ = false := s0.x.frozen 0
            go_wp2_with fail
            have s1 : St w (entV J 0 Z32 Z32 0 (.slice none 0 0) 0) _ := s0.set 0 (.int .i64 J)
            clear s0 cb0 fb0
            go_at_call 32
            refine (HN2.out _ (HBY1.out.up s1.B)).mono ?_
            rintro r w2 ⟨rfl, hb2⟩
            have s1 := s1.up hb2
            clear hb2
            have cb1 : (w2).cell? ⟨w.heap.size + 1, 1, none⟩ = some (.int .i64 0) := s1.x.cell 1
            have fb1 : (w2).frozen? ⟨w.heap.size + 1, 1, none⟩ = false := s1.x.frozen 1
            have s2 : St w (entV J T Z32 Z32 0 (.slice none 0 0) 0) _ := s1.set 1 (.int .i64 T)
            clear s1
            go_wp2_with (first | ((with_reducible apply st_allArr); exact Try.underlying23; kernel_rfl; rfl) | ((with_reducible apply st_copyW (m := 32) (cs := nums .u8 (H)) (cur := (entV J T Z32 Z32 0 (.slice none 0 0) 0)) (T := 28)); exact Try.underlying29; kernel_rfl; rfl; rfl; exact s2.x; (rw [nums_length]; exact hHl); (show 32 = min _ _; omega); exact (HSRC.out _ s2.B); (rw [entV_len _ _ _ _ _ _ _ (by assumption) (by assumption)]; decide); exact nums_one _ _; intro w3 hd hw; rw [entV_h _ _ _ _ _ _ _ _ (by assumption) (by assumption)] at hd; have s3 := s2.wrote hw hd))
            clear s2
            refine wp_region_C (Same [] w3) [4] (by kernel_rfl) (by kernel_rfl) (by intro c a w h; first | (obtain ⟨_, h, _⟩ := h; cases h; done) | (obtain ⟨_, _, h, _⟩ := h; cases h; done) | (obtain ⟨_, _, _, h, _⟩ := h; cases h; done) | (obtain ⟨_, _, _, _, h, _⟩ := h; cases h; done) | (rcases h with ⟨_, ⟨_, _, _, _, h, _⟩ | ⟨_, _, _, _, h, _⟩⟩ <;> cases h; done)) (by intro a w h; first | (obtain ⟨h, _⟩ := h; cases h; done) | (obtain ⟨_, h, _⟩ := h; cases h; done) | (obtain ⟨_, _, h, _⟩ := h; cases h; done) | (obtain ⟨_, _, _, h, _⟩ := h; cases h; done) | (rcases h with ⟨_, _, _, _, h, _⟩ | ⟨_, _, _, _, h, _⟩ <;> cases h; done)) (Same.refl _ _) ?_
            repeat (refine wd_w (v := ?_) rfl rfl rfl rfl rfl rfl (fun w' hw' K hK => ?_) ?_; rotate_left; (skip; go_wp2_with ((first | ((with_reducible apply st_allArr); exact Try.underlying23; kernel_rfl; rfl) | ((with_reducible apply st_fromLt (i := 32)); exact Try.underlying29; kernel_rfl; rfl; rfl; rfl; omega; omega))); exact rfl); simp only [Act.put, List.setIfInBounds_toArray, List.set_cons_zero, List.set_cons_succ])
            refine wd_l rfl rfl (by intro a w h; first | (obtain ⟨h, _⟩ := h; cases h; done) | (obtain ⟨_, h, _⟩ := h; cases h; done) | (obtain ⟨_, _, h, _⟩ := h; cases h; done) | (obtain ⟨_, _, _, h, _⟩ := h; cases h; done) | (rcases h with ⟨_, _, _, _, h, _⟩ | ⟨_, _, _, _, h, _⟩ <;> cases h; done)) ?_
            have s3d := s3.drew
            clear s3
            go_wp2_with ((with_reducible apply st_copyW (m := 32) (cs := nums .u8 (S)) (cur := (entV J T H Z32 0 (.slice none 0 0) 0)) (T := 28)); exact Try.underlying29; kernel_rfl; rfl; rfl; exact s3d.x; (rw [nums_length]; exact hSl); (show 32 = min _ _; omega); exact (HSRC2.out _ s3d.B); (rw [entV_len _ _ _ _ _ _ _ (by assumption) (by assumption)]; decide); exact nums_one _ _; intro w4 hd hw; rw [entV_s _ _ _ _ _ _ _ _ (by assumption) (by assumption) (by assumption)] at hd; have s4 := s3d.wrote hw hd)
            refine ⟨.inr (fun g hg => by simp at hg), ?_⟩
            refine wd_nil ?_
            clear s3d
            have c64 := HC64.out _ s4.B
            have cb66 : (w4).cell? ⟨w.heap.size + 1, 66, none⟩ = some (.int .i64 0) := (s4.x.cell _).trans (entV_at _ _ _ _ _ _ _ (by assumption) (by assumption) 0)
            have fb66 : (w4).frozen? ⟨w.heap.size + 1, 66, none⟩ = false := s4.x.frozen 66
            have s5 : St w (entV J T H S K (.slice none 0 0) 0) _ := entV_kind J T H S 0 K (.slice none 0 0) 0 hHl hSl ▸ s4.set 66 (.int .i64 K)
            clear s4
            go_wp2_with ((with_reducible apply st_fromE (A2 := A3) (i := 65)); exact Try.underlying29; kernel_rfl; rfl; rfl; rfl; omega; exact HA3.out)
            go_at_call 32
            refine (HN3.out _ (HBY3.out.up s5.B)).mono ?_
            rintro r w6 ⟨rfl, hb6⟩
            have s5 := s5.up hb6
            clear hb6 cb66 fb66 c64
            have cb68 : (w6).cell? ⟨w.heap.size + 1, 68, none⟩ = some (.int .i64 0) := (s5.x.cell _).trans (entV_at _ _ _ _ _ _ _ (by assumption) (by assumption) 2)
            have fb68 : (w6).frozen? ⟨w.heap.size + 1, 68, none⟩ = false := s5.x.frozen 68
            have s6 : St w (entV J T H S K (.slice none 0 0) R) _ := entV_tries J T H S K (.slice none 0 0) 0 R hHl hSl ▸ s5.set 68 (.int .i64 R)
            clear s5
            go_wp2_with fail
            go_at_call 32
            refine (HN4.out _ (HBY4.out.up s6.B)).mono ?_
            rintro r w7 ⟨rfl, hb7⟩
            have s7 := s6.up hb7
            clear hb7 s6
            obtain ⟨CS, hCS⟩ : ∃ CS, CS = (entV J T H S K (.slice none 0 0) R) := ⟨_, rfl⟩
            have hlen : CS.length = 69 := by rw [hCS]; exact entV_len _ _ _ _ _ _ _ (by assumption) (by assumption)
            have hone : ∀ v ∈ CS, v.oneCell' = true := by rw [hCS]; exact entV_one _ _ _ _ _ _ _ rfl
            rw [← hCS] at s7
            have HLEN := Lib.hid hlen
            have HONE := Lib.hid hone
            clear hCS hlen hone
            try clear z32
            go_wp2_with (first | ((with_reducible apply st_load (n := 69) (cs := CS) (T := 28)); rfl; exact s7.x; exact Try.underlying28; rfl; exact entSize; (rw [HLEN.out]; decide); exact row_all _ _ HLEN.out) | ((with_reducible apply st_storeW (off := 0) (vs := CS) (cs := entZ) (T := 28)); rfl; rfl; exact s7.r; (rw [HLEN.out]; exact entSize); (rw [HLEN.out, entZ_len]; decide); exact HONE.out; intro w99 hd99 hw99; rw [laid_all _ _ (by rw [HLEN.out, entZ_len])] at hd99))
            refine bodyPost_ret (ret_row_tmp rfl _ _ _ CS 28 _ rfl hd99 Try.underlying28 rfl (by rw [HLEN.out]; exact entSize)) rfl (.inr ⟨CS, HNO.out, HLEN.out, HONE.out, rfl, Wrote.below s7.B hw99 (Nat.le_refl _)⟩)

          | some p =>
            obtain ⟨n, b4⟩ := p
            obtain ⟨A5, c5, hby5, hl5, hn, HN4⟩ := num_cut hby4 (by omega) 64 64 rfl (by decide) hn4
            by_cases hbn : b4.length = n
            · have hyes : readR b = some ⟨J, T, H, S, K, b4, R⟩ := by
                unfold readR; rw [hn1]; dsimp only; rw [hn2]; dsimp only; rw [if_neg h65, hn3]; dsimp only; rw [hn4]; dsimp only; rw [if_pos hbn, hH, hS, hK]; rfl
              have HYES := Lib.hid hyes
              subst hbn
              have HBY5 := Lib.hid hby5
              clear hyes hn4 hby4 hby5 hn1 hn2 hn3 hby hby1 hby2 hby3 hg hsrc hsrc2 hc64 hA3 hH hS hK hdl
              go_enter Try.func24, Try.ntmps24
              go_wp2_with (with_reducible apply st_allocE)
              go_at_call 32
              refine (HN1.out _ (HBY.out.up (St.start w).B)).mono ?_
              rintro r w1 ⟨rfl, hb1⟩
              have s0 := (St.start w).up hb1
              clear hb1
              have cb0 : (w1).cell? ⟨w.heap.size + 1, 0, none⟩ = some (.int .i64 0) := s0.x.cell 0
              have fb0 : (w1).frozen? ⟨w.heap.size + 1, 0, none⟩ = false := s0.x.frozen 0
              go_wp2_with fail
              have s1 : St w (entV J 0 Z32 Z32 0 (.slice none 0 0) 0) _ := s0.set 0 (.int .i64 J)
              clear s0 cb0 fb0
              go_at_call 32
              refine (HN2.out _ (HBY1.out.up s1.B)).mono ?_
              rintro r w2 ⟨rfl, hb2⟩
              have s1 := s1.up hb2
              clear hb2
              have cb1 : (w2).cell? ⟨w.heap.size + 1, 1, none⟩ = some (.int .i64 0) := s1.x.cell 1
              have fb1 : (w2).frozen? ⟨w.heap.size + 1, 1, none⟩ = false := s1.x.frozen 1
              have s2 : St w (entV J T Z32 Z32 0 (.slice none 0 0) 0) _ := s1.set 1 (.int .i64 T)
              clear s1
              go_wp2_with (first | ((with_reducible apply st_allArr); exact Try.underlying23; kernel_rfl; rfl) | ((with_reducible apply st_copyW (m := 32) (cs := nums .u8 (H)) (cur := (entV J T Z32 Z32 0 (.slice none 0 0) 0)) (T := 28)); exact Try.underlying29; kernel_rfl; rfl; rfl; exact s2.x; (rw [nums_length]; exact hHl); (show 32 = min _ _; omega); exact (HSRC.out _ s2.B); (rw [entV_len _ _ _ _ _ _ _ (by assumption) (by assumption)]; decide); exact nums_one _ _; intro w3 hd hw; rw [entV_h _ _ _ _ _ _ _ _ (by assumption) (by assumption)] at hd; have s3 := s2.wrote hw hd))
              clear s2
              refine wp_region_C (Same [] w3) [4] (by kernel_rfl) (by kernel_rfl) (by intro c a w h; first | (obtain ⟨_, h, _⟩ := h; cases h; done) | (obtain ⟨_, _, h, _⟩ := h; cases h; done) | (obtain ⟨_, _, _, h, _⟩ := h; cases h; done) | (obtain ⟨_, _, _, _, h, _⟩ := h; cases h; done) | (rcases h with ⟨_, ⟨_, _, _, _, h, _⟩ | ⟨_, _, _, _, h, _⟩⟩ <;> cases h; done)) (by intro a w h; first | (obtain ⟨h, _⟩ := h; cases h; done) | (obtain ⟨_, h, _⟩ := h; cases h; done) | (obtain ⟨_, _, h, _⟩ := h; cases h; done) | (obtain ⟨_, _, _, h, _⟩ := h; cases h; done) | (rcases h with ⟨_, _, _, _, h, _⟩ | ⟨_, _, _, _, h, _⟩ <;> cases h; done)) (Same.refl _ _) ?_
              repeat (refine wd_w (v := ?_) rfl rfl rfl rfl rfl rfl (fun w' hw' K hK => ?_) ?_; rotate_left; (skip; go_wp2_with ((first | ((with_reducible apply st_allArr); exact Try.underlying23; kernel_rfl; rfl) | ((with_reducible apply st_fromLt (i := 32)); exact Try.underlying29; kernel_rfl; rfl; rfl; rfl; omega; omega))); exact rfl); simp only [Act.put, List.setIfInBounds_toArray, List.set_cons_zero, List.set_cons_succ])
              refine wd_l rfl rfl (by intro a w h; first | (obtain ⟨h, _⟩ := h; cases h; done) | (obtain ⟨_, h, _⟩ := h; cases h; done) | (obtain ⟨_, _, h, _⟩ := h; cases h; done) | (obtain ⟨_, _, _, h, _⟩ := h; cases h; done) | (rcases h with ⟨_, _, _, _, h, _⟩ | ⟨_, _, _, _, h, _⟩ <;> cases h; done)) ?_
              have s3d := s3.drew
              clear s3
              go_wp2_with ((with_reducible apply st_copyW (m := 32) (cs := nums .u8 (S)) (cur := (entV J T H Z32 0 (.slice none 0 0) 0)) (T := 28)); exact Try.underlying29; kernel_rfl; rfl; rfl; exact s3d.x; (rw [nums_length]; exact hSl); (show 32 = min _ _; omega); exact (HSRC2.out _ s3d.B); (rw [entV_len _ _ _ _ _ _ _ (by assumption) (by assumption)]; decide); exact nums_one _ _; intro w4 hd hw; rw [entV_s _ _ _ _ _ _ _ _ (by assumption) (by assumption) (by assumption)] at hd; have s4 := s3d.wrote hw hd)
              refine ⟨.inr (fun g hg => by simp at hg), ?_⟩
              refine wd_nil ?_
              clear s3d
              have c64 := HC64.out _ s4.B
              have cb66 : (w4).cell? ⟨w.heap.size + 1, 66, none⟩ = some (.int .i64 0) := (s4.x.cell _).trans (entV_at _ _ _ _ _ _ _ (by assumption) (by assumption) 0)
              have fb66 : (w4).frozen? ⟨w.heap.size + 1, 66, none⟩ = false := s4.x.frozen 66
              have s5 : St w (entV J T H S K (.slice none 0 0) 0) _ := entV_kind J T H S 0 K (.slice none 0 0) 0 hHl hSl ▸ s4.set 66 (.int .i64 K)
              clear s4
              go_wp2_with ((with_reducible apply st_fromE (A2 := A3) (i := 65)); exact Try.underlying29; kernel_rfl; rfl; rfl; rfl; omega; exact HA3.out)
              go_at_call 32
              refine (HN3.out _ (HBY3.out.up s5.B)).mono ?_
              rintro r w6 ⟨rfl, hb6⟩
              have s5 := s5.up hb6
              clear hb6 cb66 fb66 c64
              have cb68 : (w6).cell? ⟨w.heap.size + 1, 68, none⟩ = some (.int .i64 0) := (s5.x.cell _).trans (entV_at _ _ _ _ _ _ _ (by assumption) (by assumption) 2)
              have fb68 : (w6).frozen? ⟨w.heap.size + 1, 68, none⟩ = false := s5.x.frozen 68
              have s6 : St w (entV J T H S K (.slice none 0 0) R) _ := entV_tries J T H S K (.slice none 0 0) 0 R hHl hSl ▸ s5.set 68 (.int .i64 R)
              clear s5
              go_wp2_with fail
              go_at_call 32
              refine (HN4.out _ (HBY4.out.up s6.B)).mono ?_
              rintro r w7 ⟨rfl, hb7⟩
              have s7 := s6.up hb7
              clear hb7 s6
              go_wp2_with fail
              have o7 := OwnC.nil w7 (w.heap.size + 2) 3
              go_loopw [81] (fun i wr => ∃ (k : Nat) (v : Value), i = .int .i64 k ∧ k ≤ b4.length ∧ St w (entV J T H S K v R) wr ∧ OwnC wr (w.heap.size + 2) 3 v (nums .i64 (b4.take k))) (fun i _ => b4.length - (intOf i).toNat)
              case atStart => exact ⟨0, _, rfl, by omega, s7, by rw [List.take_zero]; exact o7⟩
              case round =>
                clear s7 o7
                obtain ⟨k, v, rfl, hk, hs, ho⟩ := hrel
                by_cases hlt : k < b4.length
                · obtain ⟨g4, o4, rfl, hg4⟩ := HBY5.out.rd.get (by rw [nums_length]; omega)
                  have c1 := hg4 k _ (nums_at .u8 b4 k hlt)
                  have hg4l : g4 < w.heap.size := World.block_lt_of_cell? (h := c1)
                  have cx := (hs.B.cell (p := ⟨g4, o4 + k, none⟩) hg4l).trans c1
                  have hu := HBY5.out.u k
                  have htk := take_at b4 k hlt
                  rw [← ga_eq] at cx htk
                  obtain ⟨x, hx⟩ : ∃ x, x = ga b4 k := ⟨_, rfl⟩
                  rw [← hx] at cx htk hu
                  have cv : wr.cell? ⟨w.heap.size + 1, 67, none⟩ = some v := (hs.x.cell _).trans (entV_at _ _ _ _ _ _ _ hHl hSl 1)
                  have hz := hs.x.lt
                  have HTK := Lib.hid htk
                  clear hg4 c1 hx htk
                  go_wp2_with ((with_reducible apply st_appendI (base := w.heap.size + 2) (l := b4.take k)); rfl; rfl; exact OwnC.kept ho ((Below.refl _ _).alloc (Nat.le_refl _) _); (exact (Blk.new' wr _ [.int .i64 x] 3 _ rfl rfl).cell 0); (rw [List.length_take]; omega); (simp; omega); intro v2 w2 ho2 hb2; have hs2 : St w (entV J T H S K v R) w2 := St.below ⟨hs.r.alloc _, hs.x.alloc _, hs.B.alloc hs.B.size _⟩ hb2 (Nat.le_refl _); have cv2 : w2.cell? ⟨w.heap.size + 1, 67, none⟩ = some v := (hs2.x.cell _).trans (entV_at _ _ _ _ _ _ _ hHl hSl 1); have fv2 := hs2.x.frozen 67; obtain ⟨A7, c7, hv7, _⟩ := OwnC.from ho2; subst hv7)
                  go_roundw
                  case rel => exact ⟨k + 1, _, by go_num, by omega, entV_ord J T H S K v _ R hHl hSl ▸ hs2.set 67 _, by rw [HTK.out]; exact OwnC.farSet ho2 (by simp) _⟩
                  case measure => simp [intOf]; omega
                · have e9 : b4.take k = b4 := List.take_of_length_le (by omega)
                  rw [e9] at ho
                  obtain ⟨A6, c6, hv, _⟩ := OwnC.from ho
                  rw [nums_length] at hv
                  subst hv
                  clear e9
                  obtain ⟨CS, hCS⟩ : ∃ CS, CS = (entV J T H S K (.slice A6 b4.length c6) R) := ⟨_, rfl⟩
                  have hlen : CS.length = 69 := by rw [hCS]; exact entV_len _ _ _ _ _ _ _ (by assumption) (by assumption)
                  have hone : ∀ v ∈ CS, v.oneCell' = true := by rw [hCS]; exact entV_one _ _ _ _ _ _ _ rfl
                  rw [← hCS] at hs
                  have HLEN := Lib.hid hlen
                  have HONE := Lib.hid hone

                  have HCS := Lib.hid hCS
                  clear hCS hlen hone
                  go_wp2_with (first | ((with_reducible apply st_load (n := 69) (cs := CS) (T := 28)); rfl; exact hs.x; exact Try.underlying28; rfl; exact entSize; (rw [HLEN.out]; decide); exact row_all _ _ HLEN.out) | ((with_reducible apply st_storeW (off := 0) (vs := CS) (cs := entZ) (T := 28)); rfl; rfl; exact hs.r; (rw [HLEN.out]; exact entSize); (rw [HLEN.out, entZ_len]; decide); exact HONE.out; intro w99 hd99 hw99; rw [laid_all _ _ (by rw [HLEN.out, entZ_len])] at hd99))
                  refine bodyPost_ret (ret_row_tmp rfl _ _ _ CS 28 _ rfl hd99 Try.underlying28 rfl (by rw [HLEN.out]; exact entSize)) rfl (.inl ⟨⟨J, T, H, S, K, b4, R⟩, A6, c6, HYES.out, by rw [HCS.out]; rfl, Wrote.below hs.B hw99 (Nat.le_refl _), OwnC.mono (OwnC.farWrote ho hw99 (by omega)) (by omega)⟩)

            · have hno : readR b = none := by
                unfold readR; rw [hn1]; dsimp only; rw [hn2]; dsimp only; rw [if_neg h65, hn3]; dsimp only; rw [hn4]; dsimp only; rw [if_neg hbn]
              have HNO := Lib.hid hno
              have hne : ((b4.length : Int) != (n : Int)) = true := by simp; omega
              clear hno hn4 hby4 hby5 hbn hn1 hn2 hn3 hby hby1 hby2 hby3 hg hsrc hsrc2 hc64 hA3 hH hS hK hdl
              go_enter Try.func24, Try.ntmps24
              go_wp2_with (with_reducible apply st_allocE)
              go_at_call 32
              refine (HN1.out _ (HBY.out.up (St.start w).B)).mono ?_
              rintro r w1 ⟨rfl, hb1⟩
              have s0 := (St.start w).up hb1
              clear hb1
              have cb0 : (w1).cell? ⟨w.heap.size + 1, 0, none⟩ = some (.int .i64 0) := s0.x.cell 0
              have fb0 : (w1).frozen? ⟨w.heap.size + 1, 0, none⟩ = false := s0.x.frozen 0
              go_wp2_with fail
              have s1 : St w (entV J 0 Z32 Z32 0 (.slice none 0 0) 0) _ := s0.set 0 (.int .i64 J)
              clear s0 cb0 fb0
              go_at_call 32
              refine (HN2.out _ (HBY1.out.up s1.B)).mono ?_
              rintro r w2 ⟨rfl, hb2⟩
              have s1 := s1.up hb2
              clear hb2
              have cb1 : (w2).cell? ⟨w.heap.size + 1, 1, none⟩ = some (.int .i64 0) := s1.x.cell 1
              have fb1 : (w2).frozen? ⟨w.heap.size + 1, 1, none⟩ = false := s1.x.frozen 1
              have s2 : St w (entV J T Z32 Z32 0 (.slice none 0 0) 0) _ := s1.set 1 (.int .i64 T)
              clear s1
              go_wp2_with (first | ((with_reducible apply st_allArr); exact Try.underlying23; kernel_rfl; rfl) | ((with_reducible apply st_copyW (m := 32) (cs := nums .u8 (H)) (cur := (entV J T Z32 Z32 0 (.slice none 0 0) 0)) (T := 28)); exact Try.underlying29; kernel_rfl; rfl; rfl; exact s2.x; (rw [nums_length]; exact hHl); (show 32 = min _ _; omega); exact (HSRC.out _ s2.B); (rw [entV_len _ _ _ _ _ _ _ (by assumption) (by assumption)]; decide); exact nums_one _ _; intro w3 hd hw; rw [entV_h _ _ _ _ _ _ _ _ (by assumption) (by assumption)] at hd; have s3 := s2.wrote hw hd))
              clear s2
              refine wp_region_C (Same [] w3) [4] (by kernel_rfl) (by kernel_rfl) (by intro c a w h; first | (obtain ⟨_, h, _⟩ := h; cases h; done) | (obtain ⟨_, _, h, _⟩ := h; cases h; done) | (obtain ⟨_, _, _, h, _⟩ := h; cases h; done) | (obtain ⟨_, _, _, _, h, _⟩ := h; cases h; done) | (rcases h with ⟨_, ⟨_, _, _, _, h, _⟩ | ⟨_, _, _, _, h, _⟩⟩ <;> cases h; done)) (by intro a w h; first | (obtain ⟨h, _⟩ := h; cases h; done) | (obtain ⟨_, h, _⟩ := h; cases h; done) | (obtain ⟨_, _, h, _⟩ := h; cases h; done) | (obtain ⟨_, _, _, h, _⟩ := h; cases h; done) | (rcases h with ⟨_, _, _, _, h, _⟩ | ⟨_, _, _, _, h, _⟩ <;> cases h; done)) (Same.refl _ _) ?_
              repeat (refine wd_w (v := ?_) rfl rfl rfl rfl rfl rfl (fun w' hw' K hK => ?_) ?_; rotate_left; (skip; go_wp2_with ((first | ((with_reducible apply st_allArr); exact Try.underlying23; kernel_rfl; rfl) | ((with_reducible apply st_fromLt (i := 32)); exact Try.underlying29; kernel_rfl; rfl; rfl; rfl; omega; omega))); exact rfl); simp only [Act.put, List.setIfInBounds_toArray, List.set_cons_zero, List.set_cons_succ])
              refine wd_l rfl rfl (by intro a w h; first | (obtain ⟨h, _⟩ := h; cases h; done) | (obtain ⟨_, h, _⟩ := h; cases h; done) | (obtain ⟨_, _, h, _⟩ := h; cases h; done) | (obtain ⟨_, _, _, h, _⟩ := h; cases h; done) | (rcases h with ⟨_, _, _, _, h, _⟩ | ⟨_, _, _, _, h, _⟩ <;> cases h; done)) ?_
              have s3d := s3.drew
              clear s3
              go_wp2_with ((with_reducible apply st_copyW (m := 32) (cs := nums .u8 (S)) (cur := (entV J T H Z32 0 (.slice none 0 0) 0)) (T := 28)); exact Try.underlying29; kernel_rfl; rfl; rfl; exact s3d.x; (rw [nums_length]; exact hSl); (show 32 = min _ _; omega); exact (HSRC2.out _ s3d.B); (rw [entV_len _ _ _ _ _ _ _ (by assumption) (by assumption)]; decide); exact nums_one _ _; intro w4 hd hw; rw [entV_s _ _ _ _ _ _ _ _ (by assumption) (by assumption) (by assumption)] at hd; have s4 := s3d.wrote hw hd)
              refine ⟨.inr (fun g hg => by simp at hg), ?_⟩
              refine wd_nil ?_
              clear s3d
              have c64 := HC64.out _ s4.B
              have cb66 : (w4).cell? ⟨w.heap.size + 1, 66, none⟩ = some (.int .i64 0) := (s4.x.cell _).trans (entV_at _ _ _ _ _ _ _ (by assumption) (by assumption) 0)
              have fb66 : (w4).frozen? ⟨w.heap.size + 1, 66, none⟩ = false := s4.x.frozen 66
              have s5 : St w (entV J T H S K (.slice none 0 0) 0) _ := entV_kind J T H S 0 K (.slice none 0 0) 0 hHl hSl ▸ s4.set 66 (.int .i64 K)
              clear s4
              go_wp2_with ((with_reducible apply st_fromE (A2 := A3) (i := 65)); exact Try.underlying29; kernel_rfl; rfl; rfl; rfl; omega; exact HA3.out)
              go_at_call 32
              refine (HN3.out _ (HBY3.out.up s5.B)).mono ?_
              rintro r w6 ⟨rfl, hb6⟩
              have s5 := s5.up hb6
              clear hb6 cb66 fb66 c64
              have cb68 : (w6).cell? ⟨w.heap.size + 1, 68, none⟩ = some (.int .i64 0) := (s5.x.cell _).trans (entV_at _ _ _ _ _ _ _ (by assumption) (by assumption) 2)
              have fb68 : (w6).frozen? ⟨w.heap.size + 1, 68, none⟩ = false := s5.x.frozen 68
              have s6 : St w (entV J T H S K (.slice none 0 0) R) _ := entV_tries J T H S K (.slice none 0 0) 0 R hHl hSl ▸ s5.set 68 (.int .i64 R)
              clear s5
              go_wp2_with fail
              go_at_call 32
              refine (HN4.out _ (HBY4.out.up s6.B)).mono ?_
              rintro r w7 ⟨rfl, hb7⟩
              have s7 := s6.up hb7
              clear hb7 s6
              obtain ⟨CS, hCS⟩ : ∃ CS, CS = (entV J T H S K (.slice none 0 0) R) := ⟨_, rfl⟩
              have hlen : CS.length = 69 := by rw [hCS]; exact entV_len _ _ _ _ _ _ _ (by assumption) (by assumption)
              have hone : ∀ v ∈ CS, v.oneCell' = true := by rw [hCS]; exact entV_one _ _ _ _ _ _ _ rfl
              rw [← hCS] at s7
              have HLEN := Lib.hid hlen
              have HONE := Lib.hid hone
              clear hCS hlen hone
              try clear z32
              go_wp2_with (first | ((with_reducible apply st_load (n := 69) (cs := CS) (T := 28)); rfl; exact s7.x; exact Try.underlying28; rfl; exact entSize; (rw [HLEN.out]; decide); exact row_all _ _ HLEN.out) | ((with_reducible apply st_storeW (off := 0) (vs := CS) (cs := entZ) (T := 28)); rfl; rfl; exact s7.r; (rw [HLEN.out]; exact entSize); (rw [HLEN.out, entZ_len]; decide); exact HONE.out; intro w99 hd99 hw99; rw [laid_all _ _ (by rw [HLEN.out, entZ_len])] at hd99))
              refine bodyPost_ret (ret_row_tmp rfl _ _ _ CS 28 _ rfl hd99 Try.underlying28 rfl (by rw [HLEN.out]; exact entSize)) rfl (.inr ⟨CS, HNO.out, HLEN.out, HONE.out, rfl, Wrote.below s7.B hw99 (Nat.le_refl _)⟩)


end Go.Proofs.Ytepicdcmcagipaa
