/- What the reference's Few and Same of layer 7, and Leaves of layer 6, answer over lists of texts. Condition (Leaves'): none. -/
import Derived.Test.YtiogopneklmodaaDoorClL
import Derived.Test.YtiogopneklmodaaDoorGk
import Derived.Test.YtiogopneklmodaaDoorGg
namespace Go.Proofs.YtiogopneklmodaaDoor
open Go.RowKit

theorem sinfo : (Tryd.prog.info? 22).map (fun i => (i.zero, i.size, i.bytes)) = some (some (.slice none 0 0), 1, 24) := by kernel_rfl
theorem Byt.block {w w' : World} {A : Option Addr} {c : Nat} {bs : List Int} (h : Byt w A c bs) (hk : ∀ a, A = some a → w'.heap[a.block]? = w.heap[a.block]?) : Byt w' A c bs :=
  ⟨by
    rcases h.rd with h1 | ⟨g1, off, h1, h2⟩
    · exact .inl h1
    · exact .inr ⟨g1, off, h1, fun j v hv => (World.cell?_of_block (a := ⟨g1, off + j, none⟩) (show w'.heap[g1]? = w.heap[g1]? from hk ⟨g1, off, none⟩ h1)).trans (h2 j v hv)⟩, h.le, h.nn, h.u⟩
/-- A list of texts in memory of the call's own. -/
structure TV (w0 w : World) (L : List (List Int)) (v : Value) : Prop where
  below : Below w0.heap.size w0 w
  rows : ∃ cs, OwnC w w0.heap.size 22 v cs ∧ cs.length = L.length ∧ ∀ j (hj : j < L.length), ∃ B d, cs[j]? = some (.slice B (L[j]).length d) ∧ Byt w B d L[j] ∧ ∀ a, B = some a → v.ownBlock ≠ some a.block ∧ a.block < w.heap.size
theorem TV.nil (w : World) : TV w w [] (.slice none 0 0) := ⟨Below.refl _ _, [], OwnC.nil _ _ _, rfl, fun j hj => by simp at hj⟩
theorem TV.up {w0 w w' : World} {L : List (List Int)} {v : Value} (h : TV w0 w L v) (hb : Below w.heap.size w w') : TV w0 w' L v := by
  obtain ⟨cs, h1, h2, h3⟩ := h.rows
  refine ⟨h.below.trans (hb.mono h.below.size), cs, h1.kept hb, h2, fun j hj => ?_⟩
  obtain ⟨B, d, h4, h5, h6⟩ := h3 j hj
  exact ⟨B, d, h4, h5.up hb, fun a ha => ⟨(h6 a ha).1, Nat.lt_of_lt_of_le (h6 a ha).2 hb.size⟩⟩
theorem TV.txts {w0 w : World} {L : List (List Int)} {v : Value} (h : TV w0 w L v) : ∃ A c, v = .slice A L.length c ∧ Txts w A c L := by
  obtain ⟨cs, h1, h2, h3⟩ := h.rows
  obtain ⟨A, c, rfl, h4, h5, h6, _⟩ := h1.from
  refine ⟨A, c, by rw [h2], ⟨by omega, h5, ?_⟩⟩
  by_cases hL : L = []
  · exact .inl hL
  · have hp : 0 < cs.length := by rw [h2]; exact List.length_pos_iff.2 hL
    obtain ⟨g, off, rfl, h7⟩ := h6.get hp
    refine .inr ⟨g, off, rfl, h6.lt hp _ rfl, fun j hj => ?_⟩
    obtain ⟨B, d, h8, h9, _⟩ := h3 j hj
    exact ⟨B, d, h7 j _ h8, h9⟩
/-- append(x, y) of one text, x the call's own. -/
theorem st_pushT {ops : Array Oper} {rest : List Oper} {a : Act} {w w0 : World} {Q : Exit → Act → World → Prop} {d' : Option Tmp} {tt : TypeId} {s x : Operand} {pos : String} {after : Array Edge} {v : Value} {L : List (List Int)} {b : List Int} {B : Option Addr} {d : Nat} {ad : Addr} {c : Nat}
    (hs : a.eval s = v) (hx : a.eval x = .slice (some ad) 1 c) (ht : TV w0 w L v) (hr : w.cell? ad = some (.slice B b.length d)) (hb : Byt w B d b) (hB : ∀ a, B = some a → v.ownBlock ≠ some a.block ∧ a.block < w.heap.size) (hl : L.length ≤ 1000000)
    (h : ∀ v' w', TV w0 w' (L ++ [b]) v' → wpList Tryd.prog ops Q rest (a.put d' v') w') :
    wpList Tryd.prog ops Q (⟨d', .call ⟨.builtin .append, #[s, x], #[29, 29]⟩, tt, pos, after, none⟩ :: rest) a w := by
  obtain ⟨cs, ho, hcl, hj⟩ := ht.rows
  obtain ⟨i0, hi, hz0, hz1, hz2⟩ := info_parts sinfo
  refine wpList_append_own_at (w := w) rfl s x 29 rfl w0.heap.size 22 i0 (.slice none 0 0) 1 24 Tryd.underlying29 hi hz0 hz1 hz2 rfl (by decide) v cs.length cs hs ho ad 1 c [.slice B b.length d] hx rfl (fun j u hu => ?_) (fun u hu => ?_) (by unfold maxLen; omega) (by omega) ht.below.size ?_
  · cases j with
    | zero => simp only [List.getElem?_cons_zero, Option.some.injEq] at hu; subst hu; simpa [Addr.add] using hr
    | succ j => simp at hu
  · simp at hu; subst hu; rfl
  · intro v' w' ho' hgr _ hat
    refine h v' w' ⟨ht.below.grown hgr ht.below.size (fun k hk => by have := World.ownsRow.lt ho k hk; omega), cs ++ [.slice B b.length d], ?_, by simp [hcl], fun j hj' => ?_⟩
    · unfold OwnC
      rw [List.length_append]
      exact ho'
    · have own : ∀ a : Addr, v.ownBlock ≠ some a.block → a.block < w.heap.size → v'.ownBlock ≠ some a.block ∧ a.block < w'.heap.size := fun a h1 h2 => by
        refine ⟨fun e => ?_, Nat.lt_of_lt_of_le h2 hgr.size⟩
        rcases hat with hat | hat
        · exact h1 (hat.symm.trans e)
        · rw [hat] at e; injection e with e; omega
      by_cases hlt : j < L.length
      · obtain ⟨B', d', h4, h5, h6⟩ := hj j hlt
        have hL : (L ++ [b])[j] = L[j] := List.getElem_append_left hlt
        rw [hL]
        exact ⟨B', d', by rw [List.getElem?_append_left (by omega)]; exact h4, h5.block (fun a ha => hgr.block a.block (h6 a ha).2 (fun e => (h6 a ha).1 e.symm)), fun a ha => own a (h6 a ha).1 (h6 a ha).2⟩
      · have hje : j = L.length := by simp at hj'; omega
        subst hje
        have hL : (L ++ [b])[L.length] = b := by simp
        rw [hL]
        exact ⟨B, d, by rw [List.getElem?_append_right (by omega), hcl]; simp, hb.block (fun a ha => hgr.block a.block (hB a ha).2 (fun e => (hB a ha).1 e.symm)), fun a ha => own a (hB a ha).1 (hB a ha).2⟩

def fewF (l : List (List Int)) (n m : Nat) : List (List Int) := (l.take n).map (·.take m)
theorem fewF_step (l : List (List Int)) (k m : Nat) (h : k < l.length) : fewF l (k + 1) m = fewF l k m ++ [(l[k]).take m] := by
  unfold fewF
  rw [List.take_add_one, List.getElem?_eq_getElem h, List.map_append]; rfl
theorem fewF_len (l : List (List Int)) (n m : Nat) : (fewF l n m).length = min n l.length := by simp [fewF]

def TxtAt (w : World) (A : Option Addr) (l : List (List Int)) : Prop := l = [] ∨ ∃ g o, A = some ⟨g, o, none⟩ ∧ g < w.heap.size ∧ ∀ j (hj : j < l.length), ∃ B d, w.cell? ⟨g, o + j, none⟩ = some (.slice B (l[j]).length d) ∧ Byt w B d l[j]
theorem TxtAt.txts {w : World} {A : Option Addr} {l : List (List Int)} (h : TxtAt w A l) : Txts w A (if A.isNone then 0 else l.length) l := by
  refine ⟨?_, fun h => by simp [h], h⟩
  rcases h with rfl | ⟨g, o, rfl, _⟩
  · simp
  · simp

set_option maxRecDepth 100000 in
set_option maxHeartbeats 4000000 in
theorem few7_any (w : World) (l : List (List Int)) (A : Option Addr) (c : Nat) (hT : TxtAt w A l) (n m : Nat) (hn : n ≤ 1000) (hm : m ≤ 1000) (z y : Int) (hz : z = n) (hy : y = m) :
    Calls Tryd.prog 12 #[.slice A l.length c, .int .i64 z, .int .i64 y] w fun e w' => ∃ v, e = .returned v ∧ TV w w' (fewF l n m) v := by
  subst hz
  subst hy
  have HT := Lib.hid hT.txts
  clear hT
  go_enter Tryd.func12, Tryd.ntmps12
  go_wp2
  go_loopw [7, 8] (fun v i wr => ∃ k : Nat, i = .int .i64 k ∧ k ≤ l.length ∧ k ≤ n ∧ TV w wr (fewF l k m) v) (fun _ i _ => n - (intOf i).toNat)
  case atStart => exact ⟨0, rfl, by omega, by omega, TV.nil w⟩
  case round =>
    obtain ⟨k, rfl, hk, hkn, htv⟩ := hrel
    by_cases h1 : k < l.length
    · by_cases h2 : k < n
      · obtain ⟨g, o, rfl, hg, hc⟩ := HT.out.get (by omega)
        obtain ⟨B, d, hcell, hbyt⟩ := hc k h1
        have hstep := fewF_step l k m h1
        have c1 := (htv.below.cell (p := ⟨g, o + k, none⟩) hg).trans hcell
        obtain ⟨bs, hbl, hbs, hyb, HCUT⟩ := (hbyt.up htv.below).cut m (m : Int) rfl
        rw [← hbs.out] at hstep
        have HY := Lib.hid hyb
        have HST := Lib.hid hstep
        have HLEN := Lib.hid (fewF_len l k m)
        clear hc hcell hbyt hyb hstep hbs
        go_wp2_with fail
        --MARK1
        go_at_call 8
        refine (HCUT.out _).mono ?_
        rintro e wz ⟨rfl, rfl⟩
        go_wp2_with fail
        go_at_call 14
        refine (refcopy_any wr B d bs HY.out.nn HY.out.rd (by omega)).mono ?_
        rintro e w2 ⟨v2, rfl, hb2, ho2⟩
        obtain ⟨B2, d2, rfl, hy2, hn2⟩ := ho2.byt HY.out.u
        have hlt2 : ∀ a, B2 = some a → a.block < w2.heap.size := fun a ha => (World.ownsRow.lt ho2 a.block (by rw [ha]; rfl)).2
        have htv2 := htv.up hb2
        have hvlt : ∀ q, u7.ownBlock = some q → q < wr.heap.size := fun q hq => by obtain ⟨cs, h3, _⟩ := htv.rows; exact (World.ownsRow.lt h3 q hq).2
        have hb3 : Below w2.heap.size w2 (w2.alloc (.cells #[.slice B2 bs.length d2] 22)) := (Below.refl _ _).alloc (Nat.le_refl _) _
        have hq : Blk (w2.alloc (.cells #[.slice B2 bs.length d2] 22)) w2.heap.size [.slice B2 bs.length d2] 22 := Blk.new' _ _ _ _ _ rfl rfl
        have hqc := hq.cell 0
        simp only [List.getElem?_cons_zero] at hqc
        have htv3 := htv2.up hb3
        have hy3 := hy2.up hb3
        have hs3 := hb3.size
        have hs2 := hb2.size
        --MARK2
        go_wp2_with ((with_reducible apply st_pushT (w0 := w) (L := fewF l k m) (b := bs) (B := B2) (d := d2)); rfl; rfl; exact htv3; exact hqc; exact hy3; (exact fun a ha => ⟨fun e => by have h5 := hvlt _ e; have h6 := hn2 a ha; omega, by have := hlt2 a ha; omega⟩); (rw [HLEN.out]; omega); (intro v4 w4 htv4; rw [← HST.out] at htv4))
        --MARK3
        go_roundw
        case rel => exact ⟨k + 1, by go_num, by omega, by omega, htv4⟩
        case measure => simp [intOf]; omega
      · have hkn : k = n := by omega
        subst hkn
        go_wp2
        go_ret
        exact ⟨u7, rfl, htv⟩
    · have hfe : fewF l k m = fewF l n m := by unfold fewF; rw [List.take_of_length_le (by omega), List.take_of_length_le (by omega)]
      rw [hfe] at htv
      go_wp2
      go_ret
      exact ⟨u7, rfl, htv⟩

set_option maxRecDepth 100000 in
set_option maxHeartbeats 4000000 in
theorem same7_any (w : World) (l : List (List Int)) (A B : Option Addr) (c d : Nat) (h1 : Txts w A c l) (h2 : Txts w B d l) (hl : l.length ≤ 1000) (hb : ∀ x ∈ l, x.length ≤ 1000) :
    Calls Tryd.prog 16 #[.slice A l.length c, .slice B l.length d] w fun e w' => e = .returned (.bool true) ∧ Below w.heap.size w w' := by
  have H1 := Lib.hid h1
  have H2 := Lib.hid h2
  have HLB := Lib.hid hb
  clear h1 h2 hb
  go_enter Tryd.func16, Tryd.ntmps16
  go_wp2
  go_loopw [5] (fun i wr => ∃ k : Nat, i = .int .i64 k ∧ k ≤ l.length ∧ Below w.heap.size w wr) (fun i _ => l.length - (intOf i).toNat)
  case atStart => exact ⟨0, rfl, by omega, Below.refl _ _⟩
  case round =>
    obtain ⟨k, rfl, hk, hB⟩ := hrel
    by_cases hlt : k < l.length
    · obtain ⟨g, o, rfl, hg, hc⟩ := H1.out.get (by omega)
      obtain ⟨g', o', rfl, hg', hc'⟩ := H2.out.get (by omega)
      obtain ⟨E, e1, hcell, hbyt⟩ := hc k hlt
      obtain ⟨E', e1', hcell', hbyt'⟩ := hc' k hlt
      have hbl : (l[k]).length ≤ 1000 := HLB.out _ (List.getElem_mem hlt)
      have c1 := (hB.cell (p := ⟨g, o + k, none⟩) hg).trans hcell
      have c2 := (hB.cell (p := ⟨g', o' + k, none⟩) hg').trans hcell'
      obtain ⟨b, hb⟩ : ∃ b, b = l[k] := ⟨_, rfl⟩
      rw [← hb] at c1 c2 hbyt hbyt' hbl
      have HBY := Lib.hid hbyt
      have HBY' := Lib.hid hbyt'
      clear hc hc' hcell hcell' hbyt hbyt' hb
      have hgw := Nat.lt_of_lt_of_le hg hB.size
      have hgw' := Nat.lt_of_lt_of_le hg' hB.size
      go_wp2_with fail
      --MARK4
      refine wp_region_C (Same [g, g'] wr) [8] (by kernel_rfl) (by kernel_rfl) (by intro c a w h; first | (obtain ⟨_, h, _⟩ := h; cases h; done) | (obtain ⟨_, _, h, _⟩ := h; cases h; done) | (obtain ⟨_, _, _, h, _⟩ := h; cases h; done) | (obtain ⟨_, _, _, _, h, _⟩ := h; cases h; done) | (rcases h with ⟨_, ⟨_, _, _, _, h, _⟩ | ⟨_, _, _, _, h, _⟩⟩ <;> cases h; done)) (by intro a w h; first | (obtain ⟨h, _⟩ := h; cases h; done) | (obtain ⟨_, h, _⟩ := h; cases h; done) | (obtain ⟨_, _, h, _⟩ := h; cases h; done) | (obtain ⟨_, _, _, h, _⟩ := h; cases h; done) | (rcases h with ⟨_, _, _, _, h, _⟩ | ⟨_, _, _, _, h, _⟩ <;> cases h; done)) (Same.refl _ _) ?_
      repeat (refine wd_q (v := ?_) rfl rfl rfl rfl rfl rfl (fun w' hw' K hK => ?_) ?_; rotate_left; (have q1 := (hw'.cell g (by simp) _).trans c1; have q2 := (hw'.cell g' (by simp) _).trans c2; go_wp2; exact rfl); simp only [Act.put, List.setIfInBounds_toArray, List.set_cons_zero, List.set_cons_succ])
      have hB := hB.drew
      refine wd_l rfl rfl (by intro a w h; first | (obtain ⟨h, _⟩ := h; cases h; done) | (obtain ⟨_, h, _⟩ := h; cases h; done) | (obtain ⟨_, _, h, _⟩ := h; cases h; done) | (obtain ⟨_, _, _, h, _⟩ := h; cases h; done) | (rcases h with ⟨_, _, _, _, h, _⟩ | ⟨_, _, _, _, h, _⟩ <;> cases h; done)) ?_
      go_wp2_with fail
      go_at_call 17
      have hcall := refsame_any wr.drew E E' e1 e1' b b (HBY.out.up hB).rd (HBY'.out.up hB).rd (by omega)
      rw [show decide (b = b) = true from decide_eq_true rfl] at hcall
      refine hcall.mono ?_
      clear hcall
      rintro e w2 ⟨rfl, hb⟩
      have hB := hB.trans (hb.mono hB.size)
      go_wp2_with fail
      refine ⟨.inr (fun gg hg => (hb.block gg (by simp at hg; have : wr.drew.heap.size = wr.heap.size := rfl; omega))), ?_⟩
      repeat (refine wd_q (v := ?_) rfl rfl rfl rfl rfl rfl (fun w' hw' K hK => ?_) ?_; rotate_left; (skip; go_wp2; exact rfl); simp only [Act.put, List.setIfInBounds_toArray, List.set_cons_zero, List.set_cons_succ])
      refine wd_nil ?_
      go_wp2_with fail
      --MARK5
      go_roundw
      case rel => exact ⟨k + 1, by go_num, by omega, hB⟩
      case measure => simp [intOf]; omega
    · go_wp2
      go_ret
      exact ⟨rfl, hB⟩

end Go.Proofs.YtiogopneklmodaaDoor
