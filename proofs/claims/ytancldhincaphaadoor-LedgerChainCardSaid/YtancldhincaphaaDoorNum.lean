/- Lists of entries in memory; what inquestlaw21.numbered and filled answer. Condition: the table of layer 2 reads as its text lays it (filled). -/
import Derived.Test.YtancldhincaphaaDoorLedL
import Derived.Test.YtancldhincaphaaDoorEntQ
import Derived.Test.YtancldhincaphaaDoorRecs
namespace Go.Proofs.YtancldhincaphaaDoor
open Go.RowKit
set_option maxRecDepth 100000

/-- A list of entries in memory. -/
structure Ents (w : World) (A : Option Addr) (c : Nat) (L : List Ent) : Prop where
  le : L.length ≤ c
  nn : A = none → c = 0
  b : ∀ e ∈ L, EntB e ∧ e.ord.length ≤ 9223372036854775807
  at' : L = [] ∨ ∃ g o, A = some ⟨g, o, none⟩ ∧ g < w.heap.size ∧ ∀ j (hj : j < L.length), ∃ B d, (∀ i v, (entC L[j] B d)[i]? = some v → w.cell? ⟨g, o + j * 69 + i, none⟩ = some v) ∧ Nts w B d (L[j]).ord
theorem Ents.up {w w' : World} {A : Option Addr} {c : Nat} {L : List Ent} (h : Ents w A c L) (hb : Below w.heap.size w w') : Ents w' A c L := by
  refine ⟨h.le, h.nn, h.b, ?_⟩
  rcases h.at' with h | ⟨g, o, h1, h2, h3⟩
  · exact .inl h
  · refine .inr ⟨g, o, h1, Nat.lt_of_lt_of_le h2 hb.size, fun j hj => ?_⟩
    obtain ⟨B, d, h4, h5⟩ := h3 j hj
    exact ⟨B, d, fun i v hv => (hb.cell (p := ⟨g, _, none⟩) h2).trans (h4 i v hv), h5.up hb⟩
theorem Ents.get {w : World} {A : Option Addr} {c : Nat} {L : List Ent} (h : Ents w A c L) (hl : 0 < L.length) : ∃ g o, A = some ⟨g, o, none⟩ ∧ g < w.heap.size ∧ ∀ j (hj : j < L.length), ∃ B d, (∀ i v, (entC L[j] B d)[i]? = some v → w.cell? ⟨g, o + j * 69 + i, none⟩ = some v) ∧ Nts w B d (L[j]).ord := by
  rcases h.at' with rfl | h
  · simp at hl
  · exact h
theorem Nts.ch {X : Nat → Prop} {w w' : World} {A : Option Addr} {c : Nat} {l : List Int} (h : Nts w A c l) (hc : Ch X w w') (hx : ∀ a, A = some a → ¬ X a.block) : Nts w' A c l :=
  ⟨by
    rcases h.rd with h1 | ⟨g1, off, h1, h2⟩
    · exact .inl h1
    · exact .inr ⟨g1, off, h1, fun j v hv => by
        have h3 := h2 j v hv
        have hl := World.block_lt_of_cell? (h := h3)
        exact (World.cell?_of_block (a := ⟨g1, off + j, none⟩) (show w'.heap[g1]? = w.heap[g1]? from hc.block g1 hl (hx ⟨g1, off, none⟩ h1))).trans h3⟩, h.le, h.nn⟩
theorem einfo : (Tryd.prog.info? 39).map (fun i => (i.zero, i.size, i.bytes)) = some (some (.agg entZ.toArray), 69, 120) := by kernel_rfl
/-- A list of entries in memory of the call's own. -/
structure EV (w0 w : World) (L : List Ent) (v : Value) : Prop where
  below : Below w0.heap.size w0 w
  rows : ∃ css, OwnR w w0.heap.size 39 69 v css ∧ css.length = L.length ∧ ∀ j (hj : j < L.length), ∃ B d, css[j]? = some (entC L[j] B d) ∧ Nts w B d (L[j]).ord ∧ ∀ a, B = some a → v.ownBlock ≠ some a.block ∧ a.block < w.heap.size
theorem EV.nil (w : World) : EV w w [] (.slice none 0 0) := ⟨Below.refl _ _, [], OwnR.nil _ _ _ _, rfl, fun j hj => by simp at hj⟩
theorem EV.up {w0 w w' : World} {L : List Ent} {v : Value} (h : EV w0 w L v) (hb : Below w.heap.size w w') : EV w0 w' L v := by
  obtain ⟨css, h1, h2, h3⟩ := h.rows
  refine ⟨h.below.trans (hb.mono h.below.size), css, h1.kept hb, h2, fun j hj => ?_⟩
  obtain ⟨B, d, h4, h5, h6⟩ := h3 j hj
  exact ⟨B, d, h4, h5.up hb, fun a ha => ⟨(h6 a ha).1, Nat.lt_of_lt_of_le (h6 a ha).2 hb.size⟩⟩
theorem EV.slot {w0 w : World} {L : List Ent} {v : Value} (h : EV w0 w L v) : ∃ A c, v = .slice A L.length c ∧ L.length ≤ c ∧ (A = none → c = 0) := by
  obtain ⟨css, h1, h2, _⟩ := h.rows
  obtain ⟨A, c, hv, hc, hn, _⟩ := h1.form
  exact ⟨A, c, by rw [hv, h2], by omega, hn⟩
theorem EV.ents {w0 w : World} {L : List Ent} {A : Option Addr} {n c : Nat} (h : EV w0 w L (.slice A n c)) (hb : ∀ e ∈ L, EntB e ∧ e.ord.length ≤ 9223372036854775807) : Ents w A c L := by
  obtain ⟨css, h1, h2, h3⟩ := h.rows
  obtain ⟨A', c', hv, hc, hn, _⟩ := h1.form
  injection hv with e1 e2 e3
  subst e1; subst e3
  refine ⟨by omega, hn, hb, ?_⟩
  by_cases hL : L = []
  · exact .inl hL
  · have hp : 0 < css.length := by rw [h2]; exact List.length_pos_iff.2 hL
    obtain ⟨g, hA, _, hg, hc'⟩ := h1.get hp
    refine .inr ⟨g, 0, hA, hg, fun j hj => ?_⟩
    obtain ⟨B, d, h4, h5, _⟩ := h3 j hj
    refine ⟨B, d, fun i v hv => ?_, h5⟩
    have := hc' j (by omega) i v (by rw [List.getElem?_eq_getElem (by omega)] at h4; injection h4 with h4; rw [h4]; exact hv)
    rw [Nat.zero_add]; exact this
theorem EV.push {w0 w w' : World} {L : List Ent} {v v' : Value} {e : Ent} {B : Option Addr} {d : Nat} {css : List (List Value)} (h : EV w0 w L v) (hcs : OwnR w w0.heap.size 39 69 v css) (hj : css.length = L.length ∧ ∀ j (hj : j < L.length), ∃ B d, css[j]? = some (entC L[j] B d) ∧ Nts w B d (L[j]).ord ∧ ∀ a, B = some a → v.ownBlock ≠ some a.block ∧ a.block < w.heap.size)
    (ho : OwnR w' w0.heap.size 39 69 v' (css ++ [entC e B d])) (hg : w.grownBy w' v.ownBlock) (hat : v'.ownBlock = v.ownBlock ∨ v'.ownBlock = some w.heap.size) (hb : Nts w B d e.ord) (hB : ∀ a, B = some a → v.ownBlock ≠ some a.block ∧ a.block < w.heap.size) : EV w0 w' (L ++ [e]) v' := by
  have hch : Ch (fun k => v.ownBlock = some k) w w' := Ch.grown hg (fun k hk => hk)
  have own : ∀ a : Addr, v.ownBlock ≠ some a.block → a.block < w.heap.size → v'.ownBlock ≠ some a.block ∧ a.block < w'.heap.size := fun a h1 h2 => by
    refine ⟨fun e => ?_, Nat.lt_of_lt_of_le h2 hg.size⟩
    rcases hat with hat | hat
    · exact h1 (hat.symm.trans e)
    · rw [hat] at e; injection e with e; omega
  refine ⟨h.below.trans (hch.below (fun k hk => (hcs.lt k hk).1) h.below.size), css ++ [entC e B d], ho, by simp [hj.1], fun j hlt => ?_⟩
  by_cases hl : j < L.length
  · obtain ⟨B', d', h4, h5, h6⟩ := hj.2 j hl
    have hL : (L ++ [e])[j] = L[j] := List.getElem_append_left hl
    rw [hL]
    exact ⟨B', d', by rw [List.getElem?_append_left (by omega)]; exact h4, h5.ch hch (fun a ha => (h6 a ha).1), fun a ha => own a (h6 a ha).1 (h6 a ha).2⟩
  · have hje : j = L.length := by simp at hlt; omega
    subst hje
    have hL : (L ++ [e])[L.length] = e := by simp
    rw [hL]
    exact ⟨B, d, by rw [List.getElem?_append_right (by omega), hj.1]; simp, hb.ch hch (fun a ha => (hB a ha).1), fun a ha => own a (hB a ha).1 (hB a ha).2⟩

/-- Entries that can be added one behind the other. -/
def NumOk (L : List Ent) : Prop := ∀ j (hj : j < L.length), OkE L[j] ∧ (L[j]).job = j ∧ EntB L[j]
theorem NumOk.nil : NumOk [] := fun j hj => by simp at hj
theorem NumOk.snoc {L : List Ent} {e : Ent} (h : NumOk L) (h1 : OkE e) (h2 : e.job = L.length) (h3 : EntB e) : NumOk (L ++ [e]) := fun j hj => by
  by_cases hl : j < L.length
  · rw [show (L ++ [e])[j] = L[j] from List.getElem_append_left hl]; exact h j hl
  · have hje : j = L.length := by simp at hj; omega
    subst hje
    rw [show (L ++ [e])[L.length] = e by simp]; exact ⟨h1, h2, h3⟩
theorem NumOk.b {L : List Ent} (h : NumOk L) : ∀ e ∈ L, EntB e ∧ e.ord.length ≤ 9223372036854775807 := fun e he => by
  obtain ⟨j, hj, rfl⟩ := List.mem_iff_getElem.1 he
  have := h j hj
  exact ⟨this.2.2, by have := this.1.2.2.2.2.2.len; omega⟩

set_option maxRecDepth 100000 in
set_option maxHeartbeats 8000000 in
theorem numbered_any (w : World) (L : List Ent) (A : Option Addr) (c : Nat) (hE : Ents w A c L) (most : Nat) (hm : most ≤ 64) (z : Int) (hz : z = most) :
    Calls Tryd.prog 17 #[.slice A L.length c, .int .i64 z] w fun r w' => ∃ M v, r = .returned v ∧ EV w w' M v ∧ M.length ≤ most ∧ NumOk M := by
  subst hz
  have HE := Lib.hid hE
  clear hE
  go_enter Tryd.func17, Tryd.ntmps17
  go_wp2
  go_loopw [5, 6] (fun v i wr => ∃ (k : Nat) (M : List Ent), i = .int .i64 k ∧ k ≤ L.length ∧ k ≤ most ∧ M.length ≤ k ∧ NumOk M ∧ EV w wr M v) (fun _ i _ => most - (intOf i).toNat)
  case atStart => exact ⟨0, [], rfl, by omega, by omega, Nat.le_refl _, NumOk.nil, EV.nil w⟩
  case round =>
    obtain ⟨k, M, rfl, hk, hkm, hMk, hM, hev⟩ := hrel
    by_cases h1 : k < L.length
    · by_cases h2 : k < most
      · obtain ⟨g, o, rfl, hg, hc⟩ := HE.out.get (by omega)
        obtain ⟨B, d, hcell, hnts⟩ := hc k h1
        have hbe := HE.out.b _ (List.getElem_mem h1)
        obtain ⟨E, hEe⟩ : ∃ E, E = L[k] := ⟨_, rfl⟩
        rw [← hEe] at hcell hnts hbe
        obtain ⟨A5, c5, rfl, h5l, h5n⟩ := hev.slot
        have c1 : ∀ i v, (entC E B d)[i]? = some v → wr.cell? ⟨g, o + k * 69 + i, none⟩ = some v := fun i v hv => (hev.below.cell (p := ⟨g, _, none⟩) hg).trans (hcell i v hv)
        have hcut := cut20_any wr E hbe.1 B d (hnts.up hev.below) hbe.2
        have HC1 := Lib.hid c1
        have HEV := Lib.hid hev
        have HNM := Lib.hid hM
        have HCUT := Lib.hid hcut
        have HL1 := Lib.hid (entC_len hbe.1 B d)
        have HBE := Lib.hid (cutE_B hbe.1)
        have hcl := cutE_len E
        obtain ⟨E2, hE2⟩ : ∃ E2, E2 = cutE E := ⟨_, rfl⟩
        rw [← hE2] at hcl hcut HBE
        have HCUT := Lib.hid hcut
        clear hc hcell hnts hbe c1 hev hM hcut hEe hE2
        go_wp2_with ((with_reducible apply st_loadCells (cs := entC E B d)); rfl; exact HC1.out; exact Tryd.underlying39; rfl; (rw [HL1.out]; exact entSize))
        --MARK1
        go_at_call 22
        refine HCUT.out.mono ?_
        rintro r w2 ⟨A2, c2, rfl, hg2⟩
        have hb2 := hg2.1
        obtain ⟨A2', c2', hv2, hn2⟩ := hg2.slot
        injection hv2 with q1 q2 q3
        subst q1; subst q3
        have hown2 : ∀ a, A2 = some a → wr.heap.size ≤ a.block ∧ a.block < w2.heap.size := fun a ha => World.ownsRow.lt hg2.2 a.block (by rw [ha]; rfl)
        have HN2 := Lib.hid hn2
        have HOWN2 := Lib.hid hown2
        have hlen2 := entC_len HBE.out A2 c2
        have hone2 := entC_one (e := E2) A2 c2
        have hr0 : Blk (w2.alloc (.cells entZ.toArray 39)) w2.heap.size entZ 39 := Blk.new' _ _ _ _ _ rfl rfl
        have HLEN2 := Lib.hid hlen2
        have HONE2 := Lib.hid hone2
        have HG2 := Lib.hid hg2
        clear hlen2 hone2 hg2 hn2 hown2
        --MARK2
        go_upto_region 6 with (first | (with_reducible apply st_allocE) | ((with_reducible apply st_storeW (off := 0) (vs := entC E2 A2 c2) (cs := entZ) (T := 39)); rfl; rfl; exact hr0; (rw [HLEN2.out]; exact entSize); (rw [HLEN2.out, entZ_len]; decide); exact HONE2.out; intro w3 hd3 hw3; rw [laid_all _ _ (by rw [HLEN2.out, entZ_len])] at hd3))
        have hb23 : Below w2.heap.size w2 w3 := Wrote.below ((Below.refl _ _).alloc (Nat.le_refl _) _) hw3 (Nat.le_refl _)
        have f3 := hd3.frozen 0
        have c30 := hd3.cell 0
        have hl3 := hd3.lt
        --MARK3
        go_upto_region 7 with (fail)
        have hd4 := hd3.set 0 (.int .i64 (M.length : Int))
        have hb34 : Below w2.heap.size w2 (w3.setCell ⟨w2.heap.size, 0, none⟩ (.int .i64 (M.length : Int))) := hb23.setCell (Nat.le_refl _) _
        obtain ⟨w4, hw4⟩ : ∃ W, W = w3.setCell ⟨w2.heap.size, 0, none⟩ (.int .i64 (M.length : Int)) := ⟨_, rfl⟩
        rw [← hw4] at hd4 hb34 ⊢
        obtain ⟨E3, hE3⟩ : ∃ E3 : Ent, E3 = { E2 with job := (M.length : Int) } := ⟨_, rfl⟩
        have hd4 : Blk w4 w2.heap.size (entC E3 A2 c2) 39 := by rw [hE3]; exact hd4
        have hB3 : EntB E3 := by rw [hE3]; exact ⟨HBE.out.h, HBE.out.s, HBE.out.uh, HBE.out.us, ⟨by show (-9223372036854775808 : Int) ≤ (M.length : Int); omega, by show (M.length : Int) ≤ 9223372036854775807; omega⟩, HBE.out.time, HBE.out.kind, HBE.out.tries, HBE.out.ord⟩
        have hj3 : E3.job = M.length := by rw [hE3]
        have ho3 : E3.ord = E2.ord := by rw [hE3]
        have hn4 : Nts w4 A2 c2 E3.ord := by rw [ho3]; exact HN2.out.up hb34
        have hchk := refcheck_any w4 E3 hB3 A2 c2 hn4 (by rw [ho3]; omega)
        have hev4 := HEV.out.up (hb2.trans (hb34.mono hb2.size))
        have hol : (E3.ord.length : Nat) = E2.ord.length := by rw [ho3]
        have HLEN3 := Lib.hid (entC_len hB3 A2 c2)
        have HCHK := Lib.hid hchk
        have HB3 := Lib.hid hB3
        have HJ3 := Lib.hid hj3
        have HN4 := Lib.hid hn4
        have HEV4 := Lib.hid hev4
        have hs12 := hb2.size
        have hs34 := hb34.size
        clear hw4 hd3 hw3 hb23 f3 c30 hl3 hE3 hB3 hj3 ho3 hol hn4 hchk hev4 hr0 hb2
        by_cases hok : OkE E3
        · have hcr := checkR_yes E3 hok
          have HCHK1 := HCHK.out
          rw [hcr] at HCHK1
          have HCHK1 := Lib.hid HCHK1
          have HOK := Lib.hid hok
          clear hcr hok
          go_wp2_with ((with_reducible apply st_load (n := 69) (cs := entC E3 A2 c2) (T := 39)); rfl; exact hd4; exact Tryd.underlying39; rfl; exact entSize; (rw [HLEN3.out]; decide); exact row_all _ _ HLEN3.out)
          go_at_call 44
          refine HCHK1.out.mono ?_
          rintro r w5 ⟨rfl, hb5⟩
          have hd5 := hd4.up hb5
          have hev5 := HEV4.out.up hb5
          obtain ⟨css, hcs, hcl5, hcj⟩ := hev5.rows
          have hs5 := hb5.size
          --MARK4
          have hra : Blk (w5.alloc (.cells (entC E3 A2 c2).toArray 39)) w5.heap.size (entC E3 A2 c2) 39 := Blk.new' _ _ _ _ _ rfl rfl
          have hba : Below w5.heap.size w5 (w5.alloc (.cells (entC E3 A2 c2).toArray 39)) := (Below.refl _ _).alloc (Nat.le_refl _) _
          have hev6 := hev5.up hba
          have hcs6 := hcs.kept hba
          have hne : ∀ a, A2 = some a → (Value.slice A5 M.length c5).ownBlock ≠ some a.block ∧ a.block < (w5.alloc (.cells (entC E3 A2 c2).toArray 39)).heap.size := fun a ha => by
            obtain ⟨css0, hcs0, _⟩ := HEV.out.rows
            refine ⟨fun h => ?_, ?_⟩
            · have := (hcs0.lt _ h).2; have := (HOWN2.out a ha).1; omega
            · have := (HOWN2.out a ha).2; have := hba.size; omega
          have HEV6 := Lib.hid hev6
          have HCS6 := Lib.hid hcs6
          have HCJ := Lib.hid (And.intro hcl5 hcj)
          have HNE := Lib.hid hne
          have hcslen : css.length ≤ 1000000 := by omega
          have hbs6 : w.heap.size ≤ (w5.alloc (.cells (entC E3 A2 c2).toArray 39)).heap.size := hev6.below.size
          have HBS := Lib.hid hbs6
          have HCLEN := Lib.hid hcslen
          have HCJ6 := Lib.hid (show css.length = M.length ∧ ∀ j (hj : j < M.length), ∃ B d, css[j]? = some (entC M[j] B d) ∧ Nts (w5.alloc (.cells (entC E3 A2 c2).toArray 39)) B d (M[j]).ord ∧ ∀ a, B = some a → (Value.slice A5 M.length c5).ownBlock ≠ some a.block ∧ a.block < (w5.alloc (.cells (entC E3 A2 c2).toArray 39)).heap.size from ⟨hcl5, fun j hj => by
            obtain ⟨B', d', h1', h2', h3'⟩ := hcj j hj
            exact ⟨B', d', h1', h2'.up hba, fun a ha => ⟨(h3' a ha).1, Nat.lt_of_lt_of_le (h3' a ha).2 hba.size⟩⟩⟩)
          clear hev5 hcs hcl5 hcj hev6 hcs6 hne hcslen hbs6
          --MARK5
          go_wp2_with (first | ((with_reducible apply st_load (n := 69) (cs := entC E3 A2 c2) (T := 39)); rfl; exact hd5; exact Tryd.underlying39; rfl; exact entSize; (rw [HLEN3.out]; decide); exact row_all _ _ HLEN3.out) | ((with_reducible apply st_buildR (cs := entC E3 A2 c2) (e := 39)); exact Tryd.underlying34; exact einfo; rfl; decide; decide; rfl; exact HLEN3.out) | ((with_reducible apply st_appendR (base := w.heap.size) (g2 := w5.heap.size) (e := 39) (v := .slice A5 M.length c5) (cs := entC E3 A2 c2) (css := css)); exact Tryd.underlying34; exact einfo; rfl; decide; decide; rfl; rfl; exact HCS6.out; exact hra; exact HLEN3.out; exact entC_one _ _; exact HCLEN.out; exact HBS.out; intro v6 w6 ho6 hg6 hat6))
          have hev7 := HEV6.out.push HCS6.out HCJ6.out ho6 hg6 hat6 (HN4.out.up (hb5.trans (hba.mono hb5.size))) HNE.out
          --MARK6
          go_roundw
          case rel => exact ⟨k + 1, M ++ [E3], by go_num, by omega, by omega, by simp; omega, HNM.out.snoc HOK.out HJ3.out HB3.out, hev7⟩
          case measure => simp [intOf]; omega
        · have hcr := checkR_no E3 hok
          have HCHK1 := HCHK.out
          rw [hcr] at HCHK1
          have HCHK1 := Lib.hid HCHK1
          clear hcr hok
          go_wp2_with ((with_reducible apply st_load (n := 69) (cs := entC E3 A2 c2) (T := 39)); rfl; exact hd4; exact Tryd.underlying39; rfl; exact entSize; (rw [HLEN3.out]; decide); exact row_all _ _ HLEN3.out)
          go_at_call 44
          refine HCHK1.out.mono ?_
          rintro r w5 ⟨rfl, hb5⟩
          go_wp2_with fail
          --MARK7
          go_roundw
          case rel => exact ⟨k + 1, M, by go_num, by omega, by omega, by omega, HNM.out, HEV4.out.up hb5⟩
          case measure => simp [intOf]; omega
      · have hkn : k = most := by omega
        subst hkn
        go_wp2
        go_ret
        exact ⟨M, u5, rfl, hev, hMk, hM⟩
    · go_wp2
      go_ret
      exact ⟨M, u5, rfl, hev, by omega, hM⟩

end Go.Proofs.YtancldhincaphaaDoor
