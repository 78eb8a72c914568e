/- What inquestlaw21.filled answers: a ledger with entries. Condition: the table of layer 2 reads as its text lays it. -/
import Derived.Test.YtancldhincaphaaDoorNum
namespace Go.Proofs.YtancldhincaphaaDoor
open Go.RowKit
set_option maxRecDepth 100000

theorem Led.to {w : World} {base g : Nat} {key : List Int} {T : List (List Int)} {F F' : Nat → Prop} (h : Led w base g key T F) (hF : ∀ k, F k → F' k) (hb : ∀ k, F' k → base ≤ k ∧ k < w.heap.size) : Led w base g key T F' := by
  obtain ⟨S, K, ck, tv, lv, cv, cs, h⟩ := h
  exact ⟨S, K, ck, tv, lv, cv, cs, ⟨hb, h.blk, ⟨hF _ h.fg.1, h.fg.2⟩, h.key, h.kS, h.own, h.txt, h.lea, h.cha, fun k hk => (have := h.tvF k hk; ⟨hF _ this.1, this.2⟩), fun k hk => (have := h.lvF k hk; ⟨hF _ this.1, this.2⟩), fun k hk => (have := h.cvF k hk; ⟨hF _ this.1, this.2⟩), fun k hk => hF _ (h.sF k hk)⟩⟩
theorem Led.up {w w' : World} {base g : Nat} {key : List Int} {T : List (List Int)} {F : Nat → Prop} (h : Led w base g key T F) (hb : Below w.heap.size w w') : Led w' base g key T F := h.ch (Ch.of (X := fun _ => False) hb) (fun _ _ h => h)
/-- All blocks from base on, up to the world's end. -/
def All (base : Nat) (w : World) : Nat → Prop := fun k => base ≤ k ∧ k < w.heap.size

set_option maxRecDepth 100000 in
set_option maxHeartbeats 4000000 in
theorem filled_any (w : World) (key : List Int) (A : Option Addr) (ck : Nat) (hy : Byt w A ck key) (hkl : key.length ≤ 1000) (L : List Ent) (B : Option Addr) (c : Nat) (hE : Ents w B c L) (hN : NumOk L) (hL : L.length ≤ 64) (hk : KV w) :
    Calls Tryd.prog 18 #[.slice A key.length ck, .slice B L.length c] w fun r w' => ∃ g, r = .returned (.pointer (some ⟨g, 0, none⟩)) ∧ Below w.heap.size w w' ∧ Led w' w.heap.size g key (L.map encL) (All w.heap.size w') := by
  have HY := Lib.hid hy
  have HE := Lib.hid hE
  have HN := Lib.hid hN
  have HK := Lib.hid hk
  clear hy hE hN hk
  go_enter Tryd.func18, Tryd.ntmps18
  go_wp2_with fail
  go_at_call 29
  refine (newled_any w A ck key HY.out (by omega)).mono ?_
  rintro r w1 ⟨g, F, rfl, hb1, hL1, hF⟩
  have HL1 := Lib.hid (hL1.to (F' := All w.heap.size w1) (fun k hk => hF k hk) (fun k hk => hk))
  clear hL1 hF
  go_wp2_with fail
  --MARK1
  go_loopw [6] (fun i wr => ∃ k : Nat, i = .int .i64 k ∧ k ≤ L.length ∧ Below w.heap.size w wr ∧ Led wr w.heap.size g key ((L.take k).map encL) (All w.heap.size wr)) (fun i _ => L.length - (intOf i).toNat)
  case atStart => exact ⟨0, rfl, by omega, hb1, HL1.out⟩
  case round =>
    obtain ⟨k, rfl, hkl2, hB, hled⟩ := hrel
    have HLED := Lib.hid hled
    clear hled
    by_cases hlt : k < L.length
    · obtain ⟨g2, o, rfl, hg, hc⟩ := HE.out.get (by omega)
      obtain ⟨D, d, hcell, hnts⟩ := hc k hlt
      have hnum := HN.out k hlt
      have hstep : (L.take (k + 1)).map encL = (L.take k).map encL ++ [encL L[k]] := by rw [List.take_add_one, List.getElem?_eq_getElem hlt, List.map_append]; rfl
      have htl : ((L.take k).map encL).length = k := by rw [List.length_map, List.length_take]; omega
      obtain ⟨E, hEe⟩ : ∃ E, E = L[k] := ⟨_, rfl⟩
      rw [← hEe] at hcell hnts hnum hstep
      have hadd := addR_ok ((L.take k).map encL) E hnum.1 (by omega) (by rw [htl]; exact hnum.2.1)
      have hcall := ledadd_any wr w.heap.size g key _ _ HLED.out (by omega) hB.size E hnum.2.2 D d (hnts.up hB) (by have := hnum.1.2.2.2.2.2.len; omega) (HK.out.up hB)
      unfold AddPost at hcall
      rw [hadd, ← hstep] at hcall
      have HC := Lib.hid hcall
      have HCE := Lib.hid (fun i v hv => (hB.cell (p := ⟨g2, o + k * 69 + i, none⟩) hg).trans (hcell i v hv) : ∀ i v, (entC E D d)[i]? = some v → wr.cell? ⟨g2, o + k * 69 + i, none⟩ = some v)
      have HLEN := Lib.hid (entC_len hnum.2.2 D d)
      clear hc hcell hnts hnum hstep htl hEe hadd hcall
      go_wp2_with ((with_reducible apply st_loadCells (cs := entC E D d)); rfl; exact HCE.out; exact Tryd.underlying39; rfl; (rw [HLEN.out]; exact entSize))
      --MARK2
      go_at_call 21
      refine HC.out.mono ?_
      rintro r w2 ⟨rfl, hL2, hC2⟩
      have hB2 := hB.trans (hC2.below (fun k hk => hk.1) hB.size)
      have hsz := hC2.size
      have HL2 := Lib.hid (hL2.to (F' := All w.heap.size w2) (fun k hk => by rcases hk with hk | hk; exact ⟨hk.1, by have := hk.2; omega⟩; exact ⟨by have := hB.size; omega, hk.2⟩) (fun k hk => hk))
      clear hL2 hC2
      go_wp2_with fail
      --MARK3
      go_roundw
      case rel => exact ⟨k + 1, by go_num, by omega, hB2, HL2.out⟩
      case measure => simp [intOf]; omega
    · have e9 : L.take k = L := List.take_of_length_le (by omega)
      have hfin := HLED.out
      rw [e9] at hfin
      have HF := Lib.hid hfin
      clear e9 hfin
      go_wp2_with fail
      go_ret
      exact ⟨g, rfl, hB, HF.out⟩

end Go.Proofs.YtancldhincaphaaDoor
