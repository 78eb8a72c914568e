/- That inquestlaw21.LedgerPlays returns true. Condition: the table of layer 2 reads as its text lays it. -/
import Derived.Test.YtancldhincaphaaDoorPlayA
import Derived.Test.YtancldhincaphaaDoorSame21
namespace Go.Proofs.YtancldhincaphaaDoor
open Go.RowKit
set_option maxRecDepth 100000

def TxtOk (T : List (List Int)) : Prop := ∀ x ∈ T, x.length ≤ 1000 ∧ U8 x
theorem addR_ok2 (T : List (List Int)) (e : Ent) (he : EntB e) (hT : TxtOk T) : TxtOk (addR T e).1 ∧ (addR T e).1.length ≤ T.length + 1 := by
  by_cases h : OkE e
  · by_cases h1 : 64 ≤ T.length
    · rw [addR_full T e h h1]; exact ⟨hT, Nat.le_succ _⟩
    · by_cases h2 : e.job = T.length
      · rw [addR_ok T e h (by omega) h2]
        refine ⟨fun x hx => ?_, by simp⟩
        rcases List.mem_append.1 hx with hx | hx
        · exact hT x hx
        · rw [List.mem_singleton.1 hx]
          have := encL_len e h he.h he.s
          exact ⟨by omega, encL_u8L h he⟩
      · rw [addR_arg T e h (by omega) h2]; exact ⟨hT, Nat.le_succ _⟩
  · rw [addR_no T e h]; exact ⟨hT, Nat.le_succ _⟩

set_option maxRecDepth 100000 in
set_option maxHeartbeats 16000000 in
theorem lawplays21_any (w : World) (bs0 : List Int) (A : Option Addr) (ck : Nat) (hr0 : Rd w A (nums .u8 bs0)) (hc0 : bs0.length ≤ ck) (hA : A = none → ck = 0) (hu : U8 bs0) (L : List Ent) (B : Option Addr) (c : Nat) (hE : Ents w B c L) (i n : Int) (hk : KV w) :
    Calls Tryd.prog 6 #[.slice A bs0.length ck, .slice B L.length c, .int .i64 i, .int .i64 n] w fun r w' => r = .returned (.bool true) ∧ Below w.heap.size w w' := by
  obtain ⟨key, hkl, _, hyk, HCUTK⟩ := (Byt.mk hr0 hc0 hA hu).cut 100 100 rfl
  have HE := Lib.hid hE
  have HK := Lib.hid hk
  have HKEY := Lib.hid hyk
  clear hE hk hyk hr0 hc0 hA hu
  go_enter Tryd.func6, Tryd.ntmps6
  go_wp2_with fail
  go_at_call 9
  refine (HCUTK.out _).mono ?_
  rintro r wz ⟨rfl, rfl⟩
  go_wp2_with fail
  go_at_call 28
  refine (refcopy_any w A ck key HKEY.out.nn HKEY.out.rd (by omega)).mono ?_
  rintro r w1 ⟨v1, rfl, hb1, ho1⟩
  obtain ⟨A1, c1, rfl, hy1, _⟩ := ho1.byt HKEY.out.u
  have hlt1 : ∀ a, A1 = some a → a.block < w1.heap.size := fun a ha => (World.ownsRow.lt ho1 a.block (by rw [ha]; rfl)).2
  have HLT1 := Lib.hid hlt1
  have HO1 := Lib.hid ho1
  clear hlt1 ho1
  go_wp2_with fail
  --MARK1
  go_at_call 29
  refine (newled_any w1 A1 c1 key hy1 (by omega)).mono ?_
  rintro r w2 ⟨g, F, rfl, hb2, hL2, hF⟩
  have hB2 := hb1.trans (hb2.mono hb1.size)
  have HO2 := Lib.hid (HO1.out.kept hb2)
  have HL2 := Lib.hid hL2
  have HF := Lib.hid hF
  have hs1 := hb1.size
  have hs2 := hb2.size
  clear hL2 hF hy1
  go_wp2_with fail
  --MARK2
  go_loopw [11] (fun j wr => ∃ (q : Nat) (bs : List Int), j = .int .i64 q ∧ q ≤ key.length ∧ bs.length = key.length ∧ Below w.heap.size w wr ∧ Own wr w.heap.size (.slice A1 key.length c1) bs ∧ Led wr w1.heap.size g key [] F ∧ w2.heap.size ≤ wr.heap.size) (fun j _ => key.length - (intOf j).toNat)
  case atStart => exact ⟨0, key, rfl, by omega, rfl, hB2, HO2.out, HL2.out, Nat.le_refl _⟩
  case round =>
    obtain ⟨q, bs, rfl, hq, hbs, hB, hown, hled, hsz⟩ := hrel
    have HLED := Lib.hid hled
    clear hled
    by_cases hqb : q < key.length
    · have hown0 := hown
      obtain ⟨g1, cap1, cur1, hv1, hg1, hblk1, hcl1, _, _⟩ := hown0.blk (by omega)
      injection hv1 with e1 e2 e3
      subst e1
      have hcu := hown.cellU (k := q) (by omega)
      obtain ⟨cu, fu⟩ := hcu
      obtain ⟨x, hx⟩ : ∃ x, x = ga bs q := ⟨_, rfl⟩
      rw [← hx] at cu
      have hg1l := (hown.lt g1 rfl).2
      have HOW := Lib.hid hown
      have HBS := Lib.hid hbs
      have hg1w : g1 < w1.heap.size := HLT1.out _ rfl
      have hnF : ∀ k, F k → ¬ k = g1 := fun k hk => by have := (HF.out k hk).1; omega
      have HNF := Lib.hid hnF
      clear hown hown0 hblk1 hx hbs e2 e3 hcl1 hnF
      go_wp2_with fail
      --MARK3
      go_roundw
      case rel => first | exact ⟨q + 1, bs.set q _, by go_num, by omega, by rw [List.length_set]; exact HBS.out, hB.setCell hg1 _, HOW.out.set (by rw [HBS.out]; exact hqb), HLED.out.ch (Ch.set (X := fun k => k = g1) rfl) HNF.out, by simp [World.setCell]; exact hsz⟩ | ((repeat apply Exists.intro); refine ⟨⟨q + 1, bs.set q _, ?_, by omega, by rw [List.length_set]; exact HBS.out, hB.setCell hg1 _, HOW.out.set (by rw [HBS.out]; exact hqb), HLED.out.ch (Ch.set (X := fun k => k = g1) rfl) HNF.out, by simp [World.setCell]; exact hsz⟩, rfl⟩; go_num)
      case measure => simp [intOf]; omega
    · rename World => w3
      clear hown hbs
      have HF3 := Lib.hid (fun k hk => by have h1 := HF.out k hk; exact ⟨h1.1, by omega⟩ : ∀ k, F k → w1.heap.size ≤ k ∧ k < w3.heap.size)
      go_wp2_with fail
      --MARK4
      go_loopw [12, 13] (fun tv iv wr => ∃ (k : Nat) (T : List (List Int)) (A9 : Option Addr) (c9 : Nat) (Fk Gk : Nat → Prop), iv = .int .i64 k ∧ tv = .slice A9 T.length c9 ∧ k ≤ L.length ∧ k ≤ 20 ∧ T.length ≤ k ∧ Hid (TxtOk T) ∧ Below w.heap.size w wr ∧ Led wr w1.heap.size g key T Fk ∧ TG wr w.heap.size Gk T (.slice A9 T.length c9) ∧ Hid (∀ q, Fk q → ¬ Gk q) ∧ w1.heap.size ≤ wr.heap.size) (fun _ iv _ => 20 - (intOf iv).toNat)
      case atStart => exact ⟨0, [], none, 0, F, fun _ => False, rfl, rfl, by omega, by omega, Nat.le_refl _, (show TxtOk [] from fun x hx => (by cases hx)), hB, HLED.out, TG.nil _ _, (show ∀ q, F q → ¬ False from fun _ _ h => h), by omega⟩
      case round =>
        clear hB hsz
        obtain ⟨k, T, A9, c9, Fk, Gk, rfl, rfl, hk1, hk2, hTk, HOK, hB, hled, htg, HDIS, hsz⟩ := hrel
        have HLED9 := Lib.hid hled
        have HTG := Lib.hid htg
        clear hled htg
        by_cases hlt : k < L.length
        · by_cases hlt2 : k < 20
          · obtain ⟨g5, o5, rfl, hg5, hc5⟩ := HE.out.get (by omega)
            obtain ⟨D, d, hcell, hnts⟩ := hc5 k hlt
            have hbe := HE.out.b _ (List.getElem_mem hlt)
            obtain ⟨E, hEe⟩ : ∃ E, E = L[k] := ⟨_, rfl⟩
            rw [← hEe] at hcell hnts hbe
            have hcut := cut20_any wr E hbe.1 D d (hnts.up hB) hbe.2
            have HC1 := Lib.hid (fun i v hv => (hB.cell (p := ⟨g5, _, none⟩) hg5).trans (hcell i v hv) : ∀ i v, (entC E D d)[i]? = some v → wr.cell? ⟨g5, o5 + k * 69 + i, none⟩ = some v)
            have HL1 := Lib.hid (entC_len hbe.1 D d)
            have HBE := Lib.hid (cutE_B hbe.1)
            have hcl := cutE_len E
            obtain ⟨E2, hE2⟩ : ∃ E2, E2 = cutE E := ⟨_, rfl⟩
            rw [← hE2] at hcl hcut HBE
            have HCUT := Lib.hid hcut
            clear hc5 hcell hnts hbe hcut hEe hE2
            go_wp2_with (first | ((with_reducible apply st_un); rfl) | ((with_reducible apply st_loadCells (cs := entC E D d)); rfl; exact HC1.out; exact Tryd.underlying39; rfl; (rw [HL1.out]; exact entSize)))
            --MARK5
            go_at_call 22
            refine HCUT.out.mono ?_
            rintro r w4 ⟨A4, c4, rfl, hg4⟩
            obtain ⟨A4', c4', hv4, hn4⟩ := hg4.slot
            injection hv4 with q1 q2 q3
            subst q1; subst q3
            have hb4 := hg4.1
            have hB4 := hB.trans (hb4.mono hB.size)
            have hr0 : Blk (w4.alloc (.cells entZ.toArray 39)) w4.heap.size entZ 39 := Blk.new' _ _ _ _ _ rfl rfl
            have HLEN4 := Lib.hid (entC_len HBE.out A4 c4)
            have HONE4 := Lib.hid (entC_one (e := E2) A4 c4)
            have HN4 := Lib.hid hn4
            have HN4b := Lib.hid (fun a ha => (World.ownsRow.lt hg4.2 a.block (by rw [ha]; rfl)).1 : ∀ a, A4 = some a → wr.heap.size ≤ a.block)
            clear hg4 hn4
            go_upto_region 15 with (first | (with_reducible apply st_allocE) | ((with_reducible apply st_storeW (off := 0) (vs := entC E2 A4 c4) (cs := entZ) (T := 39)); rfl; rfl; exact hr0; (rw [HLEN4.out]; exact entSize); (rw [HLEN4.out, entZ_len]; decide); exact HONE4.out; intro w5 hd5 hw5; rw [laid_all _ _ (by rw [HLEN4.out, entZ_len])] at hd5))
            have hb5 : Below w4.heap.size w4 w5 := Wrote.below ((Below.refl _ _).alloc (Nat.le_refl _) _) hw5 (Nat.le_refl _)
            have hB5 := hB4.trans (hb5.mono hB4.size)
            have HLED5 := Lib.hid ((HLED9.out.up hb4).up hb5)
            have HTG5 := Lib.hid ((HTG.out.up hb4).up hb5)
            have f5 := hd5.frozen 0
            have c50 := hd5.cell 0
            have hl5 := hd5.lt
            have hs4 := hb4.size
            have hs5 := hb5.size
            have hsB := hB.size
            clear hr0 hw5
            --MARK6
            by_cases hmod : (k : Int) % 5 < 4
            · --BRANCHY
              go_upto_region 17 with (fail)
              have hd6 := hd5.set 0 (.int .i64 (T.length : Int))
              have hb56 : Below w4.heap.size w4 (w5.setCell ⟨w4.heap.size, 0, none⟩ (.int .i64 (T.length : Int))) := hb5.setCell (Nat.le_refl _) _
              have hc56 : Ch (fun k => k = w4.heap.size) w5 (w5.setCell ⟨w4.heap.size, 0, none⟩ (.int .i64 (T.length : Int))) := Ch.set rfl
              obtain ⟨w6, hw6⟩ : ∃ W, W = w5.setCell ⟨w4.heap.size, 0, none⟩ (.int .i64 (T.length : Int)) := ⟨_, rfl⟩
              rw [← hw6] at hd6 hb56 hc56 ⊢
              obtain ⟨E3, hE3⟩ : ∃ E3 : Ent, E3 = { E2 with job := (T.length : Int) } := ⟨_, rfl⟩
              have hd6 : Blk w6 w4.heap.size (entC E3 A4 c4) 39 := by rw [hE3]; exact hd6
              have hB3 : EntB E3 := by rw [hE3]; exact ⟨HBE.out.h, HBE.out.s, HBE.out.uh, HBE.out.us, ⟨by show (-9223372036854775808 : Int) ≤ (T.length : Int); omega, by show (T.length : Int) ≤ 9223372036854775807; omega⟩, HBE.out.time, HBE.out.kind, HBE.out.tries, HBE.out.ord⟩
              have ho3 : E3.ord = E2.ord := by rw [hE3]
              have hB6 := hB4.trans (hb56.mono hB4.size)
              have HLED6 := Lib.hid ((HLED9.out.up hb4).up hb56)
              have HTG6 := Lib.hid ((HTG.out.up hb4).up hb56)
              have hn6 : Nts w6 A4 c4 E3.ord := by rw [ho3]; exact HN4.out.up hb56
              have hs6 := hb56.size
              clear hw6 hE3 hc56
              have hl6 := hd6.lt
              have hradd := refaddg_any w6 w.heap.size Gk T A9 c9 HTG6.out (by omega) hB6.size E3 hB3 A4 c4 hn6 (by rw [ho3]; omega)
              have hadd := fun W (h1 : Led W w1.heap.size g key T Fk) h2 h3 h4 => ledadd_any W w1.heap.size g key T Fk h1 (by omega) h2 E3 hB3 A4 c4 h3 (by rw [ho3]; omega) h4
              have hok2 := addR_ok2 T E3 hB3 HOK.out
              unfold RefAddG at hradd
              unfold AddPost at hadd
              obtain ⟨⟨T2, rr⟩, hT2⟩ : ∃ p, p = addR T E3 := ⟨_, rfl⟩
              rw [← hT2] at hradd hadd hok2
              have HRADD := Lib.hid hradd
              have HADD := Lib.hid hadd
              have HOK2 := Lib.hid hok2.1
              have hT2l : T2.length ≤ T.length + 1 := hok2.2
              have HLEN6 := Lib.hid (entC_len hB3 A4 c4)
              have HN6 := Lib.hid hn6
              clear hradd hadd hok2 hT2 hB3 ho3 hn6 hd5 hb5 f5 c50 hl5 HLED5 HTG5
              go_wp2_with ((with_reducible apply st_load (n := 69) (cs := entC E3 A4 c4) (T := 39)); rfl; exact hd6; exact Tryd.underlying39; rfl; exact entSize; (rw [HLEN6.out]; decide); exact row_all _ _ HLEN6.out)
              --MARKAY
              go_at_call 30
              refine HRADD.out.mono ?_
              rintro r w7 ⟨v7, rfl, htg7, hc7⟩
              obtain ⟨A7, c7, rfl, -⟩ := htg7.tl.txts
              have hownG := HTG6.out.ownG
              have hge : ¬ (Value.slice A9 T.length c9).ownBlock = some w4.heap.size := fun h => by have := (HTG.out.lo _ (HTG.out.ownG _ h)).2; omega
              have hd7 := hd6.ch hc7 hge
              have HLED7 := Lib.hid (HLED6.out.ch hc7 (fun q hq h => HDIS.out q hq (hownG q h)))
              have hB7 := hB6.trans (hc7.below (fun q hq => (HTG6.out.own q hq).1) hB6.size)
              have hs7 := hc7.size
              have hnA4 : Nts w7 A4 c4 E3.ord := HN6.out.ch hc7 (fun a ha h => by
                have h1 := (HTG.out.lo _ (HTG.out.ownG _ h)).2
                have h2 := HN4b.out a ha
                omega)
              have HTG7 := Lib.hid htg7
              have HN7 := Lib.hid hnA4
              clear hc7 htg7 hge hownG hnA4
              have hrr : (rr != rr) = false := by simp
              go_wp2_with ((with_reducible apply st_load (n := 69) (cs := entC E3 A4 c4) (T := 39)); rfl; exact hd7; exact Tryd.underlying39; rfl; exact entSize; (rw [HLEN6.out]; decide); exact row_all _ _ HLEN6.out)
              --MARKBY
              go_at_call 21
              refine (HADD.out w7 HLED7.out (by omega) HN7.out (HK.out.up hB7)).mono ?_
              rintro r w8 ⟨rfl, hled8, hc8⟩
              have hdis8 : ∀ q, Fk q → ¬ ext Gk w6 w7 q := fun q hq h => by
                rcases h with h | h
                · exact HDIS.out q hq h
                · obtain ⟨S0, _, _, _, _, _, _, hh⟩ := HLED6.out; have := (hh.lo q hq).2; omega
              have HTG8 := Lib.hid (HTG7.out.ch hc8 (fun q hq h => hdis8 q h hq))
              have hFlo : ∀ q, Fk q → w1.heap.size ≤ q := fun q hq => by obtain ⟨S0, _, _, _, _, _, _, hh⟩ := HLED6.out; exact (hh.lo q hq).1
              have hB8 := hB7.trans (hc8.below (B := w.heap.size) (fun q hq => by have := hFlo q hq; omega) hB7.size)
              have hs8 := hc8.size
              have hdisN : ∀ q, ext Fk w7 w8 q → ¬ ext Gk w6 w7 q := fun q hq h => by
                rcases hq with hq | hq
                · exact hdis8 q hq h
                · have := (HTG7.out.lo q h).2; omega
              have HDISN := Lib.hid hdisN
              have HLED8 := Lib.hid hled8
              obtain ⟨A7', c7', hv7, htx8⟩ := HTG8.out.tl.txts
              injection hv7 with q1 q2 q3
              subst q1; subst q3
              have htell := tells_any w8 w1.heap.size g key T2 _ HLED8.out (by omega) HOK2.out A ck (HKEY.out.up hB8) (by omega) A7 c7 htx8 HTG8.out.tl.spotP i n (HK.out.up hB8)
              have HTELL := Lib.hid htell
              clear hc8 hled8 hdis8 hdisN htx8 htell hFlo
              go_wp2_with fail
              --MARKCY
              go_at_call 31
              refine HTELL.out.mono ?_
              rintro r w9 ⟨rfl, hb9⟩
              have hB9 := hB8.trans (hb9.mono hB8.size)
              have HLED9' := Lib.hid (HLED8.out.up hb9)
              have HTG9' := Lib.hid (HTG8.out.up hb9)
              have hs9 := hb9.size
              clear hrr
              go_wp2_with fail
              --MARKDY
              go_roundw
              case rel => first | exact ⟨k + 1, T2, A7, c7, _, _, by go_num, rfl, by omega, by omega, by omega, HOK2, hB9, HLED9'.out, HTG9'.out, HDISN, by omega⟩ | ((repeat apply Exists.intro); refine ⟨⟨k + 1, T2, A7, c7, _, _, ?_, rfl, by omega, by omega, by omega, HOK2, hB9, HLED9'.out, HTG9'.out, HDISN, by omega⟩, rfl⟩; go_num)
              case measure => simp [intOf]; omega
            · --BRANCHN
              have hmod2 : (4 : Int) ≤ (k : Int) % 5 := by omega
              clear hmod
              go_upto_region 17 with (fail)
              obtain ⟨w6, hw6⟩ : ∃ W, W = w5 := ⟨_, rfl⟩
              obtain ⟨E3, hE3⟩ : ∃ E3, E3 = E2 := ⟨_, rfl⟩
              have hd6 : Blk w6 w4.heap.size (entC E3 A4 c4) 39 := by rw [hE3, hw6]; exact hd5
              have hB3 : EntB E3 := by rw [hE3]; exact HBE.out
              have ho3 : E3.ord = E2.ord := by rw [hE3]
              have hB6 : Below w.heap.size w w6 := by rw [hw6]; exact hB5
              have HLED6 : Hid (Led w6 w1.heap.size g key T Fk) := by rw [hw6]; exact HLED5.out
              have HTG6 : Hid (TG w6 w.heap.size Gk T (.slice A9 T.length c9)) := by rw [hw6]; exact HTG5.out
              have hn6 : Nts w6 A4 c4 E3.ord := by rw [ho3, hw6]; exact HN4.out.up hb5
              have hs6 : w4.heap.size ≤ w6.heap.size := by rw [hw6]; exact hs5
              rw [← hw6]
              clear hw6 hE3
              have hl6 := hd6.lt
              have hradd := refaddg_any w6 w.heap.size Gk T A9 c9 HTG6.out (by omega) hB6.size E3 hB3 A4 c4 hn6 (by rw [ho3]; omega)
              have hadd := fun W (h1 : Led W w1.heap.size g key T Fk) h2 h3 h4 => ledadd_any W w1.heap.size g key T Fk h1 (by omega) h2 E3 hB3 A4 c4 h3 (by rw [ho3]; omega) h4
              have hok2 := addR_ok2 T E3 hB3 HOK.out
              unfold RefAddG at hradd
              unfold AddPost at hadd
              obtain ⟨⟨T2, rr⟩, hT2⟩ : ∃ p, p = addR T E3 := ⟨_, rfl⟩
              rw [← hT2] at hradd hadd hok2
              have HRADD := Lib.hid hradd
              have HADD := Lib.hid hadd
              have HOK2 := Lib.hid hok2.1
              have hT2l : T2.length ≤ T.length + 1 := hok2.2
              have HLEN6 := Lib.hid (entC_len hB3 A4 c4)
              have HN6 := Lib.hid hn6
              clear hradd hadd hok2 hT2 hB3 ho3 hn6 hd5 hb5 f5 c50 hl5 HLED5 HTG5
              go_wp2_with ((with_reducible apply st_load (n := 69) (cs := entC E3 A4 c4) (T := 39)); rfl; exact hd6; exact Tryd.underlying39; rfl; exact entSize; (rw [HLEN6.out]; decide); exact row_all _ _ HLEN6.out)
              --MARKAN
              go_at_call 30
              refine HRADD.out.mono ?_
              rintro r w7 ⟨v7, rfl, htg7, hc7⟩
              obtain ⟨A7, c7, rfl, -⟩ := htg7.tl.txts
              have hownG := HTG6.out.ownG
              have hge : ¬ (Value.slice A9 T.length c9).ownBlock = some w4.heap.size := fun h => by have := (HTG.out.lo _ (HTG.out.ownG _ h)).2; omega
              have hd7 := hd6.ch hc7 hge
              have HLED7 := Lib.hid (HLED6.out.ch hc7 (fun q hq h => HDIS.out q hq (hownG q h)))
              have hB7 := hB6.trans (hc7.below (fun q hq => (HTG6.out.own q hq).1) hB6.size)
              have hs7 := hc7.size
              have hnA4 : Nts w7 A4 c4 E3.ord := HN6.out.ch hc7 (fun a ha h => by
                have h1 := (HTG.out.lo _ (HTG.out.ownG _ h)).2
                have h2 := HN4b.out a ha
                omega)
              have HTG7 := Lib.hid htg7
              have HN7 := Lib.hid hnA4
              clear hc7 htg7 hge hownG hnA4
              have hrr : (rr != rr) = false := by simp
              go_wp2_with ((with_reducible apply st_load (n := 69) (cs := entC E3 A4 c4) (T := 39)); rfl; exact hd7; exact Tryd.underlying39; rfl; exact entSize; (rw [HLEN6.out]; decide); exact row_all _ _ HLEN6.out)
              --MARKBN
              go_at_call 21
              refine (HADD.out w7 HLED7.out (by omega) HN7.out (HK.out.up hB7)).mono ?_
              rintro r w8 ⟨rfl, hled8, hc8⟩
              have hdis8 : ∀ q, Fk q → ¬ ext Gk w6 w7 q := fun q hq h => by
                rcases h with h | h
                · exact HDIS.out q hq h
                · obtain ⟨S0, _, _, _, _, _, _, hh⟩ := HLED6.out; have := (hh.lo q hq).2; omega
              have HTG8 := Lib.hid (HTG7.out.ch hc8 (fun q hq h => hdis8 q h hq))
              have hFlo : ∀ q, Fk q → w1.heap.size ≤ q := fun q hq => by obtain ⟨S0, _, _, _, _, _, _, hh⟩ := HLED6.out; exact (hh.lo q hq).1
              have hB8 := hB7.trans (hc8.below (B := w.heap.size) (fun q hq => by have := hFlo q hq; omega) hB7.size)
              have hs8 := hc8.size
              have hdisN : ∀ q, ext Fk w7 w8 q → ¬ ext Gk w6 w7 q := fun q hq h => by
                rcases hq with hq | hq
                · exact hdis8 q hq h
                · have := (HTG7.out.lo q h).2; omega
              have HDISN := Lib.hid hdisN
              have HLED8 := Lib.hid hled8
              obtain ⟨A7', c7', hv7, htx8⟩ := HTG8.out.tl.txts
              injection hv7 with q1 q2 q3
              subst q1; subst q3
              have htell := tells_any w8 w1.heap.size g key T2 _ HLED8.out (by omega) HOK2.out A ck (HKEY.out.up hB8) (by omega) A7 c7 htx8 HTG8.out.tl.spotP i n (HK.out.up hB8)
              have HTELL := Lib.hid htell
              clear hc8 hled8 hdis8 hdisN htx8 htell hFlo
              go_wp2_with fail
              --MARKCN
              go_at_call 31
              refine HTELL.out.mono ?_
              rintro r w9 ⟨rfl, hb9⟩
              have hB9 := hB8.trans (hb9.mono hB8.size)
              have HLED9' := Lib.hid (HLED8.out.up hb9)
              have HTG9' := Lib.hid (HTG8.out.up hb9)
              have hs9 := hb9.size
              clear hrr
              go_wp2_with fail
              --MARKDN
              go_roundw
              case rel => first | exact ⟨k + 1, T2, A7, c7, _, _, by go_num, rfl, by omega, by omega, by omega, HOK2, hB9, HLED9'.out, HTG9'.out, HDISN, by omega⟩ | ((repeat apply Exists.intro); refine ⟨⟨k + 1, T2, A7, c7, _, _, ?_, rfl, by omega, by omega, by omega, HOK2, hB9, HLED9'.out, HTG9'.out, HDISN, by omega⟩, rfl⟩; go_num)
              case measure => simp [intOf]; omega
          · have hk20 : k = 20 := by omega
            clear hlt2
            obtain ⟨A9', c9', hv9, htx9⟩ := HTG.out.tl.txts
            injection hv9 with q1 q2 q3
            subst q1; subst q3
            have htell := tells_any wr w1.heap.size g key T _ HLED9.out (by omega) HOK.out A ck (HKEY.out.up hB) (by omega) A9 c9 htx9 HTG.out.tl.spotP i n (HK.out.up hB)
            have HTELL := Lib.hid htell
            have HTX9 := Lib.hid htx9
            clear htell htx9
            go_wp2_with ((with_reducible apply st_un); rfl)
            --MARKEX
            go_at_call 31
            refine HTELL.out.mono ?_
            rintro r w5 ⟨rfl, hb5⟩
            have hB5 := hB.trans (hb5.mono hB.size)
            have HTXT := Lib.hid (ledtexts_any (HLED9.out.up hb5) (by omega) (fun x hx => (HOK.out x hx).1))
            go_wp2_with ((with_reducible apply st_un); rfl)
            go_at_call 19
            refine HTXT.out.mono ?_
            rintro r w6 ⟨v6, rfl, hb6, htl6⟩
            obtain ⟨A6, c6, rfl, htx6⟩ := htl6.txts
            have hB6 := hB5.trans (hb6.mono hB5.size)
            have HSAME := Lib.hid (calls_true (same21_any w6 T T A6 A9 c6 c9 htx6 (HTX9.out.up (hb5.trans (hb6.mono hb5.size))) (by omega) (fun x hx => (HOK.out x hx).1)) rfl)
            clear htl6 htx6
            go_wp2_with ((with_reducible apply st_un); rfl)
            go_at_call 24
            refine HSAME.out.mono ?_
            rintro r w7 ⟨rfl, hb7⟩
            have hB7 := hB6.trans (hb7.mono hB6.size)
            go_wp2_with ((with_reducible apply st_un); rfl)
            go_at_call 16
            refine (lives21_any _ (HK.out.up hB7)).mono ?_
            rintro r w8 ⟨rfl, hb8⟩
            go_wp2_with ((with_reducible apply st_un); rfl)
            go_ret
            exact ⟨rfl, hB7.trans (hb8.mono hB7.size)⟩
        · have hkL : k = L.length := by omega
          have hkLl : L.length ≤ k := by omega
          clear hkL
          obtain ⟨A9', c9', hv9, htx9⟩ := HTG.out.tl.txts
          injection hv9 with q1 q2 q3
          subst q1; subst q3
          have htell := tells_any wr w1.heap.size g key T _ HLED9.out (by omega) HOK.out A ck (HKEY.out.up hB) (by omega) A9 c9 htx9 HTG.out.tl.spotP i n (HK.out.up hB)
          have HTELL := Lib.hid htell
          have HTX9 := Lib.hid htx9
          clear htell htx9
          go_wp2_with ((with_reducible apply st_un); rfl)
          --MARKEZ
          go_at_call 31
          refine HTELL.out.mono ?_
          rintro r w5 ⟨rfl, hb5⟩
          have hB5 := hB.trans (hb5.mono hB.size)
          have HTXT := Lib.hid (ledtexts_any (HLED9.out.up hb5) (by omega) (fun x hx => (HOK.out x hx).1))
          go_wp2_with ((with_reducible apply st_un); rfl)
          go_at_call 19
          refine HTXT.out.mono ?_
          rintro r w6 ⟨v6, rfl, hb6, htl6⟩
          obtain ⟨A6, c6, rfl, htx6⟩ := htl6.txts
          have hB6 := hB5.trans (hb6.mono hB5.size)
          have HSAME := Lib.hid (calls_true (same21_any w6 T T A6 A9 c6 c9 htx6 (HTX9.out.up (hb5.trans (hb6.mono hb5.size))) (by omega) (fun x hx => (HOK.out x hx).1)) rfl)
          clear htl6 htx6
          go_wp2_with ((with_reducible apply st_un); rfl)
          go_at_call 24
          refine HSAME.out.mono ?_
          rintro r w7 ⟨rfl, hb7⟩
          have hB7 := hB6.trans (hb7.mono hB6.size)
          go_wp2_with ((with_reducible apply st_un); rfl)
          go_at_call 16
          refine (lives21_any _ (HK.out.up hB7)).mono ?_
          rintro r w8 ⟨rfl, hb8⟩
          go_wp2_with ((with_reducible apply st_un); rfl)
          go_ret
          exact ⟨rfl, hB7.trans (hb8.mono hB7.size)⟩

end Go.Proofs.YtancldhincaphaaDoor
