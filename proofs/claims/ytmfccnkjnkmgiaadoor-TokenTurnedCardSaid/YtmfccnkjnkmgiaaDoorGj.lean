/- A rule more for a region whose order is open: a quiet operation with a guard that is met, run as the walk runs it. No condition. What a token with one byte turned opens to. No program in sight. That inquestlaw05.TokenTurned returns true. Condition: the table of layer 2 reads as its text lays it. -/
import Derived.Test.YtmfccnkjnkmgiaaDoorGe
import Derived.Test.YtmfccnkjnkmgiaaDoorLawOne
namespace Go.Proofs.YtmfccnkjnkmgiaaDoor
section GuardW
open Go.RowKit

section
variable {P : Program} {ops : Array Oper} {C : World → Prop} {Q : Exit → Act → World → Prop} {E F : List Nat} {k : Nat} {rest : List Oper} {a : Act} {w : World} {o : Oper} {v : Value}
theorem wd_wg {d : Nat} (hE : E.contains k = false) (hF : F.contains k = false) (hg : Region.wanted o (yielded ops a.tmps) = true) (hq : valueOp o.op = true) (hd : o.dst = some d) (hl0 : Nat.blt d a.tmps.size = true)
    (hv : ∀ w', C w' → ∀ K : Act → World → Prop, (∀ a', a' = a.put (some d) v → K a' w') → wpList P #[] (Exit.then K (fun _ _ _ => False)) [{ o with guard := none }] a w')
    (h : WD P ops C Q E F (k + 1) rest (a.put (some d) v) w) : WD P ops C Q E F k (o :: rest) a w := by
  refine wd_q hE hF hg hq hd hl0 (fun w' hC K hK => ?_) h
  have h1 := hv w' hC K hK
  unfold wpList at h1
  rw [if_pos (by simp [Region.wanted])] at h1
  rcases h1 with h1 | ⟨_, a', w'', hl⟩
  · obtain ⟨dst, op, type, pos, after, guard⟩ := o
    unfold Oper.wp at h1 ⊢
    dsimp only at h1
    have he : execOp a.eval ⟨dst, op, type, pos, after, guard⟩ = execOp a.eval ⟨dst, op, type, pos, after, none⟩ := rfl
    rw [he]
    generalize (execOp a.eval ⟨dst, op, type, pos, after, none⟩).run P w' = r at h1 ⊢
    cases r with
    | ok n w2 =>
      cases n <;> simp only [Oper.upon] at h1 ⊢
      case value u => exact h1
      case skip => exact h1
      case defer d => exact h1
      case enter f args => exact Calls.mono h1 fun e w'' he => by
                            cases e with
                            | returned u => exact he
                            | panicked c => exact he
                            | outgrown => obtain ⟨_, _, hl⟩ := he; exact hl.elim
      case row row args => exact Rows.mono h1 fun _ _ he => he
    | halt z w2 => cases z <;> simp only [Oper.upon] at h1 ⊢; exact h1
  · exact hl.elim
end
end GuardW
section TurnP
open Go.RowKit Go.Proofs.YtmfccnkjnkmgiaaDoor.Pure

theorem strL_nums_of (l : List Int) (h : U8 l) : strL (strOfNums l) = l := strL_nums l (u8_mem h)
theorem u8_setT {l : List Int} (h : U8 l) (j : Nat) (x : Int) (hx : 0 ≤ x ∧ x < 256) : U8 (l.set j x) := U8.of fun y hy => by
  rcases List.mem_or_eq_of_mem_set hy with h1 | h1
  · exact u8_mem h y h1
  · rw [h1]; exact hx
theorem ga_setT (l : List Int) (j : Nat) (x : Int) (h : j < l.length) : ga (l.set j x) j = x := by
  simp [ga, h]
theorem turned_law (key : List Int) (s : ByteArray) (n : Int) (T : ByteArray) (hm : mintR key s n = (T, 0)) (at' : Nat) (hat : at' < T.size) (c : Int) (hc : 0 ≤ c ∧ c < 256) (hne : ga (strL T) at' ≠ c) (S : ByteArray) (hS : S = strOfNums ((strL T).set at' c)) :
    (∃ e : Int, (e = 4 ∨ e = 7) ∧ openR key S (-1) = ((⟨#[]⟩, 0), e)) ∨
    ∃ a m, openR key S (-1) = ((a, m), 0) ∧ a.size ≤ 16 ∧ 0 ≤ m ∧ m ≤ 1099511627776 ∧ tokS key a m = S ∧ at' + 65 < T.size := by
  have hT : T = tokS key s n := by
    unfold mintR at hm
    split at hm
    · injection hm with h1 _; exact h1.symm
    · injection hm with _ h2; exact absurd h2 (by decide)
  have hTL : (strL T).length = T.size := strL_len T
  have hSL : strL S = (strL T).set at' c := by rw [hS]; exact strL_nums_of _ (u8_setT (strL_range T) _ _ hc)
  cases hF : readF S with
  | none => exact Or.inl ⟨4, by simp, openR_none key S (-1) hF⟩
  | some x =>
    obtain ⟨a, m, l⟩ := x
    obtain ⟨f1, f2, f3, f4, f5, f6⟩ := readF_out S a m l hF
    have hte := tok_eq key S a m l hF
    rw [openR_some key S (-1) a m l hF]
    by_cases hmac : macF key (strL (claimS a m)) = l
    · rw [if_pos hmac, if_neg (by omega)]
      have htok := hte.2 hmac
      refine Or.inr ⟨a, m, rfl, nameB_size a f2, f3, f4, htok, ?_⟩
      apply Nat.lt_of_not_le
      intro hle
      have hz1 : strL T = strL (claimS s n) ++ 46 :: strL (strOfNums (hexF (macF key (strL (claimS s n))))) := by
        rw [hT]; unfold tokS; rw [strL_app, strL_app, strL_dot, List.append_assoc]; rfl
      have hz2 : strL S = strL (claimS a m) ++ 46 :: strL (strOfNums (hexF (macF key (strL (claimS a m))))) := by
        rw [← htok]; unfold tokS; rw [strL_app, strL_app, strL_dot, List.append_assoc]; rfl
      have hx : ∀ t : List Int, (strL (strOfNums (hexF (macF key t)))).length = 64 := fun t => by
        rw [strL_len, strOfNums_size, hexF_len, macF_len]
      have hl1 : T.size = (strL (claimS s n)).length + 65 := by rw [← hTL, hz1]; simp [hx]
      have hl2 : T.size = (strL (claimS a m)).length + 65 := by
        have : (strL S).length = T.size := by rw [hSL, List.length_set, hTL]
        rw [← this, hz2]; simp [hx]
      have e1 : (strL S).take (strL (claimS a m)).length = strL (claimS a m) := by rw [hz2]; simp
      have e2 : (strL S).take (strL (claimS a m)).length = strL (claimS s n) := by
        rw [hSL, List.take_set_of_le (by omega), hz1, show (strL (claimS a m)).length = (strL (claimS s n)).length from by omega]; simp
      have e3 : claimS a m = claimS s n := strL_inj _ _ (e1.symm.trans e2)
      have e4 : S = T := by rw [← htok, hT]; unfold tokS; rw [e3]
      apply hne
      have h5 : ga (strL S) at' = c := by rw [hSL, ga_setT _ _ _ (by omega)]
      rw [← h5, e4]
    · rw [if_neg hmac]; exact Or.inl ⟨7, by simp, rfl⟩
end TurnP
section LawTurned
open Go.RowKit Go.Proofs.YtmfccnkjnkmgiaaDoor.Pure

theorem rd_cells {w : World} {g : Nat} {L : List Int} (h : Rd w (some ⟨g, 0, none⟩) (nums .u8 L)) : ∀ i, i < L.length → w.cell? ⟨g, 0 + i, none⟩ = some (.int .u8 (ga L i)) := by
  intro i hi
  rcases h with h | ⟨g', off, e, h⟩
  · have e : L = [] := List.eq_nil_of_length_eq_zero (by rw [← nums_length .u8 L, h]; rfl)
    subst e; simp at hi
  · cases e
    exact h i _ (by rw [nums_at _ _ _ hi, ga_eq])
theorem rd_set {w : World} {g : Nat} {L : List Int} (h : Rd w (some ⟨g, 0, none⟩) (nums .u8 L)) (j : Nat) (c : Int) (hj : j < L.length) : Rd (w.setCell ⟨g, j, none⟩ (.int .u8 c)) (some ⟨g, 0, none⟩) (nums .u8 (L.set j c)) := by
  refine .inr ⟨g, 0, rfl, fun i v hv => ?_⟩
  have hi : i < L.length := by
    have := (List.getElem?_eq_some_iff.1 hv).1
    rwa [nums_length, List.length_set] at this
  have hc := rd_cells h i hi
  rw [nums_at _ _ _ (by rw [List.length_set]; exact hi)] at hv
  rw [Nat.zero_add] at hc ⊢
  by_cases e : i = j
  · subst e
    rw [World.cell?_setCell_same (h := by rw [hc])]
    rw [← hv, ← ga_eq, ga_setT _ _ _ hi]
  · rw [World.cell?_setCell_other (h := fun q => by injection q with _ q2; omega), hc, ← hv, ← ga_eq]
    congr 2
    simp [ga, Ne.symm e]
theorem bytes_free {w : World} {s : ByteArray} (j : Nat) (hj : j < s.size) : (Lib.bytesWorld w 5 s).frozen? ⟨w.heap.size, j, none⟩ = false := by
  have h1 := Lib.bytesWorld_at_new w 5 s
  have h2 := Lib.bytesWorld_cell w 5 s j hj
  have h3 : j < (Lib.bytesCells w 5 s).size := by
    apply Nat.lt_of_not_le
    intro h
    simp [World.cell?, h1, Array.getElem?_eq_none h] at h2
  simp only [World.frozen?, h1, Bool.and_eq_false_iff, decide_eq_false_iff_not]
  omega
/-- []byte(s), whose bytes may be written. -/
theorem st_bytesF {ops : Array Oper} {Q : Exit → Act → World → Prop} {rest : List Oper} {a : Act} {w : World} {d' : Option Tmp} {tt src : TypeId} {x : Operand} {pos : String} {after : Array Edge} {s : ByteArray} {u : TypeDesc}
    (hs : Tryd.prog.underlying src = some u) (hx : a.eval x = .string s)
    (h : ∀ w' c, Below w.heap.size w w' → Rd w' (some ⟨w.heap.size, 0, none⟩) (nums .u8 (strL s)) → s.size ≤ c → (∀ j, j < s.size → w'.frozen? ⟨w.heap.size, j, none⟩ = false) → wpList Tryd.prog ops Q rest (a.put d' (.slice (some ⟨w.heap.size, 0, none⟩) s.size c)) w') :
    wpList Tryd.prog ops Q (⟨d', .convert src 22 x, tt, pos, after, none⟩ :: rest) a w :=
  wpList_plain rfl fun K hK => by
    have hrun := Lib.run_convert_string_bytes (P := Tryd.prog) w src 22 5 s hs Tryd.underlying22 Tryd.underlying5
    unfold Oper.wp execOp
    simp only [Sem.run_bind, hx, hrun]
    exact hK _ _ (h _ _ bytes_world.1 bytes_world.2 (grownCap_ge _ _ _ _) (fun j hj => bytes_free j hj))
theorem mint_law (key : List Int) (s : ByteArray) (n : Int) : mintR key s n = (⟨#[]⟩, 2) ∨ ∃ T : ByteArray, mintR key s n = (T, 0) ∧ T.size ≤ 200 ∧ 0 < T.size := by
  unfold mintR
  split
  · rename_i h
    obtain ⟨h3, h4, h5⟩ := h
    have := tokS_size key s n; have := decB_size n (by omega) (by omega); have := nameB_size s h3
    exact Or.inr ⟨_, rfl, by omega, by omega⟩
  · exact Or.inl rfl

set_option maxRecDepth 100000 in
set_option maxHeartbeats 8000000 in
theorem lawturned_any (w : World) (bs0 : List Int) (A : Option Addr) (c : Nat) (hr : Rd w A (nums .u8 bs0)) (hc : bs0.length ≤ c) (hA : A = none → c = 0) (hu : U8 bs0) (s0 : ByteArray) (n : Int) (hlo : -9223372036854775808 ≤ n) (hhi : n ≤ 9223372036854775807) (z : Int) (hzlo : -9223372036854775808 ≤ z) (hzhi : z ≤ 9223372036854775807) (x : Int) (hx : 0 ≤ x ∧ x < 256) (hk : KV w) :
    Calls Tryd.prog 5 #[.slice A bs0.length c, .string s0, .int .i64 n, .int .i64 z, .int .u8 x] w fun e w' => e = .returned (.bool true) ∧ Below w.heap.size w w' := by
  obtain ⟨bs, hbl, _, hK, HCUT1⟩ := (Byt.mk hr hc hA hu).cut 300 300 rfl
  obtain ⟨s, hsl, HCUT2⟩ := cut4 s0
  have hc0 := fun (w : World) (h : Byt w A c bs) => mint_any w bs A c h (by omega) s hsl n hlo hhi
  have HK := Lib.hid hk
  have HKB := Lib.hid hK
  have hs0 : ((⟨#[]⟩ : ByteArray).toList == (⟨#[]⟩ : ByteArray).toList) = true := str_eq _
  rcases mint_law bs s n with h1 | ⟨T, h1, hT, hT0⟩
  · rw [h1] at hc0
    have HC0 := Lib.hid hc0
    clear hc0 hk h1 hr hc hA hu hK
    go_enter Tryd.func5, Tryd.ntmps5
    go_wp2_with fail
    go_at_call 9
    refine (HCUT1.out _).mono ?_
    rintro e wz ⟨rfl, rfl⟩
    go_wp2_with fail
    go_at_call 10
    refine (HCUT2.out _).mono ?_
    rintro e w0 ⟨rfl, hB⟩
    go_wp2_with fail
    go_at_call 12
    refine (HC0.out _ (HKB.out.up hB) (HK.out.below hB HK.out.lt)).mono ?_
    rintro e w1 ⟨rfl, hb1⟩
    have hB := hB.trans (hb1.mono hB.size)
    go_wp2_with ((with_reducible apply st_un); rfl)
    go_at_call 15
    refine (lives_any _ (HK.out.below hB HK.out.lt)).mono ?_
    rintro e wl ⟨rfl, hbl⟩
    have hBl := Below.trans hB (hbl.mono (Below.size hB))
    go_wp2_with fail
    go_ret
    exact ⟨rfl, hBl⟩
  · obtain ⟨j, hj, hjz⟩ : ∃ j : Nat, j < T.size ∧ (if z < 0 then 0 else if (T.size : Int) - 1 < z then (T.size : Int) - 1 else z) = (j : Int) := by
      refine ⟨(if z < 0 then 0 else if (T.size : Int) - 1 < z then (T.size : Int) - 1 else z).toNat, ?_, ?_⟩ <;> (split <;> (try split)) <;> omega
    have hleast := fun w => refleast_any w z 0 ((T.size : Int) - 1)
    rw [hjz] at hleast
    have HLEAST := Lib.hid hleast
    have hTL : (strL T).length = T.size := strL_len T
    have hlaw := fun hne => turned_law bs s n T h1 j hj x hx hne _ rfl
    rw [h1] at hc0
    have HC0 := Lib.hid hc0
    clear hc0 hk h1 hr hc hA hu hK hjz hleast
    obtain ⟨L, hL⟩ : ∃ L, L = strL T := ⟨_, rfl⟩
    rw [← hL] at hTL hlaw
    have HL := Lib.hid hL
    clear hL
    by_cases hne : ga L j = x
    · clear hlaw
      have heq : (ga L j == x) = true := by rw [hne]; simp
      go_enter Tryd.func5, Tryd.ntmps5
      go_wp2_with fail
      go_at_call 9
      refine (HCUT1.out _).mono ?_
      rintro e wz ⟨rfl, rfl⟩
      go_wp2_with fail
      go_at_call 10
      refine (HCUT2.out _).mono ?_
      rintro e w0 ⟨rfl, hB⟩
      go_wp2_with fail
      go_at_call 12
      refine (HC0.out _ (HKB.out.up hB) (HK.out.below hB HK.out.lt)).mono ?_
      rintro e w1 ⟨rfl, hb1⟩
      have hB := hB.trans (hb1.mono hB.size)
      go_wp2_with ((with_reducible apply st_bytesF); exact Tryd.underlying9; rfl; intro w3 c3 hb3 hr3 hc3 hf3)
      rw [← HL.out] at hr3
      have hfro := hf3 j hj
      have hB3 := hB.trans (hb3.mono hB.size)
      have hcell := rd_cells hr3 j (by omega)
      rw [Nat.zero_add] at hcell
      go_wp2_with fail
      go_at_call 17
      refine (HLEAST.out _).mono ?_
      rintro e wz ⟨rfl, rfl⟩
      go_wp2_with fail
      go_at_call 15
      refine (lives_any _ (HK.out.below hB3 HK.out.lt)).mono ?_
      rintro e wl ⟨rfl, hbl⟩
      have hBl := Below.trans hB3 (hbl.mono (Below.size hB3))
      go_wp2_with fail
      go_ret
      exact ⟨rfl, hBl⟩
    · have hlaw := hlaw hne
      have heq : (ga L j == x) = false := by simpa using hne
      obtain ⟨S, hS⟩ : ∃ S, S = strOfNums (L.set j x) := ⟨_, rfl⟩
      rw [← hS] at hlaw
      have hSz : S.size ≤ 300 := by rw [hS, strOfNums_size, List.length_set]; omega
      have hc1 := fun (w : World) (h : Byt w A c bs) => open_any w bs A c h (by omega) S hSz (-1)
      have hss := str_eq S
      have HS := Lib.hid hS
      clear hS
      rcases hlaw with ⟨en, he, h1⟩ | ⟨a, m, h1, ha, hm0, hm1, htk, hat⟩
      · rw [h1] at hc1
        have HC1 := Lib.hid hc1
        clear hc1 h1
        rcases he with rfl | rfl
        · go_enter Tryd.func5, Tryd.ntmps5
          go_wp2_with fail
          go_at_call 9
          refine (HCUT1.out _).mono ?_
          rintro e wz ⟨rfl, rfl⟩
          go_wp2_with fail
          go_at_call 10
          refine (HCUT2.out _).mono ?_
          rintro e w0 ⟨rfl, hB⟩
          go_wp2_with fail
          go_at_call 12
          refine (HC0.out _ (HKB.out.up hB) (HK.out.below hB HK.out.lt)).mono ?_
          rintro e w1 ⟨rfl, hb1⟩
          have hB := hB.trans (hb1.mono hB.size)
          go_wp2_with ((with_reducible apply st_bytesF); exact Tryd.underlying9; rfl; intro w3 c3 hb3 hr3 hc3 hf3)
          rw [← HL.out] at hr3
          have hfro := hf3 j hj
          have hB3 := hB.trans (hb3.mono hB.size)
          have hcell := rd_cells hr3 j (by omega)
          rw [Nat.zero_add] at hcell
          go_wp2_with fail
          go_at_call 17
          refine (HLEAST.out _).mono ?_
          rintro e wz ⟨rfl, rfl⟩
          go_wp2_with (first | ((with_reducible apply st_strAt (bs := L.set j x)); exact Tryd.underlying22; exact Tryd.underlying5; exact Tryd.underlying9; rfl; (rw [List.length_set]; exact hTL); exact rd_cells (rd_set hr3 j x (by omega)); rw [← HS.out]))
          go_at_call 16
          have hr4 := rd_set hr3 j x (by omega)
          have hB4 := below_set_from hB3 (p := ⟨w1.heap.size, j, none⟩) (.int .u8 x) hB.size
          refine (HC1.out _ (HKB.out.up hB4) (HK.out.below hB4 HK.out.lt)).mono ?_
          rintro e w5 ⟨rfl, hb5⟩
          have hB5 := hB4.trans (hb5.mono hB4.size)
          have hq5 : Blk (w5.alloc (.cells (passC ⟨#[]⟩ 0).toArray 35)) w5.heap.size (passC ⟨#[]⟩ 0) 35 := Blk.new' _ _ _ _ _ rfl rfl
          go_wp2_with (first | (((with_reducible apply st_storeW (off := 0) (vs := passC ⟨#[]⟩ 0) (cs := passC ⟨#[]⟩ 0) (T := 35)); rfl; rfl; exact hq5; exact passSize; (simp [passC]); exact passC_one _ _; intro w11 hd11 hw11; rw [laid_all _ _ (by rfl)] at hd11); have hB6 := Wrote.below (hB5.alloc hB5.size _) hw11 hB5.size) | ((with_reducible apply st_un); rfl))
          go_at_call 15
          refine (lives_any _ (HK.out.below hB6 HK.out.lt)).mono ?_
          rintro e wl ⟨rfl, hbl⟩
          have hBl := Below.trans hB6 (hbl.mono (Below.size hB6))
          go_wp2_with fail
          go_ret
          exact ⟨rfl, hBl⟩
        · go_enter Tryd.func5, Tryd.ntmps5
          go_wp2_with fail
          go_at_call 9
          refine (HCUT1.out _).mono ?_
          rintro e wz ⟨rfl, rfl⟩
          go_wp2_with fail
          go_at_call 10
          refine (HCUT2.out _).mono ?_
          rintro e w0 ⟨rfl, hB⟩
          go_wp2_with fail
          go_at_call 12
          refine (HC0.out _ (HKB.out.up hB) (HK.out.below hB HK.out.lt)).mono ?_
          rintro e w1 ⟨rfl, hb1⟩
          have hB := hB.trans (hb1.mono hB.size)
          go_wp2_with ((with_reducible apply st_bytesF); exact Tryd.underlying9; rfl; intro w3 c3 hb3 hr3 hc3 hf3)
          rw [← HL.out] at hr3
          have hfro := hf3 j hj
          have hB3 := hB.trans (hb3.mono hB.size)
          have hcell := rd_cells hr3 j (by omega)
          rw [Nat.zero_add] at hcell
          go_wp2_with fail
          go_at_call 17
          refine (HLEAST.out _).mono ?_
          rintro e wz ⟨rfl, rfl⟩
          go_wp2_with (first | ((with_reducible apply st_strAt (bs := L.set j x)); exact Tryd.underlying22; exact Tryd.underlying5; exact Tryd.underlying9; rfl; (rw [List.length_set]; exact hTL); exact rd_cells (rd_set hr3 j x (by omega)); rw [← HS.out]))
          go_at_call 16
          have hr4 := rd_set hr3 j x (by omega)
          have hB4 := below_set_from hB3 (p := ⟨w1.heap.size, j, none⟩) (.int .u8 x) hB.size
          refine (HC1.out _ (HKB.out.up hB4) (HK.out.below hB4 HK.out.lt)).mono ?_
          rintro e w5 ⟨rfl, hb5⟩
          have hB5 := hB4.trans (hb5.mono hB4.size)
          have hq5 : Blk (w5.alloc (.cells (passC ⟨#[]⟩ 0).toArray 35)) w5.heap.size (passC ⟨#[]⟩ 0) 35 := Blk.new' _ _ _ _ _ rfl rfl
          go_wp2_with (first | (((with_reducible apply st_storeW (off := 0) (vs := passC ⟨#[]⟩ 0) (cs := passC ⟨#[]⟩ 0) (T := 35)); rfl; rfl; exact hq5; exact passSize; (simp [passC]); exact passC_one _ _; intro w11 hd11 hw11; rw [laid_all _ _ (by rfl)] at hd11); have hB6 := Wrote.below (hB5.alloc hB5.size _) hw11 hB5.size) | ((with_reducible apply st_un); rfl))
          go_at_call 15
          refine (lives_any _ (HK.out.below hB6 HK.out.lt)).mono ?_
          rintro e wl ⟨rfl, hbl⟩
          have hBl := Below.trans hB6 (hbl.mono (Below.size hB6))
          go_wp2_with fail
          go_ret
          exact ⟨rfl, hBl⟩
      · rw [h1] at hc1
        have HC1 := Lib.hid hc1
        have hc2 := fun (w : World) (h : Byt w A c bs) => reftext_any w bs A c h (by omega) a (by omega) m (by omega) (by omega)
        rw [htk] at hc2
        have HC2 := Lib.hid hc2
        have hlt : (j : Int) < (T.size : Int) - 65 := by omega
        clear hc1 hc2 h1 htk
        go_enter Tryd.func5, Tryd.ntmps5
        go_wp2_with fail
        go_at_call 9
        refine (HCUT1.out _).mono ?_
        rintro e wz ⟨rfl, rfl⟩
        go_wp2_with fail
        go_at_call 10
        refine (HCUT2.out _).mono ?_
        rintro e w0 ⟨rfl, hB⟩
        go_wp2_with fail
        go_at_call 12
        refine (HC0.out _ (HKB.out.up hB) (HK.out.below hB HK.out.lt)).mono ?_
        rintro e w1 ⟨rfl, hb1⟩
        have hB := hB.trans (hb1.mono hB.size)
        go_wp2_with ((with_reducible apply st_bytesF); exact Tryd.underlying9; rfl; intro w3 c3 hb3 hr3 hc3 hf3)
        rw [← HL.out] at hr3
        have hfro := hf3 j hj
        have hB3 := hB.trans (hb3.mono hB.size)
        have hcell := rd_cells hr3 j (by omega)
        rw [Nat.zero_add] at hcell
        go_wp2_with fail
        go_at_call 17
        refine (HLEAST.out _).mono ?_
        rintro e wz ⟨rfl, rfl⟩
        go_wp2_with (first | ((with_reducible apply st_strAt (bs := L.set j x)); exact Tryd.underlying22; exact Tryd.underlying5; exact Tryd.underlying9; rfl; (rw [List.length_set]; exact hTL); exact rd_cells (rd_set hr3 j x (by omega)); rw [← HS.out]))
        go_at_call 16
        have hr4 := rd_set hr3 j x (by omega)
        have hB4 := below_set_from hB3 (p := ⟨w1.heap.size, j, none⟩) (.int .u8 x) hB.size
        refine (HC1.out _ (HKB.out.up hB4) (HK.out.below hB4 HK.out.lt)).mono ?_
        rintro e w5 ⟨rfl, hb5⟩
        have hB5 := hB4.trans (hb5.mono hB4.size)
        have hq5 : Blk (w5.alloc (.cells (passC ⟨#[]⟩ 0).toArray 35)) w5.heap.size (passC ⟨#[]⟩ 0) 35 := Blk.new' _ _ _ _ _ rfl rfl
        go_wp2_with (first | (((with_reducible apply st_storeW (off := 0) (vs := passC a m) (cs := passC ⟨#[]⟩ 0) (T := 35)); rfl; rfl; exact hq5; exact passSize; (simp [passC]); exact passC_one _ _; intro w11 hd11 hw11; rw [laid_all _ _ (by rfl)] at hd11); have hB6 := Wrote.below (hB5.alloc hB5.size _) hw11 hB5.size; have hS6 := Wrote.below (hb5.alloc hb5.size _) hw11 hb5.size; have hp0 := hd11.cell 0; have hp1 := hd11.cell 1; simp only [passC, List.getElem?_cons_zero, List.getElem?_cons_succ] at hp0 hp1) | ((with_reducible apply st_un); rfl))
        have hB6 := hB6.drew
        have hS6 := hS6.drew
        have hd11 := hd11.drew
        have hKB6 := HKB.out.up hB6
        refine wp_region_C (Same [w5.heap.size, w1.heap.size] w11) [11, 17] (by kernel_rfl) (by kernel_rfl) (by intro c a w h; first | (obtain ⟨_, h, _⟩ := h; cases h; done) | (obtain ⟨_, _, h, _⟩ := h; cases h; done) | (obtain ⟨_, _, _, h, _⟩ := h; cases h; done) | (obtain ⟨_, _, _, _, h, _⟩ := h; cases h; done)) (by intro a w h; first | (obtain ⟨h, _⟩ := h; cases h; done) | (obtain ⟨_, h, _⟩ := h; cases h; done) | (obtain ⟨_, _, h, _⟩ := h; cases h; done) | (obtain ⟨_, _, _, h, _⟩ := h; cases h; done)) (Same.refl _ _) ?_
        repeat (refine wd_q (v := ?_) rfl rfl rfl rfl rfl rfl (fun w' hw' K hK => ?_) ?_; rotate_left; (skip; go_wp2; exact rfl); simp only [Act.put, List.setIfInBounds_toArray, List.set_cons_zero, List.set_cons_succ])
        repeat (refine wd_wg (v := ?_) rfl rfl rfl rfl rfl rfl (fun w' hw' K hK => ?_) ?_; rotate_left; (have e0 := (hw'.blk hd11 (by simp)).cell 0; have e1 := (hw'.blk hd11 (by simp)).cell 1; simp only [passC, List.getElem?_cons_zero, List.getElem?_cons_succ] at e0 e1; go_wp2_with (fail); exact rfl); simp only [Act.put, List.setIfInBounds_toArray, List.set_cons_zero, List.set_cons_succ])
        refine wd_lg rfl rfl (by intro a w h; first | (obtain ⟨h, _⟩ := h; cases h; done) | (obtain ⟨_, h, _⟩ := h; cases h; done) | (obtain ⟨_, _, h, _⟩ := h; cases h; done) | (obtain ⟨_, _, _, h, _⟩ := h; cases h; done)) ?_
        go_wp2_with fail
        have hr11 := hr4.up hS6
        have hce := rd_cells hr11
        have HCE := Lib.hid hce
        have z5 : w5.heap.size < w11.heap.size := hd11.lt
        have z1 : w1.heap.size ≤ w5.heap.size := by have h1 := hb3.size; have h2 := hb5.size; simp at h2; omega
        clear hce
        go_at_call 18
        refine (HC2.out _ hKB6).mono ?_
        rintro e w7 ⟨rfl, hb7⟩
        have hB7 := hB6.trans (hb7.mono hB6.size)
        have hs7 : Same [w5.heap.size, w1.heap.size] w11 w7 := fun g hg => hb7.block g (by simp at hg ⊢; omega)
        go_wp2_with fail
        refine ⟨.inr hs7, ?_⟩
        repeat (refine wd_wg (v := ?_) rfl rfl rfl rfl rfl rfl (fun w' hw' K hK => ?_) ?_; rotate_left; (have ecells : ∀ i, i < (L.set j x).length → w'.cell? ⟨w1.heap.size, 0 + i, none⟩ = some (.int .u8 (ga (L.set j x) i)) := fun i hi => (hw'.cell w1.heap.size (by simp) (0 + i)).trans (HCE.out i hi); go_wp2_with (((with_reducible apply st_strAt (bs := L.set j x)); exact Tryd.underlying22; exact Tryd.underlying5; exact Tryd.underlying9; rfl; (rw [List.length_set]; exact hTL); exact ecells; rw [← HS.out])); exact rfl); simp only [Act.put, List.setIfInBounds_toArray, List.set_cons_zero, List.set_cons_succ])
        refine wd_pick (b := true) (v := .bool true) rfl rfl rfl rfl rfl ?_
        simp only [Act.put, List.setIfInBounds_toArray, List.set_cons_zero, List.set_cons_succ]
        repeat (refine wd_q (v := ?_) rfl rfl rfl rfl rfl rfl (fun w' hw' K hK => ?_) ?_; rotate_left; (skip; go_wp2; exact rfl); simp only [Act.put, List.setIfInBounds_toArray, List.set_cons_zero, List.set_cons_succ])
        refine wd_lg rfl rfl (by intro a w h; first | (obtain ⟨h, _⟩ := h; cases h; done) | (obtain ⟨_, h, _⟩ := h; cases h; done) | (obtain ⟨_, _, h, _⟩ := h; cases h; done) | (obtain ⟨_, _, _, h, _⟩ := h; cases h; done)) ?_
        go_wp2_with fail
        go_at_call 15
        refine (lives_any _ (HK.out.below hB7 HK.out.lt)).mono ?_
        rintro e w8 ⟨rfl, hb8⟩
        have hB8 := hB7.trans (hb8.mono hB7.size)
        have hs8 : Same [w5.heap.size, w1.heap.size] w11 w8 := fun g hg => (hb8.block g (by have h7 := hb7.size; simp at hg h7; omega)).trans (hs7 g hg)
        go_wp2_with fail
        refine ⟨.inr hs8, ?_⟩
        refine wd_pick (b := true) (v := .bool true) rfl rfl rfl rfl rfl ?_
        simp only [Act.put, List.setIfInBounds_toArray, List.set_cons_zero, List.set_cons_succ]
        repeat (refine wd_q (v := ?_) rfl rfl rfl rfl rfl rfl (fun w' hw' K hK => ?_) ?_; rotate_left; (skip; go_wp2; exact rfl); simp only [Act.put, List.setIfInBounds_toArray, List.set_cons_zero, List.set_cons_succ])
        refine wd_nil ?_
        go_wp2_with fail
        go_ret
        exact ⟨rfl, hB8⟩
end LawTurned
end Go.Proofs.YtmfccnkjnkmgiaaDoor
