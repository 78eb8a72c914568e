/- What entry.Check answers. No condition but the kinds' own bounds. -/
import Derived.Test.YtepicdcmcagipaaEnt
namespace Go.Proofs.Ytepicdcmcagipaa
open Go.RowKit

set_option maxRecDepth 100000 in
set_option maxHeartbeats 4000000 in
theorem check_any (w : World) (e : Ent) (he : EntB e) (A : Option Addr) (c : Nat) (ho : Nts w A c e.ord) (hl : e.ord.length ≤ 1000) :
    Calls Try.prog 15 #[.agg (entC e A c).toArray] w fun r w' => r = .returned (.int .i64 (checkR e)) ∧ Below w.heap.size w w' := by
  have HE := Lib.hid he
  have HO := Lib.hid ho
  have hx0 : Blk (w.alloc (.cells (entC e A c).toArray 28)) w.heap.size (entC e A c) 28 := Blk.new' _ _ _ _ _ rfl rfl
  have hB0 : Below w.heap.size w (w.alloc (.cells (entC e A c).toArray 28)) := (Below.refl _ _).alloc (Nat.le_refl _) _
  by_cases h0 : 0 ≤ e.job ∧ e.job ≤ 63
  · by_cases h1 : 0 ≤ e.time ∧ e.time ≤ 1099511627776
    · by_cases h2 : 1 ≤ e.kind ∧ e.kind ≤ 4
      · by_cases h3 : 0 ≤ e.tries ∧ e.tries ≤ 1073741824
        · by_cases h4 : e.kind = 1 ∨ e.ord = []
          · have hb : ∀ b : Bool, (b = (e.kind != 1)) → (b = false ∨ e.ord.length = 0) := fun b hb => by
              rcases h4 with h | h
              · left; rw [hb, h]; rfl
              · right; rw [h]; rfl
            have hck : OrdE e.ord → checkR e = 0 := fun h => checkR_yes e ⟨h0, h1, h2, h3, h4, h⟩
            have hcn : ∀ k, k < e.ord.length → (ga e.ord k < 0 ∨ 63 < ga e.ord k ∨ ga e.ord k ∈ e.ord.take k) → checkR e = 2 := fun k hk h => checkR_no e (fun g => ord_not hk h g.2.2.2.2.2)
            obtain ⟨R, hR⟩ : ∃ R, R = checkR e := ⟨_, rfl⟩
            rw [← hR] at hck hcn ⊢
            have HCK := Lib.hid hck
            have HCN := Lib.hid hcn
            have HH4 := Lib.hid hb
            clear hck hcn hR h4 hb
            clear he ho
            go_enter Try.func15, Try.ntmps15
            go_wp2_with (first | ((with_reducible apply st_load (n := 3) (cs := entC e A c) (T := 28)); rfl; exact hx0; exact Try.underlying26; rfl; exact verSize; (rw [entC_len HE.out]; decide); exact entC_ver HE.out A c) | ((with_reducible apply st_storeW (off := 0) (vs := verC e A c) (cs := [.int .i64 0, .slice none 0 0, .int .i64 0]) (T := 26)); rfl; rfl; exact Blk.new' _ _ _ _ _ rfl (by simp); exact verSize; (simp [verC]); exact verC_one _ _; intro w2 hd2 hw2; rw [laid_all _ _ (by rfl)] at hd2; have hx2 := hw2.blk (hx0.alloc _) (by simp); have hB2 := Wrote.below (hB0.alloc hB0.size _) hw2 (by simp); have c0 : w2.cell? ⟨w.heap.size, 0, none⟩ = some (.int .i64 e.job) := hx2.cell 0; have c1 : w2.cell? ⟨w.heap.size, 1, none⟩ = some (.int .i64 e.time) := hx2.cell 1; have k0 := hd2.cell 0; have k1 := hd2.cell 1; have k2 := hd2.cell 2; simp only [verC, List.getElem?_cons_zero, List.getElem?_cons_succ] at k0 k1 k2))
            clear hx0 hB0 hw2
            go_at_call 28
            refine (within_t _ _ _ _ h0).mono ?_
            rintro r wz ⟨rfl, rfl⟩
            go_wp2_with ((with_reducible apply st_un); rfl)
            go_at_call 28
            refine (within_t _ _ _ _ h1).mono ?_
            rintro r wz ⟨rfl, rfl⟩
            go_wp2_with ((with_reducible apply st_un); rfl)
            go_at_call 28
            refine (within_t _ _ _ _ h2).mono ?_
            rintro r wz ⟨rfl, rfl⟩
            go_wp2_with ((with_reducible apply st_un); rfl)
            go_at_call 28
            refine (within_t _ _ _ _ h3).mono ?_
            rintro r wz ⟨rfl, rfl⟩
            by_cases hkind : e.kind = 1
            · have b1 : (e.kind != 1) = false := by rw [hkind]; rfl
              clear hkind
              go_wp2_with ((with_reducible apply st_un); rfl)
              go_loopw [4, 43] (fun y i wr => ∃ (k M : Nat), i = .int .i64 k ∧ k ≤ e.ord.length ∧ y = .int .u64 M ∧ Hid (M = maskN (e.ord.take k)) ∧ Hid (OrdE (e.ord.take k)) ∧ w2 = wr) (fun _ i _ => e.ord.length - (intOf i).toNat)
              case atStart => exact ⟨0, 0, rfl, by omega, rfl, rfl, ⟨fun x hx => by simp at hx, by simp⟩, rfl⟩
              case round =>
                obtain ⟨k, M, rfl, hk, rfl, HM, HR, rfl⟩ := hrel
                by_cases hlt : k < e.ord.length
                · obtain ⟨g, o, rfl, hg, hc⟩ := HO.out.get (by omega)
                  have cx : w2.cell? ⟨g, o + k, none⟩ = some (.int .i64 (ga e.ord k)) := (hB2.cell (p := ⟨g, o + k, none⟩) hg).trans (hc k hlt)
                  have hcn := HCN.out k hlt
                  have htk := take_at e.ord k hlt
                  rw [← ga_eq] at htk
                  have hMl : M < 2 ^ 64 := by rw [HM.out]; exact maskN_lt _ HR.out.1
                  have hmem := fun h => maskN_mem (e.ord.take k) HR.out.1 (ga e.ord k) h
                  have hms := maskN_snoc (e.ord.take k) (ga e.ord k)
                  have hos := fun a b c => ord_snoc (x := ga e.ord k) HR.out a b c
                  rw [← htk] at hms hos
                  rw [← HM.out] at hmem hms
                  obtain ⟨x, hx⟩ : ∃ x, x = ga e.ord k := ⟨_, rfl⟩
                  rw [← hx] at cx hcn hmem hms hos
                  clear hc htk hx
                  by_cases hx0 : x < 0
                  · have HN := Lib.hid (hcn (.inl hx0))
                    clear hcn hmem hms hos hMl
                    go_wp2_with fail
                    go_ret
                    exact ⟨by rw [HN.out]; rfl, hB2⟩
                  · by_cases hx1 : 64 ≤ x
                    · have HN := Lib.hid (hcn (.inr (.inl (by omega))))
                      clear hcn hmem hms hos hMl
                      go_wp2_with fail
                      go_ret
                      exact ⟨by rw [HN.out]; rfl, hB2⟩
                    · obtain ⟨n, rfl⟩ := Int.eq_ofNat_of_zero_le (show 0 ≤ x by omega)
                      have hmem := hmem (by omega)
                      have hos := hos (by omega) (by omega)
                      rw [Int.toNat_natCast] at hmem hms
                      have hbit := mask_bit M n hMl
                      have hadd := mask_add M n hMl (by omega)
                      rw [← hms] at hadd
                      by_cases hin : M.testBit n = true
                      · have HN := Lib.hid (hcn (.inr (.inr (hmem.1 hin))))
                        rw [if_pos hin] at hbit
                        clear hcn hmem hms hos hMl hin hadd
                        go_wp2_with fail
                        go_ret
                        exact ⟨by rw [HN.out]; rfl, hB2⟩
                      · rw [if_neg hin] at hbit
                        have HN := Lib.hid (hos (fun h => hin (hmem.2 h)))
                        obtain ⟨M2, hM2⟩ : ∃ M2, M2 = maskN (e.ord.take (k + 1)) := ⟨_, rfl⟩
                        rw [← hM2] at hadd
                        have hadd2 := hadd
                        rw [mask_two n (by omega)] at hadd2
                        have HM2 := Lib.hid hM2
                        clear hcn hmem hms hos hMl hin hM2
                        go_wp2_with fail
                        go_roundw
                        case rel => exact ⟨k + 1, M2, by go_num, by omega, rfl, HM2.out, HN.out, by trivial⟩
                        case measure => simp [intOf]; omega
                · have hn := HCK.out (by
                    have := HR.out
                    rwa [List.take_of_length_le (by omega)] at this)
                  have HN := Lib.hid hn
                  clear hn
                  go_wp2_with fail
                  go_ret
                  exact ⟨by rw [HN.out]; rfl, hB2⟩
            · have b1 : (e.kind != 1) = true := by simp; exact hkind
              have b2 : e.ord.length = 0 := (HH4.out true b1.symm).resolve_left (by simp)
              have b3 : ¬ 0 < e.ord.length := by omega
              clear hkind b2
              go_wp2_with ((with_reducible apply st_un); rfl)
              go_loopw [4, 43] (fun y i wr => ∃ (k M : Nat), i = .int .i64 k ∧ k ≤ e.ord.length ∧ y = .int .u64 M ∧ Hid (M = maskN (e.ord.take k)) ∧ Hid (OrdE (e.ord.take k)) ∧ w2 = wr) (fun _ i _ => e.ord.length - (intOf i).toNat)
              case atStart => exact ⟨0, 0, rfl, by omega, rfl, rfl, ⟨fun x hx => by simp at hx, by simp⟩, rfl⟩
              case round =>
                obtain ⟨k, M, rfl, hk, rfl, HM, HR, rfl⟩ := hrel
                by_cases hlt : k < e.ord.length
                · obtain ⟨g, o, rfl, hg, hc⟩ := HO.out.get (by omega)
                  have cx : w2.cell? ⟨g, o + k, none⟩ = some (.int .i64 (ga e.ord k)) := (hB2.cell (p := ⟨g, o + k, none⟩) hg).trans (hc k hlt)
                  have hcn := HCN.out k hlt
                  have htk := take_at e.ord k hlt
                  rw [← ga_eq] at htk
                  have hMl : M < 2 ^ 64 := by rw [HM.out]; exact maskN_lt _ HR.out.1
                  have hmem := fun h => maskN_mem (e.ord.take k) HR.out.1 (ga e.ord k) h
                  have hms := maskN_snoc (e.ord.take k) (ga e.ord k)
                  have hos := fun a b c => ord_snoc (x := ga e.ord k) HR.out a b c
                  rw [← htk] at hms hos
                  rw [← HM.out] at hmem hms
                  obtain ⟨x, hx⟩ : ∃ x, x = ga e.ord k := ⟨_, rfl⟩
                  rw [← hx] at cx hcn hmem hms hos
                  clear hc htk hx
                  by_cases hx0 : x < 0
                  · have HN := Lib.hid (hcn (.inl hx0))
                    clear hcn hmem hms hos hMl
                    go_wp2_with fail
                    go_ret
                    exact ⟨by rw [HN.out]; rfl, hB2⟩
                  · by_cases hx1 : 64 ≤ x
                    · have HN := Lib.hid (hcn (.inr (.inl (by omega))))
                      clear hcn hmem hms hos hMl
                      go_wp2_with fail
                      go_ret
                      exact ⟨by rw [HN.out]; rfl, hB2⟩
                    · obtain ⟨n, rfl⟩ := Int.eq_ofNat_of_zero_le (show 0 ≤ x by omega)
                      have hmem := hmem (by omega)
                      have hos := hos (by omega) (by omega)
                      rw [Int.toNat_natCast] at hmem hms
                      have hbit := mask_bit M n hMl
                      have hadd := mask_add M n hMl (by omega)
                      rw [← hms] at hadd
                      by_cases hin : M.testBit n = true
                      · have HN := Lib.hid (hcn (.inr (.inr (hmem.1 hin))))
                        rw [if_pos hin] at hbit
                        clear hcn hmem hms hos hMl hin hadd
                        go_wp2_with fail
                        go_ret
                        exact ⟨by rw [HN.out]; rfl, hB2⟩
                      · rw [if_neg hin] at hbit
                        have HN := Lib.hid (hos (fun h => hin (hmem.2 h)))
                        obtain ⟨M2, hM2⟩ : ∃ M2, M2 = maskN (e.ord.take (k + 1)) := ⟨_, rfl⟩
                        rw [← hM2] at hadd
                        have hadd2 := hadd
                        rw [mask_two n (by omega)] at hadd2
                        have HM2 := Lib.hid hM2
                        clear hcn hmem hms hos hMl hin hM2
                        go_wp2_with fail
                        go_roundw
                        case rel => exact ⟨k + 1, M2, by go_num, by omega, rfl, HM2.out, HN.out, by trivial⟩
                        case measure => simp [intOf]; omega
                · have hn := HCK.out (by
                    have := HR.out
                    rwa [List.take_of_length_le (by omega)] at this)
                  have HN := Lib.hid hn
                  clear hn
                  go_wp2_with fail
                  go_ret
                  exact ⟨by rw [HN.out]; rfl, hB2⟩
          · rw [checkR_no e (fun h => h4 h.2.2.2.2.1)]
            have b1 : (e.kind != 1) = true := by simp; exact fun h => h4 (.inl h)
            have b2 : 0 < e.ord.length := List.length_pos_iff.2 fun h => h4 (.inr h)
            clear h4
            clear he ho
            go_enter Try.func15, Try.ntmps15
            go_wp2_with (first | ((with_reducible apply st_load (n := 3) (cs := entC e A c) (T := 28)); rfl; exact hx0; exact Try.underlying26; rfl; exact verSize; (rw [entC_len HE.out]; decide); exact entC_ver HE.out A c) | ((with_reducible apply st_storeW (off := 0) (vs := verC e A c) (cs := [.int .i64 0, .slice none 0 0, .int .i64 0]) (T := 26)); rfl; rfl; exact Blk.new' _ _ _ _ _ rfl (by simp); exact verSize; (simp [verC]); exact verC_one _ _; intro w2 hd2 hw2; rw [laid_all _ _ (by rfl)] at hd2; have hx2 := hw2.blk (hx0.alloc _) (by simp); have hB2 := Wrote.below (hB0.alloc hB0.size _) hw2 (by simp); have c0 : w2.cell? ⟨w.heap.size, 0, none⟩ = some (.int .i64 e.job) := hx2.cell 0; have c1 : w2.cell? ⟨w.heap.size, 1, none⟩ = some (.int .i64 e.time) := hx2.cell 1; have k0 := hd2.cell 0; have k1 := hd2.cell 1; have k2 := hd2.cell 2; simp only [verC, List.getElem?_cons_zero, List.getElem?_cons_succ] at k0 k1 k2))
            clear hx0 hB0 hw2
            go_at_call 28
            refine (within_t _ _ _ _ h0).mono ?_
            rintro r wz ⟨rfl, rfl⟩
            go_wp2_with ((with_reducible apply st_un); rfl)
            go_at_call 28
            refine (within_t _ _ _ _ h1).mono ?_
            rintro r wz ⟨rfl, rfl⟩
            go_wp2_with ((with_reducible apply st_un); rfl)
            go_at_call 28
            refine (within_t _ _ _ _ h2).mono ?_
            rintro r wz ⟨rfl, rfl⟩
            go_wp2_with ((with_reducible apply st_un); rfl)
            go_at_call 28
            refine (within_t _ _ _ _ h3).mono ?_
            rintro r wz ⟨rfl, rfl⟩
            go_wp2_with ((with_reducible apply st_un); rfl)
            go_ret
            exact ⟨rfl, hB2⟩
        · rw [checkR_no e (fun h => h3 h.2.2.2.1)]
          clear he ho
          go_enter Try.func15, Try.ntmps15
          go_wp2_with (first | ((with_reducible apply st_load (n := 3) (cs := entC e A c) (T := 28)); rfl; exact hx0; exact Try.underlying26; rfl; exact verSize; (rw [entC_len HE.out]; decide); exact entC_ver HE.out A c) | ((with_reducible apply st_storeW (off := 0) (vs := verC e A c) (cs := [.int .i64 0, .slice none 0 0, .int .i64 0]) (T := 26)); rfl; rfl; exact Blk.new' _ _ _ _ _ rfl (by simp); exact verSize; (simp [verC]); exact verC_one _ _; intro w2 hd2 hw2; rw [laid_all _ _ (by rfl)] at hd2; have hx2 := hw2.blk (hx0.alloc _) (by simp); have hB2 := Wrote.below (hB0.alloc hB0.size _) hw2 (by simp); have c0 : w2.cell? ⟨w.heap.size, 0, none⟩ = some (.int .i64 e.job) := hx2.cell 0; have c1 : w2.cell? ⟨w.heap.size, 1, none⟩ = some (.int .i64 e.time) := hx2.cell 1; have k0 := hd2.cell 0; have k1 := hd2.cell 1; have k2 := hd2.cell 2; simp only [verC, List.getElem?_cons_zero, List.getElem?_cons_succ] at k0 k1 k2))
          clear hx0 hB0 hw2
          go_at_call 28
          refine (within_t _ _ _ _ h0).mono ?_
          rintro r wz ⟨rfl, rfl⟩
          go_wp2_with ((with_reducible apply st_un); rfl)
          go_at_call 28
          refine (within_t _ _ _ _ h1).mono ?_
          rintro r wz ⟨rfl, rfl⟩
          go_wp2_with ((with_reducible apply st_un); rfl)
          go_at_call 28
          refine (within_t _ _ _ _ h2).mono ?_
          rintro r wz ⟨rfl, rfl⟩
          go_wp2_with ((with_reducible apply st_un); rfl)
          go_at_call 28
          refine (within_f _ _ _ _ h3).mono ?_
          rintro r wz ⟨rfl, rfl⟩
          go_wp2_with ((with_reducible apply st_un); rfl)
          go_ret
          exact ⟨rfl, hB2⟩
      · rw [checkR_no e (fun h => h2 h.2.2.1)]
        clear he ho
        go_enter Try.func15, Try.ntmps15
        go_wp2_with (first | ((with_reducible apply st_load (n := 3) (cs := entC e A c) (T := 28)); rfl; exact hx0; exact Try.underlying26; rfl; exact verSize; (rw [entC_len HE.out]; decide); exact entC_ver HE.out A c) | ((with_reducible apply st_storeW (off := 0) (vs := verC e A c) (cs := [.int .i64 0, .slice none 0 0, .int .i64 0]) (T := 26)); rfl; rfl; exact Blk.new' _ _ _ _ _ rfl (by simp); exact verSize; (simp [verC]); exact verC_one _ _; intro w2 hd2 hw2; rw [laid_all _ _ (by rfl)] at hd2; have hx2 := hw2.blk (hx0.alloc _) (by simp); have hB2 := Wrote.below (hB0.alloc hB0.size _) hw2 (by simp); have c0 : w2.cell? ⟨w.heap.size, 0, none⟩ = some (.int .i64 e.job) := hx2.cell 0; have c1 : w2.cell? ⟨w.heap.size, 1, none⟩ = some (.int .i64 e.time) := hx2.cell 1; have k0 := hd2.cell 0; have k1 := hd2.cell 1; have k2 := hd2.cell 2; simp only [verC, List.getElem?_cons_zero, List.getElem?_cons_succ] at k0 k1 k2))
        clear hx0 hB0 hw2
        go_at_call 28
        refine (within_t _ _ _ _ h0).mono ?_
        rintro r wz ⟨rfl, rfl⟩
        go_wp2_with ((with_reducible apply st_un); rfl)
        go_at_call 28
        refine (within_t _ _ _ _ h1).mono ?_
        rintro r wz ⟨rfl, rfl⟩
        go_wp2_with ((with_reducible apply st_un); rfl)
        go_at_call 28
        refine (within_f _ _ _ _ h2).mono ?_
        rintro r wz ⟨rfl, rfl⟩
        go_wp2_with ((with_reducible apply st_un); rfl)
        go_ret
        exact ⟨rfl, hB2⟩
    · rw [checkR_no e (fun h => h1 h.2.1)]
      clear he ho
      go_enter Try.func15, Try.ntmps15
      go_wp2_with (first | ((with_reducible apply st_load (n := 3) (cs := entC e A c) (T := 28)); rfl; exact hx0; exact Try.underlying26; rfl; exact verSize; (rw [entC_len HE.out]; decide); exact entC_ver HE.out A c) | ((with_reducible apply st_storeW (off := 0) (vs := verC e A c) (cs := [.int .i64 0, .slice none 0 0, .int .i64 0]) (T := 26)); rfl; rfl; exact Blk.new' _ _ _ _ _ rfl (by simp); exact verSize; (simp [verC]); exact verC_one _ _; intro w2 hd2 hw2; rw [laid_all _ _ (by rfl)] at hd2; have hx2 := hw2.blk (hx0.alloc _) (by simp); have hB2 := Wrote.below (hB0.alloc hB0.size _) hw2 (by simp); have c0 : w2.cell? ⟨w.heap.size, 0, none⟩ = some (.int .i64 e.job) := hx2.cell 0; have c1 : w2.cell? ⟨w.heap.size, 1, none⟩ = some (.int .i64 e.time) := hx2.cell 1; have k0 := hd2.cell 0; have k1 := hd2.cell 1; have k2 := hd2.cell 2; simp only [verC, List.getElem?_cons_zero, List.getElem?_cons_succ] at k0 k1 k2))
      clear hx0 hB0 hw2
      go_at_call 28
      refine (within_t _ _ _ _ h0).mono ?_
      rintro r wz ⟨rfl, rfl⟩
      go_wp2_with ((with_reducible apply st_un); rfl)
      go_at_call 28
      refine (within_f _ _ _ _ h1).mono ?_
      rintro r wz ⟨rfl, rfl⟩
      go_wp2_with ((with_reducible apply st_un); rfl)
      go_ret
      exact ⟨rfl, hB2⟩
  · rw [checkR_no e (fun h => h0 h.1)]
    clear he ho
    go_enter Try.func15, Try.ntmps15
    go_wp2_with (first | ((with_reducible apply st_load (n := 3) (cs := entC e A c) (T := 28)); rfl; exact hx0; exact Try.underlying26; rfl; exact verSize; (rw [entC_len HE.out]; decide); exact entC_ver HE.out A c) | ((with_reducible apply st_storeW (off := 0) (vs := verC e A c) (cs := [.int .i64 0, .slice none 0 0, .int .i64 0]) (T := 26)); rfl; rfl; exact Blk.new' _ _ _ _ _ rfl (by simp); exact verSize; (simp [verC]); exact verC_one _ _; intro w2 hd2 hw2; rw [laid_all _ _ (by rfl)] at hd2; have hx2 := hw2.blk (hx0.alloc _) (by simp); have hB2 := Wrote.below (hB0.alloc hB0.size _) hw2 (by simp); have c0 : w2.cell? ⟨w.heap.size, 0, none⟩ = some (.int .i64 e.job) := hx2.cell 0; have c1 : w2.cell? ⟨w.heap.size, 1, none⟩ = some (.int .i64 e.time) := hx2.cell 1; have k0 := hd2.cell 0; have k1 := hd2.cell 1; have k2 := hd2.cell 2; simp only [verC, List.getElem?_cons_zero, List.getElem?_cons_succ] at k0 k1 k2))
    clear hx0 hB0 hw2
    go_at_call 28
    refine (within_f _ _ _ _ h0).mono ?_
    rintro r wz ⟨rfl, rfl⟩
    go_wp2_with ((with_reducible apply st_un); rfl)
    go_ret
    exact ⟨rfl, hB2⟩

end Go.Proofs.Ytepicdcmcagipaa
