/- What the reference's Check of layer 20 answers. No condition but the kinds' own bounds. -/
import Derived.Test.YtepicdcmcagipaaEntK
namespace Go.Proofs.Ytepicdcmcagipaa
open Go.RowKit

set_option maxRecDepth 100000 in
set_option maxHeartbeats 8000000 in
theorem refcheck_any (w : World) (e : Ent) (he : EntB e) (A : Option Addr) (c : Nat) (ho : Nts w A c e.ord) (hl : e.ord.length ≤ 1000) :
    Calls Try.prog 16 #[.agg (entC e A c).toArray] w fun r w' => r = .returned (.int .i64 (checkR e)) ∧ Below w.heap.size w w' := by
  have HE := Lib.hid he
  have HO := Lib.hid ho
  have hx0 : Blk (w.alloc (.cells (entC e A c).toArray 28)) w.heap.size (entC e A c) 28 := Blk.new' _ _ _ _ _ rfl rfl
  have hB0 : Below w.heap.size w (w.alloc (.cells (entC e A c).toArray 28)) := (Below.refl _ _).alloc (Nat.le_refl _) _
  by_cases a0 : e.job < 0
  · rw [checkR_no e (fun h => by have := h.1.1; omega)]
    clear he ho
    go_enter Try.func16, Try.ntmps16
    go_wp2_with (first | ((with_reducible apply st_load (n := 3) (cs := entC e A c) (T := 28)); rfl; exact hx0; exact Try.underlying26; rfl; exact verSize; (rw [entC_len HE.out]; decide); exact entC_ver HE.out A c) | ((with_reducible apply st_storeW (off := 0) (vs := verC e A c) (cs := [.int .i64 0, .slice none 0 0, .int .i64 0]) (T := 26)); rfl; rfl; exact Blk.new' _ _ _ _ _ rfl (by simp); exact verSize; (simp [verC]); exact verC_one _ _; intro w2 hd2 hw2; rw [laid_all _ _ (by rfl)] at hd2; have hx2 := hw2.blk (hx0.alloc _) (by simp); have hB2 := Wrote.below (hB0.alloc hB0.size _) hw2 (by simp); have c0 : w2.cell? ⟨w.heap.size, 0, none⟩ = some (.int .i64 e.job) := hx2.cell 0; have c1 : w2.cell? ⟨w.heap.size, 1, none⟩ = some (.int .i64 e.time) := hx2.cell 1; have k0 := hd2.cell 0; have k1 := hd2.cell 1; have k2 := hd2.cell 2; simp only [verC, List.getElem?_cons_zero, List.getElem?_cons_succ] at k0 k1 k2))
    go_ret
    exact ⟨rfl, hB2⟩
  · by_cases a1 : 63 < e.job
    · rw [checkR_no e (fun h => by have := h.1.2; omega)]
      clear he ho
      go_enter Try.func16, Try.ntmps16
      go_wp2_with (first | ((with_reducible apply st_load (n := 3) (cs := entC e A c) (T := 28)); rfl; exact hx0; exact Try.underlying26; rfl; exact verSize; (rw [entC_len HE.out]; decide); exact entC_ver HE.out A c) | ((with_reducible apply st_storeW (off := 0) (vs := verC e A c) (cs := [.int .i64 0, .slice none 0 0, .int .i64 0]) (T := 26)); rfl; rfl; exact Blk.new' _ _ _ _ _ rfl (by simp); exact verSize; (simp [verC]); exact verC_one _ _; intro w2 hd2 hw2; rw [laid_all _ _ (by rfl)] at hd2; have hx2 := hw2.blk (hx0.alloc _) (by simp); have hB2 := Wrote.below (hB0.alloc hB0.size _) hw2 (by simp); have c0 : w2.cell? ⟨w.heap.size, 0, none⟩ = some (.int .i64 e.job) := hx2.cell 0; have c1 : w2.cell? ⟨w.heap.size, 1, none⟩ = some (.int .i64 e.time) := hx2.cell 1; have k0 := hd2.cell 0; have k1 := hd2.cell 1; have k2 := hd2.cell 2; simp only [verC, List.getElem?_cons_zero, List.getElem?_cons_succ] at k0 k1 k2))
      go_ret
      exact ⟨rfl, hB2⟩
    · by_cases a2 : e.time < 0
      · rw [checkR_no e (fun h => by have := h.2.1.1; omega)]
        clear he ho
        go_enter Try.func16, Try.ntmps16
        go_wp2_with (first | ((with_reducible apply st_load (n := 3) (cs := entC e A c) (T := 28)); rfl; exact hx0; exact Try.underlying26; rfl; exact verSize; (rw [entC_len HE.out]; decide); exact entC_ver HE.out A c) | ((with_reducible apply st_storeW (off := 0) (vs := verC e A c) (cs := [.int .i64 0, .slice none 0 0, .int .i64 0]) (T := 26)); rfl; rfl; exact Blk.new' _ _ _ _ _ rfl (by simp); exact verSize; (simp [verC]); exact verC_one _ _; intro w2 hd2 hw2; rw [laid_all _ _ (by rfl)] at hd2; have hx2 := hw2.blk (hx0.alloc _) (by simp); have hB2 := Wrote.below (hB0.alloc hB0.size _) hw2 (by simp); have c0 : w2.cell? ⟨w.heap.size, 0, none⟩ = some (.int .i64 e.job) := hx2.cell 0; have c1 : w2.cell? ⟨w.heap.size, 1, none⟩ = some (.int .i64 e.time) := hx2.cell 1; have k0 := hd2.cell 0; have k1 := hd2.cell 1; have k2 := hd2.cell 2; simp only [verC, List.getElem?_cons_zero, List.getElem?_cons_succ] at k0 k1 k2))
        go_ret
        exact ⟨rfl, hB2⟩
      · by_cases a3 : 1099511627776 < e.time
        · rw [checkR_no e (fun h => by have := h.2.1.2; omega)]
          clear he ho
          go_enter Try.func16, Try.ntmps16
          go_wp2_with (first | ((with_reducible apply st_load (n := 3) (cs := entC e A c) (T := 28)); rfl; exact hx0; exact Try.underlying26; rfl; exact verSize; (rw [entC_len HE.out]; decide); exact entC_ver HE.out A c) | ((with_reducible apply st_storeW (off := 0) (vs := verC e A c) (cs := [.int .i64 0, .slice none 0 0, .int .i64 0]) (T := 26)); rfl; rfl; exact Blk.new' _ _ _ _ _ rfl (by simp); exact verSize; (simp [verC]); exact verC_one _ _; intro w2 hd2 hw2; rw [laid_all _ _ (by rfl)] at hd2; have hx2 := hw2.blk (hx0.alloc _) (by simp); have hB2 := Wrote.below (hB0.alloc hB0.size _) hw2 (by simp); have c0 : w2.cell? ⟨w.heap.size, 0, none⟩ = some (.int .i64 e.job) := hx2.cell 0; have c1 : w2.cell? ⟨w.heap.size, 1, none⟩ = some (.int .i64 e.time) := hx2.cell 1; have k0 := hd2.cell 0; have k1 := hd2.cell 1; have k2 := hd2.cell 2; simp only [verC, List.getElem?_cons_zero, List.getElem?_cons_succ] at k0 k1 k2))
          go_ret
          exact ⟨rfl, hB2⟩
        · by_cases a4 : e.kind < 1
          · rw [checkR_no e (fun h => by have := h.2.2.1.1; omega)]
            clear he ho
            go_enter Try.func16, Try.ntmps16
            go_wp2_with (first | ((with_reducible apply st_load (n := 3) (cs := entC e A c) (T := 28)); rfl; exact hx0; exact Try.underlying26; rfl; exact verSize; (rw [entC_len HE.out]; decide); exact entC_ver HE.out A c) | ((with_reducible apply st_storeW (off := 0) (vs := verC e A c) (cs := [.int .i64 0, .slice none 0 0, .int .i64 0]) (T := 26)); rfl; rfl; exact Blk.new' _ _ _ _ _ rfl (by simp); exact verSize; (simp [verC]); exact verC_one _ _; intro w2 hd2 hw2; rw [laid_all _ _ (by rfl)] at hd2; have hx2 := hw2.blk (hx0.alloc _) (by simp); have hB2 := Wrote.below (hB0.alloc hB0.size _) hw2 (by simp); have c0 : w2.cell? ⟨w.heap.size, 0, none⟩ = some (.int .i64 e.job) := hx2.cell 0; have c1 : w2.cell? ⟨w.heap.size, 1, none⟩ = some (.int .i64 e.time) := hx2.cell 1; have k0 := hd2.cell 0; have k1 := hd2.cell 1; have k2 := hd2.cell 2; simp only [verC, List.getElem?_cons_zero, List.getElem?_cons_succ] at k0 k1 k2))
            go_ret
            exact ⟨rfl, hB2⟩
          · by_cases a5 : 4 < e.kind
            · rw [checkR_no e (fun h => by have := h.2.2.1.2; omega)]
              clear he ho
              go_enter Try.func16, Try.ntmps16
              go_wp2_with (first | ((with_reducible apply st_load (n := 3) (cs := entC e A c) (T := 28)); rfl; exact hx0; exact Try.underlying26; rfl; exact verSize; (rw [entC_len HE.out]; decide); exact entC_ver HE.out A c) | ((with_reducible apply st_storeW (off := 0) (vs := verC e A c) (cs := [.int .i64 0, .slice none 0 0, .int .i64 0]) (T := 26)); rfl; rfl; exact Blk.new' _ _ _ _ _ rfl (by simp); exact verSize; (simp [verC]); exact verC_one _ _; intro w2 hd2 hw2; rw [laid_all _ _ (by rfl)] at hd2; have hx2 := hw2.blk (hx0.alloc _) (by simp); have hB2 := Wrote.below (hB0.alloc hB0.size _) hw2 (by simp); have c0 : w2.cell? ⟨w.heap.size, 0, none⟩ = some (.int .i64 e.job) := hx2.cell 0; have c1 : w2.cell? ⟨w.heap.size, 1, none⟩ = some (.int .i64 e.time) := hx2.cell 1; have k0 := hd2.cell 0; have k1 := hd2.cell 1; have k2 := hd2.cell 2; simp only [verC, List.getElem?_cons_zero, List.getElem?_cons_succ] at k0 k1 k2))
              go_ret
              exact ⟨rfl, hB2⟩
            · by_cases a6 : e.tries < 0
              · rw [checkR_no e (fun h => by have := h.2.2.2.1.1; omega)]
                clear he ho
                go_enter Try.func16, Try.ntmps16
                go_wp2_with (first | ((with_reducible apply st_load (n := 3) (cs := entC e A c) (T := 28)); rfl; exact hx0; exact Try.underlying26; rfl; exact verSize; (rw [entC_len HE.out]; decide); exact entC_ver HE.out A c) | ((with_reducible apply st_storeW (off := 0) (vs := verC e A c) (cs := [.int .i64 0, .slice none 0 0, .int .i64 0]) (T := 26)); rfl; rfl; exact Blk.new' _ _ _ _ _ rfl (by simp); exact verSize; (simp [verC]); exact verC_one _ _; intro w2 hd2 hw2; rw [laid_all _ _ (by rfl)] at hd2; have hx2 := hw2.blk (hx0.alloc _) (by simp); have hB2 := Wrote.below (hB0.alloc hB0.size _) hw2 (by simp); have c0 : w2.cell? ⟨w.heap.size, 0, none⟩ = some (.int .i64 e.job) := hx2.cell 0; have c1 : w2.cell? ⟨w.heap.size, 1, none⟩ = some (.int .i64 e.time) := hx2.cell 1; have k0 := hd2.cell 0; have k1 := hd2.cell 1; have k2 := hd2.cell 2; simp only [verC, List.getElem?_cons_zero, List.getElem?_cons_succ] at k0 k1 k2))
                go_ret
                exact ⟨rfl, hB2⟩
              · by_cases a7 : 1073741824 < e.tries
                · rw [checkR_no e (fun h => by have := h.2.2.2.1.2; omega)]
                  clear he ho
                  go_enter Try.func16, Try.ntmps16
                  go_wp2_with (first | ((with_reducible apply st_load (n := 3) (cs := entC e A c) (T := 28)); rfl; exact hx0; exact Try.underlying26; rfl; exact verSize; (rw [entC_len HE.out]; decide); exact entC_ver HE.out A c) | ((with_reducible apply st_storeW (off := 0) (vs := verC e A c) (cs := [.int .i64 0, .slice none 0 0, .int .i64 0]) (T := 26)); rfl; rfl; exact Blk.new' _ _ _ _ _ rfl (by simp); exact verSize; (simp [verC]); exact verC_one _ _; intro w2 hd2 hw2; rw [laid_all _ _ (by rfl)] at hd2; have hx2 := hw2.blk (hx0.alloc _) (by simp); have hB2 := Wrote.below (hB0.alloc hB0.size _) hw2 (by simp); have c0 : w2.cell? ⟨w.heap.size, 0, none⟩ = some (.int .i64 e.job) := hx2.cell 0; have c1 : w2.cell? ⟨w.heap.size, 1, none⟩ = some (.int .i64 e.time) := hx2.cell 1; have k0 := hd2.cell 0; have k1 := hd2.cell 1; have k2 := hd2.cell 2; simp only [verC, List.getElem?_cons_zero, List.getElem?_cons_succ] at k0 k1 k2))
                  go_ret
                  exact ⟨rfl, hB2⟩
                · have hck : (e.kind = 1 ∨ e.ord = []) → OrdE e.ord → checkR e = 0 := fun h4 h => checkR_yes e ⟨by omega, by omega, by omega, by omega, h4, h⟩
                  have hcn : ∀ k, k < e.ord.length → (ga e.ord k < 0 ∨ 63 < ga e.ord k ∨ ga e.ord k ∈ e.ord.take k) → checkR e = 2 := fun k hk h => checkR_no e (fun g => ord_not hk h g.2.2.2.2.2)
                  by_cases hkind : e.kind = 1
                  · have b1 : (e.kind != 1) = false := by rw [hkind]; rfl
                    have hck := hck (.inl hkind)
                    obtain ⟨R, hR⟩ : ∃ R, R = checkR e := ⟨_, rfl⟩
                    rw [← hR] at hck hcn ⊢
                    have HCK := Lib.hid hck
                    have HCN := Lib.hid hcn
                    clear hck hcn hR hkind
                    clear he ho
                    go_enter Try.func16, Try.ntmps16
                    go_wp2_with (first | ((with_reducible apply st_load (n := 3) (cs := entC e A c) (T := 28)); rfl; exact hx0; exact Try.underlying26; rfl; exact verSize; (rw [entC_len HE.out]; decide); exact entC_ver HE.out A c) | ((with_reducible apply st_storeW (off := 0) (vs := verC e A c) (cs := [.int .i64 0, .slice none 0 0, .int .i64 0]) (T := 26)); rfl; rfl; exact Blk.new' _ _ _ _ _ rfl (by simp); exact verSize; (simp [verC]); exact verC_one _ _; intro w2 hd2 hw2; rw [laid_all _ _ (by rfl)] at hd2; have hx2 := hw2.blk (hx0.alloc _) (by simp); have hB2 := Wrote.below (hB0.alloc hB0.size _) hw2 (by simp); have c0 : w2.cell? ⟨w.heap.size, 0, none⟩ = some (.int .i64 e.job) := hx2.cell 0; have c1 : w2.cell? ⟨w.heap.size, 1, none⟩ = some (.int .i64 e.time) := hx2.cell 1; have k0 := hd2.cell 0; have k1 := hd2.cell 1; have k2 := hd2.cell 2; simp only [verC, List.getElem?_cons_zero, List.getElem?_cons_succ] at k0 k1 k2))
                    have g1 : w.heap.size + 1 < w2.heap.size := hd2.lt
                    clear hx0 hB0 hw2 hx2 c0 c1 k0 k2
                    go_loopw [4] (fun i wr => ∃ k : Nat, i = .int .i64 k ∧ k ≤ e.ord.length ∧ Hid (OrdE (e.ord.take k)) ∧ Below w2.heap.size w2 wr) (fun i _ => e.ord.length - (intOf i).toNat)
                    case atStart => exact ⟨0, rfl, by omega, ⟨fun x hx => by simp at hx, by simp⟩, Below.refl _ _⟩
                    case round =>
                      obtain ⟨k, rfl, hk, HR, hBr⟩ := hrel
                      have k1r : wr.cell? ⟨w.heap.size + 1, 1, none⟩ = some (.slice A e.ord.length c) := (hBr.cell (p := ⟨w.heap.size + 1, 1, none⟩) g1).trans k1
                      by_cases hlt : k < e.ord.length
                      · obtain ⟨g, o, rfl, hg, hc⟩ := HO.out.get (by omega)
                        have hg2 : g < w2.heap.size := by omega
                        have hcw : ∀ j, j < e.ord.length → w2.cell? ⟨g, o + j, none⟩ = some (.int .i64 (ga e.ord j)) := fun j hj => (hB2.cell (p := ⟨g, o + j, none⟩) hg).trans (hc j hj)
                        have cx := (hBr.cell (p := ⟨g, o + k, none⟩) hg2).trans (hcw k hlt)
                        have cx2 := hcw k hlt
                        have hcn := HCN.out k hlt
                        have htk := take_at e.ord k hlt
                        rw [← ga_eq] at htk
                        have hos := fun a b c => ord_snoc (x := ga e.ord k) HR.out a b c
                        rw [← htk] at hos
                        obtain ⟨x, hx⟩ : ∃ x, x = ga e.ord k := ⟨_, rfl⟩
                        rw [← hx] at cx cx2 hcn hos
                        have HCW := Lib.hid hcw
                        have CX2 := Lib.hid cx2
                        have HKT := Lib.hid hBr
                        clear hc htk hx hcw cx2
                        by_cases hx0 : x < 0
                        · have HN := Lib.hid (hcn (.inl hx0))
                          clear hcn hos
                          go_wp2_with fail
                          go_ret
                          exact ⟨by rw [HN.out]; rfl, hB2.trans (hBr.mono hB2.size)⟩
                        · by_cases hx1 : 63 < x
                          · have HN := Lib.hid (hcn (.inr (.inl (by omega))))
                            clear hcn hos
                            go_wp2_with fail
                            go_ret
                            exact ⟨by rw [HN.out]; rfl, hB2.trans (hBr.mono hB2.size)⟩
                          · have hos := hos (by omega) (by omega)
                            have hcn := fun h => hcn (.inr (.inr h))
                            have HOS := Lib.hid hos
                            have HCX := Lib.hid hcn
                            clear hcn hos
                            go_wp2_with fail
                            obtain ⟨wo, rfl⟩ : ∃ wo : World, wo = wr := ⟨_, rfl⟩
                            go_loopw [5] (fun j wr => ∃ m : Nat, j = .int .i64 m ∧ m ≤ k ∧ Hid (x ∉ e.ord.take m) ∧ Below w2.heap.size w2 wr) (fun j _ => k - (intOf j).toNat)
                            case atStart => exact ⟨0, rfl, by omega, (by show x ∉ e.ord.take 0; simp), hBr⟩
                            case round =>
                              clear hBr k1r cx
                              obtain ⟨m, rfl, hm, HNM, hBr⟩ := hrel
                              have k1r : wr.cell? ⟨w.heap.size + 1, 1, none⟩ = some (.slice (some ⟨g, o, none⟩) e.ord.length c) := (hBr.cell (p := ⟨w.heap.size + 1, 1, none⟩) g1).trans k1
                              have cx := (hBr.cell (p := ⟨g, o + k, none⟩) hg2).trans CX2.out
                              by_cases hlm : m < k
                              · have cy := (hBr.cell (p := ⟨g, o + m, none⟩) hg2).trans (HCW.out m (by omega))
                                have htm := take_at e.ord m (by omega)
                                rw [← ga_eq] at htm
                                have hmk : ∀ z, z ∈ e.ord.take (m + 1) → z ∈ e.ord.take k := fun z hz => by
                                  have : e.ord.take (m + 1) = (e.ord.take k).take (m + 1) := by rw [List.take_take, Nat.min_eq_left (by omega)]
                                  rw [this] at hz; exact List.mem_of_mem_take hz
                                obtain ⟨y, hy⟩ : ∃ y, y = ga e.ord m := ⟨_, rfl⟩
                                rw [← hy] at cy htm
                                by_cases hyx : y = x
                                · have hin : x ∈ e.ord.take k := hmk x (by rw [htm, hyx]; simp)
                                  have HN := Lib.hid (HCX.out hin)
                                  have b1 : (y == x) = true := by simpa using hyx
                                  clear hin hyx hmk htm hy
                                  go_wp2_with fail
                                  refine wp_region_C (Same [w.heap.size + 1, g] wr) [] (by kernel_rfl) (by kernel_rfl) (by intro c a w h; first | (obtain ⟨_, h, _⟩ := h; cases h; done) | (obtain ⟨_, _, h, _⟩ := h; cases h; done) | (obtain ⟨_, _, _, h, _⟩ := h; cases h; done) | (obtain ⟨_, _, _, _, h, _⟩ := h; cases h; done)) (by intro a w h; first | (obtain ⟨h, _⟩ := h; cases h; done) | (obtain ⟨_, h, _⟩ := h; cases h; done) | (obtain ⟨_, _, h, _⟩ := h; cases h; done) | (obtain ⟨_, _, _, h, _⟩ := h; cases h; done)) (Same.refl _ _) ?_
                                  repeat (refine wd_q (v := ?_) rfl rfl rfl rfl rfl rfl (fun w' hw' K hK => ?_) ?_; rotate_left; (have e1 := (hw'.cell (w.heap.size + 1) (by simp) 1).trans k1r; have e2 := (hw'.cell g (by simp) (o + m)).trans cy; have e3 := (hw'.cell g (by simp) (o + k)).trans cx; go_wp2; exact rfl); simp only [Act.put, List.setIfInBounds_toArray, List.set_cons_zero, List.set_cons_succ])
                                  refine wd_nil ?_
                                  go_wp2_with fail
                                  go_ret
                                  exact ⟨by rw [HN.out]; rfl, hB2.trans (hBr.drew.mono hB2.size)⟩
                                · have hin : x ∉ e.ord.take (m + 1) := by
                                    rw [htm]; intro h
                                    rcases List.mem_append.1 h with h | h
                                    · exact HNM.out h
                                    · exact hyx (List.mem_singleton.1 h).symm
                                  have HN := Lib.hid hin
                                  have b1 : (y == x) = false := by simpa using hyx
                                  clear hin hyx hmk htm hy
                                  go_wp2_with fail
                                  refine wp_region_C (Same [w.heap.size + 1, g] wr) [] (by kernel_rfl) (by kernel_rfl) (by intro c a w h; first | (obtain ⟨_, h, _⟩ := h; cases h; done) | (obtain ⟨_, _, h, _⟩ := h; cases h; done) | (obtain ⟨_, _, _, h, _⟩ := h; cases h; done) | (obtain ⟨_, _, _, _, h, _⟩ := h; cases h; done)) (by intro a w h; first | (obtain ⟨h, _⟩ := h; cases h; done) | (obtain ⟨_, h, _⟩ := h; cases h; done) | (obtain ⟨_, _, h, _⟩ := h; cases h; done) | (obtain ⟨_, _, _, h, _⟩ := h; cases h; done)) (Same.refl _ _) ?_
                                  repeat (refine wd_q (v := ?_) rfl rfl rfl rfl rfl rfl (fun w' hw' K hK => ?_) ?_; rotate_left; (have e1 := (hw'.cell (w.heap.size + 1) (by simp) 1).trans k1r; have e2 := (hw'.cell g (by simp) (o + m)).trans cy; have e3 := (hw'.cell g (by simp) (o + k)).trans cx; go_wp2; exact rfl); simp only [Act.put, List.setIfInBounds_toArray, List.set_cons_zero, List.set_cons_succ])
                                  refine wd_nil ?_
                                  go_wp2_with fail
                                  go_roundw
                                  case rel => exact ⟨m + 1, by go_num, by omega, HN.out, hBr.drew⟩
                                  case measure => simp [intOf]; omega
                              · have hmk : m = k := by omega
                                have hnm := HNM.out
                                rw [hmk] at hnm
                                have HN := Lib.hid (HOS.out hnm)
                                clear hnm hmk
                                go_wp2_with fail
                                go_roundw
                                case rel => exact ⟨k + 1, by go_num, by omega, HN.out, hBr⟩
                                case measure => simp [intOf]; omega
                      · have hn := HCK.out (by
                          have := HR.out
                          rwa [List.take_of_length_le (by omega)] at this)
                        have HN := Lib.hid hn
                        clear hn
                        go_wp2_with fail
                        go_ret
                        exact ⟨by rw [HN.out]; rfl, hB2.trans (hBr.mono hB2.size)⟩
                  · have b1 : (e.kind != 1) = true := by simp; exact hkind
                    by_cases hz : 0 < e.ord.length
                    · rw [checkR_no e (fun h => hkind (h.2.2.2.2.1.resolve_right (fun h => by rw [h] at hz; simp at hz)))]
                      clear hck hcn hkind
                      clear he ho
                      go_enter Try.func16, Try.ntmps16
                      go_wp2_with (first | ((with_reducible apply st_load (n := 3) (cs := entC e A c) (T := 28)); rfl; exact hx0; exact Try.underlying26; rfl; exact verSize; (rw [entC_len HE.out]; decide); exact entC_ver HE.out A c) | ((with_reducible apply st_storeW (off := 0) (vs := verC e A c) (cs := [.int .i64 0, .slice none 0 0, .int .i64 0]) (T := 26)); rfl; rfl; exact Blk.new' _ _ _ _ _ rfl (by simp); exact verSize; (simp [verC]); exact verC_one _ _; intro w2 hd2 hw2; rw [laid_all _ _ (by rfl)] at hd2; have hx2 := hw2.blk (hx0.alloc _) (by simp); have hB2 := Wrote.below (hB0.alloc hB0.size _) hw2 (by simp); have c0 : w2.cell? ⟨w.heap.size, 0, none⟩ = some (.int .i64 e.job) := hx2.cell 0; have c1 : w2.cell? ⟨w.heap.size, 1, none⟩ = some (.int .i64 e.time) := hx2.cell 1; have k0 := hd2.cell 0; have k1 := hd2.cell 1; have k2 := hd2.cell 2; simp only [verC, List.getElem?_cons_zero, List.getElem?_cons_succ] at k0 k1 k2))
                      go_ret
                      exact ⟨rfl, hB2⟩
                    · have hck := hck (.inr (List.eq_nil_of_length_eq_zero (by omega)))
                      obtain ⟨R, hR⟩ : ∃ R, R = checkR e := ⟨_, rfl⟩
                      rw [← hR] at hck hcn ⊢
                      have HCK := Lib.hid hck
                      have HCN := Lib.hid hcn
                      have HZ := Lib.hid hz
                      clear hck hcn hR hkind hz
                      clear he ho
                      go_enter Try.func16, Try.ntmps16
                      go_wp2_with (first | ((with_reducible apply st_load (n := 3) (cs := entC e A c) (T := 28)); rfl; exact hx0; exact Try.underlying26; rfl; exact verSize; (rw [entC_len HE.out]; decide); exact entC_ver HE.out A c) | ((with_reducible apply st_storeW (off := 0) (vs := verC e A c) (cs := [.int .i64 0, .slice none 0 0, .int .i64 0]) (T := 26)); rfl; rfl; exact Blk.new' _ _ _ _ _ rfl (by simp); exact verSize; (simp [verC]); exact verC_one _ _; intro w2 hd2 hw2; rw [laid_all _ _ (by rfl)] at hd2; have hx2 := hw2.blk (hx0.alloc _) (by simp); have hB2 := Wrote.below (hB0.alloc hB0.size _) hw2 (by simp); have c0 : w2.cell? ⟨w.heap.size, 0, none⟩ = some (.int .i64 e.job) := hx2.cell 0; have c1 : w2.cell? ⟨w.heap.size, 1, none⟩ = some (.int .i64 e.time) := hx2.cell 1; have k0 := hd2.cell 0; have k1 := hd2.cell 1; have k2 := hd2.cell 2; simp only [verC, List.getElem?_cons_zero, List.getElem?_cons_succ] at k0 k1 k2))
                      have g1 : w.heap.size + 1 < w2.heap.size := hd2.lt
                      clear hx0 hB0 hw2 hx2 c0 c1 k0 k2
                      go_loopw [4] (fun i wr => ∃ k : Nat, i = .int .i64 k ∧ k ≤ e.ord.length ∧ Hid (OrdE (e.ord.take k)) ∧ Below w2.heap.size w2 wr) (fun i _ => e.ord.length - (intOf i).toNat)
                      case atStart => exact ⟨0, rfl, by omega, ⟨fun x hx => by simp at hx, by simp⟩, Below.refl _ _⟩
                      case round =>
                        obtain ⟨k, rfl, hk, HR, hBr⟩ := hrel
                        have k1r : wr.cell? ⟨w.heap.size + 1, 1, none⟩ = some (.slice A e.ord.length c) := (hBr.cell (p := ⟨w.heap.size + 1, 1, none⟩) g1).trans k1
                        by_cases hlt : k < e.ord.length
                        · exfalso; have := HZ.out; omega
                        · have hn := HCK.out (by
                            have := HR.out
                            rwa [List.take_of_length_le (by omega)] at this)
                          have HN := Lib.hid hn
                          clear hn
                          go_wp2_with fail
                          go_ret
                          exact ⟨by rw [HN.out]; rfl, hB2.trans (hBr.mono hB2.size)⟩

end Go.Proofs.Ytepicdcmcagipaa
