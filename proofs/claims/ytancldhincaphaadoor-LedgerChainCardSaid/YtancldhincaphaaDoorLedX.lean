/- What a ledger's Texts, Path and Growth answer. Condition: the table of layer 2 reads as its text lays it (Path, Growth). -/
import Derived.Test.YtancldhincaphaaDoorLedH
import Derived.Test.YtancldhincaphaaDoorTl
import Derived.Test.YtancldhincaphaaDoorGk
import Derived.Test.YtancldhincaphaaDoorFill
namespace Go.Proofs.YtancldhincaphaaDoor
open Go.RowKit
set_option maxRecDepth 100000

set_option maxRecDepth 100000 in
set_option maxHeartbeats 4000000 in
theorem ledtexts_any {w : World} {base g : Nat} {key : List Int} {T : List (List Int)} {F : Nat → Prop} (hL : Led w base g key T F) (hT : T.length ≤ 64) (hTb : ∀ x ∈ T, x.length ≤ 1000) :
    Calls Tryd.prog 19 #[.pointer (some ⟨g, 0, none⟩)] w fun e w' => ∃ v, e = .returned v ∧ Below w.heap.size w w' ∧ TL w' w.heap.size T v := by
  have hsize := ledsize_any hL
  obtain ⟨S, K, ck, tv, lv, cv, cs, H⟩ := hL
  obtain ⟨At, ct, rfl, -, -, h3, -⟩ := H.own.from
  have hb := H.blk
  rw [H.txt.1] at hb
  have hl := hb.lt
  have HB := Lib.hid hb
  have HT := Lib.hid H.txt
  have HR := Lib.hid h3
  have HTB := Lib.hid hTb
  have HSZ := Lib.hid hsize
  clear H hb h3 hTb hsize
  go_enter Tryd.func19, Tryd.ntmps19
  go_wp2_with fail
  go_at_call 23
  refine HSZ.out.mono ?_
  rintro e wz ⟨rfl, rfl⟩
  go_wp2_with fail
  --MARK1
  go_loopw [3, 7] (fun v i wr => ∃ k : Nat, i = .int .i64 k ∧ k ≤ T.length ∧ Below w.heap.size w wr ∧ TL wr w.heap.size (T.take k) v) (fun _ i _ => T.length - (intOf i).toNat)
  case atStart => exact ⟨0, rfl, by omega, Below.refl _ _, TL.nil _ _⟩
  case round =>
    obtain ⟨k, rfl, hk, hB, htv⟩ := hrel
    by_cases hlt : k < T.length
    · obtain ⟨B, d, hj, hby, -⟩ := HT.out.2 k hlt
      have hlen := HTB.out _ (List.getElem_mem hlt)
      have hstep : T.take (k + 1) = T.take k ++ [T[k]] := by rw [List.take_add_one, List.getElem?_eq_getElem hlt]; rfl
      have htl : (T.take k).length ≤ 1000000 := by rw [List.length_take]; omega
      obtain ⟨b, hb⟩ : ∃ b, b = T[k] := ⟨_, rfl⟩
      rw [← hb] at hj hby hlen hstep
      have hcell : ∃ gt off, At = some ⟨gt, off, none⟩ ∧ w.cell? ⟨gt, off + k, none⟩ = some (.slice B b.length d) := by
        rcases HR.out with h | ⟨gt, off, h1, h2⟩
        · rw [h] at hj; simp at hj
        · exact ⟨gt, off, h1, h2 k _ hj⟩
      obtain ⟨gt, off, rfl, hcl⟩ := hcell
      have hgt := World.block_lt_of_cell? (h := hcl)
      have c1 := (hB.cell (p := ⟨gt, off + k, none⟩) hgt).trans hcl
      have c2 : wr.cell? ⟨g, 2, none⟩ = some (.slice (some ⟨gt, off, none⟩) T.length ct) := (hB.cell (p := ⟨g, 2, none⟩) hl).trans (HB.out.cell 2)
      have hlr := Nat.lt_of_lt_of_le hl hB.size
      have hvlt : ∀ q, u3.ownBlock = some q → q < wr.heap.size := fun q hq => (htv.own q hq).2
      have HBY := Lib.hid (hby.up hB)
      have HST := Lib.hid hstep
      have HTL := Lib.hid htl
      have HTV := Lib.hid htv
      have HVLT := Lib.hid hvlt
      clear hj hby hb hstep htl htv hvlt hcl
      go_wp2_with fail
      --MARK2
      go_at_call 45
      refine (clone_any wr B d b HBY.out (by omega)).mono ?_
      rintro e w2 ⟨v2, rfl, hb2, ho2⟩
      obtain ⟨B2, d2, rfl, hy2, hn2⟩ := ho2.byt HBY.out.u
      have hlt2 : ∀ a, B2 = some a → a.block < w2.heap.size := fun a ha => (World.ownsRow.lt ho2 a.block (by rw [ha]; rfl)).2
      have hb3 : Below w2.heap.size w2 (w2.alloc (.cells #[.slice B2 b.length d2] 22)) := (Below.refl _ _).alloc (Nat.le_refl _) _
      have hq : Blk (w2.alloc (.cells #[.slice B2 b.length d2] 22)) w2.heap.size [.slice B2 b.length d2] 22 := Blk.new' _ _ _ _ _ rfl rfl
      have htv3 := (HTV.out.up hb2).up hb3
      have hy3 := hy2.up hb3
      have hs3 := hb3.size
      have hs2 := hb2.size
      have hB3 := (hB.trans (hb2.mono hB.size)).trans (hb3.mono (by have := hB.size; omega))
      have hs0 := hB.size
      go_wp2_with ((with_reducible apply st_pushL (base := w.heap.size) (g2 := w2.heap.size) (v := u3) (L := T.take k) (b := b) (B := B2) (d := d2)); rfl; rfl; exact htv3; exact hq; exact hy3; (exact fun a ha => ⟨by have := hn2 a ha; omega, by have := hlt2 a ha; omega, fun e => by have h5 := HVLT.out _ e; have h6 := hn2 a ha; omega⟩); exact HTL.out; exact hB3.size; (intro v4 w4 htv4 hg4; rw [← HST.out] at htv4; have hB4 := hB3.grown hg4 hB3.size (fun k hk => (htv3.own k hk).1)))
      --MARK3
      go_roundw
      case rel => exact ⟨k + 1, by go_num, by omega, hB4, htv4⟩
      case measure => simp [intOf]; omega
    · have e9 : T.take k = T := List.take_of_length_le (by omega)
      rw [e9] at htv
      clear e9
      go_wp2_with fail
      go_ret
      exact ⟨_, rfl, hB, htv⟩

/-- What the path of a place among the first n is, and the growth from the first m. -/
def lpathR (T : List (List Int)) (i n : Int) : List (List Int) × Int := if 0 ≤ n ∧ n ≤ T.length ∧ 0 ≤ i ∧ i < n then (pathF (lleavesF (T.take n.toNat)) i 256, 0) else ([], 9)
def lgrowthR (T : List (List Int)) (m n : Int) : List (List Int) × Int := if 0 ≤ n ∧ n ≤ T.length ∧ 1 ≤ m ∧ m ≤ n then (growthF (lleavesF (T.take n.toNat)) m.toNat 256 true, 0) else ([], 9)

set_option maxRecDepth 100000 in
set_option maxHeartbeats 4000000 in
theorem ledpath_any {w : World} {base g : Nat} {key : List Int} {T : List (List Int)} {F : Nat → Prop} (hL : Led w base g key T F) (hT : T.length ≤ 64) (i n : Int) (hk : KV w) :
    Calls Tryd.prog 33 #[.pointer (some ⟨g, 0, none⟩), .int .i64 i, .int .i64 n] w (GivesDE (lpathR T i n) w) := by
  have hfi := ledfirst_any hL n
  by_cases hn : 0 ≤ n ∧ n ≤ T.length
  · rw [show firstR T n = 0 from if_pos hn] at hfi
    obtain ⟨N, rfl⟩ : ∃ N : Nat, n = N := ⟨n.toNat, by omega⟩
    have hN : N ≤ T.length := by omega
    obtain ⟨S, K, ck, tv, lv, cv, cs, H⟩ := hL
    obtain ⟨Al, cl, rfl, hdl, -⟩ := H.lea.dg
    have hb := H.blk
    rw [lleavesF_len] at hb
    have c3 : w.cell? ⟨g, 3, none⟩ = some (.slice Al T.length cl) := hb.cell 3
    have hg := hb.lt
    have hsp : ∀ ad, Al = some ad → ad.spot = none := fun ad ha => by
      subst ha
      rcases H.lea.1.2 with ⟨h, _⟩ | ⟨g', cap, cur, hv, _⟩
      · injection h with h; cases h
      · injection hv with h; injection h with h; rw [h]
    have hle := hdl.le
    rw [lleavesF_len] at hle
    have hlen : ((lleavesF T).take N).length = N := by rw [List.length_take, lleavesF_len]; omega
    have hcall := Path_any w ((lleavesF T).take N) Al cl (hdl.take N (by rw [lleavesF_len]; exact hN)) (by omega) i 256 hk
    rw [hlen, ← lleavesF_take] at hcall
    have hll : (lleavesF (T.take N)).length = N := by rw [lleavesF_len, List.length_take]; omega
    have HFI := Lib.hid hfi
    have HC := Lib.hid hcall
    have HNN := Lib.hid hdl.nn
    have HSP := Lib.hid hsp
    by_cases hi : 0 ≤ i ∧ i < N
    · have hr : lpathR T i N = (pathF (lleavesF (T.take N)) i 256, 0) := by unfold lpathR; rw [if_pos (by omega)]; simp
      have hr2 : pathR (lleavesF (T.take N)) i 256 = (pathF (lleavesF (T.take N)) i 256, 0) := by unfold pathR; rw [if_pos (by rw [hll]; omega)]
      rw [hr]
      rw [hr2] at hcall
      obtain ⟨P, hP⟩ : ∃ P, P = pathF (lleavesF (T.take N)) i 256 := ⟨_, rfl⟩
      rw [← hP] at hcall ⊢
      have HC := Lib.hid hcall
      clear hfi hcall hdl hlen hll hr hr2 hP H hb hsp hi hk hn
      go_enter Tryd.func33, Tryd.ntmps33
      go_wp2_with fail
      go_at_call 46
      refine HFI.out.mono ?_
      rintro e wz ⟨rfl, rfl⟩
      go_wp2_with ((with_reducible apply st_toD (sz := 32) (i := N)); exact Tryd.underlying66; kernel_rfl; rfl; rfl; rfl; omega; exact HNN.out; exact HSP.out)
      --MARK4
      go_at_call 62
      refine HC.out.mono ?_
      rintro e w2 ⟨v2, rfl, hb2, ho2⟩
      go_wp2_with fail
      go_ret2
      exact ⟨v2, rfl, hb2, ho2⟩
    · have hr : lpathR T i N = ([], 9) := by unfold lpathR; rw [if_neg (by omega)]
      have hr2 : pathR (lleavesF (T.take N)) i 256 = ([], 2) := by unfold pathR; rw [if_neg (by rw [hll]; omega)]
      rw [hr]
      rw [hr2] at hcall
      have HC := Lib.hid hcall
      clear hfi hcall hdl hlen hll hr hr2 H hb hsp hi hk hn
      go_enter Tryd.func33, Tryd.ntmps33
      go_wp2_with fail
      go_at_call 46
      refine HFI.out.mono ?_
      rintro e wz ⟨rfl, rfl⟩
      go_wp2_with ((with_reducible apply st_toD (sz := 32) (i := N)); exact Tryd.underlying66; kernel_rfl; rfl; rfl; rfl; omega; exact HNN.out; exact HSP.out)
      go_at_call 62
      refine HC.out.mono ?_
      rintro e w2 ⟨v2, rfl, hb2, ho2⟩
      go_wp2_with fail
      go_ret2
      exact ⟨_, rfl, hb2, OwnD.nil _ _⟩
  · rw [show firstR T n = 9 from if_neg hn] at hfi
    have hr : lpathR T i n = ([], 9) := by unfold lpathR; rw [if_neg (by omega)]
    rw [hr]
    have HFI := Lib.hid hfi
    clear hfi hr hn hk hL
    go_enter Tryd.func33, Tryd.ntmps33
    go_wp2_with fail
    go_at_call 46
    refine HFI.out.mono ?_
    rintro e wz ⟨rfl, rfl⟩
    go_wp2_with fail
    go_ret2
    exact ⟨_, rfl, Below.refl _ _, OwnD.nil _ _⟩

set_option maxRecDepth 100000 in
set_option maxHeartbeats 4000000 in
theorem ledgrowth_any {w : World} {base g : Nat} {key : List Int} {T : List (List Int)} {F : Nat → Prop} (hL : Led w base g key T F) (hT : T.length ≤ 64) (i n : Int) (hk : KV w) :
    Calls Tryd.prog 34 #[.pointer (some ⟨g, 0, none⟩), .int .i64 i, .int .i64 n] w (GivesDE (lgrowthR T i n) w) := by
  have hfi := ledfirst_any hL n
  by_cases hn : 0 ≤ n ∧ n ≤ T.length
  · rw [show firstR T n = 0 from if_pos hn] at hfi
    obtain ⟨N, rfl⟩ : ∃ N : Nat, n = N := ⟨n.toNat, by omega⟩
    have hN : N ≤ T.length := by omega
    obtain ⟨S, K, ck, tv, lv, cv, cs, H⟩ := hL
    obtain ⟨Al, cl, rfl, hdl, -⟩ := H.lea.dg
    have hb := H.blk
    rw [lleavesF_len] at hb
    have c3 : w.cell? ⟨g, 3, none⟩ = some (.slice Al T.length cl) := hb.cell 3
    have hg := hb.lt
    have hsp : ∀ ad, Al = some ad → ad.spot = none := fun ad ha => by
      subst ha
      rcases H.lea.1.2 with ⟨h, _⟩ | ⟨g', cap, cur, hv, _⟩
      · injection h with h; cases h
      · injection hv with h; injection h with h; rw [h]
    have hle := hdl.le
    rw [lleavesF_len] at hle
    have hlen : ((lleavesF T).take N).length = N := by rw [List.length_take, lleavesF_len]; omega
    have hcall := Growth_any w ((lleavesF T).take N) Al cl (hdl.take N (by rw [lleavesF_len]; exact hN)) (by omega) i 256 hk
    rw [hlen, ← lleavesF_take] at hcall
    have hll : (lleavesF (T.take N)).length = N := by rw [lleavesF_len, List.length_take]; omega
    have HFI := Lib.hid hfi
    have HC := Lib.hid hcall
    have HNN := Lib.hid hdl.nn
    have HSP := Lib.hid hsp
    by_cases hi : 1 ≤ i ∧ i ≤ N
    · have hr : lgrowthR T i N = (growthF (lleavesF (T.take N)) i.toNat 256 true, 0) := by unfold lgrowthR; rw [if_pos (by omega)]; simp
      have hr2 : growthR (lleavesF (T.take N)) i 256 = (growthF (lleavesF (T.take N)) i.toNat 256 true, 0) := by unfold growthR; rw [if_pos (by rw [hll]; omega)]
      rw [hr]
      rw [hr2] at hcall
      obtain ⟨P, hP⟩ : ∃ P, P = growthF (lleavesF (T.take N)) i.toNat 256 true := ⟨_, rfl⟩
      rw [← hP] at hcall ⊢
      have HC := Lib.hid hcall
      clear hfi hcall hdl hlen hll hr hr2 hP H hb hsp hi hk hn
      go_enter Tryd.func34, Tryd.ntmps34
      go_wp2_with fail
      go_at_call 46
      refine HFI.out.mono ?_
      rintro e wz ⟨rfl, rfl⟩
      go_wp2_with ((with_reducible apply st_toD (sz := 32) (i := N)); exact Tryd.underlying66; kernel_rfl; rfl; rfl; rfl; omega; exact HNN.out; exact HSP.out)
      --MARK4
      go_at_call 63
      refine HC.out.mono ?_
      rintro e w2 ⟨v2, rfl, hb2, ho2⟩
      go_wp2_with fail
      go_ret2
      exact ⟨v2, rfl, hb2, ho2⟩
    · have hr : lgrowthR T i N = ([], 9) := by unfold lgrowthR; rw [if_neg (by omega)]
      have hr2 : growthR (lleavesF (T.take N)) i 256 = ([], 2) := by unfold growthR; rw [if_neg (by rw [hll]; omega)]
      rw [hr]
      rw [hr2] at hcall
      have HC := Lib.hid hcall
      clear hfi hcall hdl hlen hll hr hr2 H hb hsp hi hk hn
      go_enter Tryd.func34, Tryd.ntmps34
      go_wp2_with fail
      go_at_call 46
      refine HFI.out.mono ?_
      rintro e wz ⟨rfl, rfl⟩
      go_wp2_with ((with_reducible apply st_toD (sz := 32) (i := N)); exact Tryd.underlying66; kernel_rfl; rfl; rfl; rfl; omega; exact HNN.out; exact HSP.out)
      go_at_call 63
      refine HC.out.mono ?_
      rintro e w2 ⟨v2, rfl, hb2, ho2⟩
      go_wp2_with fail
      go_ret2
      exact ⟨_, rfl, hb2, OwnD.nil _ _⟩
  · rw [show firstR T n = 9 from if_neg hn] at hfi
    have hr : lgrowthR T i n = ([], 9) := by unfold lgrowthR; rw [if_neg (by omega)]
    rw [hr]
    have HFI := Lib.hid hfi
    clear hfi hr hn hk hL
    go_enter Tryd.func34, Tryd.ntmps34
    go_wp2_with fail
    go_at_call 46
    refine HFI.out.mono ?_
    rintro e wz ⟨rfl, rfl⟩
    go_wp2_with fail
    go_ret2
    exact ⟨_, rfl, Below.refl _ _, OwnD.nil _ _⟩


end Go.Proofs.YtancldhincaphaaDoor
