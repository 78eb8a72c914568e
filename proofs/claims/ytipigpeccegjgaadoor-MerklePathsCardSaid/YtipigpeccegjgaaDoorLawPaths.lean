/- That inquestlaw06.MerklePaths returns true. Condition: the table of layer 2 reads as its text lays it. -/
import Derived.Test.YtipigpeccegjgaaDoorOver
namespace Go.Proofs.YtipigpeccegjgaaDoor
open Go.RowKit

set_option maxHeartbeats 8000000 in
set_option maxRecDepth 100000 in
theorem lawpaths_any (w : World) (ds0 : List (List Int)) (A : Option Addr) (c : Nat) (hd : Dg w A c ds0) (i : Int) (z : Int) (hk : KV w) :
    Calls Tryd.prog 6 #[.slice A ds0.length c, .int .i64 i, .int .i64 z] w fun e w' => e = .returned (.bool true) ∧ Below w.heap.size w w' := by
  obtain ⟨ds, hds⟩ : ∃ ds, ds = ds0.take 40 := ⟨_, rfl⟩
  have hl : ds.length ≤ 40 := by rw [hds, List.length_take]; omega
  have htt : ds.take 40 = ds := List.take_of_length_le hl
  have hf1 := few_any w ds0 A c hd 40 (by decide) 40 rfl
  rw [← hds] at hf1
  have hf2 := fun (w : World) (A : Option Addr) (c : Nat) (h : Dg w A c ds) => few_any w ds A c h 40 (by decide) 40 rfl
  rw [htt] at hf2
  have hu : Dgs ds := by rw [hds]; exact hd.u.take 40
  have hpl := (pathR_ok ds i z hu).2
  have hc1 := fun (w : World) (A : Option Addr) (c : Nat) (h : Dg w A c ds) => Path_any w ds A c h (by omega) i z
  have hc2 := fun (w : World) (A : Option Addr) (c : Nat) (h : Dg w A c ds) => refPath_any w ds A c h (by omega) i z
  obtain ⟨⟨p, en⟩, hr⟩ : ∃ r, r = pathR ds i z := ⟨_, rfl⟩
  rw [← hr] at hc1 hc2 hpl
  have hpl : p.length ≤ 41 := by simp only at hpl; omega
  have HF1 := Lib.hid hf1
  have HF2 := Lib.hid hf2
  have HC1 := Lib.hid hc1
  have HC2 := Lib.hid hc2
  have HK := Lib.hid hk
  clear hf1 hf2 hc1 hc2 hk hr hds htt hd hu
  go_enter Tryd.func6, Tryd.ntmps6
  go_wp2_with fail
  go_at_call 11
  refine HF1.out.mono ?_
  rintro e w1 ⟨v1, rfl, hB, ho1⟩
  obtain ⟨A1, c1, rfl, h1, hx1⟩ := ho1.dg
  go_wp2_with fail
  go_at_call 11
  refine (HF2.out w1 A1 c1 h1).mono ?_
  rintro e w2 ⟨v2, rfl, hb, ho2⟩
  obtain ⟨A2, c2, rfl, h2, hx2⟩ := ho2.dg
  have hB := hB.trans (hb.mono hB.size)
  have h1 := h1.up hb
  clear ho1 hx1 ho2 hx2 hb
  go_wp2_with fail
  go_at_call 27
  refine (HC1.out w2 A2 c2 h2 (HK.out.below hB HK.out.lt)).mono ?_
  rintro e w3 ⟨v3, rfl, hb3, ho3⟩
  have hB3 := hB.trans (hb3.mono hB.size)
  go_wp2_with fail
  go_at_call 28
  refine (HC2.out w3 A1 c1 (h1.up hb3)).mono ?_
  rintro e w4 ⟨v4, rfl, hb4, ho4⟩
  obtain ⟨Aq, cq, rfl, hq, hxq⟩ := ho4.dg
  have ho3' := ho3.kept hb4
  obtain ⟨Ap, cp, rfl, hp, _, _⟩ := ho3.slot
  obtain ⟨Ap2, cp2, hev, hp4, hxp, hslot⟩ := ho3'.slot
  injection hev with e1 _ e3
  subst e1 e3
  have hB4 := hB3.trans (hb4.mono hB3.size)
  have h14 := (h1.up hb3).up hb4
  have h24 := (h2.up hb3).up hb4
  have hpb : 0 < p.length → ∀ a, Ap = some a → a.block < w3.heap.size := fun h a ha => hp.lt h a ha
  have hlt1 : 0 < ds.length → ∀ a, A1 = some a → a.block < w2.heap.size := fun h a ha => h1.lt h a ha
  have hlt2 : 0 < ds.length → ∀ a, A2 = some a → a.block < w2.heap.size := fun h a ha => h2.lt h a ha
  have H14 := Lib.hid h14
  have H24 := Lib.hid h24
  have HPB := Lib.hid hpb
  have HL1 := Lib.hid hlt1
  have HL2 := Lib.hid hlt2
  have HXQ := Lib.hid hxq
  have HXP := Lib.hid hxp
  have HSL := Lib.hid hslot
  have hen : (en != en) = false := by simp
  clear h14 h24 hpb hlt1 hlt2 hxq hxp hslot ho3 ho3' ho4 h1 h2
  go_wp2_with fail
  go_at_call 14
  have hcall := samed_any w4 p p Ap Aq cp cq hp4 hq (by omega) (by omega)
  rw [decide_eq_true rfl] at hcall
  refine hcall.mono ?_; clear hcall
  rintro e w5 ⟨rfl, hb5⟩
  have hB5 := hB4.trans (hb5.mono hB4.size)
  have H15 := Lib.hid (H14.out.up hb5)
  have H25 := Lib.hid (H24.out.up hb5)
  have HQ5 := Lib.hid (hq.up hb5)
  have HSL5 : Hid (0 < p.length → ∃ g cs, Ap = some ⟨g, 0, none⟩ ∧ w2.heap.size ≤ g ∧ Blk w5 g cs 25 ∧ p.length * 32 ≤ cs.length) := fun h => by
    obtain ⟨g, cs, e1, e2, e3, e4, e5⟩ := HSL.out h
    exact ⟨g, cs, e1, e2, e4.up hb5, e5⟩
  clear HSL H14 H24 hp4 hq
  go_wp2_with fail
  go_loopw [12] (fun at_ wr => ∃ k : Nat, at_ = .int .i64 k ∧ k ≤ p.length ∧ Hid (Dg wr A1 c1 ds) ∧ Hid (Dg wr A2 c2 ds) ∧ Hid (Dg wr Aq cq p) ∧ Below w.heap.size w wr ∧
    Hid (0 < p.length → ∃ g cs, Ap = some ⟨g, 0, none⟩ ∧ w2.heap.size ≤ g ∧ Blk wr g cs 25 ∧ p.length * 32 ≤ cs.length)) (fun at_ _ => p.length - (intOf at_).toNat)
  case atStart => exact ⟨0, rfl, by omega, H15, H25, HQ5, hB5, HSL5⟩
  case round =>
    clear H15 H25 HQ5 hB5 HSL5
    obtain ⟨k, rfl, hk, K1, K2, KQ, hBr, HSL⟩ := hrel
    by_cases hlt : k < p.length
    · obtain ⟨g, cs, rfl, hg, hbk, hcl⟩ := HSL.out (by omega)
      have hgp := HPB.out (by omega) _ rfl
      have hwg : w.heap.size ≤ g := Nat.le_trans hB.size hg
      have HCL := Lib.hid hcl
      have hk32 : k * 32 + 32 ≤ cs.length := by omega
      have hglt := hbk.lt
      clear hcl
      simp only at hgp
      go_wp2_with (first | ((with_reducible apply st_litD (x := 7) (7 :: List.replicate 31 0) (by decide) (by kernel_rfl)); intro Z HZ hzl; have HZL := Lib.hid hzl; clear hzl) | (apply st_storeW (off := k * 32) (vs := nums .u8 Z) (cs := cs) (T := 25); (go_num); rfl; exact hbk; (rw [nums_length, HZL.out]; kernel_rfl); (rw [nums_length, HZL.out]; exact hk32); exact nums_one _ _; intro w6 hd6 hw6))
      go_roundw
      case rel => exact ⟨k + 1, by go_num, by omega, K1.out.wrote hw6 (fun h a ha => by have := HL1.out h a ha; omega), K2.out.wrote hw6 (fun h a ha => by have := HL2.out h a ha; omega), KQ.out.wrote hw6 (fun h a ha => by have := HXQ.out a ha; omega), Wrote.below hBr hw6 hwg, fun _ => ⟨g, _, rfl, hg, hd6, by rw [laid_len _ _ _ (by rw [nums_length, HZL.out]; exact hk32)]; exact HCL.out⟩⟩
      case measure => simp [intOf]; omega
    · clear HSL
      go_wp2_with fail
      go_at_call 27
      refine (HC1.out wr A2 c2 K2.out (HK.out.below hBr HK.out.lt)).mono ?_
      rintro e w7 ⟨v7, rfl, hb7, ho7⟩
      obtain ⟨A7, c7, rfl, h7, _⟩ := ho7.dg
      have hB := hBr.trans (hb7.mono hBr.size)
      have K1 := Lib.hid (K1.out.up hb7)
      have K2 := Lib.hid (K2.out.up hb7)
      have KQ := Lib.hid (KQ.out.up hb7)
      go_wp2_with fail
      go_at_call 14
      have hcall := samed_any w7 p p A7 Aq c7 cq h7 KQ.out (by omega) (by omega)
      rw [decide_eq_true rfl] at hcall
      refine hcall.mono ?_; clear hcall
      rintro e w8 ⟨rfl, hb⟩
      have hB := hB.trans (hb.mono hB.size)
      have K1 := Lib.hid (K1.out.up hb)
      have K2 := Lib.hid (K2.out.up hb)
      go_wp2_with fail
      go_at_call 14
      have hcall := samed_any w8 ds ds A2 A1 c2 c1 K2.out K1.out (by omega) (by omega)
      rw [decide_eq_true rfl] at hcall
      refine hcall.mono ?_; clear hcall
      rintro e w9 ⟨rfl, hb⟩
      have hB := hB.trans (hb.mono hB.size)
      go_wp2_with fail
      go_at_call 15
      refine (lives_any w9 (HK.out.below hB HK.out.lt)).mono ?_
      rintro e w10 ⟨rfl, hb⟩
      have hB := hB.trans (hb.mono hB.size)
      go_wp2_with fail
      go_ret
      exact ⟨rfl, hB⟩
end Go.Proofs.YtipigpeccegjgaaDoor
