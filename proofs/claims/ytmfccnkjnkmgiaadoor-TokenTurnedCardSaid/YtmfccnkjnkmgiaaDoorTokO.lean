/- What token.Claim and token.Open answer. Condition (Open's): the table of layer 2 reads as its text lays it. -/
import Derived.Test.YtmfccnkjnkmgiaaDoorTokR
import Derived.Test.YtmfccnkjnkmgiaaDoorTokQ
namespace Go.Proofs.YtmfccnkjnkmgiaaDoor
open Go.RowKit Go.Proofs.YtmfccnkjnkmgiaaDoor.Pure

theorem claimR_of (s : ByteArray) : claimR s = ((readR s).1, (readR s).2.2) := by
  unfold claimR readR
  cases readF s with
  | none => rfl
  | some x => obtain ⟨a, n, l⟩ := x; rfl
def GivesP (r : (ByteArray × Int) × Int) (w : World) (e : Ending) (w' : World) : Prop := e = .returned (.tuple #[.agg (passC r.1.1 r.1.2).toArray, .int .i64 r.2]) ∧ Below w.heap.size w w'

set_option maxHeartbeats 2000000 in
theorem tclaim_any (w : World) (s : ByteArray) (hs : s.size ≤ 300) : Calls Tryd.prog 20 #[.string s] w (GivesP (claimR s) w) := by
  have hr := fun w => read_any w s hs
  rw [claimR_of]
  obtain ⟨⟨⟨a, n⟩, l, e⟩, hrr⟩ : ∃ r, r = readR s := ⟨_, rfl⟩
  rw [← hrr] at hr ⊢
  have HR := Lib.hid hr
  clear hr hrr
  have hB0 : Below w.heap.size w (w.alloc (.cells (passC ⟨#[]⟩ 0).toArray 35)) := (Below.refl _ _).alloc (Nat.le_refl _) _
  have hp0 : Blk (w.alloc (.cells (passC ⟨#[]⟩ 0).toArray 35)) w.heap.size (passC ⟨#[]⟩ 0) 35 := Blk.new' _ _ _ _ _ rfl rfl
  go_enter Tryd.func20, Tryd.ntmps20
  go_wp2_with fail
  go_at_call 27
  refine (HR.out _).mono ?_
  rintro e w1 ⟨v1, rfl, hb1, ho1⟩
  have hB := hB0.trans (hb1.mono hB0.size)
  have hp := hp0.up hb1
  have hq0 : Blk (w1.alloc (.cells (passC ⟨#[]⟩ 0).toArray 35)) w1.heap.size (passC ⟨#[]⟩ 0) 35 := Blk.new' _ _ _ _ _ rfl rfl
  have hpl := hp.lt
  clear hB0 hp0
  go_wp2_with (first | (((with_reducible apply st_storeW (off := 0) (vs := passC a n) (cs := passC ⟨#[]⟩ 0) (T := 35)); rfl; rfl; exact hq0; exact passSize; (simp [passC]); exact passC_one _ _; intro w2 hd2 hw2; rw [laid_all _ _ (by rfl)] at hd2); have hp2 := hw2.blk (hp.alloc _) (by omega); have hB2 := Wrote.below (hB.alloc hB.size _) hw2 hB.size) | ((with_reducible apply st_load (n := 2) (cs := passC a n) (T := 35)); rfl; exact hd2; exact Tryd.underlying35; rfl; exact passSize; (exact Nat.le_refl 2); (exact row_all _ _ rfl)) | ((with_reducible apply st_storeW (off := 0) (vs := passC a n) (cs := passC ⟨#[]⟩ 0) (T := 35)); rfl; rfl; exact hp2; exact passSize; (simp [passC]); exact passC_one _ _; intro w3 hd3 hw3; rw [laid_all _ _ (by rfl)] at hd3))
  refine bodyPost_ret (ret_row_tmp rfl _ _ _ (passC a n) 35 _ rfl hd3 Tryd.underlying35 rfl (by exact passSize)) rfl (⟨rfl, Wrote.below hB2 hw3 (Nat.le_refl _)⟩)

theorem openR_none (key : List Int) (s : ByteArray) (now : Int) (h : readF s = none) : openR key s now = ((⟨#[]⟩, 0), 4) := by unfold openR; rw [h]
theorem readR_none (s : ByteArray) (h : readF s = none) : readR s = ((⟨#[]⟩, 0), [], 4) := by unfold readR; rw [h]
theorem openR_some (key : List Int) (s : ByteArray) (now : Int) (a : ByteArray) (n : Int) (l : List Int) (h : readF s = some (a, n, l)) : openR key s now = if macF key (strL (claimS a n)) = l then (if n ≤ now then ((⟨#[]⟩, 0), 8) else ((a, n), 0)) else ((⟨#[]⟩, 0), 7) := by unfold openR; rw [h]
theorem readR_some (s : ByteArray) (a : ByteArray) (n : Int) (l : List Int) (h : readF s = some (a, n, l)) : readR s = ((a, n), l, 0) := by unfold readR; rw [h]

set_option maxHeartbeats 4000000 in
theorem open_any (w : World) (key : List Int) (A : Option Addr) (c : Nat) (hkb : Byt w A c key) (hkl : key.length ≤ 1000) (s : ByteArray) (hs : s.size ≤ 300) (now : Int) (hk : KV w) :
    Calls Tryd.prog 16 #[.slice A key.length c, .string s, .int .i64 now] w (GivesP (openR key s now) w) := by
  have hr := fun w => read_any w s hs
  have hB0 : Below w.heap.size w (w.alloc (.cells (passC ⟨#[]⟩ 0).toArray 35)) := (Below.refl _ _).alloc (Nat.le_refl _) _
  have hp0 : Blk (w.alloc (.cells (passC ⟨#[]⟩ 0).toArray 35)) w.heap.size (passC ⟨#[]⟩ 0) 35 := Blk.new' _ _ _ _ _ rfl rfl
  cases hF : readF s with
  | none =>
    rw [openR_none key s now hF]
    rw [readR_none s hF] at hr
    have HR := Lib.hid hr
    clear hr hF
    go_enter Tryd.func16, Tryd.ntmps16
    go_wp2_with fail
    go_at_call 27
    refine (HR.out _).mono ?_
    rintro e w1 ⟨v1, rfl, hb1, ho1⟩
    have hB := hB0.trans (hb1.mono hB0.size)
    have hp := hp0.up hb1
    have hq0 : Blk (w1.alloc (.cells (passC ⟨#[]⟩ 0).toArray 35)) w1.heap.size (passC ⟨#[]⟩ 0) 35 := Blk.new' _ _ _ _ _ rfl rfl
    have hpl := hp.lt
    clear hB0 hp0
    go_wp2_with (first | (((with_reducible apply st_storeW (off := 0) (vs := passC ⟨#[]⟩ 0) (cs := passC ⟨#[]⟩ 0) (T := 35)); rfl; rfl; exact hq0; exact passSize; (simp [passC]); exact passC_one _ _; intro w2 hd2 hw2; rw [laid_all _ _ (by rfl)] at hd2); have hp2 := hw2.blk (hp.alloc _) (by omega); have hB2 := Wrote.below (hB.alloc hB.size _) hw2 hB.size) | ((with_reducible apply st_storeW (off := 0) (vs := passC ⟨#[]⟩ 0) (cs := passC ⟨#[]⟩ 0) (T := 35)); rfl; rfl; exact hp2; exact passSize; (simp [passC]); exact passC_one _ _; intro w3 hd3 hw3; rw [laid_all _ _ (by rfl)] at hd3))
    refine bodyPost_ret (ret_row_tmp rfl _ _ _ (passC ⟨#[]⟩ 0) 35 _ rfl hd3 Tryd.underlying35 rfl (by exact passSize)) rfl (⟨rfl, Wrote.below hB2 hw3 (Nat.le_refl _)⟩)
  | some x =>
    obtain ⟨a, n, l⟩ := x
    obtain ⟨f1, f2, f3, f4, f5, f6⟩ := readF_out s a n l hF
    rw [openR_some key s now a n l hF]
    rw [readR_some s a n l hF] at hr
    have ha16 := nameB_size a f2
    have hcl := fun w => claim_any w a (by omega) n (by omega) (by omega)
    have hcs := claimS_size a n
    have hds := decB_size n (by omega) (by omega)
    obtain ⟨C, hC⟩ : ∃ C, C = claimS a n := ⟨_, rfl⟩
    rw [← hC] at hcl hcs ⊢
    have hcl60 : C.size ≤ 60 := by omega
    have hmac := fun (w : World) (h : Byt w A c key) (B : Option Addr) (d : Nat) (hr : Rd w B (nums .u8 (strL C))) (hd : (strL C).length ≤ d) (hB : B = none → d = 0) (D : Option Addr) (e : Nat) (hr3 : Rd w D (nums .u8 l)) => maccheck_any w key A c h.rd h.le h.nn (by omega) (strL C) B d hr hd hB (by rw [strL_len]; omega) l D e hr3 (by omega) f6
    obtain ⟨M, hM⟩ : ∃ M : Bool, M = decide (macF key (strL C) = l) := ⟨_, rfl⟩
    have hif : (if macF key (strL C) = l then (if n ≤ now then ((⟨#[]⟩, 0), 8) else ((a, n), 0)) else ((⟨#[]⟩, 0), 7) : (ByteArray × Int) × Int) = if M = true then (if n ≤ now then ((⟨#[]⟩, 0), 8) else ((a, n), 0)) else ((⟨#[]⟩, 0), 7) := by
      rw [hM]; by_cases h : macF key (strL C) = l <;> simp [h]
    rw [hif]
    rw [← hM] at hmac
    have hsl := strL_len C
    have HCL := Lib.hid hcl
    have HMAC := Lib.hid hmac
    have HSL := Lib.hid hsl
    have HKB := Lib.hid hkb
    have HK := Lib.hid hk
    have HR := Lib.hid hr
    have HF6 := Lib.hid f6
    clear hr hF hcl hcs hds hC hmac hM hif hsl hkb hk f1 f6 f2 f5
    cases M
    · rw [if_neg (by decide)]
      go_enter Tryd.func16, Tryd.ntmps16
      go_wp2_with fail
      go_at_call 27
      refine (HR.out _).mono ?_
      rintro e w1 ⟨v1, rfl, hb1, ho1⟩
      have hB := hB0.trans (hb1.mono hB0.size)
      have hp := hp0.up hb1
      have hq0 : Blk (w1.alloc (.cells (passC ⟨#[]⟩ 0).toArray 35)) w1.heap.size (passC ⟨#[]⟩ 0) 35 := Blk.new' _ _ _ _ _ rfl rfl
      have hpl := hp.lt
      have hsz0 : w.heap.size < (w.alloc (.cells (passC ⟨#[]⟩ 0).toArray 35)).heap.size := by simp
      have hwl : w.heap.size < w1.heap.size := hpl
      obtain ⟨A1, c1, rfl, h1, hx1⟩ := ho1.byt HF6.out
      clear hB0 hp0 ho1
      go_wp2_with (first | (((with_reducible apply st_storeW (off := 0) (vs := passC a n) (cs := passC ⟨#[]⟩ 0) (T := 35)); rfl; rfl; exact hq0; exact passSize; (simp [passC]); exact passC_one _ _; intro w2 hd2 hw2; rw [laid_all _ _ (by rfl)] at hd2); have hp2 := hw2.blk (hp.alloc _) (by omega); have hB2 := Wrote.below (hB.alloc hB.size _) hw2 hB.size; have hB12 : Below w1.heap.size w1 w2 := Wrote.below ((Below.refl _ _).alloc (Nat.le_refl _) _) hw2 (Nat.le_refl _)) | ((with_reducible apply st_load (n := 2) (cs := passC a n) (T := 35)); rfl; exact hd2; exact Tryd.underlying35; rfl; exact passSize; (exact Nat.le_refl 2); (exact row_all _ _ rfl)))
      go_at_call 24
      refine (HCL.out _).mono ?_
      rintro e w3 ⟨rfl, hb3⟩
      have hB3 := hB2.trans (hb3.mono hB2.size)
      have hB13 := hB12.trans (hb3.mono hB12.size)
      have hp3 := hp2.up hb3
      have hq3 := hd2.up hb3
      go_wp2_with ((with_reducible apply st_bytes); exact Tryd.underlying9; rfl; intro w4 c4 hb4 hr4 hc4)
      have hB4 := hB3.trans (hb4.mono hB3.size)
      have hB14 := hB13.trans (hb4.mono hB13.size)
      have hp4 := hp3.up hb4
      have hq4 := hq3.up hb4
      go_at_call 28
      have hcall := HMAC.out w4 (HKB.out.up hB4) (some ⟨w3.heap.size, 0, none⟩) c4 hr4 (by rw [HSL.out]; exact hc4) (fun h => by cases h) A1 c1 (h1.up hB14).rd (HK.out.below hB4 HK.out.lt)
      rw [HSL.out] at hcall
      refine hcall.mono ?_; clear hcall
      rintro e w5 ⟨rfl, hb5⟩
      have hB5 := hB4.trans (hb5.mono hB4.size)
      have hp5 := hp4.up hb5
      have hq5 := hq4.up hb5
      have hn5 := hq5.cell 1
      simp only [passC, List.getElem?_cons_zero, List.getElem?_cons_succ] at hn5
      go_wp2_with ((with_reducible apply st_storeW (off := 0) (vs := passC ⟨#[]⟩ 0) (cs := passC ⟨#[]⟩ 0) (T := 35)); rfl; rfl; exact hp5; exact passSize; (simp [passC]); exact passC_one _ _; intro w6 hd6 hw6; rw [laid_all _ _ (by rfl)] at hd6)
      refine bodyPost_ret (ret_row_tmp rfl _ _ _ (passC ⟨#[]⟩ 0) 35 _ rfl hd6 Tryd.underlying35 rfl (by exact passSize)) rfl (⟨rfl, Wrote.below hB5 hw6 (Nat.le_refl _)⟩)
    · rw [if_pos rfl]
      by_cases hnow : n ≤ now
      · rw [if_pos hnow]
        go_enter Tryd.func16, Tryd.ntmps16
        go_wp2_with fail
        go_at_call 27
        refine (HR.out _).mono ?_
        rintro e w1 ⟨v1, rfl, hb1, ho1⟩
        have hB := hB0.trans (hb1.mono hB0.size)
        have hp := hp0.up hb1
        have hq0 : Blk (w1.alloc (.cells (passC ⟨#[]⟩ 0).toArray 35)) w1.heap.size (passC ⟨#[]⟩ 0) 35 := Blk.new' _ _ _ _ _ rfl rfl
        have hpl := hp.lt
        have hsz0 : w.heap.size < (w.alloc (.cells (passC ⟨#[]⟩ 0).toArray 35)).heap.size := by simp
        have hwl : w.heap.size < w1.heap.size := hpl
        obtain ⟨A1, c1, rfl, h1, hx1⟩ := ho1.byt HF6.out
        clear hB0 hp0 ho1
        go_wp2_with (first | (((with_reducible apply st_storeW (off := 0) (vs := passC a n) (cs := passC ⟨#[]⟩ 0) (T := 35)); rfl; rfl; exact hq0; exact passSize; (simp [passC]); exact passC_one _ _; intro w2 hd2 hw2; rw [laid_all _ _ (by rfl)] at hd2); have hp2 := hw2.blk (hp.alloc _) (by omega); have hB2 := Wrote.below (hB.alloc hB.size _) hw2 hB.size; have hB12 : Below w1.heap.size w1 w2 := Wrote.below ((Below.refl _ _).alloc (Nat.le_refl _) _) hw2 (Nat.le_refl _)) | ((with_reducible apply st_load (n := 2) (cs := passC a n) (T := 35)); rfl; exact hd2; exact Tryd.underlying35; rfl; exact passSize; (exact Nat.le_refl 2); (exact row_all _ _ rfl)))
        go_at_call 24
        refine (HCL.out _).mono ?_
        rintro e w3 ⟨rfl, hb3⟩
        have hB3 := hB2.trans (hb3.mono hB2.size)
        have hB13 := hB12.trans (hb3.mono hB12.size)
        have hp3 := hp2.up hb3
        have hq3 := hd2.up hb3
        go_wp2_with ((with_reducible apply st_bytes); exact Tryd.underlying9; rfl; intro w4 c4 hb4 hr4 hc4)
        have hB4 := hB3.trans (hb4.mono hB3.size)
        have hB14 := hB13.trans (hb4.mono hB13.size)
        have hp4 := hp3.up hb4
        have hq4 := hq3.up hb4
        go_at_call 28
        have hcall := HMAC.out w4 (HKB.out.up hB4) (some ⟨w3.heap.size, 0, none⟩) c4 hr4 (by rw [HSL.out]; exact hc4) (fun h => by cases h) A1 c1 (h1.up hB14).rd (HK.out.below hB4 HK.out.lt)
        rw [HSL.out] at hcall
        refine hcall.mono ?_; clear hcall
        rintro e w5 ⟨rfl, hb5⟩
        have hB5 := hB4.trans (hb5.mono hB4.size)
        have hp5 := hp4.up hb5
        have hq5 := hq4.up hb5
        have hn5 := hq5.cell 1
        simp only [passC, List.getElem?_cons_zero, List.getElem?_cons_succ] at hn5
        go_wp2_with ((with_reducible apply st_storeW (off := 0) (vs := passC ⟨#[]⟩ 0) (cs := passC ⟨#[]⟩ 0) (T := 35)); rfl; rfl; exact hp5; exact passSize; (simp [passC]); exact passC_one _ _; intro w6 hd6 hw6; rw [laid_all _ _ (by rfl)] at hd6)
        refine bodyPost_ret (ret_row_tmp rfl _ _ _ (passC ⟨#[]⟩ 0) 35 _ rfl hd6 Tryd.underlying35 rfl (by exact passSize)) rfl (⟨rfl, Wrote.below hB5 hw6 (Nat.le_refl _)⟩)
      · rw [if_neg hnow]
        go_enter Tryd.func16, Tryd.ntmps16
        go_wp2_with fail
        go_at_call 27
        refine (HR.out _).mono ?_
        rintro e w1 ⟨v1, rfl, hb1, ho1⟩
        have hB := hB0.trans (hb1.mono hB0.size)
        have hp := hp0.up hb1
        have hq0 : Blk (w1.alloc (.cells (passC ⟨#[]⟩ 0).toArray 35)) w1.heap.size (passC ⟨#[]⟩ 0) 35 := Blk.new' _ _ _ _ _ rfl rfl
        have hpl := hp.lt
        have hsz0 : w.heap.size < (w.alloc (.cells (passC ⟨#[]⟩ 0).toArray 35)).heap.size := by simp
        have hwl : w.heap.size < w1.heap.size := hpl
        obtain ⟨A1, c1, rfl, h1, hx1⟩ := ho1.byt HF6.out
        clear hB0 hp0 ho1
        go_wp2_with (first | (((with_reducible apply st_storeW (off := 0) (vs := passC a n) (cs := passC ⟨#[]⟩ 0) (T := 35)); rfl; rfl; exact hq0; exact passSize; (simp [passC]); exact passC_one _ _; intro w2 hd2 hw2; rw [laid_all _ _ (by rfl)] at hd2); have hp2 := hw2.blk (hp.alloc _) (by omega); have hB2 := Wrote.below (hB.alloc hB.size _) hw2 hB.size; have hB12 : Below w1.heap.size w1 w2 := Wrote.below ((Below.refl _ _).alloc (Nat.le_refl _) _) hw2 (Nat.le_refl _)) | ((with_reducible apply st_load (n := 2) (cs := passC a n) (T := 35)); rfl; exact hd2; exact Tryd.underlying35; rfl; exact passSize; (exact Nat.le_refl 2); (exact row_all _ _ rfl)))
        go_at_call 24
        refine (HCL.out _).mono ?_
        rintro e w3 ⟨rfl, hb3⟩
        have hB3 := hB2.trans (hb3.mono hB2.size)
        have hB13 := hB12.trans (hb3.mono hB12.size)
        have hp3 := hp2.up hb3
        have hq3 := hd2.up hb3
        go_wp2_with ((with_reducible apply st_bytes); exact Tryd.underlying9; rfl; intro w4 c4 hb4 hr4 hc4)
        have hB4 := hB3.trans (hb4.mono hB3.size)
        have hB14 := hB13.trans (hb4.mono hB13.size)
        have hp4 := hp3.up hb4
        have hq4 := hq3.up hb4
        go_at_call 28
        have hcall := HMAC.out w4 (HKB.out.up hB4) (some ⟨w3.heap.size, 0, none⟩) c4 hr4 (by rw [HSL.out]; exact hc4) (fun h => by cases h) A1 c1 (h1.up hB14).rd (HK.out.below hB4 HK.out.lt)
        rw [HSL.out] at hcall
        refine hcall.mono ?_; clear hcall
        rintro e w5 ⟨rfl, hb5⟩
        have hB5 := hB4.trans (hb5.mono hB4.size)
        have hp5 := hp4.up hb5
        have hq5 := hq4.up hb5
        have hn5 := hq5.cell 1
        simp only [passC, List.getElem?_cons_zero, List.getElem?_cons_succ] at hn5
        go_wp2_with (first | ((with_reducible apply st_load (n := 2) (cs := passC a n) (T := 35)); rfl; exact hq5; exact Tryd.underlying35; rfl; exact passSize; (exact Nat.le_refl 2); (exact row_all _ _ rfl)) | ((with_reducible apply st_storeW (off := 0) (vs := passC a n) (cs := passC ⟨#[]⟩ 0) (T := 35)); rfl; rfl; exact hp5; exact passSize; (simp [passC]); exact passC_one _ _; intro w6 hd6 hw6; rw [laid_all _ _ (by rfl)] at hd6))
        refine bodyPost_ret (ret_row_tmp rfl _ _ _ (passC a n) 35 _ rfl hd6 Tryd.underlying35 rfl (by exact passSize)) rfl (⟨rfl, Wrote.below hB5 hw6 (Nat.le_refl _)⟩)

end Go.Proofs.YtmfccnkjnkmgiaaDoor
