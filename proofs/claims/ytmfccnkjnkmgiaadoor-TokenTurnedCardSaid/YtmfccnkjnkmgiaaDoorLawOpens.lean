/- That inquestlaw05.TokenOpens returns true. Condition: the table of layer 2 reads as its text lays it. -/
import Derived.Test.YtmfccnkjnkmgiaaDoorTokE
import Derived.Test.YtmfccnkjnkmgiaaDoorLawMints
namespace Go.Proofs.YtmfccnkjnkmgiaaDoor
open Go.RowKit Go.Proofs.YtmfccnkjnkmgiaaDoor.Pure

theorem run_part_str {P : Program} {e : TypeId} (he : P.underlying e = some .string) (cs : List Value) (i : Nat) (v : Value) (hv : cs[i]? = some v) (w : World) : (part e cs.toArray i).run P w = .ok v w := by
  have hagg : (isAgg e).run P w = .ok false w := by
    unfold isAgg
    rw [Sem.run_bind, run_underlying he w]
    rfl
  simp [part, Sem.run_bind, hagg, hv]
theorem run_eql_pass (a b : ByteArray) (n m : Int) (w : World) : (binOp .eql 35 (.agg (passC a n).toArray) (.agg (passC b m).toArray)).run Tryd.prog w = .ok (.bool ((a.toList == b.toList) && (n == m))) w := by
  have h1 : Tryd.prog.underlying 35 = some (.struct (Tryd.prog.fieldsOf 35)) := by kernel_rfl
  have h2 : Tryd.prog.stoodInHeld 35 = false := by kernel_rfl
  have hs : Tryd.prog.underlying 9 = some .string := by kernel_rfl
  have hi : Tryd.prog.underlying 3 = some (.int .i64) := by kernel_rfl
  have he : (Op.equal 35 (.agg (passC a n).toArray) (.agg (passC b m).toArray)).run Tryd.prog w = .ok ((a.toList == b.toList) && (n == m)) w := by
    show (Op.equalIn (9999 + 1) _ _ _).run Tryd.prog w = _
    rw [run_equalIn_agg (w := w) 9999 _ _ _ h1 h2]
    obtain ⟨f, g, hfs, hf1, hf2, hf3, hg1, hg2, hg3⟩ : ∃ f g : Field, (Tryd.prog.fieldsOf 35).toList = [f, g] ∧ f.name ≠ "_" ∧ f.type = 9 ∧ f.offset = 0 ∧ g.name ≠ "_" ∧ g.type = 3 ∧ g.offset = 1 := by
      refine ⟨_, _, rfl, ?_, rfl, rfl, ?_, rfl, rfl⟩ <;> decide
    have q1 := run_equalIn_string (w := w) 9998 _ a b hs
    have q2 := run_equalIn_int (w := w) 9998 _ .i64 .i64 n m hi
    have p1 : ∀ a n, (part 9 (passC a n).toArray 0).run Tryd.prog w = .ok (.string a) w := fun a n => run_part_str hs _ 0 _ rfl w
    have p2 : ∀ a n, (part 3 (passC a n).toArray 1).run Tryd.prog w = .ok (.int .i64 n) w := fun a n => run_part_num hi _ 1 _ rfl w
    rw [hfs]
    simp only [Op.eqFields, hf1, hf2, hf3, hg1, hg2, hg3, ne_eq, not_false_eq_true, if_true, Sem.run_bind, p1, q1, Result.andThen_ok]
    cases (a.toList == b.toList)
    · rfl
    · simp only [Bool.not_true, Bool.false_eq_true, if_false, Sem.run_bind, p2, q2, Result.andThen_ok]
      cases (n == m) <;> rfl
  simp [binOp, he]

set_option maxHeartbeats 4000000 in
theorem lawopens_any (w : World) (bs0 : List Int) (A : Option Addr) (c : Nat) (hr : Rd w A (nums .u8 bs0)) (hc : bs0.length ≤ c) (hA : A = none → c = 0) (hu : U8 bs0) (s0 : ByteArray) (now : Int) (hk : KV w) :
    Calls Tryd.prog 7 #[.slice A bs0.length c, .string s0, .int .i64 now] w fun e w' => e = .returned (.bool true) ∧ Below w.heap.size w w' := by
  obtain ⟨bs, hbl, _, hK, HCUT1⟩ := (Byt.mk hr hc hA hu).cut 300 300 rfl
  obtain ⟨s, hsl, HCUT2⟩ := cut4 s0
  have hc1 := fun (w : World) (h : Byt w A c bs) => open_any w bs A c h (by omega) s hsl now
  have hc2 := fun (w : World) (h : Byt w A c bs) => refopen_any w bs A c h (by omega) s hsl now
  have hc3 := fun (w : World) => tclaim_any w s hsl
  have hc4 := fun (w : World) => refclaim_any w s hsl
  obtain ⟨⟨⟨a, n⟩, en⟩, hr⟩ : ∃ r, r = openR bs s now := ⟨_, rfl⟩
  obtain ⟨⟨⟨b, m⟩, em⟩, hr'⟩ : ∃ r, r = claimR s := ⟨_, rfl⟩
  rw [← hr] at hc1 hc2
  rw [← hr'] at hc3 hc4
  have HC1 := Lib.hid hc1
  have HC2 := Lib.hid hc2
  have HC3 := Lib.hid hc3
  have HC4 := Lib.hid hc4
  have HK := Lib.hid hk
  have HKB := Lib.hid hK
  have hen : (en == en) = true := by simp
  have hem : (em == em) = true := by simp
  have hsa := str_eq a
  have hsb := str_eq b
  have heq1 := run_eql_pass a a n n
  have heq2 := run_eql_pass b b m m
  have hnn : (n == n) = true := by simp
  have hmm : (m == m) = true := by simp
  rw [hsa, hnn] at heq1
  rw [hsb, hmm] at heq2
  clear hc1 hc2 hc3 hc4 hk hr hr' hc hA hu hK
  go_enter Tryd.func7, Tryd.ntmps7
  go_wp2_with fail
  go_at_call 9
  refine (HCUT1.out _).mono ?_
  rintro e wz ⟨rfl, rfl⟩
  go_wp2_with fail
  go_at_call 10
  refine (HCUT2.out _).mono ?_
  rintro e w0 ⟨rfl, hB⟩
  go_wp2_with fail
  go_at_call 16
  refine (HC1.out _ (HKB.out.up hB) (HK.out.below hB HK.out.lt)).mono ?_
  rintro e w1 ⟨rfl, hb1⟩
  have hB := hB.trans (hb1.mono hB.size)
  have hq1 : Blk (w1.alloc (.cells (passC ⟨#[]⟩ 0).toArray 35)) w1.heap.size (passC ⟨#[]⟩ 0) 35 := Blk.new' _ _ _ _ _ rfl rfl
  go_wp2_with (((with_reducible apply st_storeW (off := 0) (vs := passC a n) (cs := passC ⟨#[]⟩ 0) (T := 35)); rfl; rfl; exact hq1; exact passSize; (simp [passC]); exact passC_one _ _; intro w11 hd11 hw11; rw [laid_all _ _ (by rfl)] at hd11); have hB1 := Wrote.below (hB.alloc hB.size _) hw11 hB.size)
  go_at_call 19
  refine (HC2.out _ (HKB.out.up hB1)).mono ?_
  rintro e w2 ⟨rfl, hb2⟩
  have hB2 := hB1.trans (hb2.mono hB1.size)
  have hp1 := hd11.up hb2
  have hl1 := hp1.lt
  have hq2 : Blk (w2.alloc (.cells (passC ⟨#[]⟩ 0).toArray 35)) w2.heap.size (passC ⟨#[]⟩ 0) 35 := Blk.new' _ _ _ _ _ rfl rfl
  go_wp2_with (((with_reducible apply st_storeW (off := 0) (vs := passC a n) (cs := passC ⟨#[]⟩ 0) (T := 35)); rfl; rfl; exact hq2; exact passSize; (simp [passC]); exact passC_one _ _; intro w12 hd12 hw12; rw [laid_all _ _ (by rfl)] at hd12); have hB3 := Wrote.below (hB2.alloc hB2.size _) hw12 hB2.size; have hp1 := hw12.blk (hp1.alloc _) (by omega))
  go_at_call 20
  refine (HC3.out _).mono ?_
  rintro e w3 ⟨rfl, hb3⟩
  have hB4 := hB3.trans (hb3.mono hB3.size)
  have hp1 := hp1.up hb3
  have hp2 := hd12.up hb3
  have hl1 := hp1.lt
  have hl2 := hp2.lt
  have hq3 : Blk (w3.alloc (.cells (passC ⟨#[]⟩ 0).toArray 35)) w3.heap.size (passC ⟨#[]⟩ 0) 35 := Blk.new' _ _ _ _ _ rfl rfl
  go_wp2_with (((with_reducible apply st_storeW (off := 0) (vs := passC b m) (cs := passC ⟨#[]⟩ 0) (T := 35)); rfl; rfl; exact hq3; exact passSize; (simp [passC]); exact passC_one _ _; intro w13 hd13 hw13; rw [laid_all _ _ (by rfl)] at hd13); have hB5 := Wrote.below (hB4.alloc hB4.size _) hw13 hB4.size; have hp1 := hw13.blk (hp1.alloc _) (by omega); have hp2 := hw13.blk (hp2.alloc _) (by omega))
  go_at_call 21
  refine (HC4.out _).mono ?_
  rintro e w4 ⟨rfl, hb4⟩
  have hB6 := hB5.trans (hb4.mono hB5.size)
  have hp1 := hp1.up hb4
  have hp2 := hp2.up hb4
  have hp3 := hd13.up hb4
  have hl1 := hp1.lt
  have hl2 := hp2.lt
  have hl3 := hp3.lt
  have hq4 : Blk (w4.alloc (.cells (passC ⟨#[]⟩ 0).toArray 35)) w4.heap.size (passC ⟨#[]⟩ 0) 35 := Blk.new' _ _ _ _ _ rfl rfl
  go_wp2_with (first | (((with_reducible apply st_storeW (off := 0) (vs := passC b m) (cs := passC ⟨#[]⟩ 0) (T := 35)); rfl; rfl; exact hq4; exact passSize; (simp [passC]); exact passC_one _ _; intro w14 hd14 hw14; rw [laid_all _ _ (by rfl)] at hd14); have hB7 := Wrote.below (hB6.alloc hB6.size _) hw14 hB6.size; have hp1 := hw14.blk (hp1.alloc _) (by omega); have hp2 := hw14.blk (hp2.alloc _) (by omega); have hp3 := hw14.blk (hp3.alloc _) (by omega)) | ((with_reducible apply st_load (n := 2) (cs := passC a n) (T := 35)); rfl; exact hp1; exact Tryd.underlying35; rfl; exact passSize; (exact Nat.le_refl 2); (exact row_all _ _ rfl)) | ((with_reducible apply st_load (n := 2) (cs := passC a n) (T := 35)); rfl; exact hp2; exact Tryd.underlying35; rfl; exact passSize; (exact Nat.le_refl 2); (exact row_all _ _ rfl)) | ((with_reducible apply st_load (n := 2) (cs := passC b m) (T := 35)); rfl; exact hp3; exact Tryd.underlying35; rfl; exact passSize; (exact Nat.le_refl 2); (exact row_all _ _ rfl)) | ((with_reducible apply st_load (n := 2) (cs := passC b m) (T := 35)); rfl; exact hd14; exact Tryd.underlying35; rfl; exact passSize; (exact Nat.le_refl 2); (exact row_all _ _ rfl)) | ((with_reducible apply st_un); rfl))
  go_at_call 15
  refine (lives_any _ (HK.out.below hB7 HK.out.lt)).mono ?_
  rintro e w6 ⟨rfl, hb⟩
  have hB8 := hB7.trans (hb.mono hB7.size)
  go_wp2_with fail
  go_ret
  exact ⟨rfl, hB8⟩

end Go.Proofs.YtmfccnkjnkmgiaaDoor
