/- What a ledger answers that no call made. No condition. -/
import Derived.Test.YtancldhincaphaaDoorLedP
namespace Go.Proofs.YtancldhincaphaaDoor
open Go.RowKit
set_option maxRecDepth 100000

/-- A ledger that no call made: no pointer, or one that leads to noughts. -/
def NoLed (w : World) (v : Value) : Prop := v = .pointer none ∨ ∃ g, v = .pointer (some ⟨g, 0, none⟩) ∧ Blk w g (ledC false (.slice none 0 0) (.slice none 0 0) (.slice none 0 0) (.slice none 0 0)) 68
theorem NoLed.up {w w' : World} {v : Value} (h : NoLed w v) (hb : Below w.heap.size w w') : NoLed w' v := by
  rcases h with h | ⟨g, h, h2⟩
  · exact .inl h
  · exact .inr ⟨g, h, h2.up hb⟩
set_option maxRecDepth 100000 in
set_option maxHeartbeats 1000000 in
theorem okno_any (w : World) (v : Value) (h : NoLed w v) : Calls Tryd.prog 48 #[v] w fun e w' => e = .returned (.bool false) ∧ w = w' := by
  rcases h with rfl | ⟨g, rfl, h⟩
  · go_enter Tryd.func48, Tryd.ntmps48
    go_wp2_with ((with_reducible apply st_un); rfl)
    --MARK1
    go_ret
    exact ⟨rfl, rfl⟩
  · exact ok_any w g false _ _ _ _ h
theorem firstno_any (w : World) (v : Value) (h : NoLed w v) (n : Int) : Calls Tryd.prog 46 #[v, .int .i64 n] w fun e w' => e = .returned (.int .i64 1) ∧ w = w' := by
  have H := Lib.hid h
  clear h
  go_enter Tryd.func46, Tryd.ntmps46
  go_wp2_with fail
  go_at_call 48
  refine (okno_any w v H.out).mono ?_
  rintro e wz ⟨rfl, rfl⟩
  go_wp2_with fail
  go_ret
  exact ⟨rfl, rfl⟩
theorem sizeno_any (w : World) (v : Value) (h : NoLed w v) : Calls Tryd.prog 23 #[v] w fun e w' => e = .returned (.int .i64 0) ∧ w = w' := by
  have H := Lib.hid h
  clear h
  go_enter Tryd.func23, Tryd.ntmps23
  go_wp2_with fail
  go_at_call 48
  refine (okno_any w v H.out).mono ?_
  rintro e wz ⟨rfl, rfl⟩
  go_wp2_with fail
  go_ret
  exact ⟨rfl, rfl⟩
theorem textno_any (w : World) (v : Value) (h : NoLed w v) (i : Int) : Calls Tryd.prog 32 #[v, .int .i64 i] w fun e w' => e = .returned (.tuple #[.slice none 0 0, .int .i64 1]) ∧ w = w' := by
  have H := Lib.hid h
  clear h
  go_enter Tryd.func32, Tryd.ntmps32
  go_wp2_with fail
  go_at_call 48
  refine (okno_any w v H.out).mono ?_
  rintro e wz ⟨rfl, rfl⟩
  go_wp2_with fail
  --MARK2
  go_ret2
  exact ⟨rfl, rfl⟩
theorem pathno_any (w : World) (v : Value) (h : NoLed w v) (i n : Int) : Calls Tryd.prog 33 #[v, .int .i64 i, .int .i64 n] w fun e w' => e = .returned (.tuple #[.slice none 0 0, .int .i64 1]) ∧ w = w' := by
  have H := Lib.hid h
  clear h
  go_enter Tryd.func33, Tryd.ntmps33
  go_wp2_with fail
  go_at_call 46
  refine (firstno_any w v H.out n).mono ?_
  rintro e wz ⟨rfl, rfl⟩
  go_wp2_with fail
  go_ret2
  exact ⟨rfl, rfl⟩
theorem growthno_any (w : World) (v : Value) (h : NoLed w v) (i n : Int) : Calls Tryd.prog 34 #[v, .int .i64 i, .int .i64 n] w fun e w' => e = .returned (.tuple #[.slice none 0 0, .int .i64 1]) ∧ w = w' := by
  have H := Lib.hid h
  clear h
  go_enter Tryd.func34, Tryd.ntmps34
  go_wp2_with fail
  go_at_call 46
  refine (firstno_any w v H.out n).mono ?_
  rintro e wz ⟨rfl, rfl⟩
  go_wp2_with fail
  go_ret2
  exact ⟨rfl, rfl⟩
set_option maxRecDepth 100000 in
set_option maxHeartbeats 1000000 in
theorem textsno_any (w : World) (v : Value) (h : NoLed w v) : Calls Tryd.prog 19 #[v] w fun e w' => e = .returned (.slice none 0 0) ∧ w = w' := by
  have H := Lib.hid h
  clear h
  go_enter Tryd.func19, Tryd.ntmps19
  go_wp2_with fail
  go_at_call 23
  refine (sizeno_any w v H.out).mono ?_
  rintro e wz ⟨rfl, rfl⟩
  go_wp2_with fail
  --MARK3
  go_loopw [3, 7] (fun v i wr => v = .slice none 0 0 ∧ i = .int .i64 0 ∧ wr = w) (fun _ _ _ => 0)
  case atStart => exact ⟨rfl, rfl, rfl⟩
  case round =>
    obtain ⟨rfl, rfl, rfl⟩ := hrel
    go_wp2_with fail
    go_ret
    exact ⟨rfl, rfl⟩
set_option maxRecDepth 100000 in
set_option maxHeartbeats 1000000 in
theorem addno_any (w : World) (v : Value) (h : NoLed w v) (e : Ent) (A : Option Addr) (c : Nat) : Calls Tryd.prog 21 #[v, .agg (entC e A c).toArray] w fun r w' => r = .returned (.int .i64 1) ∧ Below w.heap.size w w' := by
  have hb0 : Below w.heap.size w (w.alloc (.cells (entC e A c).toArray 39)) := (Below.refl _ _).alloc (Nat.le_refl _) _
  have H := Lib.hid (h.up hb0)
  clear h
  obtain ⟨w0, hw0⟩ : ∃ W, W = w.alloc (.cells (entC e A c).toArray 39) := ⟨_, rfl⟩
  rw [← hw0] at H hb0
  have HW0 := Lib.hid hw0
  clear hw0
  go_enter Tryd.func21, Tryd.ntmps21
  go_upto_region 1 with (fail)
  rw [← HW0.out]
  go_wp2_with fail
  go_at_call 48
  refine (okno_any w0 v H.out).mono ?_
  rintro e wz ⟨rfl, rfl⟩
  go_wp2_with fail
  go_ret
  exact ⟨rfl, hb0⟩
/-- Head{}. -/
theorem st_zeroH {ops : Array Oper} {rest : List Oper} {a : Act} {w : World} {Q : Exit → Act → World → Prop} {d' : Option Tmp} {tt : TypeId} {pos : String} {after : Array Edge}
    (h : wpList Tryd.prog ops Q rest (a.put d' (.agg (headC 0 zd zd zd).toArray)) w) :
    wpList Tryd.prog ops Q (⟨d', .build 26 #[], tt, pos, after, none⟩ :: rest) a w :=
  wpList_plain rfl fun K hK => by
    unfold Oper.wp execOp
    simp only [Sem.run_bind, List.map_toArray, List.map_nil]
    rw [run_build w _ _ (headC 0 zd zd zd).toArray (by kernel_rfl)]
    exact hK _ _ h
theorem zd_len : (headC 0 zd zd zd).length = 97 := headC_len rfl rfl rfl
set_option maxRecDepth 100000 in
set_option maxHeartbeats 2000000 in
/-- Head of a ledger: why there is none. -/
theorem headwhy_any (w : World) (v : Value) (n why : Int) (hw : why ≠ 0) (hf : ∀ w', Below w.heap.size w w' → Calls Tryd.prog 46 #[v, .int .i64 n] w' fun e w'' => e = .returned (.int .i64 why) ∧ w' = w'') :
    Calls Tryd.prog 20 #[v, .int .i64 n] w fun e w' => e = .returned (.tuple #[.agg (headC 0 zd zd zd).toArray, .int .i64 why]) ∧ Below w.heap.size w w' := by
  have HF := Lib.hid hf
  obtain ⟨w0, hw0⟩ : ∃ W, W = w.alloc (.cells (headC 0 zd zd zd).toArray 26) := ⟨_, rfl⟩
  have hx0 : Blk w0 w.heap.size (headC 0 zd zd zd) 26 := by rw [hw0]; exact Blk.new' _ _ _ _ _ rfl rfl
  have hB0 : Below w.heap.size w w0 := by rw [hw0]; exact (Below.refl _ _).alloc (Nat.le_refl _) _
  have HW0 := Lib.hid hw0
  clear hf hw0
  go_enter Tryd.func20, Tryd.ntmps20
  go_upto_region 1 with (fail)
  refine named_world ?_
  intro wq hwq
  have e : w0 = wq := by rw [hwq, HW0.out]; rfl
  clear hwq
  subst e
  go_wp2_with fail
  go_at_call 46
  refine (HF.out w0 hB0).mono ?_
  rintro e wz ⟨rfl, rfl⟩
  --MARK4
  go_wp2_with (first | (with_reducible apply st_zeroH) | ((with_reducible apply st_storeW (off := 0) (vs := headC 0 zd zd zd) (cs := headC 0 zd zd zd) (T := 26)); rfl; rfl; exact hx0; exact headSize; (rw [zd_len]; decide); exact headC_one _ _ _ _; intro w4 hd4 hw4; rw [laid_all _ _ (by rfl)] at hd4))
  --MARK5
  refine bodyPost_ret (ret_row_tmp rfl _ _ _ (headC 0 zd zd zd) 26 _ rfl hd4 Tryd.underlying26 rfl (by exact headSize)) rfl ⟨rfl, Wrote.below hB0 hw4 (Nat.le_refl _)⟩

end Go.Proofs.YtancldhincaphaaDoor
