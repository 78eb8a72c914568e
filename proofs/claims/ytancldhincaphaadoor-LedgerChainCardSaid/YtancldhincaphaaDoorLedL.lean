/- What ledger.New makes, as a ledger; what inquestlaw21.lives answers. Condition: the table of layer 2 reads as its text lays it. -/
import Derived.Test.YtancldhincaphaaDoorLedA
namespace Go.Proofs.YtancldhincaphaaDoor
open Go.RowKit
set_option maxRecDepth 100000

theorem OwnD.one {w : World} {base g : Nat} {d : List Int} (h : Blk w g (nums .u8 d) 24) (hd : d.length = 32) (hu : U8 d) (hb : base ≤ g) : OwnD w base (.slice (some ⟨g, 0, none⟩) 1 1) [d] :=
  ⟨⟨by rw [nums_length]; simp [hd], .inr ⟨g, 1, (nums .u8 d).toArray, rfl, hb, h, Nat.le_refl _, by decide, by simp [nums_length, hd], by simp [List.take_of_length_le (by rw [nums_length, hd]; decide : (nums .u8 d).length ≤ 32)]⟩⟩, Dgs.one hd hu⟩
theorem newled_any (w : World) (A : Option Addr) (c : Nat) (key : List Int) (h : Byt w A c key) (hl : key.length ≤ 1000000) :
    Calls Tryd.prog 29 #[.slice A key.length c] w fun e w' => ∃ g F, e = .returned (.pointer (some ⟨g, 0, none⟩)) ∧ Below w.heap.size w w' ∧ Led w' w.heap.size g key [] F ∧ ∀ k, F k → w.heap.size ≤ k ∧ k < w'.heap.size := by
  refine (lednew_any w A c key h hl).mono ?_
  rintro e w' ⟨g, gc, Z, K, ck, rfl, hb, hB, hD, HZ, hK, h1, h2, h3⟩
  have hZ : Z = List.replicate 32 0 := HZ
  subst hZ
  have hg := hB.lt
  refine ⟨g, fun k => w.heap.size ≤ k ∧ k < w'.heap.size, rfl, hb, ⟨fun k => ∃ a, K = some a ∧ a.block = k, K, ck, .slice none 0 0, .slice none 0 0, .slice (some ⟨gc, 0, none⟩) 1 1, [], ?_⟩, fun k hk => hk⟩
  refine ⟨fun k hk => hk, hB, ⟨⟨by omega, hg⟩, ?_⟩, hK, fun a ha => ⟨a, ha, rfl⟩, OwnC.nil _ _ _, TxtsIn.nil _ _, OwnD.nil _ _, OwnD.one hD zero_ok.1 zero_ok.2 h1, fun k hk => by simp [Value.ownBlock] at hk, fun k hk => by simp [Value.ownBlock] at hk, fun k hk => ?_, fun k hk => ?_⟩
  · rintro ⟨a, ha, he⟩
    have := h3 a ha; omega
  · simp only [Value.ownBlock, Option.some.injEq] at hk
    subst hk
    refine ⟨⟨h1, by omega⟩, ?_, by omega, by simp [Value.ownBlock], by simp [Value.ownBlock]⟩
    rintro ⟨a, ha, he⟩
    have := h3 a ha; omega
  · obtain ⟨a, ha, rfl⟩ := hk
    have := h3 a ha; exact ⟨this.1, by omega⟩
theorem ledsize_any {w : World} {base g : Nat} {key : List Int} {T : List (List Int)} {F : Nat → Prop} (hL : Led w base g key T F) :
    Calls Tryd.prog 23 #[.pointer (some ⟨g, 0, none⟩)] w fun e w' => e = .returned (.int .i64 T.length) ∧ w = w' := by
  obtain ⟨S, K, ck, tv, lv, cv, cs, H⟩ := hL
  obtain ⟨At, ct, rfl, -, -, -, -⟩ := H.own.from
  have := H.blk
  rw [H.txt.1] at this
  exact size_any w g _ _ _ _ _ _ this

/-- The entry that lives tries. -/
def entL : Ent := ⟨0, 0, List.replicate 32 0, List.replicate 32 0, 2, [], 0⟩
theorem entL_b : EntB entL := ⟨rfl, rfl, zero_ok.2, zero_ok.2, by unfold B64; decide, by unfold B64; decide, by unfold B64; decide, by unfold B64; decide, fun x hx => by cases hx⟩
theorem addR_entL : ∃ b, addR [] entL = ([b], 0) := by
  have h : OkE entL := by decide
  exact ⟨encL entL, addR_ok [] entL h (by decide) rfl⟩
theorem st_buildL {ops : Array Oper} {rest : List Oper} {a : Act} {w : World} {Q : Exit → Act → World → Prop} {d' : Option Tmp} {tt : TypeId} {x : Operand} {pos : String} {after : Array Edge}
    (hx : a.eval x = .agg #[.int .i64 2, .slice none 0 0, .int .i64 0])
    (h : wpList Tryd.prog ops Q rest (a.put d' (.agg (entC entL none 0).toArray)) w) :
    wpList Tryd.prog ops Q (⟨d', .build 39 #[(4, x)], tt, pos, after, none⟩ :: rest) a w :=
  wpList_plain rfl fun K hK => by
    unfold Oper.wp execOp
    simp only [Sem.run_bind, List.map_toArray, List.map_cons, List.map_nil, hx]
    rw [run_build w _ _ (entC entL none 0).toArray (by kernel_rfl)]
    exact hK _ _ h

set_option maxRecDepth 100000 in
set_option maxHeartbeats 4000000 in
theorem lives21_any (w : World) (hk : KV w) : Calls Tryd.prog 16 #[] w fun e w' => e = .returned (.bool true) ∧ Below w.heap.size w w' := by
  have HK := Lib.hid hk
  clear hk
  go_enter Tryd.func16, Tryd.ntmps16
  go_wp2_with fail
  go_at_call 29
  refine (newled_any w none 0 [] ⟨Rd.nil _ _, Nat.le_refl _, fun _ => rfl, U8.nil⟩ (by simp)).mono ?_
  rintro e w1 ⟨g, F, rfl, hb1, hL1, hF⟩
  have HL1 := Lib.hid hL1
  have HF := Lib.hid hF
  clear hL1 hF
  --MARK1
  go_wp2_with (first | ((with_reducible apply st_un); rfl) | (with_reducible apply st_buildL; rfl))
  --MARK2
  go_at_call 21
  refine (ledadd_any w1 w.heap.size g [] [] F HL1.out (by simp) hb1.size entL entL_b none 0 ⟨Rd.nil _ _, Nat.le_refl _, fun _ => rfl⟩ (by decide) (HK.out.up hb1)).mono ?_
  rintro e w2 ⟨rfl, hL2, hC2⟩
  obtain ⟨b, hb⟩ := addR_entL
  rw [hb] at hL2 ⊢
  have HL2 := Lib.hid hL2
  have hB2 := hb1.trans (hC2.below (fun k hk => (HF.out k hk).1) hb1.size)
  clear hb hL2 hC2
  --MARK3
  go_wp2_with (((with_reducible apply st_un); rfl))
  --MARK4
  go_at_call 23
  refine (ledsize_any HL2.out).mono ?_
  rintro e w3 ⟨rfl, rfl⟩
  --MARK5
  go_wp2_with (((with_reducible apply st_un); rfl))
  go_ret
  exact ⟨rfl, hB2⟩

end Go.Proofs.YtancldhincaphaaDoor
