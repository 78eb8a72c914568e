/- What a ledger's first, Text, Head answer. Condition: the table of layer 2 reads as its text lays it (Head). -/
import Derived.Test.YtancldhincaphaaDoorLedL
import Derived.Test.YtancldhincaphaaDoorLedO
import Derived.Test.YtancldhincaphaaDoorGh
namespace Go.Proofs.YtancldhincaphaaDoor
open Go.RowKit
set_option maxRecDepth 100000

theorem fold_zipO (off : Nat) (l : List Value) : ∀ (k : Nat) (cs : Array Value) (pre mid post : List Value), cs.toList = pre ++ mid ++ post → pre.length = off + k → mid.length = l.length →
    ((l.zipIdx k).foldl (fun (cs : Array Value) (x : Value × Nat) => cs.setIfInBounds (off + x.2) x.1) cs).toList = pre ++ l ++ post := by
  induction l with
  | nil => intro k cs pre mid post h1 h2 h3; simp [List.eq_nil_of_length_eq_zero h3] at h1 ⊢; exact h1
  | cons v l ih =>
    intro k cs pre mid post h1 h2 h3
    cases mid with
    | nil => cases h3
    | cons m mid =>
      rw [List.zipIdx_cons, List.foldl_cons]
      have := ih (k + 1) (cs.setIfInBounds (off + k) v) (pre ++ [v]) mid post (by rw [Array.toList_setIfInBounds, h1, List.append_assoc, List.set_append_right _ _ (by omega), h2, Nat.sub_self, List.cons_append, List.set_cons_zero]; simp) (by simp [h2]; omega) (by simpa using h3)
      rw [this]; simp
theorem fill_step (place : Nat → Option (Nat × Nat)) (cells : List Value) (i off sz : Nat) (v : Value) (l : List Value) (rest : List (Nat × Value)) (hp : place i = some (off, sz)) (hv : v.cells = l.toArray) (hl : l.length = sz) (hs : off + sz ≤ cells.length) :
    Instr.fill place cells.toArray ((i, v) :: rest) = Instr.fill place (laid cells off l).toArray rest := by
  have h := fold_zipO off l 0 cells.toArray (cells.take off) ((cells.drop off).take sz) (cells.drop (off + sz)) (by simp [← List.drop_drop]) (by simp; omega) (by simp; omega)
  have h2 : (l.toArray.zipIdx.foldl (fun (a : Array Value) (x : Value × Nat) => a.setIfInBounds (off + x.2) x.1) cells.toArray) = (laid cells off l).toArray := by
    apply Array.ext'
    rw [← Array.foldl_toList]
    unfold laid
    rw [hl]
    simpa using h
  simp only [Instr.fill, hp, hv]
  rw [if_neg (by simp [hl]; omega)]
  exact congrArg (fun c => Instr.fill place c rest) h2
theorem builtHead (n : Int) (r c : List Int) (hr : r.length = 32) (hc : c.length = 32) : Tryd.prog.built 26 [(0, .int .i64 n), (1, .agg (nums .u8 r).toArray), (2, .agg (nums .u8 c).toArray)] = some (headC n r c zd).toArray := by
  have h1 : Tryd.prog.underlying 26 = some (.struct (Tryd.prog.fieldsOf 26)) := by kernel_rfl
  have h2 : (Tryd.prog.info? 26).map (fun i => (i.zero, i.size)) = some (some (.agg (headC 0 zd zd zd).toArray), 97) := by kernel_rfl
  have h3 : (Tryd.prog.fieldsOf 26).toList.mapM (fun f => (Tryd.prog.info? f.type).map fun i => (f.offset, i.size)) = some [(0, 1), (1, 32), (33, 32), (65, 32)] := by kernel_rfl
  have hz : (headC 0 zd zd zd).length = 97 := headC_len rfl rfl rfl
  unfold Program.built
  cases hq : Tryd.prog.info? 26 with
  | none => rw [hq] at h2; cases h2
  | some it =>
    rw [hq] at h2
    simp only [Option.map_some, Option.some.injEq, Prod.mk.injEq] at h2
    rw [h1]
    simp only [h2.1, h3]
    show Instr.fill _ (headC 0 zd zd zd).toArray _ = _
    rw [fill_step _ _ 0 0 1 _ [.int .i64 n] _ rfl rfl rfl (by omega)]
    have e1 : laid (headC 0 zd zd zd) 0 [.int .i64 n] = headC n zd zd zd := rfl
    rw [e1, fill_step _ _ 1 1 32 _ (nums .u8 r) _ rfl rfl (by rw [nums_length, hr]) (by rw [headC_len rfl rfl rfl]; decide)]
    have e2 : laid (headC n zd zd zd) 1 (nums .u8 r) = headC n r zd zd := by
      unfold laid headC
      rw [nums_length, hr, List.take_succ_cons, List.take_zero, List.drop_succ_cons, List.drop_append_of_le_length (by simp [nums_length, zd]), List.drop_eq_nil_of_le (by simp [nums_length, zd])]
      simp
    rw [e2, fill_step _ _ 2 33 32 _ (nums .u8 c) _ rfl rfl (by rw [nums_length, hc]) (by rw [headC_len hr rfl rfl]; decide)]
    have e3 : laid (headC n r zd zd) 33 (nums .u8 c) = headC n r c zd := by
      unfold laid headC
      rw [nums_length, hc, List.take_succ_cons, List.drop_succ_cons, List.take_left' (by rw [nums_length, hr]), ← List.append_assoc (nums .u8 r), List.drop_left' (by simp [nums_length, hr, zd])]
      simp
    rw [e3]; rfl
/-- Head{Size: n, Root: r, Chain: c}. -/
theorem st_buildHd {ops : Array Oper} {rest : List Oper} {a : Act} {w : World} {Q : Exit → Act → World → Prop} {d' : Option Tmp} {tt : TypeId} {pos : String} {after : Array Edge} {x y z : Operand} {n : Int} {r c : List Int}
    (hx : a.eval x = .int .i64 n) (hy : a.eval y = .agg (nums .u8 r).toArray) (hz : a.eval z = .agg (nums .u8 c).toArray) (hr : r.length = 32) (hc : c.length = 32)
    (h : wpList Tryd.prog ops Q rest (a.put d' (.agg (headC n r c zd).toArray)) w) :
    wpList Tryd.prog ops Q (⟨d', .build 26 #[(0, x), (1, y), (2, z)], tt, pos, after, none⟩ :: rest) a w :=
  wpList_plain rfl fun K hK => by
    unfold Oper.wp execOp
    simp only [Sem.run_bind, List.map_toArray, List.map_cons, List.map_nil, hx, hy, hz]
    rw [run_build w _ _ _ (builtHead n r c hr hc)]
    exact hK _ _ h

def firstR (T : List (List Int)) (n : Int) : Int := if 0 ≤ n ∧ n ≤ T.length then 0 else 9
set_option maxRecDepth 100000 in
set_option maxHeartbeats 2000000 in
theorem ledfirst_any {w : World} {base g : Nat} {key : List Int} {T : List (List Int)} {F : Nat → Prop} (hL : Led w base g key T F) (n : Int) :
    Calls Tryd.prog 46 #[.pointer (some ⟨g, 0, none⟩), .int .i64 n] w fun e w' => e = .returned (.int .i64 (firstR T n)) ∧ w = w' := by
  obtain ⟨S, K, ck, tv, lv, cv, cs, H⟩ := hL
  obtain ⟨At, ct, rfl, -, -, -, -⟩ := H.own.from
  have hb := H.blk
  rw [H.txt.1] at hb
  have c2 : w.cell? ⟨g, 2, none⟩ = some (.slice At T.length ct) := hb.cell 2
  have hl := hb.lt
  have HB := Lib.hid hb
  have hn : (0 ≤ n ∧ n ≤ (T.length : Int)) → firstR T n = 0 := fun h => if_pos h
  have hn' : ¬ (0 ≤ n ∧ n ≤ (T.length : Int)) → firstR T n = 9 := fun h => if_neg h
  have HN := Lib.hid (And.intro hn hn')
  clear H hb hn hn'
  by_cases h0 : n < 0
  · rw [HN.out.2 (by omega)]
    go_enter Tryd.func46, Tryd.ntmps46
    go_wp2_with fail
    go_at_call 48
    refine (ok_any w g true _ _ _ _ HB.out).mono ?_
    rintro e wz ⟨rfl, rfl⟩
    go_wp2_with fail
    --MARK1
    go_ret
    exact ⟨rfl, rfl⟩
  · by_cases h1 : n ≤ T.length
    · rw [HN.out.1 (by omega)]
      go_enter Tryd.func46, Tryd.ntmps46
      go_wp2_with fail
      go_at_call 48
      refine (ok_any w g true _ _ _ _ HB.out).mono ?_
      rintro e wz ⟨rfl, rfl⟩
      go_wp2_with ((with_reducible apply st_un); rfl)
      --MARK2
      go_ret
      exact ⟨rfl, rfl⟩
    · rw [HN.out.2 (by omega)]
      have h2 : (T.length : Int) < n := by omega
      clear h1
      go_enter Tryd.func46, Tryd.ntmps46
      go_wp2_with fail
      go_at_call 48
      refine (ok_any w g true _ _ _ _ HB.out).mono ?_
      rintro e wz ⟨rfl, rfl⟩
      go_wp2_with ((with_reducible apply st_un); rfl)
      --MARK3
      go_ret
      exact ⟨rfl, rfl⟩

def ltextR (T : List (List Int)) (i : Int) : List Int × Int := if h : 0 ≤ i ∧ i < T.length then (T[i.toNat]'(by omega), 0) else ([], 9)
set_option maxRecDepth 100000 in
set_option maxHeartbeats 2000000 in
theorem ledtext_any {w : World} {base g : Nat} {key : List Int} {T : List (List Int)} {F : Nat → Prop} (hL : Led w base g key T F) (hTb : ∀ x ∈ T, x.length ≤ 1000) (i : Int) :
    Calls Tryd.prog 32 #[.pointer (some ⟨g, 0, none⟩), .int .i64 i] w (GivesN (ltextR T i) w) := by
  obtain ⟨S, K, ck, tv, lv, cv, cs, H⟩ := hL
  obtain ⟨At, ct, rfl, h1, h2, h3, -⟩ := H.own.from
  have hb := H.blk
  rw [H.txt.1] at hb h1
  have c2 : w.cell? ⟨g, 2, none⟩ = some (.slice At T.length ct) := hb.cell 2
  have hl := hb.lt
  have HB := Lib.hid hb
  have HT := Lib.hid H.txt
  have HR := Lib.hid h3
  have HTB := Lib.hid hTb
  clear H hb h1 h2 h3 hTb
  by_cases hi : 0 ≤ i ∧ i < T.length
  · obtain ⟨k, rfl⟩ : ∃ k : Nat, i = k := ⟨i.toNat, by omega⟩
    have hk : k < T.length := by omega
    obtain ⟨B, d, hj, hby, -⟩ := HT.out.2 k hk
    have hlen := HTB.out _ (List.getElem_mem hk)
    have hr : ltextR T k = (T[k], 0) := by unfold ltextR; rw [dif_pos hi]; rfl
    rw [hr]
    obtain ⟨b, hb⟩ : ∃ b, b = T[k] := ⟨_, rfl⟩
    rw [← hb] at hj hby hlen ⊢
    have hcell : ∃ gt off, At = some ⟨gt, off, none⟩ ∧ w.cell? ⟨gt, off + k, none⟩ = some (.slice B b.length d) := by
      rcases HR.out with h | ⟨gt, off, h1, h2⟩
      · rw [h] at hj; simp at hj
      · exact ⟨gt, off, h1, h2 k _ hj⟩
    obtain ⟨gt, off, rfl, hcl⟩ := hcell
    have HBY := Lib.hid hby
    clear hj hby hr hb hi
    go_enter Tryd.func32, Tryd.ntmps32
    go_wp2_with fail
    go_at_call 48
    refine (ok_any w g true _ _ _ _ HB.out).mono ?_
    rintro e wz ⟨rfl, rfl⟩
    go_wp2_with ((with_reducible apply st_un); rfl)
    --MARK4
    go_at_call 45
    refine (clone_any w B d b HBY.out (by omega)).mono ?_
    rintro e w1 ⟨v1, rfl, hb1, ho1⟩
    go_wp2_with fail
    go_ret2
    exact ⟨v1, rfl, hb1, ho1⟩
  · have hr : ltextR T i = ([], 9) := by unfold ltextR; rw [dif_neg hi]
    rw [hr]
    clear hr
    by_cases h0 : i < 0
    · go_enter Tryd.func32, Tryd.ntmps32
      go_wp2_with fail
      go_at_call 48
      refine (ok_any w g true _ _ _ _ HB.out).mono ?_
      rintro e wz ⟨rfl, rfl⟩
      go_wp2_with fail
      go_ret2
      exact ⟨_, rfl, Below.refl _ _, Own.nil _ _⟩
    · have h2 : (T.length : Int) ≤ i := by omega
      clear hi
      go_enter Tryd.func32, Tryd.ntmps32
      go_wp2_with fail
      go_at_call 48
      refine (ok_any w g true _ _ _ _ HB.out).mono ?_
      rintro e wz ⟨rfl, rfl⟩
      go_wp2_with ((with_reducible apply st_un); rfl)
      go_ret2
      exact ⟨_, rfl, Below.refl _ _, Own.nil _ _⟩

/-- The head of texts, signed. -/
def headF (key : List Int) (T : List (List Int)) : List Value := headC T.length (rootF (lleavesF T) 256) (lchainF T) (macF key (headT T.length (rootF (lleavesF T) 256) (lchainF T)))
theorem headF_len (key : List Int) (T : List (List Int)) : (headF key T).length = 97 := headC_len (rootF_ok _ _ (lleavesF_ok T)).1 (lchainF_ok T).1 (macF_len _ _)
theorem lleavesF_take (T : List (List Int)) (n : Nat) : lleavesF (T.take n) = (lleavesF T).take n := by simp [lleavesF, List.map_take]
set_option maxRecDepth 100000 in
set_option maxHeartbeats 8000000 in
theorem ledhead_any {w : World} {base g : Nat} {key : List Int} {T : List (List Int)} {F : Nat → Prop} (hL : Led w base g key T F) (hT : T.length ≤ 64) (hkl : key.length ≤ 1000) (n : Nat) (hn : n ≤ T.length) (z : Int) (hz : z = n) (hk : KV w) :
    Calls Tryd.prog 20 #[.pointer (some ⟨g, 0, none⟩), .int .i64 z] w fun e w' => e = .returned (.tuple #[.agg (headF key (T.take n)).toArray, .int .i64 0]) ∧ Below w.heap.size w w' := by
  subst hz
  have hfi := fun w (h : Led w base g key T F) => ledfirst_any h (n : Int)
  have hfr : firstR T n = 0 := if_pos ⟨by omega, by omega⟩
  rw [hfr] at hfi
  obtain ⟨w0, hw0⟩ : ∃ W, W = w.alloc (.cells (headC 0 zd zd zd).toArray 26) := ⟨_, rfl⟩
  have hx0 : Blk w0 w.heap.size (headC 0 zd zd zd) 26 := by rw [hw0]; exact Blk.new' _ _ _ _ _ rfl rfl
  have hB0 : Below w.heap.size w w0 := by rw [hw0]; exact (Below.refl _ _).alloc (Nat.le_refl _) _
  have hL0 := hL.ch (Ch.of (X := fun _ => False) hB0) (fun _ _ h => h)
  obtain ⟨S, K, ck, tv, lv, cv, cs, H⟩ := hL
  obtain ⟨Al, cl, rfl, hdl, -⟩ := H.lea.dg
  obtain ⟨Ac, cc, rfl, hdc, -⟩ := H.cha.dg
  obtain ⟨gc, hAc⟩ : ∃ gc, Ac = some ⟨gc, 0, none⟩ := OwnD.pos H.cha (by rw [lchainL_len]; omega)
  subst hAc
  have hcells := H.cha.cells n (by rw [lchainL_len]; omega)
  rw [lchainL_at T n hn] at hcells
  have hgc := (H.cha.lt gc rfl).2
  have hb := H.blk
  rw [lleavesF_len, lchainL_len] at hb
  have hg := hb.lt
  have hsp : ∀ ad, Al = some ad → ad.spot = none := fun ad ha => by
    subst ha
    rcases H.lea.1.2 with ⟨h, _⟩ | ⟨g', cap, cur, hv, _⟩
    · injection h with h; cases h
    · injection hv with h; injection h with h; rw [h]
  have hle := hdl.le
  rw [lleavesF_len] at hle
  have hroot := fun w1 h1 h2 => root_any n w1 ((lleavesF T).take n) Al cl (by rw [List.length_take, lleavesF_len]; omega) (Dg.take h1 n (by rw [lleavesF_len]; exact hn)) (by rw [List.length_take]; omega) 256 h2
  rw [show ((lleavesF T).take n).length = n by rw [List.length_take, lleavesF_len]; omega, ← lleavesF_take] at hroot
  have hsign := fun w1 h1 h2 => sign_any w1 key K ck h1 hkl (n : Int) (rootF (lleavesF (T.take n)) 256) (lchainF (T.take n)) zd (rootF_ok _ _ (lleavesF_ok _)).1 (lchainF_ok _).1 rfl (rootF_ok _ _ (lleavesF_ok _)).2 (lchainF_ok _).2 h2
  have hRo := rootF_ok (lleavesF (T.take n)) 256 (lleavesF_ok _)
  have hXo := lchainF_ok (T.take n)
  have hHl := headF_len key (T.take n)
  have hHe : headF key (T.take n) = headC (n : Int) (rootF (lleavesF (T.take n)) 256) (lchainF (T.take n)) (macF key (headT (n : Int) (rootF (lleavesF (T.take n)) 256) (lchainF (T.take n)))) := by
    unfold headF
    rw [show ((T.take n).length : Int) = n by rw [List.length_take]; omega]
  rw [← hHe] at hsign
  obtain ⟨R, hR⟩ : ∃ R, R = rootF (lleavesF (T.take n)) 256 := ⟨_, rfl⟩
  obtain ⟨X, hX⟩ : ∃ X, X = lchainF (T.take n) := ⟨_, rfl⟩
  obtain ⟨HD, hHD⟩ : ∃ HD, HD = headF key (T.take n) := ⟨_, rfl⟩
  have hHone : ∀ v ∈ HD, v.oneCell' = true := by rw [hHD]; exact headC_one _ _ _ _
  rw [← hR] at hroot hsign hRo
  rw [← hX] at hcells hsign hXo
  rw [← hHD] at hsign hHl ⊢
  have c1 : w0.cell? ⟨g, 1, none⟩ = some (.slice K key.length ck) := (hB0.cell (p := ⟨g, 1, none⟩) hg).trans (hb.cell 1)
  have c3 : w0.cell? ⟨g, 3, none⟩ = some (.slice Al T.length cl) := (hB0.cell (p := ⟨g, 3, none⟩) hg).trans (hb.cell 3)
  have c4 : w0.cell? ⟨g, 4, none⟩ = some (.slice (some ⟨gc, 0, none⟩) (T.length + 1) cc) := (hB0.cell (p := ⟨g, 4, none⟩) hg).trans (hb.cell 4)
  have HCE := Lib.hid hcells
  have HW0 := Lib.hid hw0
  have HL0 := Lib.hid hL0
  have HFI := Lib.hid hfi
  have HRT := Lib.hid hroot
  have HSG := Lib.hid hsign
  have HRO := Lib.hid hRo
  have HXO := Lib.hid hXo
  have HHL := Lib.hid hHl
  have HONE := Lib.hid hHone
  have HK := Lib.hid hk
  have HDL := Lib.hid hdl
  have HKEY := Lib.hid H.key
  have HSP := Lib.hid hsp
  have HNN := Lib.hid hdl.nn
  have hg0 := Nat.lt_of_lt_of_le hg hB0.size
  have hgc0 := Nat.lt_of_lt_of_le hgc hB0.size
  have hxl := hx0.lt
  clear hcells hw0 hL0 hfi hfr hroot hsign hRo hXo hHl hHone hk hdl hdc H hsp hb hHe hR hX hHD
  go_enter Tryd.func20, Tryd.ntmps20
  go_upto_region 1 with (fail)
  refine named_world ?_
  intro wq hwq
  have e : w0 = wq := by rw [hwq, HW0.out]; rfl
  clear hwq
  subst e
  go_wp2_with fail
  go_at_call 46
  refine (HFI.out w0 HL0.out).mono ?_
  rintro e wz ⟨rfl, rfl⟩
  go_wp2_with fail
  --MARK5
  have hB := hB0.drew
  refine wp_region_CF (Same [g, gc] w0) [11, 20, 21] [22] (by kernel_rfl) (by kernel_rfl) (by intro c a w h; first | (obtain ⟨_, h, _⟩ := h; cases h; done) | (obtain ⟨_, _, h, _⟩ := h; cases h; done) | (obtain ⟨_, _, _, h, _⟩ := h; cases h; done) | (obtain ⟨_, _, _, _, h, _⟩ := h; cases h; done) | (rcases h with ⟨_, ⟨_, _, _, _, h, _⟩ | ⟨_, _, _, _, h, _⟩⟩ <;> cases h; done)) (by intro a w h; first | (obtain ⟨h, _⟩ := h; cases h; done) | (obtain ⟨_, h, _⟩ := h; cases h; done) | (obtain ⟨_, _, h, _⟩ := h; cases h; done) | (obtain ⟨_, _, _, h, _⟩ := h; cases h; done) | (rcases h with ⟨_, _, _, _, h, _⟩ | ⟨_, _, _, _, h, _⟩ <;> cases h; done)) (Same.refl _ _) ?_
  --MARK6
  repeat (refine wd_w (v := ?_) rfl rfl rfl rfl rfl rfl (fun w' hw' K hK => ?_) ?_; rotate_left; (have e1 := (hw'.cell g (by simp) 1).trans c1; have e3 := (hw'.cell g (by simp) 3).trans c3; go_wp2_with ((first | ((with_reducible apply st_toD (sz := 32) (i := n)); exact Tryd.underlying66; kernel_rfl; rfl; rfl; rfl; omega; exact HNN.out; exact HSP.out))); exact rfl); simp only [Act.put, List.setIfInBounds_toArray, List.set_cons_zero, List.set_cons_succ])
  --MARK7
  refine wd_l rfl rfl (by intro a w h; first | (obtain ⟨h, _⟩ := h; cases h; done) | (obtain ⟨_, h, _⟩ := h; cases h; done) | (obtain ⟨_, _, h, _⟩ := h; cases h; done) | (obtain ⟨_, _, _, h, _⟩ := h; cases h; done) | (rcases h with ⟨_, _, _, _, h, _⟩ | ⟨_, _, _, _, h, _⟩ <;> cases h; done)) ?_
  go_wp2_with fail
  go_at_call 47
  refine (HRT.out _ (HDL.out.up hB) (HK.out.up hB)).mono ?_
  rintro e w2 ⟨rfl, hb2⟩
  have hb02 : Below w0.heap.size w0 w2 := (Below.refl w0.heap.size w0).drew.trans hb2
  have hB := hB0.trans (hb02.mono hB0.size)
  have hS2 : Same [g, gc] w0 w2 := fun k hk => hb02.block k (by simp at hk; omega)
  go_wp2_with fail
  refine ⟨.inr hS2, ?_⟩
  --MARK8
  repeat (refine wd_w (v := ?_) rfl rfl rfl rfl rfl rfl (fun w' hw' K hK => ?_) ?_; rotate_left; (have e4 := (hw'.cell g (by simp) 4).trans c4; have e5 : ∀ j v, (nums .u8 X)[j]? = some v → w'.cell? ⟨gc, n * 32 + j, none⟩ = some v := fun j v hv => ((hw'.cell gc (by simp) _).trans (hB0.cell (p := ⟨gc, n * 32 + j, none⟩) hgc)).trans (HCE.out j v hv); go_wp2_with ((first | ((with_reducible apply st_loadCells (cs := nums .u8 (X))); rfl; exact e5; exact Tryd.underlying24; rfl; (rw [nums_length, HXO.out.1]; kernel_rfl)) | ((with_reducible apply st_buildHd (n := (n : Int)) (r := R) (c := X)); rfl; rfl; rfl; exact HRO.out.1; exact HXO.out.1))); exact rfl); simp only [Act.put, List.setIfInBounds_toArray, List.set_cons_zero, List.set_cons_succ])
  --MARK9
  refine wd_l rfl rfl (by intro a w h; first | (obtain ⟨h, _⟩ := h; cases h; done) | (obtain ⟨_, h, _⟩ := h; cases h; done) | (obtain ⟨_, _, h, _⟩ := h; cases h; done) | (obtain ⟨_, _, _, h, _⟩ := h; cases h; done) | (rcases h with ⟨_, _, _, _, h, _⟩ | ⟨_, _, _, _, h, _⟩ <;> cases h; done)) ?_
  go_wp2_with fail
  go_at_call 14
  refine (HSG.out _ (HKEY.out.up hB) (HK.out.up hB)).mono ?_
  rintro e w3 ⟨rfl, hb3⟩
  have hb03 : Below w0.heap.size w0 w3 := hb02.trans (hb3.mono hb02.size)
  have hB := hB0.trans (hb03.mono hB0.size)
  have hS3 : Same [g, gc] w0 w3 := fun k hk => hb03.block k (by simp at hk; omega)
  have hx3 := hx0.up hb03
  go_wp2_with fail
  refine ⟨.inr hS3, ?_⟩
  --MARK10
  refine wd_late rfl (by kernel_rfl) rfl rfl (by intro a w h; first | (obtain ⟨h, _⟩ := h; cases h; done) | (obtain ⟨_, h, _⟩ := h; cases h; done) | (obtain ⟨_, _, h, _⟩ := h; cases h; done) | (obtain ⟨_, _, _, h, _⟩ := h; cases h; done) | (rcases h with ⟨_, _, _, _, h, _⟩ | ⟨_, _, _, _, h, _⟩ <;> cases h; done)) ?_
  go_wp2_with ((with_reducible apply st_storeW (off := 0) (vs := HD) (cs := headC 0 zd zd zd) (T := 26)); rfl; rfl; exact hx3; (rw [HHL.out]; exact headSize); (rw [HHL.out, zd_len]; decide); exact HONE.out; intro w4 hd4 hw4; rw [laid_all _ _ (by rw [HHL.out, zd_len])] at hd4)
  --MARK11
  refine wd_assign (v := .int .i64 0) rfl rfl rfl rfl ?_
  refine wd_nil ?_
  simp only [Act.put, List.setIfInBounds_toArray, List.set_cons_zero, List.set_cons_succ]
  go_wp2_with fail
  --MARK12
  refine bodyPost_ret (ret_row_tmp rfl _ _ _ HD 26 _ rfl hd4 Tryd.underlying26 rfl (by rw [HHL.out]; exact headSize)) rfl ⟨rfl, Wrote.below hB hw4 (Nat.le_refl _)⟩

end Go.Proofs.YtancldhincaphaaDoor
