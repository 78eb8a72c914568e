/- What the reference's Path, Growth and Add of layer 21 answer. No condition. -/
import Derived.Test.YtancldhincaphaaDoorRefL
namespace Go.Proofs.YtancldhincaphaaDoor
open Go.RowKit
set_option maxRecDepth 100000

theorem Txts.take {w : World} {A : Option Addr} {c : Nat} {l : List (List Int)} (h : Txts w A c l) (k : Nat) : Txts w A c (l.take k) := by
  refine ⟨by rw [List.length_take]; have := h.le; omega, h.nn, ?_⟩
  rcases h.at' with rfl | ⟨g, o, h1, h2, h3⟩
  · left; simp
  · refine .inr ⟨g, o, h1, h2, fun j hj => ?_⟩
    have hj' : j < l.length := by rw [List.length_take] at hj; omega
    obtain ⟨B, d, h4, h5⟩ := h3 j hj'
    rw [List.getElem_take]
    exact ⟨B, d, h4, h5⟩
theorem Txts.spot {w : World} {A : Option Addr} {c : Nat} {l : List (List Int)} (h : Txts w A c l) (hl : 0 < l.length) : ∀ ad, A = some ad → ad.spot = none := by
  obtain ⟨g, o, rfl, _⟩ := h.get hl
  intro ad ha; injection ha with ha; subst ha; rfl
set_option maxRecDepth 100000 in
set_option maxHeartbeats 4000000 in
theorem refpath21_any (w : World) (T : List (List Int)) (A : Option Addr) (c : Nat) (hT : Txts w A c T) (hl : T.length ≤ 64) (hb : ∀ b ∈ T, b.length ≤ 1000) (i n : Int) :
    Calls Tryd.prog 58 #[.slice A T.length c, .int .i64 i, .int .i64 n] w (GivesDE (lpathR T i n) w) := by
  by_cases h : 0 ≤ n ∧ n ≤ T.length ∧ 0 ≤ i ∧ i < n
  · obtain ⟨N, rfl⟩ : ∃ N : Nat, n = N := ⟨n.toNat, by omega⟩
    have hr : lpathR T i N = (pathF (lleavesF (T.take N)) i 256, 0) := by unfold lpathR; rw [if_pos (by omega)]; simp
    have hlen : (T.take N).length = N := by rw [List.length_take]; omega
    have hll : (leavesF (T.take N) 256).length = N := by rw [leavesF_len, hlen]
    have hr2 : pathR (leavesF (T.take N) 256) i 256 = (pathF (leavesF (T.take N) 256) i 256, 0) := by unfold pathR; rw [if_pos (by rw [hll]; omega)]
    have hleaves := fun (W : World) (h : Txts W A c (T.take N)) => refleaves_any W (T.take N) A c h (by omega) (fun b h => hb b (List.mem_of_mem_take h)) 256
    have hpath := fun (W : World) (A' : Option Addr) (c' : Nat) (h : Dg W A' c' (leavesF (T.take N) 256)) => refPath_any W (leavesF (T.take N) 256) A' c' h (by omega) i 256
    rw [hlen] at hleaves
    rw [hll, hr2] at hpath
    rw [hr, ← leavesF_256]
    have htk := hT.take N
    have hsp := hT.spot (by omega)
    have hnn := hT.nn
    have hle := hT.le
    obtain ⟨D, hD⟩ : ∃ D, D = leavesF (T.take N) 256 := ⟨_, rfl⟩
    rw [← hD] at hleaves hpath hll ⊢
    obtain ⟨P, hP⟩ : ∃ P, P = pathF D i 256 := ⟨_, rfl⟩
    rw [← hP] at hpath ⊢
    have HLV := Lib.hid (hleaves w htk)
    have HPA := Lib.hid hpath
    have HLL := Lib.hid hll
    have HSP := Lib.hid hsp
    have HNN := Lib.hid hnn
    have hNc : N ≤ c := by omega
    clear hr hlen hll hr2 hleaves hpath htk hsp hnn hle hD hP hT hb
    go_enter Tryd.func58, Tryd.ntmps58
    go_wp2_with (first | ((with_reducible apply st_un); rfl) | ((with_reducible apply st_toD (sz := 1) (i := N)); exact Tryd.underlying43; kernel_rfl; rfl; rfl; rfl; exact hNc; exact HNN.out; exact HSP.out))
    --MARK1
    go_at_call 83
    refine HLV.out.mono ?_
    rintro e w1 ⟨v1, rfl, hb1, ho1⟩
    obtain ⟨A1, c1, rfl, hdg1, _⟩ := ho1.dg
    rw [HLL.out]
    have HDG := Lib.hid hdg1
    clear ho1 hdg1
    go_wp2_with fail
    --MARK2
    go_at_call 82
    refine (HPA.out w1 A1 c1 HDG.out).mono ?_
    rintro e w2 ⟨v2, rfl, hb2, ho2⟩
    go_wp2_with fail
    --MARK3
    go_ret2
    exact ⟨v2, rfl, hb1.trans (hb2.mono hb1.size), ho2.mono hb1.size⟩
  · have hr : lpathR T i n = ([], 9) := by unfold lpathR; rw [if_neg h]
    rw [hr]
    clear hr hT hb
    by_cases h1 : n < 0
    · clear h
      go_enter Tryd.func58, Tryd.ntmps58
      go_wp2_with ((with_reducible apply st_un); rfl)
      go_ret2
      exact ⟨_, rfl, Below.refl _ _, OwnD.nil _ _⟩
    · by_cases h2 : (T.length : Int) < n
      · clear h
        go_enter Tryd.func58, Tryd.ntmps58
        go_wp2_with ((with_reducible apply st_un); rfl)
        go_ret2
        exact ⟨_, rfl, Below.refl _ _, OwnD.nil _ _⟩
      · by_cases h3 : i < 0
        · clear h
          go_enter Tryd.func58, Tryd.ntmps58
          go_wp2_with ((with_reducible apply st_un); rfl)
          go_ret2
          exact ⟨_, rfl, Below.refl _ _, OwnD.nil _ _⟩
        · have h4 : n ≤ i := by omega
          clear h
          go_enter Tryd.func58, Tryd.ntmps58
          go_wp2_with ((with_reducible apply st_un); rfl)
          go_ret2
          exact ⟨_, rfl, Below.refl _ _, OwnD.nil _ _⟩

set_option maxRecDepth 100000 in
set_option maxHeartbeats 4000000 in
theorem refgrowth21_any (w : World) (T : List (List Int)) (A : Option Addr) (c : Nat) (hT : Txts w A c T) (hl : T.length ≤ 64) (hb : ∀ b ∈ T, b.length ≤ 1000) (i n : Int) :
    Calls Tryd.prog 59 #[.slice A T.length c, .int .i64 i, .int .i64 n] w (GivesDE (lgrowthR T i n) w) := by
  by_cases h : 0 ≤ n ∧ n ≤ T.length ∧ 1 ≤ i ∧ i ≤ n
  · obtain ⟨N, rfl⟩ : ∃ N : Nat, n = N := ⟨n.toNat, by omega⟩
    have hr : lgrowthR T i N = (growthF (lleavesF (T.take N)) i.toNat 256 true, 0) := by unfold lgrowthR; rw [if_pos (by omega)]; simp
    have hlen : (T.take N).length = N := by rw [List.length_take]; omega
    have hll : (leavesF (T.take N) 256).length = N := by rw [leavesF_len, hlen]
    have hr2 : growthR (leavesF (T.take N) 256) i 256 = (growthF (leavesF (T.take N) 256) i.toNat 256 true, 0) := by unfold growthR; rw [if_pos (by rw [hll]; omega)]
    have hleaves := fun (W : World) (h : Txts W A c (T.take N)) => refleaves_any W (T.take N) A c h (by omega) (fun b h => hb b (List.mem_of_mem_take h)) 256
    have hpath := fun (W : World) (A' : Option Addr) (c' : Nat) (h : Dg W A' c' (leavesF (T.take N) 256)) => refGrowth_any W (leavesF (T.take N) 256) A' c' h (by omega) i 256
    rw [hlen] at hleaves
    rw [hll, hr2] at hpath
    rw [hr, ← leavesF_256]
    have htk := hT.take N
    have hsp := hT.spot (by omega)
    have hnn := hT.nn
    have hle := hT.le
    obtain ⟨D, hD⟩ : ∃ D, D = leavesF (T.take N) 256 := ⟨_, rfl⟩
    rw [← hD] at hleaves hpath hll ⊢
    obtain ⟨P, hP⟩ : ∃ P, P = growthF D i.toNat 256 true := ⟨_, rfl⟩
    rw [← hP] at hpath ⊢
    have HLV := Lib.hid (hleaves w htk)
    have HPA := Lib.hid hpath
    have HLL := Lib.hid hll
    have HSP := Lib.hid hsp
    have HNN := Lib.hid hnn
    have hNc : N ≤ c := by omega
    clear hr hlen hll hr2 hleaves hpath htk hsp hnn hle hD hP hT hb
    go_enter Tryd.func59, Tryd.ntmps59
    go_wp2_with (first | ((with_reducible apply st_un); rfl) | ((with_reducible apply st_toD (sz := 1) (i := N)); exact Tryd.underlying43; kernel_rfl; rfl; rfl; rfl; exact hNc; exact HNN.out; exact HSP.out))
    --MARK1
    go_at_call 83
    refine HLV.out.mono ?_
    rintro e w1 ⟨v1, rfl, hb1, ho1⟩
    obtain ⟨A1, c1, rfl, hdg1, _⟩ := ho1.dg
    rw [HLL.out]
    have HDG := Lib.hid hdg1
    clear ho1 hdg1
    go_wp2_with fail
    --MARK2
    go_at_call 84
    refine (HPA.out w1 A1 c1 HDG.out).mono ?_
    rintro e w2 ⟨v2, rfl, hb2, ho2⟩
    go_wp2_with fail
    --MARK3
    go_ret2
    exact ⟨v2, rfl, hb1.trans (hb2.mono hb1.size), ho2.mono hb1.size⟩
  · have hr : lgrowthR T i n = ([], 9) := by unfold lgrowthR; rw [if_neg h]
    rw [hr]
    clear hr hT hb
    by_cases h1 : n < 0
    · clear h
      go_enter Tryd.func59, Tryd.ntmps59
      go_wp2_with ((with_reducible apply st_un); rfl)
      go_ret2
      exact ⟨_, rfl, Below.refl _ _, OwnD.nil _ _⟩
    · by_cases h2 : (T.length : Int) < n
      · clear h
        go_enter Tryd.func59, Tryd.ntmps59
        go_wp2_with ((with_reducible apply st_un); rfl)
        go_ret2
        exact ⟨_, rfl, Below.refl _ _, OwnD.nil _ _⟩
      · by_cases h3 : i < 1
        · clear h
          go_enter Tryd.func59, Tryd.ntmps59
          go_wp2_with ((with_reducible apply st_un); rfl)
          go_ret2
          exact ⟨_, rfl, Below.refl _ _, OwnD.nil _ _⟩
        · have h4 : n < i := by omega
          clear h
          go_enter Tryd.func59, Tryd.ntmps59
          go_wp2_with ((with_reducible apply st_un); rfl)
          go_ret2
          exact ⟨_, rfl, Below.refl _ _, OwnD.nil _ _⟩


/-- What the reference's Add answers, and what it leaves of the row. -/
def RefAddPost (w : World) (base : Nat) (v : Value) (T : List (List Int)) (e : Ent) (r : Ending) (w' : World) : Prop :=
  ∃ v', r = .returned (.tuple #[v', .int .i64 (addR T e).2]) ∧ TL w' base (addR T e).1 v' ∧ Ch (fun k => v.ownBlock = some k) w w'
set_option maxRecDepth 100000 in
set_option maxHeartbeats 8000000 in
theorem refadd_any (w : World) (base : Nat) (T : List (List Int)) (A : Option Addr) (c : Nat) (hT : TL w base T (.slice A T.length c)) (hl : T.length ≤ 64) (hbase : base ≤ w.heap.size) (e : Ent) (he : EntB e) (B : Option Addr) (d : Nat) (ho : Nts w B d e.ord) (hol : e.ord.length ≤ 1000) :
    Calls Tryd.prog 30 #[.slice A T.length c, .agg (entC e B d).toArray] w (RefAddPost w base (.slice A T.length c) T e) := by
  have henc := fun w (h : Nts w B d e.ord) => refencode_any w e he B d h hol
  obtain ⟨w0, hw0⟩ : ∃ W, W = w.alloc (.cells (entC e B d).toArray 39) := ⟨_, rfl⟩
  have hx0 : Blk w0 w.heap.size (entC e B d) 39 := by rw [hw0]; exact Blk.new' _ _ _ _ _ rfl rfl
  have hB0 : Below w.heap.size w w0 := by rw [hw0]; exact (Below.refl _ _).alloc (Nat.le_refl _) _
  have HENC := Lib.hid henc
  have HLEN := Lib.hid (entC_len he B d)
  have HW0 := Lib.hid hw0
  have HO := Lib.hid ho
  have HE := Lib.hid he
  have HT := Lib.hid hT
  clear hw0 henc ho he hT
  go_enter Tryd.func30, Tryd.ntmps30
  go_upto_region 1 with (fail)
  rw [← HW0.out]
  go_wp2_with ((with_reducible apply st_load (n := 69) (cs := entC e B d) (T := 39)); rfl; exact hx0; exact Tryd.underlying39; rfl; exact entSize; (rw [HLEN.out]; decide); exact row_all _ _ HLEN.out)
  --MARK4
  go_at_call 57
  refine (HENC.out w0 (HO.out.up hB0)).mono ?_
  rintro r w1 ⟨v1, rfl, hb1, ho1⟩
  have hx1 := hx0.up hb1
  have hB1 := hB0.trans (hb1.mono hB0.size)
  have hl1 := hx1.lt
  have HT1 := Lib.hid (HT.out.up hB1)
  have HC1 := Lib.hid (Ch.of (X := fun k => (Value.slice A T.length c).ownBlock = some k) hB1)
  by_cases hok : OkE e
  · have heu := encL_u8L hok HE.out
    have hfull := fun h => addR_full T e hok h
    have harg := fun h1 h2 => addR_arg T e hok h1 h2
    have hyes := fun h1 h2 => addR_ok T e hok h1 h2
    rw [encR_yes e hok] at ho1 ⊢
    obtain ⟨b, hBe⟩ : ∃ b, b = encL e := ⟨_, rfl⟩
    rw [← hBe] at heu hyes ho1
    obtain ⟨B1, d1, rfl, hy1, hn1⟩ := ho1.byt heu
    have hlt1 : ∀ a, B1 = some a → a.block < w1.heap.size := fun a ha => (World.ownsRow.lt ho1 a.block (by rw [ha]; rfl)).2
    have HY1 := Lib.hid hy1
    have HN1 := Lib.hid (And.intro hn1 hlt1)
    have HFULL := Lib.hid hfull
    have HARG := Lib.hid harg
    have HYES := Lib.hid hyes
    clear heu hfull harg hyes hBe ho1 hy1 hn1 hlt1 hok
    by_cases h64 : 64 ≤ T.length
    · have HF := HFULL.out h64
      go_wp2_with fail
      go_ret2
      unfold RefAddPost
      rw [HF]
      exact ⟨_, rfl, HT1.out, HC1.out⟩
    · have hlt : T.length < 64 := by omega
      clear h64
      have cj : w1.cell? ⟨w.heap.size, 0, none⟩ = some (.int .i64 e.job) := hx1.cell 0
      by_cases hj : e.job = T.length
      · have HF := HYES.out hlt hj
        rw [hj] at cj
        clear hj
        have hba : Below w1.heap.size w1 (w1.alloc (.cells #[.slice B1 b.length d1] 22)) := (Below.refl _ _).alloc (Nat.le_refl _) _
        have hra : Blk (w1.alloc (.cells #[.slice B1 b.length d1] 22)) w1.heap.size [.slice B1 b.length d1] 22 := Blk.new' _ _ _ _ _ rfl rfl
        have HT2 := Lib.hid (HT1.out.up hba)
        have hown : ∀ a, B1 = some a → base ≤ a.block ∧ a.block < (w1.alloc (.cells #[.slice B1 b.length d1] 22)).heap.size ∧ (Value.slice A T.length c).ownBlock ≠ some a.block := fun a ha => by
          have h1 := HN1.out.1 a ha
          have h2 := HN1.out.2 a ha
          have h3 := hB0.size
          refine ⟨by omega, by have := hba.size; omega, fun h => ?_⟩
          have := (HT.out.own _ h).2
          omega
        have HOWN := Lib.hid hown
        have hs1 := hB1.size
        clear hown
        --MARK5
        go_wp2_with ((with_reducible apply st_pushL (base := base) (g2 := w1.heap.size) (v := .slice A T.length c) (L := T) (b := b) (B := B1) (d := d1)); rfl; rfl; exact HT2.out; exact hra; exact (HY1.out.up hba); exact HOWN.out; omega; (have := hba.size; omega); intro v2 w2 ht2 hg2)
        --MARK6
        go_ret2
        unfold RefAddPost
        rw [HF]
        exact ⟨v2, rfl, ht2, (HC1.out.trans (Ch.of hba)).trans (Ch.grown hg2 (fun k hk => hk))⟩
      · have HF := HARG.out hlt hj
        obtain ⟨J, hJ⟩ : ∃ J, J = e.job := ⟨_, rfl⟩
        rw [← hJ] at cj hj
        clear hJ
        go_wp2_with fail
        go_ret2
        unfold RefAddPost
        rw [HF]
        exact ⟨_, rfl, HT1.out, HC1.out⟩
  · have HF := addR_no T e hok
    rw [encR_no e hok]
    clear hok
    go_wp2_with fail
    go_ret2
    unfold RefAddPost
    rw [HF]
    exact ⟨_, rfl, HT1.out, HC1.out⟩

end Go.Proofs.YtancldhincaphaaDoor
