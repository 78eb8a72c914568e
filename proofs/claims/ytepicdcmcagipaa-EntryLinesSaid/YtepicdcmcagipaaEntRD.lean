/- What the reference's Decode of layer 20 answers. No condition but the kinds' own bounds. -/
import Derived.Test.YtepicdcmcagipaaEntX
namespace Go.Proofs.Ytepicdcmcagipaa
open Go.RowKit

def fillZ (X : List Int) (k : Nat) : List Int := X.take k ++ List.replicate (32 - k) 0
theorem fillZ_zero (X : List Int) : fillZ X 0 = Z32 := by simp [fillZ, Z32]
theorem fillZ_all (X : List Int) (h : X.length = 32) : fillZ X 32 = X := by unfold fillZ; rw [List.take_of_length_le (by omega)]; simp
theorem fillZ_len (X : List Int) (h : X.length = 32) (k : Nat) (hk : k ≤ 32) : (fillZ X k).length = 32 := by simp [fillZ]; omega
theorem fillZ_set (X : List Int) (h : X.length = 32) (k : Nat) (hk : k < 32) : (fillZ X k).set k (ga X k) = fillZ X (k + 1) := by
  unfold fillZ
  have hl : (X.take k).length = k := by rw [List.length_take]; omega
  rw [List.set_append_right _ _ (by omega), hl, Nat.sub_self, show 32 - k = (32 - (k + 1)) + 1 by omega, List.replicate_succ, List.set_cons_zero, take_at X k (by omega), ga_eq, List.append_assoc]; rfl
theorem entV_setH (j t : Int) (h s : List Int) (k : Int) (v : Value) (r : Int) (i : Nat) (x : Int) (hi : i < h.length) : (entV j t h s k v r).set (2 + i) (.int .u8 x) = entV j t (h.set i x) s k v r := by
  unfold entV
  rw [show 2 + i = i + 1 + 1 by omega, List.set_cons_succ, List.set_cons_succ, List.append_assoc, List.set_append_left _ _ (by rw [nums_length]; exact hi), nums_set, List.append_assoc]
theorem entV_setS (j t : Int) (h s : List Int) (k : Int) (v : Value) (r : Int) (hh : h.length = 32) (i : Nat) (x : Int) (hi : i < s.length) : (entV j t h s k v r).set (34 + i) (.int .u8 x) = entV j t h (s.set i x) k v r := by
  unfold entV
  rw [show 34 + i = (32 + i) + 1 + 1 by omega, List.set_cons_succ, List.set_cons_succ, List.append_assoc, List.set_append_right _ _ (by rw [nums_length, hh]; omega), nums_length, hh, show 32 + i - 32 = i by omega, List.set_append_left _ _ (by rw [nums_length]; exact hi), nums_set, List.append_assoc]
theorem entV_atH (j t : Int) (h s : List Int) (k : Int) (v : Value) (r : Int) (i : Nat) (hi : i < h.length) : (entV j t h s k v r)[2 + i]? = some (.int .u8 (ga h i)) := by
  unfold entV
  rw [show 2 + i = i + 1 + 1 by omega, List.getElem?_cons_succ, List.getElem?_cons_succ, List.append_assoc, List.getElem?_append_left (by rw [nums_length]; exact hi), nums_at _ _ _ hi]; rfl
theorem entV_atS (j t : Int) (h s : List Int) (k : Int) (v : Value) (r : Int) (hh : h.length = 32) (i : Nat) (hi : i < s.length) : (entV j t h s k v r)[34 + i]? = some (.int .u8 (ga s i)) := by
  unfold entV
  rw [show 34 + i = (32 + i) + 1 + 1 by omega, List.getElem?_cons_succ, List.getElem?_cons_succ, List.append_assoc, List.getElem?_append_right (by rw [nums_length, hh]; omega), nums_length, hh, show 32 + i - 32 = i by omega, List.getElem?_append_left (by rw [nums_length]; exact hi), nums_at _ _ _ hi]; rfl
theorem refR_no {b : List Int} (h : refRead b = none) : decR b = (zeroE, 4) := by rw [ref_dec, h]
theorem refR_bad {b : List Int} {e : Ent} (h : refRead b = some e) (hn : ¬ OkE e) : decR b = (zeroE, 4) := by rw [ref_dec, h]; dsimp only; rw [if_neg (fun x => hn x.1)]
theorem refR_other {b : List Int} {e : Ent} (h : refRead b = some e) (hn : ¬ encL e = b) : decR b = (zeroE, 4) := by rw [ref_dec, h]; dsimp only; rw [if_neg (fun x => hn x.2)]
theorem refR_ok {b : List Int} {e : Ent} (h : refRead b = some e) (h1 : OkE e) (h2 : encL e = b) : decR b = (e, 0) := by rw [ref_dec, h]; dsimp only; rw [if_pos ⟨h1, h2⟩]
/-- A short number read off bytes from a place on. -/
theorem rd_cut {w : World} {A : Option Addr} {c : Nat} {b : List Int} (hb : Byt w A c b) (hl : b.length ≤ 1000) (n : Nat) (hn : n ≤ b.length) (A2 : Option Addr) (hA : A2 = if c = n then A else A.map (·.add n)) :
    ∀ W, Below w.heap.size w W → Calls Try.prog 26 #[.slice A2 (b.length - n) (c - n)] W (RdPost (b.drop n) W) := by
  intro W hW
  have hd := hb.drop n hn
  rw [← hA] at hd
  have hl2 : (b.drop n).length = b.length - n := List.length_drop
  have := refreadvar_any W A2 (c - n) (b.drop n) (hd.up hW) (by omega)
  rwa [hl2] at this

set_option maxRecDepth 100000 in
set_option maxHeartbeats 16000000 in
theorem refdecode_any (w : World) (A : Option Addr) (c : Nat) (b : List Int) (hby : Byt w A c b) (hl : b.length ≤ 1000) :
    Calls Try.prog 12 #[.slice A b.length c] w (DecPost b w) := by
  have HBY := Lib.hid hby
  have z32 := Z32_len
  have h1 := fun W (hW : Below w.heap.size w W) => refreadvar_any W A c b (hby.up hW) (by omega)
  cases hr1 : rdV 0 b with
  | none =>
    have hd := refR_no (show refRead b = none by unfold refRead; rw [hr1])
    have h2 := rd_cut hby hl 0 (by omega) _ rfl
    rw [Nat.sub_zero, Nat.sub_zero, List.drop_zero] at h2
    obtain ⟨A2, hA2⟩ : ∃ A2, A2 = (if c = 0 then A else A.map (·.add 0)) := ⟨_, rfl⟩
    rw [← hA2] at h2
    have h1 := fun W hW => (h1 W hW).mono fun r w' hp => hp.none hr1
    have h2 := fun W hW => (h2 W hW).mono fun r w' hp => hp.none hr1
    have HD := Lib.hid hd
    have HR1 := Lib.hid h1
    have HR2 := Lib.hid h2
    have HA2 := Lib.hid hA2
    clear hd h1 h2 hr1 hA2 hby z32
    go_enter Try.func12, Try.ntmps12
    go_wp2_with (first | (with_reducible apply st_allocE) | (with_reducible apply st_buildE) | ((with_reducible apply st_storeW (off := 0) (vs := entZ) (cs := entZ) (T := 28)); rfl; rfl; (first | exact (St.start w).x | (rw [World.size_alloc]; exact (St.start w).x)); (rw [entZ_len]; exact entSize); exact Nat.le_of_eq (Nat.zero_add _); exact entZ_one; intro w1 hd1 hw1; rw [laid_all _ _ rfl] at hd1; (try rw [World.size_alloc] at hd1 hw1); have s1 := (St.start w).wrote hw1 hd1))
    go_at_call 26
    refine (HR1.out _ s1.B).mono ?_
    rintro r wz ⟨f1, hf1, rfl, rfl⟩
    have bf1 : (f1 != 0) = true := by simpa using hf1
    clear hf1
    clear hd1 hw1
    go_wp2_with ((with_reducible apply st_fromE (A2 := A2) (i := 0)); exact Try.underlying29; kernel_rfl; rfl; rfl; rfl; omega; exact HA2.out)
    go_at_call 26
    refine (HR2.out _ s1.B).mono ?_
    rintro r wz ⟨f2, hf2, rfl, rfl⟩
    have bf2 : (f2 != 0) = true := by simpa using hf2
    clear hf2
    go_wp2_with (first | (with_reducible apply st_buildE) | ((with_reducible apply st_storeW (off := 0) (vs := entZ) (cs := entZ) (T := 28)); rfl; rfl; exact s1.r; (rw [entZ_len]; exact entSize); exact Nat.le_of_eq (Nat.zero_add _); exact entZ_one; intro w9 hd9 hw9; rw [laid_all _ _ rfl] at hd9))
    refine bodyPost_ret (ret_row_tmp rfl _ _ _ entZ 28 _ rfl hd9 Try.underlying28 rfl (by rw [entZ_len]; exact entSize)) rfl (DecPost.zero HD.out (Wrote.below s1.B hw9 (Nat.le_refl _)) rfl)

  | some p =>
    obtain ⟨j, n⟩ := p
    have hn := rdV_le 0 b _ hr1
    have hn1 := hn.1
    have hn2 := hn.2
    dsimp only at hn1 hn2
    have h2 := rd_cut hby hl n hn2 _ rfl
    obtain ⟨A2, hA2⟩ : ∃ A2, A2 = (if c = n then A else A.map (·.add n)) := ⟨_, rfl⟩
    rw [← hA2] at h2
    have h1 := fun W hW => (h1 W hW).mono fun r w' hp => hp.some hr1
    have HR1 := Lib.hid h1
    have HA2 := Lib.hid hA2
    clear h1 hA2 hn
    cases hr2 : rdV 0 (b.drop n) with
    | none =>
      have hd := refR_no (show refRead b = none by unfold refRead; rw [hr1]; dsimp only; rw [hr2])
      have h2 := fun W hW => (h2 W hW).mono fun r w' hp => hp.none hr2
      have HD := Lib.hid hd
      have HR2 := Lib.hid h2
      clear hd h2 hr1 hr2 hby z32
      go_enter Try.func12, Try.ntmps12
      go_wp2_with (first | (with_reducible apply st_allocE) | (with_reducible apply st_buildE) | ((with_reducible apply st_storeW (off := 0) (vs := entZ) (cs := entZ) (T := 28)); rfl; rfl; (first | exact (St.start w).x | (rw [World.size_alloc]; exact (St.start w).x)); (rw [entZ_len]; exact entSize); exact Nat.le_of_eq (Nat.zero_add _); exact entZ_one; intro w1 hd1 hw1; rw [laid_all _ _ rfl] at hd1; (try rw [World.size_alloc] at hd1 hw1); have s1 := (St.start w).wrote hw1 hd1))
      go_at_call 26
      refine (HR1.out _ s1.B).mono ?_
      rintro r wz ⟨rfl, rfl⟩
      clear hd1 hw1
      go_wp2_with ((with_reducible apply st_fromE (A2 := A2) (i := n)); exact Try.underlying29; kernel_rfl; rfl; rfl; rfl; omega; exact HA2.out)
      go_at_call 26
      refine (HR2.out _ s1.B).mono ?_
      rintro r wz ⟨f2, hf2, rfl, rfl⟩
      have bf2 : (f2 != 0) = true := by simpa using hf2
      clear hf2
      go_wp2_with (first | (with_reducible apply st_buildE) | ((with_reducible apply st_storeW (off := 0) (vs := entZ) (cs := entZ) (T := 28)); rfl; rfl; exact s1.r; (rw [entZ_len]; exact entSize); exact Nat.le_of_eq (Nat.zero_add _); exact entZ_one; intro w9 hd9 hw9; rw [laid_all _ _ rfl] at hd9))
      refine bodyPost_ret (ret_row_tmp rfl _ _ _ entZ 28 _ rfl hd9 Try.underlying28 rfl (by rw [entZ_len]; exact entSize)) rfl (DecPost.zero HD.out (Wrote.below s1.B hw9 (Nat.le_refl _)) rfl)

    | some p =>
      obtain ⟨t, m⟩ := p
      have hm := rdV_le 0 (b.drop n) _ hr2
      have hm1 := hm.1
      have hm2 := hm.2
      dsimp only at hm1 hm2
      rw [List.length_drop] at hm2
      have h2 := fun W hW => (h2 W hW).mono fun r w' hp => hp.some hr2
      have HR2 := Lib.hid h2
      clear h2 hm
      by_cases hq : 63 < j ∨ 1099511627776 < t ∨ b.length < n + m + 65
      · have hd := refR_no (show refRead b = none by unfold refRead; rw [hr1]; dsimp only; rw [hr2]; dsimp only; rw [if_pos hq])
        have HD := Lib.hid hd
        clear hd hr1 hr2 hby z32
        by_cases q1 : 63 < j
        · clear hq
          go_enter Try.func12, Try.ntmps12
          go_wp2_with (first | (with_reducible apply st_allocE) | (with_reducible apply st_buildE) | ((with_reducible apply st_storeW (off := 0) (vs := entZ) (cs := entZ) (T := 28)); rfl; rfl; (first | exact (St.start w).x | (rw [World.size_alloc]; exact (St.start w).x)); (rw [entZ_len]; exact entSize); exact Nat.le_of_eq (Nat.zero_add _); exact entZ_one; intro w1 hd1 hw1; rw [laid_all _ _ rfl] at hd1; (try rw [World.size_alloc] at hd1 hw1); have s1 := (St.start w).wrote hw1 hd1))
          go_at_call 26
          refine (HR1.out _ s1.B).mono ?_
          rintro r wz ⟨rfl, rfl⟩
          clear hd1 hw1
          go_wp2_with ((with_reducible apply st_fromE (A2 := A2) (i := n)); exact Try.underlying29; kernel_rfl; rfl; rfl; rfl; omega; exact HA2.out)
          go_at_call 26
          refine (HR2.out _ s1.B).mono ?_
          rintro r wz ⟨rfl, rfl⟩
          go_wp2_with (first | (with_reducible apply st_buildE) | ((with_reducible apply st_storeW (off := 0) (vs := entZ) (cs := entZ) (T := 28)); rfl; rfl; exact s1.r; (rw [entZ_len]; exact entSize); exact Nat.le_of_eq (Nat.zero_add _); exact entZ_one; intro w9 hd9 hw9; rw [laid_all _ _ rfl] at hd9))
          refine bodyPost_ret (ret_row_tmp rfl _ _ _ entZ 28 _ rfl hd9 Try.underlying28 rfl (by rw [entZ_len]; exact entSize)) rfl (DecPost.zero HD.out (Wrote.below s1.B hw9 (Nat.le_refl _)) rfl)

        · by_cases q2 : 1099511627776 < t
          · clear hq
            go_enter Try.func12, Try.ntmps12
            go_wp2_with (first | (with_reducible apply st_allocE) | (with_reducible apply st_buildE) | ((with_reducible apply st_storeW (off := 0) (vs := entZ) (cs := entZ) (T := 28)); rfl; rfl; (first | exact (St.start w).x | (rw [World.size_alloc]; exact (St.start w).x)); (rw [entZ_len]; exact entSize); exact Nat.le_of_eq (Nat.zero_add _); exact entZ_one; intro w1 hd1 hw1; rw [laid_all _ _ rfl] at hd1; (try rw [World.size_alloc] at hd1 hw1); have s1 := (St.start w).wrote hw1 hd1))
            go_at_call 26
            refine (HR1.out _ s1.B).mono ?_
            rintro r wz ⟨rfl, rfl⟩
            clear hd1 hw1
            go_wp2_with ((with_reducible apply st_fromE (A2 := A2) (i := n)); exact Try.underlying29; kernel_rfl; rfl; rfl; rfl; omega; exact HA2.out)
            go_at_call 26
            refine (HR2.out _ s1.B).mono ?_
            rintro r wz ⟨rfl, rfl⟩
            go_wp2_with (first | (with_reducible apply st_buildE) | ((with_reducible apply st_storeW (off := 0) (vs := entZ) (cs := entZ) (T := 28)); rfl; rfl; exact s1.r; (rw [entZ_len]; exact entSize); exact Nat.le_of_eq (Nat.zero_add _); exact entZ_one; intro w9 hd9 hw9; rw [laid_all _ _ rfl] at hd9))
            refine bodyPost_ret (ret_row_tmp rfl _ _ _ entZ 28 _ rfl hd9 Try.underlying28 rfl (by rw [entZ_len]; exact entSize)) rfl (DecPost.zero HD.out (Wrote.below s1.B hw9 (Nat.le_refl _)) rfl)

          · have q3 : b.length < n + m + 65 := by omega
            clear hq
            go_enter Try.func12, Try.ntmps12
            go_wp2_with (first | (with_reducible apply st_allocE) | (with_reducible apply st_buildE) | ((with_reducible apply st_storeW (off := 0) (vs := entZ) (cs := entZ) (T := 28)); rfl; rfl; (first | exact (St.start w).x | (rw [World.size_alloc]; exact (St.start w).x)); (rw [entZ_len]; exact entSize); exact Nat.le_of_eq (Nat.zero_add _); exact entZ_one; intro w1 hd1 hw1; rw [laid_all _ _ rfl] at hd1; (try rw [World.size_alloc] at hd1 hw1); have s1 := (St.start w).wrote hw1 hd1))
            go_at_call 26
            refine (HR1.out _ s1.B).mono ?_
            rintro r wz ⟨rfl, rfl⟩
            clear hd1 hw1
            go_wp2_with ((with_reducible apply st_fromE (A2 := A2) (i := n)); exact Try.underlying29; kernel_rfl; rfl; rfl; rfl; omega; exact HA2.out)
            go_at_call 26
            refine (HR2.out _ s1.B).mono ?_
            rintro r wz ⟨rfl, rfl⟩
            go_wp2_with (first | (with_reducible apply st_buildE) | ((with_reducible apply st_storeW (off := 0) (vs := entZ) (cs := entZ) (T := 28)); rfl; rfl; exact s1.r; (rw [entZ_len]; exact entSize); exact Nat.le_of_eq (Nat.zero_add _); exact entZ_one; intro w9 hd9 hw9; rw [laid_all _ _ rfl] at hd9))
            refine bodyPost_ret (ret_row_tmp rfl _ _ _ entZ 28 _ rfl hd9 Try.underlying28 rfl (by rw [entZ_len]; exact entSize)) rfl (DecPost.zero HD.out (Wrote.below s1.B hw9 (Nat.le_refl _)) rfl)

      · have hA : ∃ g o, A = some ⟨g, o, none⟩ ∧ ∀ j v, (nums .u8 b)[j]? = some v → w.cell? ⟨g, o + j, none⟩ = some v := hby.rd.get (by rw [nums_length]; omega)
        obtain ⟨g, o, rfl, hg⟩ := hA
        have hglt : g < w.heap.size := World.block_lt_of_cell? (h := hg 0 _ (nums_at .u8 b 0 (by omega)))
        have hle := hby.le
        obtain ⟨P, hP⟩ : ∃ P, P = n + m := ⟨_, rfl⟩
        obtain ⟨H, hH⟩ : ∃ H, H = (b.drop (n + m)).take 32 := ⟨_, rfl⟩
        obtain ⟨S, hS⟩ : ∃ S, S = (b.drop (n + m + 32)).take 32 := ⟨_, rfl⟩
        obtain ⟨K, hK⟩ : ∃ K, K = ga b (n + m + 64) := ⟨_, rfl⟩
        have hKr := hby.u (n + m + 64)
        rw [← hK] at hKr
        have hHl : H.length = 32 := by rw [hH, List.length_take, List.length_drop]; omega
        have hSl : S.length = 32 := by rw [hS, List.length_take, List.length_drop]; omega
        have hsrc : ∀ W, Below w.heap.size w W → ∀ k, k < b.length → W.cell? ⟨g, o + k, none⟩ = some (.int .u8 (ga b k)) := fun W hW k hk => (hW.cell (p := ⟨g, o + k, none⟩) hglt).trans (hg k _ (nums_at .u8 b k hk))
        have hsh : ∀ k, k < 32 → ga H k = ga b (n + m + k) := fun k hk => by rw [hH, ga_take _ _ _ hk, ga_drop]
        have hss : ∀ k, k < 32 → ga S k = ga b (n + m + 32 + k) := fun k hk => by rw [hS, ga_take _ _ _ hk, ga_drop]
        have h3 := rd_cut hby hl (n + m + 65) (by omega) _ rfl
        obtain ⟨A3, hA3⟩ : ∃ A3, A3 = (if c = n + m + 65 then (some ⟨g, o, none⟩ : Option Addr) else (some ⟨g, o, none⟩ : Option Addr).map (·.add (n + m + 65))) := ⟨_, rfl⟩
        rw [← hA3] at h3
        have HSRC := Lib.hid hsrc
        have HSH := Lib.hid hsh
        have HSS := Lib.hid hss
        have HA3 := Lib.hid hA3
        have HH := Lib.hid hH
        have HS := Lib.hid hS
        have HK := Lib.hid hK
        cases hr3 : rdV 0 (b.drop (n + m + 65)) with
        | none =>
          have hd := refR_no (show refRead b = none by unfold refRead; rw [hr1]; dsimp only; rw [hr2]; dsimp only; rw [if_neg hq, hr3])
          have h3 := fun W hW => (h3 W hW).mono fun r w' hp => hp.none hr3
          have HD := Lib.hid hd
          have HR3 := Lib.hid h3
          clear hd h3 hr1 hr2 hr3 hby hg hsrc hsh hss hA3 hH hS hK hP
          go_enter Try.func12, Try.ntmps12
          go_wp2_with (first | (with_reducible apply st_allocE) | (with_reducible apply st_buildE) | ((with_reducible apply st_storeW (off := 0) (vs := entZ) (cs := entZ) (T := 28)); rfl; rfl; (first | exact (St.start w).x | (rw [World.size_alloc]; exact (St.start w).x)); (rw [entZ_len]; exact entSize); exact Nat.le_of_eq (Nat.zero_add _); exact entZ_one; intro w1 hd1 hw1; rw [laid_all _ _ rfl] at hd1; (try rw [World.size_alloc] at hd1 hw1); have s1 := (St.start w).wrote hw1 hd1))
          go_at_call 26
          refine (HR1.out _ s1.B).mono ?_
          rintro r wz ⟨rfl, rfl⟩
          clear hd1 hw1
          go_wp2_with ((with_reducible apply st_fromE (A2 := A2) (i := n)); exact Try.underlying29; kernel_rfl; rfl; rfl; rfl; omega; exact HA2.out)
          go_at_call 26
          refine (HR2.out _ s1.B).mono ?_
          rintro r wz ⟨rfl, rfl⟩
          have cb0 : (w1).cell? ⟨w.heap.size + 1, 0, none⟩ = some (.int .i64 0) := s1.x.cell 0
          have fb0 : (w1).frozen? ⟨w.heap.size + 1, 0, none⟩ = false := s1.x.frozen 0
          have cb1 : (w1).cell? ⟨w.heap.size + 1, 1, none⟩ = some (.int .i64 0) := s1.x.cell 1
          have fb1 : (w1).frozen? ⟨w.heap.size + 1, 1, none⟩ = false := s1.x.frozen 1
          have s2 : St w (entV j t Z32 Z32 0 (.slice none 0 0) 0) _ := (s1.set 0 (.int .i64 j)).set 1 (.int .i64 t)
          clear s1
          go_wp2_with fail
          go_loopw [12] (fun i wr => ∃ k : Nat, i = .int .i64 k ∧ k ≤ 32 ∧ St w (entV j t (fillZ H k) (fillZ S k) 0 (.slice none 0 0) 0) wr) (fun i _ => 32 - (intOf i).toNat)
          case atStart => exact ⟨0, rfl, by omega, by rw [fillZ_zero, fillZ_zero]; exact s2⟩
          case round =>
            clear s2 cb0 fb0 cb1 fb1
            obtain ⟨k, rfl, hk, hs⟩ := hrel
            have lh := fillZ_len H hHl k hk
            have ls := fillZ_len S hSl k hk
            by_cases hlt : k < 32
            · have e1 := HSRC.out _ hs.B (n + m + k) (by omega)
              have e2 := HSRC.out _ hs.B (n + m + 32 + k) (by omega)
              rw [← HSH.out k hlt] at e1
              rw [← HSS.out k hlt] at e2
              have d1 := (hs.x.cell _).trans (entV_atH j t (fillZ H k) (fillZ S k) 0 (.slice none 0 0) 0 k (by omega))
              have d2 := (hs.x.cell _).trans (entV_atS j t (fillZ H k) (fillZ S k) 0 (.slice none 0 0) 0 lh k (by omega))
              have f1 := hs.x.frozen (2 + k)
              have f2 := hs.x.frozen (34 + k)
              have hs2 := (hs.set (2 + k) (.int .u8 (ga H k))).set (34 + k) (.int .u8 (ga S k))
              rw [entV_setH _ _ _ _ _ _ _ _ _ (by omega), fillZ_set H hHl k hlt, entV_setS _ _ _ _ _ _ _ (fillZ_len H hHl (k + 1) (by omega)) _ _ (by omega), fillZ_set S hSl k hlt] at hs2
              obtain ⟨x, hx⟩ : ∃ x, x = ga H k := ⟨_, rfl⟩
              obtain ⟨y, hy⟩ : ∃ y, y = ga S k := ⟨_, rfl⟩
              rw [← hx] at e1 hs2
              rw [← hy] at e2 hs2
              have LH := Lib.hid lh
              have LS := Lib.hid ls
              clear lh ls hx hy
              go_wp2_with fail
              refine wp_region_C (Same [g] wr) [17, 20] (by kernel_rfl) (by kernel_rfl) (by intro c a w h; first | (obtain ⟨_, h, _⟩ := h; cases h; done) | (obtain ⟨_, _, h, _⟩ := h; cases h; done) | (obtain ⟨_, _, _, h, _⟩ := h; cases h; done) | (obtain ⟨_, _, _, _, h, _⟩ := h; cases h; done) | (rcases h with ⟨_, ⟨_, _, _, _, h, _⟩ | ⟨_, _, _, _, h, _⟩⟩ <;> cases h; done)) (by intro a w h; first | (obtain ⟨h, _⟩ := h; cases h; done) | (obtain ⟨_, h, _⟩ := h; cases h; done) | (obtain ⟨_, _, h, _⟩ := h; cases h; done) | (obtain ⟨_, _, _, h, _⟩ := h; cases h; done) | (rcases h with ⟨_, _, _, _, h, _⟩ | ⟨_, _, _, _, h, _⟩ <;> cases h; done)) (Same.refl _ _) ?_
              repeat (refine wd_q (v := ?_) rfl rfl rfl rfl rfl rfl (fun w' hw' K hK => ?_) ?_; rotate_left; (have q1 := (hw'.cell g (by simp) _).trans e1; have q2 := (hw'.cell g (by simp) _).trans e2; go_wp2; exact rfl); simp only [Act.put, List.setIfInBounds_toArray, List.set_cons_zero, List.set_cons_succ])
              refine wd_l rfl rfl (by intro a w h; first | (obtain ⟨h, _⟩ := h; cases h; done) | (obtain ⟨_, h, _⟩ := h; cases h; done) | (obtain ⟨_, _, h, _⟩ := h; cases h; done) | (obtain ⟨_, _, _, h, _⟩ := h; cases h; done) | (rcases h with ⟨_, _, _, _, h, _⟩ | ⟨_, _, _, _, h, _⟩ <;> cases h; done)) ?_
              have d1 := (show wr.drew.cell? ⟨w.heap.size + 1, 2 + k, none⟩ = some (.int .u8 (ga (fillZ H k) k)) from d1)
              have d2 := (show wr.drew.cell? ⟨w.heap.size + 1, 34 + k, none⟩ = some (.int .u8 (ga (fillZ S k) k)) from d2)
              have f1 := (show wr.drew.frozen? ⟨w.heap.size + 1, 2 + k, none⟩ = false from f1)
              have f2 := (show wr.drew.frozen? ⟨w.heap.size + 1, 34 + k, none⟩ = false from f2)
              go_wp2_with fail
              refine ⟨.inr (Same.set (Same.refl [g] wr) ⟨w.heap.size + 1, 2 + k, none⟩ (.int .u8 x) (by simp; omega)), ?_⟩
              repeat (refine wd_q (v := ?_) rfl rfl rfl rfl rfl rfl (fun w' hw' K hK => ?_) ?_; rotate_left; (have q1 := (hw'.cell g (by simp) _).trans e1; have q2 := (hw'.cell g (by simp) _).trans e2; go_wp2; exact rfl); simp only [Act.put, List.setIfInBounds_toArray, List.set_cons_zero, List.set_cons_succ])
              refine wd_l rfl rfl (by intro a w h; first | (obtain ⟨h, _⟩ := h; cases h; done) | (obtain ⟨_, h, _⟩ := h; cases h; done) | (obtain ⟨_, _, h, _⟩ := h; cases h; done) | (obtain ⟨_, _, _, h, _⟩ := h; cases h; done) | (rcases h with ⟨_, _, _, _, h, _⟩ | ⟨_, _, _, _, h, _⟩ <;> cases h; done)) ?_
              go_wp2_with fail
              refine ⟨.inr (Same.set (Same.set (Same.refl [g] wr) ⟨w.heap.size + 1, 2 + k, none⟩ (.int .u8 x) (by simp; omega)) ⟨w.heap.size + 1, 34 + k, none⟩ (.int .u8 y) (by simp; omega)), ?_⟩
              refine wd_nil ?_
              go_wp2_with fail
              go_roundw
              case rel => exact ⟨k + 1, by go_num, by omega, hs2.drew⟩
              case measure => simp [intOf]; omega
            · have hk32 : k = 32 := by omega
              rw [hk32, fillZ_all H hHl, fillZ_all S hSl] at hs
              clear lh ls hk32
              have c64 := HSRC.out _ hs.B (n + m + 64) (by omega)
              rw [← HK.out] at c64
              have cb66 : (wr).cell? ⟨w.heap.size + 1, 66, none⟩ = some (.int .i64 0) := (hs.x.cell _).trans (entV_at _ _ _ _ _ _ _ (by assumption) (by assumption) 0)
              have fb66 : (wr).frozen? ⟨w.heap.size + 1, 66, none⟩ = false := hs.x.frozen 66
              have s5 : St w (entV j t H S K (.slice none 0 0) 0) _ := entV_kind _ _ H S 0 K (.slice none 0 0) 0 hHl hSl ▸ hs.set 66 (.int .i64 K)
              clear hs
              go_wp2_with ((with_reducible apply st_fromE (A2 := A3) (i := n + m + 65)); exact Try.underlying29; kernel_rfl; rfl; rfl; omega; omega; exact HA3.out)
              go_at_call 26
              refine (HR3.out _ s5.B).mono ?_
              rintro r wz ⟨f3, hf3, rfl, rfl⟩
              have bf3 : (f3 != 0) = true := by simpa using hf3
              clear hf3
              go_wp2_with (first | (with_reducible apply st_buildE) | ((with_reducible apply st_storeW (off := 0) (vs := entZ) (cs := entZ) (T := 28)); rfl; rfl; exact s5.r; (rw [entZ_len]; exact entSize); exact Nat.le_of_eq (Nat.zero_add _); exact entZ_one; intro w9 hd9 hw9; rw [laid_all _ _ rfl] at hd9))
              refine bodyPost_ret (ret_row_tmp rfl _ _ _ entZ 28 _ rfl hd9 Try.underlying28 rfl (by rw [entZ_len]; exact entSize)) rfl (DecPost.zero HD.out (Wrote.below s5.B hw9 (Nat.le_refl _)) rfl)

        | some p =>
          obtain ⟨r, k3⟩ := p
          have hk := rdV_le 0 (b.drop (n + m + 65)) _ hr3
          have hk1 := hk.1
          have hk2 := hk.2
          dsimp only at hk1 hk2
          rw [List.length_drop] at hk2
          have h3 := fun W hW => (h3 W hW).mono fun r w' hp => hp.some hr3
          have HR3 := Lib.hid h3
          clear h3 hk
          by_cases hq2 : 1073741824 < r ∨ b.length ≤ n + m + 65 + k3
          · have hd := refR_no (show refRead b = none by unfold refRead; rw [hr1]; dsimp only; rw [hr2]; dsimp only; rw [if_neg hq, hr3]; dsimp only; rw [if_pos hq2])
            have HD := Lib.hid hd
            clear hd hr1 hr2 hr3 hby hg hsrc hsh hss hA3 hH hS hK hP
            by_cases q1 : 1073741824 < r
            · clear hq2
              go_enter Try.func12, Try.ntmps12
              go_wp2_with (first | (with_reducible apply st_allocE) | (with_reducible apply st_buildE) | ((with_reducible apply st_storeW (off := 0) (vs := entZ) (cs := entZ) (T := 28)); rfl; rfl; (first | exact (St.start w).x | (rw [World.size_alloc]; exact (St.start w).x)); (rw [entZ_len]; exact entSize); exact Nat.le_of_eq (Nat.zero_add _); exact entZ_one; intro w1 hd1 hw1; rw [laid_all _ _ rfl] at hd1; (try rw [World.size_alloc] at hd1 hw1); have s1 := (St.start w).wrote hw1 hd1))
              go_at_call 26
              refine (HR1.out _ s1.B).mono ?_
              rintro r wz ⟨rfl, rfl⟩
              clear hd1 hw1
              go_wp2_with ((with_reducible apply st_fromE (A2 := A2) (i := n)); exact Try.underlying29; kernel_rfl; rfl; rfl; rfl; omega; exact HA2.out)
              go_at_call 26
              refine (HR2.out _ s1.B).mono ?_
              rintro r wz ⟨rfl, rfl⟩
              have cb0 : (w1).cell? ⟨w.heap.size + 1, 0, none⟩ = some (.int .i64 0) := s1.x.cell 0
              have fb0 : (w1).frozen? ⟨w.heap.size + 1, 0, none⟩ = false := s1.x.frozen 0
              have cb1 : (w1).cell? ⟨w.heap.size + 1, 1, none⟩ = some (.int .i64 0) := s1.x.cell 1
              have fb1 : (w1).frozen? ⟨w.heap.size + 1, 1, none⟩ = false := s1.x.frozen 1
              have s2 : St w (entV j t Z32 Z32 0 (.slice none 0 0) 0) _ := (s1.set 0 (.int .i64 j)).set 1 (.int .i64 t)
              clear s1
              go_wp2_with fail
              go_loopw [12] (fun i wr => ∃ k : Nat, i = .int .i64 k ∧ k ≤ 32 ∧ St w (entV j t (fillZ H k) (fillZ S k) 0 (.slice none 0 0) 0) wr) (fun i _ => 32 - (intOf i).toNat)
              case atStart => exact ⟨0, rfl, by omega, by rw [fillZ_zero, fillZ_zero]; exact s2⟩
              case round =>
                clear s2 cb0 fb0 cb1 fb1
                obtain ⟨k, rfl, hk, hs⟩ := hrel
                have lh := fillZ_len H hHl k hk
                have ls := fillZ_len S hSl k hk
                by_cases hlt : k < 32
                · have e1 := HSRC.out _ hs.B (n + m + k) (by omega)
                  have e2 := HSRC.out _ hs.B (n + m + 32 + k) (by omega)
                  rw [← HSH.out k hlt] at e1
                  rw [← HSS.out k hlt] at e2
                  have d1 := (hs.x.cell _).trans (entV_atH j t (fillZ H k) (fillZ S k) 0 (.slice none 0 0) 0 k (by omega))
                  have d2 := (hs.x.cell _).trans (entV_atS j t (fillZ H k) (fillZ S k) 0 (.slice none 0 0) 0 lh k (by omega))
                  have f1 := hs.x.frozen (2 + k)
                  have f2 := hs.x.frozen (34 + k)
                  have hs2 := (hs.set (2 + k) (.int .u8 (ga H k))).set (34 + k) (.int .u8 (ga S k))
                  rw [entV_setH _ _ _ _ _ _ _ _ _ (by omega), fillZ_set H hHl k hlt, entV_setS _ _ _ _ _ _ _ (fillZ_len H hHl (k + 1) (by omega)) _ _ (by omega), fillZ_set S hSl k hlt] at hs2
                  obtain ⟨x, hx⟩ : ∃ x, x = ga H k := ⟨_, rfl⟩
                  obtain ⟨y, hy⟩ : ∃ y, y = ga S k := ⟨_, rfl⟩
                  rw [← hx] at e1 hs2
                  rw [← hy] at e2 hs2
                  have LH := Lib.hid lh
                  have LS := Lib.hid ls
                  clear lh ls hx hy
                  go_wp2_with fail
                  refine wp_region_C (Same [g] wr) [17, 20] (by kernel_rfl) (by kernel_rfl) (by intro c a w h; first | (obtain ⟨_, h, _⟩ := h; cases h; done) | (obtain ⟨_, _, h, _⟩ := h; cases h; done) | (obtain ⟨_, _, _, h, _⟩ := h; cases h; done) | (obtain ⟨_, _, _, _, h, _⟩ := h; cases h; done) | (rcases h with ⟨_, ⟨_, _, _, _, h, _⟩ | ⟨_, _, _, _, h, _⟩⟩ <;> cases h; done)) (by intro a w h; first | (obtain ⟨h, _⟩ := h; cases h; done) | (obtain ⟨_, h, _⟩ := h; cases h; done) | (obtain ⟨_, _, h, _⟩ := h; cases h; done) | (obtain ⟨_, _, _, h, _⟩ := h; cases h; done) | (rcases h with ⟨_, _, _, _, h, _⟩ | ⟨_, _, _, _, h, _⟩ <;> cases h; done)) (Same.refl _ _) ?_
                  repeat (refine wd_q (v := ?_) rfl rfl rfl rfl rfl rfl (fun w' hw' K hK => ?_) ?_; rotate_left; (have q1 := (hw'.cell g (by simp) _).trans e1; have q2 := (hw'.cell g (by simp) _).trans e2; go_wp2; exact rfl); simp only [Act.put, List.setIfInBounds_toArray, List.set_cons_zero, List.set_cons_succ])
                  refine wd_l rfl rfl (by intro a w h; first | (obtain ⟨h, _⟩ := h; cases h; done) | (obtain ⟨_, h, _⟩ := h; cases h; done) | (obtain ⟨_, _, h, _⟩ := h; cases h; done) | (obtain ⟨_, _, _, h, _⟩ := h; cases h; done) | (rcases h with ⟨_, _, _, _, h, _⟩ | ⟨_, _, _, _, h, _⟩ <;> cases h; done)) ?_
                  have d1 := (show wr.drew.cell? ⟨w.heap.size + 1, 2 + k, none⟩ = some (.int .u8 (ga (fillZ H k) k)) from d1)
                  have d2 := (show wr.drew.cell? ⟨w.heap.size + 1, 34 + k, none⟩ = some (.int .u8 (ga (fillZ S k) k)) from d2)
                  have f1 := (show wr.drew.frozen? ⟨w.heap.size + 1, 2 + k, none⟩ = false from f1)
                  have f2 := (show wr.drew.frozen? ⟨w.heap.size + 1, 34 + k, none⟩ = false from f2)
                  go_wp2_with fail
                  refine ⟨.inr (Same.set (Same.refl [g] wr) ⟨w.heap.size + 1, 2 + k, none⟩ (.int .u8 x) (by simp; omega)), ?_⟩
                  repeat (refine wd_q (v := ?_) rfl rfl rfl rfl rfl rfl (fun w' hw' K hK => ?_) ?_; rotate_left; (have q1 := (hw'.cell g (by simp) _).trans e1; have q2 := (hw'.cell g (by simp) _).trans e2; go_wp2; exact rfl); simp only [Act.put, List.setIfInBounds_toArray, List.set_cons_zero, List.set_cons_succ])
                  refine wd_l rfl rfl (by intro a w h; first | (obtain ⟨h, _⟩ := h; cases h; done) | (obtain ⟨_, h, _⟩ := h; cases h; done) | (obtain ⟨_, _, h, _⟩ := h; cases h; done) | (obtain ⟨_, _, _, h, _⟩ := h; cases h; done) | (rcases h with ⟨_, _, _, _, h, _⟩ | ⟨_, _, _, _, h, _⟩ <;> cases h; done)) ?_
                  go_wp2_with fail
                  refine ⟨.inr (Same.set (Same.set (Same.refl [g] wr) ⟨w.heap.size + 1, 2 + k, none⟩ (.int .u8 x) (by simp; omega)) ⟨w.heap.size + 1, 34 + k, none⟩ (.int .u8 y) (by simp; omega)), ?_⟩
                  refine wd_nil ?_
                  go_wp2_with fail
                  go_roundw
                  case rel => exact ⟨k + 1, by go_num, by omega, hs2.drew⟩
                  case measure => simp [intOf]; omega
                · have hk32 : k = 32 := by omega
                  rw [hk32, fillZ_all H hHl, fillZ_all S hSl] at hs
                  clear lh ls hk32
                  have c64 := HSRC.out _ hs.B (n + m + 64) (by omega)
                  rw [← HK.out] at c64
                  have cb66 : (wr).cell? ⟨w.heap.size + 1, 66, none⟩ = some (.int .i64 0) := (hs.x.cell _).trans (entV_at _ _ _ _ _ _ _ (by assumption) (by assumption) 0)
                  have fb66 : (wr).frozen? ⟨w.heap.size + 1, 66, none⟩ = false := hs.x.frozen 66
                  have s5 : St w (entV j t H S K (.slice none 0 0) 0) _ := entV_kind _ _ H S 0 K (.slice none 0 0) 0 hHl hSl ▸ hs.set 66 (.int .i64 K)
                  clear hs
                  go_wp2_with ((with_reducible apply st_fromE (A2 := A3) (i := n + m + 65)); exact Try.underlying29; kernel_rfl; rfl; rfl; omega; omega; exact HA3.out)
                  go_at_call 26
                  refine (HR3.out _ s5.B).mono ?_
                  rintro r wz ⟨rfl, rfl⟩
                  go_wp2_with (first | (with_reducible apply st_buildE) | ((with_reducible apply st_storeW (off := 0) (vs := entZ) (cs := entZ) (T := 28)); rfl; rfl; exact s5.r; (rw [entZ_len]; exact entSize); exact Nat.le_of_eq (Nat.zero_add _); exact entZ_one; intro w9 hd9 hw9; rw [laid_all _ _ rfl] at hd9))
                  refine bodyPost_ret (ret_row_tmp rfl _ _ _ entZ 28 _ rfl hd9 Try.underlying28 rfl (by rw [entZ_len]; exact entSize)) rfl (DecPost.zero HD.out (Wrote.below s5.B hw9 (Nat.le_refl _)) rfl)

            · have q2 : b.length ≤ n + m + 65 + k3 := by omega
              clear hq2
              go_enter Try.func12, Try.ntmps12
              go_wp2_with (first | (with_reducible apply st_allocE) | (with_reducible apply st_buildE) | ((with_reducible apply st_storeW (off := 0) (vs := entZ) (cs := entZ) (T := 28)); rfl; rfl; (first | exact (St.start w).x | (rw [World.size_alloc]; exact (St.start w).x)); (rw [entZ_len]; exact entSize); exact Nat.le_of_eq (Nat.zero_add _); exact entZ_one; intro w1 hd1 hw1; rw [laid_all _ _ rfl] at hd1; (try rw [World.size_alloc] at hd1 hw1); have s1 := (St.start w).wrote hw1 hd1))
              go_at_call 26
              refine (HR1.out _ s1.B).mono ?_
              rintro r wz ⟨rfl, rfl⟩
              clear hd1 hw1
              go_wp2_with ((with_reducible apply st_fromE (A2 := A2) (i := n)); exact Try.underlying29; kernel_rfl; rfl; rfl; rfl; omega; exact HA2.out)
              go_at_call 26
              refine (HR2.out _ s1.B).mono ?_
              rintro r wz ⟨rfl, rfl⟩
              have cb0 : (w1).cell? ⟨w.heap.size + 1, 0, none⟩ = some (.int .i64 0) := s1.x.cell 0
              have fb0 : (w1).frozen? ⟨w.heap.size + 1, 0, none⟩ = false := s1.x.frozen 0
              have cb1 : (w1).cell? ⟨w.heap.size + 1, 1, none⟩ = some (.int .i64 0) := s1.x.cell 1
              have fb1 : (w1).frozen? ⟨w.heap.size + 1, 1, none⟩ = false := s1.x.frozen 1
              have s2 : St w (entV j t Z32 Z32 0 (.slice none 0 0) 0) _ := (s1.set 0 (.int .i64 j)).set 1 (.int .i64 t)
              clear s1
              go_wp2_with fail
              go_loopw [12] (fun i wr => ∃ k : Nat, i = .int .i64 k ∧ k ≤ 32 ∧ St w (entV j t (fillZ H k) (fillZ S k) 0 (.slice none 0 0) 0) wr) (fun i _ => 32 - (intOf i).toNat)
              case atStart => exact ⟨0, rfl, by omega, by rw [fillZ_zero, fillZ_zero]; exact s2⟩
              case round =>
                clear s2 cb0 fb0 cb1 fb1
                obtain ⟨k, rfl, hk, hs⟩ := hrel
                have lh := fillZ_len H hHl k hk
                have ls := fillZ_len S hSl k hk
                by_cases hlt : k < 32
                · have e1 := HSRC.out _ hs.B (n + m + k) (by omega)
                  have e2 := HSRC.out _ hs.B (n + m + 32 + k) (by omega)
                  rw [← HSH.out k hlt] at e1
                  rw [← HSS.out k hlt] at e2
                  have d1 := (hs.x.cell _).trans (entV_atH j t (fillZ H k) (fillZ S k) 0 (.slice none 0 0) 0 k (by omega))
                  have d2 := (hs.x.cell _).trans (entV_atS j t (fillZ H k) (fillZ S k) 0 (.slice none 0 0) 0 lh k (by omega))
                  have f1 := hs.x.frozen (2 + k)
                  have f2 := hs.x.frozen (34 + k)
                  have hs2 := (hs.set (2 + k) (.int .u8 (ga H k))).set (34 + k) (.int .u8 (ga S k))
                  rw [entV_setH _ _ _ _ _ _ _ _ _ (by omega), fillZ_set H hHl k hlt, entV_setS _ _ _ _ _ _ _ (fillZ_len H hHl (k + 1) (by omega)) _ _ (by omega), fillZ_set S hSl k hlt] at hs2
                  obtain ⟨x, hx⟩ : ∃ x, x = ga H k := ⟨_, rfl⟩
                  obtain ⟨y, hy⟩ : ∃ y, y = ga S k := ⟨_, rfl⟩
                  rw [← hx] at e1 hs2
                  rw [← hy] at e2 hs2
                  have LH := Lib.hid lh
                  have LS := Lib.hid ls
                  clear lh ls hx hy
                  go_wp2_with fail
                  refine wp_region_C (Same [g] wr) [17, 20] (by kernel_rfl) (by kernel_rfl) (by intro c a w h; first | (obtain ⟨_, h, _⟩ := h; cases h; done) | (obtain ⟨_, _, h, _⟩ := h; cases h; done) | (obtain ⟨_, _, _, h, _⟩ := h; cases h; done) | (obtain ⟨_, _, _, _, h, _⟩ := h; cases h; done) | (rcases h with ⟨_, ⟨_, _, _, _, h, _⟩ | ⟨_, _, _, _, h, _⟩⟩ <;> cases h; done)) (by intro a w h; first | (obtain ⟨h, _⟩ := h; cases h; done) | (obtain ⟨_, h, _⟩ := h; cases h; done) | (obtain ⟨_, _, h, _⟩ := h; cases h; done) | (obtain ⟨_, _, _, h, _⟩ := h; cases h; done) | (rcases h with ⟨_, _, _, _, h, _⟩ | ⟨_, _, _, _, h, _⟩ <;> cases h; done)) (Same.refl _ _) ?_
                  repeat (refine wd_q (v := ?_) rfl rfl rfl rfl rfl rfl (fun w' hw' K hK => ?_) ?_; rotate_left; (have q1 := (hw'.cell g (by simp) _).trans e1; have q2 := (hw'.cell g (by simp) _).trans e2; go_wp2; exact rfl); simp only [Act.put, List.setIfInBounds_toArray, List.set_cons_zero, List.set_cons_succ])
                  refine wd_l rfl rfl (by intro a w h; first | (obtain ⟨h, _⟩ := h; cases h; done) | (obtain ⟨_, h, _⟩ := h; cases h; done) | (obtain ⟨_, _, h, _⟩ := h; cases h; done) | (obtain ⟨_, _, _, h, _⟩ := h; cases h; done) | (rcases h with ⟨_, _, _, _, h, _⟩ | ⟨_, _, _, _, h, _⟩ <;> cases h; done)) ?_
                  have d1 := (show wr.drew.cell? ⟨w.heap.size + 1, 2 + k, none⟩ = some (.int .u8 (ga (fillZ H k) k)) from d1)
                  have d2 := (show wr.drew.cell? ⟨w.heap.size + 1, 34 + k, none⟩ = some (.int .u8 (ga (fillZ S k) k)) from d2)
                  have f1 := (show wr.drew.frozen? ⟨w.heap.size + 1, 2 + k, none⟩ = false from f1)
                  have f2 := (show wr.drew.frozen? ⟨w.heap.size + 1, 34 + k, none⟩ = false from f2)
                  go_wp2_with fail
                  refine ⟨.inr (Same.set (Same.refl [g] wr) ⟨w.heap.size + 1, 2 + k, none⟩ (.int .u8 x) (by simp; omega)), ?_⟩
                  repeat (refine wd_q (v := ?_) rfl rfl rfl rfl rfl rfl (fun w' hw' K hK => ?_) ?_; rotate_left; (have q1 := (hw'.cell g (by simp) _).trans e1; have q2 := (hw'.cell g (by simp) _).trans e2; go_wp2; exact rfl); simp only [Act.put, List.setIfInBounds_toArray, List.set_cons_zero, List.set_cons_succ])
                  refine wd_l rfl rfl (by intro a w h; first | (obtain ⟨h, _⟩ := h; cases h; done) | (obtain ⟨_, h, _⟩ := h; cases h; done) | (obtain ⟨_, _, h, _⟩ := h; cases h; done) | (obtain ⟨_, _, _, h, _⟩ := h; cases h; done) | (rcases h with ⟨_, _, _, _, h, _⟩ | ⟨_, _, _, _, h, _⟩ <;> cases h; done)) ?_
                  go_wp2_with fail
                  refine ⟨.inr (Same.set (Same.set (Same.refl [g] wr) ⟨w.heap.size + 1, 2 + k, none⟩ (.int .u8 x) (by simp; omega)) ⟨w.heap.size + 1, 34 + k, none⟩ (.int .u8 y) (by simp; omega)), ?_⟩
                  refine wd_nil ?_
                  go_wp2_with fail
                  go_roundw
                  case rel => exact ⟨k + 1, by go_num, by omega, hs2.drew⟩
                  case measure => simp [intOf]; omega
                · have hk32 : k = 32 := by omega
                  rw [hk32, fillZ_all H hHl, fillZ_all S hSl] at hs
                  clear lh ls hk32
                  have c64 := HSRC.out _ hs.B (n + m + 64) (by omega)
                  rw [← HK.out] at c64
                  have cb66 : (wr).cell? ⟨w.heap.size + 1, 66, none⟩ = some (.int .i64 0) := (hs.x.cell _).trans (entV_at _ _ _ _ _ _ _ (by assumption) (by assumption) 0)
                  have fb66 : (wr).frozen? ⟨w.heap.size + 1, 66, none⟩ = false := hs.x.frozen 66
                  have s5 : St w (entV j t H S K (.slice none 0 0) 0) _ := entV_kind _ _ H S 0 K (.slice none 0 0) 0 hHl hSl ▸ hs.set 66 (.int .i64 K)
                  clear hs
                  go_wp2_with ((with_reducible apply st_fromE (A2 := A3) (i := n + m + 65)); exact Try.underlying29; kernel_rfl; rfl; rfl; omega; omega; exact HA3.out)
                  go_at_call 26
                  refine (HR3.out _ s5.B).mono ?_
                  rintro r wz ⟨rfl, rfl⟩
                  go_wp2_with (first | (with_reducible apply st_buildE) | ((with_reducible apply st_storeW (off := 0) (vs := entZ) (cs := entZ) (T := 28)); rfl; rfl; exact s5.r; (rw [entZ_len]; exact entSize); exact Nat.le_of_eq (Nat.zero_add _); exact entZ_one; intro w9 hd9 hw9; rw [laid_all _ _ rfl] at hd9))
                  refine bodyPost_ret (ret_row_tmp rfl _ _ _ entZ 28 _ rfl hd9 Try.underlying28 rfl (by rw [entZ_len]; exact entSize)) rfl (DecPost.zero HD.out (Wrote.below s5.B hw9 (Nat.le_refl _)) rfl)

          · obtain ⟨N5, hN5⟩ : ∃ N5, N5 = n + m + 65 + k3 + 1 := ⟨_, rfl⟩
            have hN5a : N5 ≤ n + m + 65 + k3 + 1 := by omega
            have hN5b : n + m + 65 + k3 + 1 ≤ N5 := by omega
            have href : refRead b = some ⟨j, t, H, S, K, b.drop N5, r⟩ := by
              unfold refRead; rw [hr1]; dsimp only; rw [hr2]; dsimp only; rw [if_neg hq, hr3]; dsimp only; rw [if_neg hq2, hH, hS, hK, hN5]; rfl
            have heb : EntB ⟨j, t, H, S, K, b.drop N5, r⟩ := ⟨hHl, hSl, by rw [hH]; exact hby.u.part _ _, by rw [hS]; exact hby.u.part _ _, b64_nat _ (by omega), b64_nat _ (by omega), ⟨by show _ ≤ K; omega, by show K ≤ _; omega⟩, b64_nat _ (by omega), fun x hx => by
              obtain ⟨i, hi, ei⟩ := List.mem_iff_getElem.1 (List.mem_of_mem_drop hx)
              have := hby.u i
              unfold ga at this
              rw [List.getD_eq_getElem?_getD, List.getElem?_eq_getElem hi] at this
              rw [← ei]; simp only [Option.getD_some] at this; exact ⟨by omega, by omega⟩⟩
            have HREF := Lib.hid href
            have HEB := Lib.hid heb
            clear hN5 hr1 hr2 hr3 hby hg hsrc hsh hss hA3 hH hS hK hP href heb
            go_enter Try.func12, Try.ntmps12
            go_wp2_with (first | (with_reducible apply st_allocE) | (with_reducible apply st_buildE) | ((with_reducible apply st_storeW (off := 0) (vs := entZ) (cs := entZ) (T := 28)); rfl; rfl; (first | exact (St.start w).x | (rw [World.size_alloc]; exact (St.start w).x)); (rw [entZ_len]; exact entSize); exact Nat.le_of_eq (Nat.zero_add _); exact entZ_one; intro w1 hd1 hw1; rw [laid_all _ _ rfl] at hd1; (try rw [World.size_alloc] at hd1 hw1); have s1 := (St.start w).wrote hw1 hd1))
            go_at_call 26
            refine (HR1.out _ s1.B).mono ?_
            rintro r wz ⟨rfl, rfl⟩
            clear hd1 hw1
            go_wp2_with ((with_reducible apply st_fromE (A2 := A2) (i := n)); exact Try.underlying29; kernel_rfl; rfl; rfl; rfl; omega; exact HA2.out)
            go_at_call 26
            refine (HR2.out _ s1.B).mono ?_
            rintro r wz ⟨rfl, rfl⟩
            have cb0 : (w1).cell? ⟨w.heap.size + 1, 0, none⟩ = some (.int .i64 0) := s1.x.cell 0
            have fb0 : (w1).frozen? ⟨w.heap.size + 1, 0, none⟩ = false := s1.x.frozen 0
            have cb1 : (w1).cell? ⟨w.heap.size + 1, 1, none⟩ = some (.int .i64 0) := s1.x.cell 1
            have fb1 : (w1).frozen? ⟨w.heap.size + 1, 1, none⟩ = false := s1.x.frozen 1
            have s2 : St w (entV j t Z32 Z32 0 (.slice none 0 0) 0) _ := (s1.set 0 (.int .i64 j)).set 1 (.int .i64 t)
            clear s1
            go_wp2_with fail
            go_loopw [12] (fun i wr => ∃ k : Nat, i = .int .i64 k ∧ k ≤ 32 ∧ St w (entV j t (fillZ H k) (fillZ S k) 0 (.slice none 0 0) 0) wr) (fun i _ => 32 - (intOf i).toNat)
            case atStart => exact ⟨0, rfl, by omega, by rw [fillZ_zero, fillZ_zero]; exact s2⟩
            case round =>
              clear s2 cb0 fb0 cb1 fb1
              obtain ⟨k, rfl, hk, hs⟩ := hrel
              have lh := fillZ_len H hHl k hk
              have ls := fillZ_len S hSl k hk
              by_cases hlt : k < 32
              · have e1 := HSRC.out _ hs.B (n + m + k) (by omega)
                have e2 := HSRC.out _ hs.B (n + m + 32 + k) (by omega)
                rw [← HSH.out k hlt] at e1
                rw [← HSS.out k hlt] at e2
                have d1 := (hs.x.cell _).trans (entV_atH j t (fillZ H k) (fillZ S k) 0 (.slice none 0 0) 0 k (by omega))
                have d2 := (hs.x.cell _).trans (entV_atS j t (fillZ H k) (fillZ S k) 0 (.slice none 0 0) 0 lh k (by omega))
                have f1 := hs.x.frozen (2 + k)
                have f2 := hs.x.frozen (34 + k)
                have hs2 := (hs.set (2 + k) (.int .u8 (ga H k))).set (34 + k) (.int .u8 (ga S k))
                rw [entV_setH _ _ _ _ _ _ _ _ _ (by omega), fillZ_set H hHl k hlt, entV_setS _ _ _ _ _ _ _ (fillZ_len H hHl (k + 1) (by omega)) _ _ (by omega), fillZ_set S hSl k hlt] at hs2
                obtain ⟨x, hx⟩ : ∃ x, x = ga H k := ⟨_, rfl⟩
                obtain ⟨y, hy⟩ : ∃ y, y = ga S k := ⟨_, rfl⟩
                rw [← hx] at e1 hs2
                rw [← hy] at e2 hs2
                have LH := Lib.hid lh
                have LS := Lib.hid ls
                clear lh ls hx hy
                go_wp2_with fail
                refine wp_region_C (Same [g] wr) [17, 20] (by kernel_rfl) (by kernel_rfl) (by intro c a w h; first | (obtain ⟨_, h, _⟩ := h; cases h; done) | (obtain ⟨_, _, h, _⟩ := h; cases h; done) | (obtain ⟨_, _, _, h, _⟩ := h; cases h; done) | (obtain ⟨_, _, _, _, h, _⟩ := h; cases h; done) | (rcases h with ⟨_, ⟨_, _, _, _, h, _⟩ | ⟨_, _, _, _, h, _⟩⟩ <;> cases h; done)) (by intro a w h; first | (obtain ⟨h, _⟩ := h; cases h; done) | (obtain ⟨_, h, _⟩ := h; cases h; done) | (obtain ⟨_, _, h, _⟩ := h; cases h; done) | (obtain ⟨_, _, _, h, _⟩ := h; cases h; done) | (rcases h with ⟨_, _, _, _, h, _⟩ | ⟨_, _, _, _, h, _⟩ <;> cases h; done)) (Same.refl _ _) ?_
                repeat (refine wd_q (v := ?_) rfl rfl rfl rfl rfl rfl (fun w' hw' K hK => ?_) ?_; rotate_left; (have q1 := (hw'.cell g (by simp) _).trans e1; have q2 := (hw'.cell g (by simp) _).trans e2; go_wp2; exact rfl); simp only [Act.put, List.setIfInBounds_toArray, List.set_cons_zero, List.set_cons_succ])
                refine wd_l rfl rfl (by intro a w h; first | (obtain ⟨h, _⟩ := h; cases h; done) | (obtain ⟨_, h, _⟩ := h; cases h; done) | (obtain ⟨_, _, h, _⟩ := h; cases h; done) | (obtain ⟨_, _, _, h, _⟩ := h; cases h; done) | (rcases h with ⟨_, _, _, _, h, _⟩ | ⟨_, _, _, _, h, _⟩ <;> cases h; done)) ?_
                have d1 := (show wr.drew.cell? ⟨w.heap.size + 1, 2 + k, none⟩ = some (.int .u8 (ga (fillZ H k) k)) from d1)
                have d2 := (show wr.drew.cell? ⟨w.heap.size + 1, 34 + k, none⟩ = some (.int .u8 (ga (fillZ S k) k)) from d2)
                have f1 := (show wr.drew.frozen? ⟨w.heap.size + 1, 2 + k, none⟩ = false from f1)
                have f2 := (show wr.drew.frozen? ⟨w.heap.size + 1, 34 + k, none⟩ = false from f2)
                go_wp2_with fail
                refine ⟨.inr (Same.set (Same.refl [g] wr) ⟨w.heap.size + 1, 2 + k, none⟩ (.int .u8 x) (by simp; omega)), ?_⟩
                repeat (refine wd_q (v := ?_) rfl rfl rfl rfl rfl rfl (fun w' hw' K hK => ?_) ?_; rotate_left; (have q1 := (hw'.cell g (by simp) _).trans e1; have q2 := (hw'.cell g (by simp) _).trans e2; go_wp2; exact rfl); simp only [Act.put, List.setIfInBounds_toArray, List.set_cons_zero, List.set_cons_succ])
                refine wd_l rfl rfl (by intro a w h; first | (obtain ⟨h, _⟩ := h; cases h; done) | (obtain ⟨_, h, _⟩ := h; cases h; done) | (obtain ⟨_, _, h, _⟩ := h; cases h; done) | (obtain ⟨_, _, _, h, _⟩ := h; cases h; done) | (rcases h with ⟨_, _, _, _, h, _⟩ | ⟨_, _, _, _, h, _⟩ <;> cases h; done)) ?_
                go_wp2_with fail
                refine ⟨.inr (Same.set (Same.set (Same.refl [g] wr) ⟨w.heap.size + 1, 2 + k, none⟩ (.int .u8 x) (by simp; omega)) ⟨w.heap.size + 1, 34 + k, none⟩ (.int .u8 y) (by simp; omega)), ?_⟩
                refine wd_nil ?_
                go_wp2_with fail
                go_roundw
                case rel => exact ⟨k + 1, by go_num, by omega, hs2.drew⟩
                case measure => simp [intOf]; omega
              · have hk32 : k = 32 := by omega
                rw [hk32, fillZ_all H hHl, fillZ_all S hSl] at hs
                clear lh ls hk32
                have c64 := HSRC.out _ hs.B (n + m + 64) (by omega)
                rw [← HK.out] at c64
                have cb66 : (wr).cell? ⟨w.heap.size + 1, 66, none⟩ = some (.int .i64 0) := (hs.x.cell _).trans (entV_at _ _ _ _ _ _ _ (by assumption) (by assumption) 0)
                have fb66 : (wr).frozen? ⟨w.heap.size + 1, 66, none⟩ = false := hs.x.frozen 66
                have s5 : St w (entV j t H S K (.slice none 0 0) 0) _ := entV_kind _ _ H S 0 K (.slice none 0 0) 0 hHl hSl ▸ hs.set 66 (.int .i64 K)
                clear hs
                go_wp2_with ((with_reducible apply st_fromE (A2 := A3) (i := n + m + 65)); exact Try.underlying29; kernel_rfl; rfl; rfl; omega; omega; exact HA3.out)
                go_at_call 26
                refine (HR3.out _ s5.B).mono ?_
                rintro r wz ⟨rfl, rfl⟩
                have HS5 := Lib.hid s5
                have cb68 : (World.setCell wr ⟨w.heap.size + 1, 66, none⟩ (.int .i64 K)).cell? ⟨w.heap.size + 1, 68, none⟩ = some (.int .i64 0) := (s5.x.cell _).trans (entV_at _ _ _ _ _ _ _ (by assumption) (by assumption) 2)
                have fb68 : (World.setCell wr ⟨w.heap.size + 1, 66, none⟩ (.int .i64 K)).frozen? ⟨w.heap.size + 1, 68, none⟩ = false := s5.x.frozen 68
                have s6 : St w (entV j t H S K (.slice none 0 0) r) _ := entV_tries _ _ H S K (.slice none 0 0) 0 r hHl hSl ▸ s5.set 68 (.int .i64 r)
                clear s5 HS5
                go_wp2_with fail
                have o6 := OwnC.nil (World.setCell (World.setCell wr ⟨w.heap.size + 1, 66, none⟩ (.int .i64 K)) ⟨w.heap.size + 1, 68, none⟩ (.int .i64 r)) (w.heap.size + 2) 3
                rename World => wl
                go_loopw [16] (fun i wr => ∃ (Q : Nat) (v : Value), i = .int .i64 Q ∧ N5 ≤ Q ∧ Q ≤ b.length ∧ St w (entV j t H S K v r) wr ∧ OwnC wr (w.heap.size + 2) 3 v (nums .i64 ((b.drop N5).take (Q - N5)))) (fun i _ => b.length - (intOf i).toNat)
                case atStart => exact ⟨N5, _, by congr 1; omega, Nat.le_refl _, by omega, s6, by rw [Nat.sub_self, List.take_zero]; exact o6⟩
                case round =>
                  clear s6 o6
                  obtain ⟨Q, v, rfl, hQ1, hQ2, hs, ho⟩ := hrel
                  by_cases hlt : Q < b.length
                  · have cx := HSRC.out _ hs.B Q hlt
                    have hu := HBY.out.u Q
                    have htk : (b.drop N5).take (Q + 1 - N5) = (b.drop N5).take (Q - N5) ++ [ga b Q] := by
                      rw [show Q + 1 - N5 = (Q - N5) + 1 by omega, take_at _ _ (by rw [List.length_drop]; omega), ← ga_eq, ga_drop, show N5 + (Q - N5) = Q by omega]
                    obtain ⟨x, hx⟩ : ∃ x, x = ga b Q := ⟨_, rfl⟩
                    rw [← hx] at cx htk hu
                    have cv : wr.cell? ⟨w.heap.size + 1, 67, none⟩ = some v := (hs.x.cell _).trans (entV_at _ _ _ _ _ _ _ hHl hSl 1)
                    have hz := hs.x.lt
                    have HTK := Lib.hid htk
                    clear hx htk
                    go_wp2_with fail
                    refine wp_region_C (Same [w.heap.size + 1, g] wr) [8, 9, 12] (by kernel_rfl) (by kernel_rfl) (by intro c a w h; first | (obtain ⟨_, h, _⟩ := h; cases h; done) | (obtain ⟨_, _, h, _⟩ := h; cases h; done) | (obtain ⟨_, _, _, h, _⟩ := h; cases h; done) | (obtain ⟨_, _, _, _, h, _⟩ := h; cases h; done) | (rcases h with ⟨_, ⟨_, _, _, _, h, _⟩ | ⟨_, _, _, _, h, _⟩⟩ <;> cases h; done)) (by intro a w h; first | (obtain ⟨h, _⟩ := h; cases h; done) | (obtain ⟨_, h, _⟩ := h; cases h; done) | (obtain ⟨_, _, h, _⟩ := h; cases h; done) | (obtain ⟨_, _, _, h, _⟩ := h; cases h; done) | (rcases h with ⟨_, _, _, _, h, _⟩ | ⟨_, _, _, _, h, _⟩ <;> cases h; done)) (Same.refl _ _) ?_
                    repeat (refine wd_q (v := ?_) rfl rfl rfl rfl rfl rfl (fun w' hw' K hK => ?_) ?_; rotate_left; (have q1 := (hw'.cell (w.heap.size + 1) (by simp) _).trans cv; have q2 := (hw'.cell g (by simp) _).trans cx; go_wp2; exact rfl); simp only [Act.put, List.setIfInBounds_toArray, List.set_cons_zero, List.set_cons_succ])
                    refine wd_l rfl rfl (by intro a w h; first | (obtain ⟨h, _⟩ := h; cases h; done) | (obtain ⟨_, h, _⟩ := h; cases h; done) | (obtain ⟨_, _, h, _⟩ := h; cases h; done) | (obtain ⟨_, _, _, h, _⟩ := h; cases h; done) | (rcases h with ⟨_, _, _, _, h, _⟩ | ⟨_, _, _, _, h, _⟩ <;> cases h; done)) ?_
                    go_wp2_with fail
                    have hcl : ∀ o : Obj, Same [w.heap.size + 1, g] wr (wr.drew.alloc o) := fun o g' hg' => ((Below.refl wr.heap.size wr).drew.alloc (Nat.le_refl _) o).block g' (by simp at hg'; omega)
                    refine ⟨.inr (hcl _), ?_⟩
                    refine wd_l rfl rfl (by intro a w h; first | (obtain ⟨h, _⟩ := h; cases h; done) | (obtain ⟨_, h, _⟩ := h; cases h; done) | (obtain ⟨_, _, h, _⟩ := h; cases h; done) | (obtain ⟨_, _, _, h, _⟩ := h; cases h; done) | (rcases h with ⟨_, _, _, _, h, _⟩ | ⟨_, _, _, _, h, _⟩ <;> cases h; done)) ?_
                    go_wp2_with ((with_reducible apply st_appendI (base := w.heap.size + 2) (l := (b.drop N5).take (Q - N5))); rfl; rfl; exact OwnC.kept ho (by first | exact ((Below.refl _ _).alloc (Nat.le_refl _) _).drew | exact ((Below.refl _ _).drew.alloc (Nat.le_refl _) _)); (exact (Blk.new' wr _ [.int .i64 x] 3 _ rfl rfl).cell 0); (rw [List.length_take]; omega); (simp; omega); intro v2 w2 ho2 hb2; have hs2 : St w (entV j t H S K v r) w2 := St.below (hs.up (by first | exact ((Below.refl _ _).alloc (Nat.le_refl _) _).drew | exact ((Below.refl _ _).drew.alloc (Nat.le_refl _) _))) hb2 (Nat.le_refl _); have hcl2 : Same [w.heap.size + 1, g] wr w2 := fun g' hg' => (hb2.block g' (by simp at hg'; omega)).trans (hcl _ g' hg'); have cv2 : w2.cell? ⟨w.heap.size + 1, 67, none⟩ = some v := (hs2.x.cell _).trans (entV_at _ _ _ _ _ _ _ hHl hSl 1); have fv2 := hs2.x.frozen 67; obtain ⟨A7, c7, hv7, _⟩ := OwnC.from ho2; subst hv7)
                    refine ⟨.inr hcl2, ?_⟩
                    repeat (refine wd_q (v := ?_) rfl rfl rfl rfl rfl rfl (fun w' hw' K hK => ?_) ?_; rotate_left; (skip; go_wp2; exact rfl); simp only [Act.put, List.setIfInBounds_toArray, List.set_cons_zero, List.set_cons_succ])
                    refine wd_last rfl (by kernel_rfl) rfl (by intro a w h; first | (obtain ⟨h, _⟩ := h; cases h; done) | (obtain ⟨_, h, _⟩ := h; cases h; done) | (obtain ⟨_, _, h, _⟩ := h; cases h; done) | (obtain ⟨_, _, _, h, _⟩ := h; cases h; done) | (rcases h with ⟨_, _, _, _, h, _⟩ | ⟨_, _, _, _, h, _⟩ <;> cases h; done)) ?_
                    go_wp2_with fail
                    go_roundw
                    case rel => exact ⟨Q + 1, _, by go_num, by omega, by omega, entV_ord _ _ H S K v _ r hHl hSl ▸ hs2.set 67 _, by rw [HTK.out]; exact OwnC.farSet ho2 (by simp) _⟩
                    case measure => simp [intOf]; omega
                  · have e9 : (b.drop N5).take (Q - N5) = b.drop N5 := List.take_of_length_le (by rw [List.length_drop]; omega)
                    rw [e9] at ho
                    obtain ⟨A6, c6, hv, h6l, h6n, h6r, _⟩ := OwnC.from ho
                    rw [nums_length] at hv h6l
                    subst hv
                    have hnt : Nts wr A6 c6 (b.drop N5) := ⟨h6r, h6l, h6n⟩
                    obtain ⟨e, he⟩ : ∃ e : Ent, e = ⟨j, t, H, S, K, b.drop N5, r⟩ := ⟨_, rfl⟩
                    have hcs : entC e A6 c6 = entV j t H S K (.slice A6 (b.drop N5).length c6) r := by rw [he]; rfl
                    have hord : e.ord = b.drop N5 := by rw [he]
                    have heb : EntB e := by rw [he]; exact HEB.out
                    have href : refRead b = some e := by rw [he]; exact HREF.out
                    rw [← hcs] at hs
                    rw [← hord] at ho hnt
                    have hol : e.ord.length ≤ 1000 := by rw [hord, List.length_drop]; omega
                    have hlen := entC_len heb A6 c6
                    have hone := entC_one (e := e) A6 c6
                    obtain ⟨CS, hCS⟩ : ∃ CS, CS = entC e A6 c6 := ⟨_, rfl⟩
                    rw [← hCS] at hlen hone hs
                    have henc := fun W A1 c1 h => refencode_any W e heb A1 c1 h hol
                    have hd3 := hs.x
                    have HLEN := Lib.hid hlen
                    have HONE := Lib.hid hone
                    have HCS := Lib.hid hCS
                    have HREF2 := Lib.hid href
                    have HEB2 := Lib.hid heb
                    have HENC := Lib.hid henc
                    clear he hcs hord e9 hlen hone hCS henc heb href
                    clear HREF HEB
                    by_cases hok : OkE e
                    · have henc := HENC.out
                      rw [encR_yes e hok] at henc
                      have heu := encL_u8 hok HEB2.out
                      have hel := encL_len e hok HEB2.out.h HEB2.out.s
                      by_cases hee : encL e = b
                      · have hd := refR_ok HREF2.out hok hee
                        have heq : decide (encL e = b) = true := decide_eq_true hee
                        obtain ⟨E, hE⟩ : ∃ E, E = encL e := ⟨_, rfl⟩
                        rw [← hE] at henc heu heq hel
                        have HEN := Lib.hid henc
                        have HD := Lib.hid hd
                        have HEQ := Lib.hid heq
                        clear henc hd heu heq hE hee hok
                        go_wp2_with ((with_reducible apply st_load (n := 69) (cs := CS) (T := 28)); rfl; exact hd3; exact Try.underlying28; rfl; exact entSize; (rw [HLEN.out]; decide); exact row_all _ _ HLEN.out)
                        go_at_call 10
                        rw [HCS.out]
                        refine (HEN.out _ A6 c6 hnt).mono ?_
                        rw [← HCS.out]
                        rintro r1 w3 ⟨v3, rfl, hb3, ho3⟩
                        obtain ⟨A8, c8, rfl, h8l, h8n, h8r, _⟩ := ho3.from
                        have s3 := hs.up hb3
                        go_wp2_with ((with_reducible apply st_un); rfl)
                        go_at_call 13
                        have hcall := refsame_any w3 A8 (some ⟨g, o, none⟩) c8 c E b h8r (HBY.out.up s3.B).rd (by omega)
                        rw [HEQ.out] at hcall
                        refine hcall.mono ?_
                        clear hcall
                        rintro r1 w4 ⟨rfl, hb4⟩
                        have s4 := s3.up hb4
                        have hd4 := s4.x
                        go_wp2_with (first | ((with_reducible apply st_load (n := 69) (cs := CS) (T := 28)); rfl; exact hd4; exact Try.underlying28; rfl; exact entSize; (rw [HLEN.out]; decide); exact row_all _ _ HLEN.out) | ((with_reducible apply st_storeW (off := 0) (vs := CS) (cs := entZ) (T := 28)); rfl; rfl; exact s4.r; (rw [HLEN.out]; exact entSize); (rw [HLEN.out, entZ_len]; decide); exact HONE.out; intro w9 hd9 hw9; rw [laid_all _ _ (by rw [HLEN.out, entZ_len])] at hd9))
                        refine bodyPost_ret (ret_row_tmp rfl _ _ _ CS 28 _ rfl hd9 Try.underlying28 rfl (by rw [HLEN.out]; exact entSize)) rfl (DecPost.ok HD.out ⟨Wrote.below s4.B hw9 (Nat.le_refl _), OwnC.mono (OwnC.farWrote (OwnC.kept (OwnC.kept ho hb3) hb4) hw9 (by omega)) (by omega)⟩ HCS.out rfl)
                      · have hd := refR_other HREF2.out hee
                        have heq : decide (encL e = b) = false := decide_eq_false hee
                        obtain ⟨E, hE⟩ : ∃ E, E = encL e := ⟨_, rfl⟩
                        rw [← hE] at henc heu heq hel
                        have HEN := Lib.hid henc
                        have HD := Lib.hid hd
                        have HEQ := Lib.hid heq
                        clear henc hd heu heq hE hee hok
                        go_wp2_with ((with_reducible apply st_load (n := 69) (cs := CS) (T := 28)); rfl; exact hd3; exact Try.underlying28; rfl; exact entSize; (rw [HLEN.out]; decide); exact row_all _ _ HLEN.out)
                        go_at_call 10
                        rw [HCS.out]
                        refine (HEN.out _ A6 c6 hnt).mono ?_
                        rw [← HCS.out]
                        rintro r1 w3 ⟨v3, rfl, hb3, ho3⟩
                        obtain ⟨A8, c8, rfl, h8l, h8n, h8r, _⟩ := ho3.from
                        have s3 := hs.up hb3
                        go_wp2_with ((with_reducible apply st_un); rfl)
                        go_at_call 13
                        have hcall := refsame_any w3 A8 (some ⟨g, o, none⟩) c8 c E b h8r (HBY.out.up s3.B).rd (by omega)
                        rw [HEQ.out] at hcall
                        refine hcall.mono ?_
                        clear hcall
                        rintro r1 w4 ⟨rfl, hb4⟩
                        have s4 := s3.up hb4
                        have hd4 := s4.x
                        go_wp2_with (first | (with_reducible apply st_buildE) | ((with_reducible apply st_storeW (off := 0) (vs := entZ) (cs := entZ) (T := 28)); rfl; rfl; exact s4.r; (rw [entZ_len]; exact entSize); exact Nat.le_of_eq (Nat.zero_add _); exact entZ_one; intro w9 hd9 hw9; rw [laid_all _ _ rfl] at hd9))
                        refine bodyPost_ret (ret_row_tmp rfl _ _ _ entZ 28 _ rfl hd9 Try.underlying28 rfl (by rw [entZ_len]; exact entSize)) rfl (DecPost.zero HD.out (Wrote.below s4.B hw9 (Nat.le_refl _)) rfl)
                    · have henc := HENC.out
                      rw [encR_no e hok] at henc
                      have HEN := Lib.hid henc
                      have HD := Lib.hid (refR_bad HREF2.out hok)
                      clear henc hok
                      go_wp2_with ((with_reducible apply st_load (n := 69) (cs := CS) (T := 28)); rfl; exact hd3; exact Try.underlying28; rfl; exact entSize; (rw [HLEN.out]; decide); exact row_all _ _ HLEN.out)
                      go_at_call 10
                      rw [HCS.out]
                      refine (HEN.out _ A6 c6 hnt).mono ?_
                      rw [← HCS.out]
                      rintro r1 w3 ⟨v3, rfl, hb3, ho3⟩
                      have s3 := hs.up hb3
                      go_wp2_with (first | (with_reducible apply st_buildE) | ((with_reducible apply st_storeW (off := 0) (vs := entZ) (cs := entZ) (T := 28)); rfl; rfl; exact s3.r; (rw [entZ_len]; exact entSize); exact Nat.le_of_eq (Nat.zero_add _); exact entZ_one; intro w9 hd9 hw9; rw [laid_all _ _ rfl] at hd9))
                      refine bodyPost_ret (ret_row_tmp rfl _ _ _ entZ 28 _ rfl hd9 Try.underlying28 rfl (by rw [entZ_len]; exact entSize)) rfl (DecPost.zero HD.out (Wrote.below s3.B hw9 (Nat.le_refl _)) rfl)


end Go.Proofs.Ytepicdcmcagipaa
