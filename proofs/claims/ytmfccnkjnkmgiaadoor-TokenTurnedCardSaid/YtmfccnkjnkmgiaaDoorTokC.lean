/- What the reference's Claim and Open of layer 5 answer. No condition but lengths. -/
import Derived.Test.YtmfccnkjnkmgiaaDoorTokD
import Derived.Test.YtmfccnkjnkmgiaaDoorTokO
namespace Go.Proofs.YtmfccnkjnkmgiaaDoor
open Go.RowKit Go.Proofs.YtmfccnkjnkmgiaaDoor.Pure
open Go.Proofs.YtmfccnkjnkmgiaaDoorW.PrintWords (bt)

theorem refname_any (w : World) (s : ByteArray) (hs : s.size ≤ 300) : Calls Tryd.prog 22 #[.string s] w fun e w' => e = .returned (.bool (nameB s)) ∧ Below w.heap.size w w' :=
  (PTokenBack.inquestref04_Name.calls 400 s (nameB s) w (rname_f s (by omega) 400 (by omega))).mono fun e w' ⟨h1, h2⟩ => ⟨h1, drawn_below h2⟩
theorem ext_size (s : ByteArray) (a b : Nat) (hs : s.size ≤ 300) : (s.extract a b).size ≤ 300 := by
  rw [ByteArray.size_extract]; omega

set_option maxHeartbeats 4000000 in
theorem refclaim_any (w : World) (s : ByteArray) (hs : s.size ≤ 300) : Calls Tryd.prog 21 #[.string s] w (GivesP (claimR s) w) := by
  have hB0 : Below w.heap.size w (w.alloc (.cells (passC ⟨#[]⟩ 0).toArray 35)) := (Below.refl _ _).alloc (Nat.le_refl _) _
  have hp0 : Blk (w.alloc (.cells (passC ⟨#[]⟩ 0).toArray 35)) w.heap.size (passC ⟨#[]⟩ 0) 35 := Blk.new' _ _ _ _ _ rfl rfl
  obtain ⟨i, _, hi, hfree, hdot⟩ := dot_spec s s.size 0 (by omega)
  have HFREE := Lib.hid hfree
  by_cases hiA : i = s.size
  · have hc := claim_none0 s i hiA HFREE.out
    rw [hc]
    clear hc
    clear hfree hdot
    go_enter Tryd.func21, Tryd.ntmps21
    go_wp2_with fail
    refine named_world ?_
    intro w0 hw0
    have hB : Below w.heap.size w w0 := by rw [hw0]; exact hB0
    have hp : Blk w0 w.heap.size (passC ⟨#[]⟩ 0) 35 := by rw [hw0]; exact hp0
    clear hw0 hB0 hp0
    go_loopw [4] (fun v wr => wr = w0 ∧ ∃ j : Nat, v = .int .i64 j ∧ j ≤ i) (fun v _ => s.size - (intOf v).toNat)
    case atStart => exact ⟨rfl, 0, rfl, by omega⟩
    case round =>
      obtain ⟨rfl, j, rfl, hj⟩ := hrel
      by_cases hlt : j < i
      · have hidx := index_bt (P := Tryd.prog) Tryd.underlying9 s .i64 (j : Int) (by omega) (by omega)
        have hne := HFREE.out j (by omega) hlt
        obtain ⟨x, hx⟩ : ∃ x, x = bt s j := ⟨_, rfl⟩
        rw [← hx] at hidx hne
        have hxn : (x != 46) = true := by simpa using hne
        clear hx
        go_wp2_with fail
        go_roundw
        case rel => exact ⟨trivial, j + 1, by go_num, by omega⟩
        case measure => simp [intOf]; omega
      · obtain rfl : j = i := by omega
        go_wp2_with fail
        rename World => w0
        go_loopw [5] (fun v wr => wr = w0 ∧ v = .int .i64 ((j : Int) + 1)) (fun _ _ => 0)
        case atStart => exact ⟨rfl, by congr 1; omega⟩
        case round =>
          obtain ⟨rfl, rfl⟩ := hrel
          go_wp2_with ((with_reducible apply st_storeW (off := 0) (vs := passC ⟨#[]⟩ 0) (cs := passC ⟨#[]⟩ 0) (T := 35)); rfl; rfl; exact hp; exact passSize; (simp [passC]); exact passC_one _ _; intro w6 hd6 hw6; rw [laid_all _ _ (by rfl)] at hd6)
          refine bodyPost_ret (ret_row_tmp rfl _ _ _ (passC ⟨#[]⟩ 0) 35 _ rfl hd6 Tryd.underlying35 rfl (by exact passSize)) rfl (⟨rfl, Wrote.below hB hw6 (Nat.le_refl _)⟩)
  · have HDOT := Lib.hid (hdot (by omega))
    obtain ⟨k, hik, hk, hfree2, hdot2⟩ := dot_spec s (s.size - (i + 1)) (i + 1) (by omega)
    have HFREE2 := Lib.hid hfree2
    by_cases hkB : k = s.size
    · have hc := claim_none1 s i k (by omega) HFREE.out HDOT.out hkB HFREE2.out
      rw [hc]
      clear hc hfree2 hdot2
      clear hfree hdot
      go_enter Tryd.func21, Tryd.ntmps21
      go_wp2_with fail
      refine named_world ?_
      intro w0 hw0
      have hB : Below w.heap.size w w0 := by rw [hw0]; exact hB0
      have hp : Blk w0 w.heap.size (passC ⟨#[]⟩ 0) 35 := by rw [hw0]; exact hp0
      clear hw0 hB0 hp0
      go_loopw [4] (fun v wr => wr = w0 ∧ ∃ j : Nat, v = .int .i64 j ∧ j ≤ i) (fun v _ => s.size - (intOf v).toNat)
      case atStart => exact ⟨rfl, 0, rfl, by omega⟩
      case round =>
        obtain ⟨rfl, j, rfl, hj⟩ := hrel
        by_cases hlt : j < i
        · have hidx := index_bt (P := Tryd.prog) Tryd.underlying9 s .i64 (j : Int) (by omega) (by omega)
          have hne := HFREE.out j (by omega) hlt
          obtain ⟨x, hx⟩ : ∃ x, x = bt s j := ⟨_, rfl⟩
          rw [← hx] at hidx hne
          have hxn : (x != 46) = true := by simpa using hne
          clear hx
          go_wp2_with fail
          go_roundw
          case rel => exact ⟨trivial, j + 1, by go_num, by omega⟩
          case measure => simp [intOf]; omega
        · obtain rfl : j = i := by omega
          have hidx0 := index_bt (P := Tryd.prog) Tryd.underlying9 s .i64 (j : Int) (by omega) (by omega)
          rw [HDOT.out] at hidx0
          go_wp2_with fail
          rename World => w0
          clear hidx0
          go_loopw [5] (fun v wr => wr = w0 ∧ ∃ q : Nat, v = .int .i64 q ∧ j + 1 ≤ q ∧ q ≤ k) (fun v _ => s.size - (intOf v).toNat)
          case atStart => exact ⟨rfl, j + 1, by go_num, by omega, by omega⟩
          case round =>
            obtain ⟨rfl, q, rfl, hq1, hq⟩ := hrel
            by_cases hltq : q < k
            · have hidx := index_bt (P := Tryd.prog) Tryd.underlying9 s .i64 (q : Int) (by omega) (by omega)
              have hne := HFREE2.out q (by omega) hltq
              obtain ⟨x, hx⟩ : ∃ x, x = bt s q := ⟨_, rfl⟩
              rw [← hx] at hidx hne
              have hxn : (x != 46) = true := by simpa using hne
              clear hx
              go_wp2_with fail
              go_roundw
              case rel => exact ⟨trivial, q + 1, by go_num, by omega, by omega⟩
              case measure => simp [intOf]; omega
            · obtain rfl : q = k := by omega
              go_wp2_with ((with_reducible apply st_storeW (off := 0) (vs := passC ⟨#[]⟩ 0) (cs := passC ⟨#[]⟩ 0) (T := 35)); rfl; rfl; exact hp; exact passSize; (simp [passC]); exact passC_one _ _; intro w6 hd6 hw6; rw [laid_all _ _ (by rfl)] at hd6)
              refine bodyPost_ret (ret_row_tmp rfl _ _ _ (passC ⟨#[]⟩ 0) 35 _ rfl hd6 Tryd.underlying35 rfl (by exact passSize)) rfl (⟨rfl, Wrote.below hB hw6 (Nat.le_refl _)⟩)
    · have HDOT2 := Lib.hid (hdot2 (by omega))
      have hc := claim_two s i k HFREE.out HDOT.out hik (by omega) HFREE2.out HDOT2.out
      have hea := ext_size s 0 i hs
      have heb := ext_size s (i + 1) k hs
      have hec := ext_size s (k + 1) s.size hs
      have hn := fun w => refname_any w (s.extract 0 i) hea
      have hrd := fun w => refreaddec_any w (s.extract (i + 1) k) heb
      have hun := fun w => refunhex_any w (s.extract (k + 1) s.size) (by omega)
      obtain ⟨nb, hnb⟩ : ∃ nb, nb = nameB (s.extract 0 i) := ⟨_, rfl⟩
      obtain ⟨⟨n, ok⟩, hrr⟩ : ∃ r, r = rdR (s.extract (i + 1) k) := ⟨_, rfl⟩
      obtain ⟨⟨l, is⟩, huu⟩ : ∃ r, r = unhexR (s.extract (k + 1) s.size) := ⟨_, rfl⟩
      simp only [← hnb, ← hrr, ← huu] at hc hn hrd hun
      have HC := Lib.hid hc
      have HN := Lib.hid hn
      have HRD := Lib.hid hrd
      have HUN := Lib.hid hun
      have HDOTQ := HDOT2
      clear hfree2 hdot2 hc hn hrd hun hnb hrr huu hea heb hec
      by_cases h65 : s.size - k = 65
      · cases nb
        · have hc := HC.out
          rw [if_neg (by simp)] at hc
          rw [hc]
          clear hc
          clear hfree hdot
          go_enter Tryd.func21, Tryd.ntmps21
          go_wp2_with fail
          refine named_world ?_
          intro w0 hw0
          have hB : Below w.heap.size w w0 := by rw [hw0]; exact hB0
          have hp : Blk w0 w.heap.size (passC ⟨#[]⟩ 0) 35 := by rw [hw0]; exact hp0
          clear hw0 hB0 hp0
          go_loopw [4] (fun v wr => wr = w0 ∧ ∃ j : Nat, v = .int .i64 j ∧ j ≤ i) (fun v _ => s.size - (intOf v).toNat)
          case atStart => exact ⟨rfl, 0, rfl, by omega⟩
          case round =>
            obtain ⟨rfl, j, rfl, hj⟩ := hrel
            by_cases hlt : j < i
            · have hidx := index_bt (P := Tryd.prog) Tryd.underlying9 s .i64 (j : Int) (by omega) (by omega)
              have hne := HFREE.out j (by omega) hlt
              obtain ⟨x, hx⟩ : ∃ x, x = bt s j := ⟨_, rfl⟩
              rw [← hx] at hidx hne
              have hxn : (x != 46) = true := by simpa using hne
              clear hx
              go_wp2_with fail
              go_roundw
              case rel => exact ⟨trivial, j + 1, by go_num, by omega⟩
              case measure => simp [intOf]; omega
            · obtain rfl : j = i := by omega
              have hidx0 := index_bt (P := Tryd.prog) Tryd.underlying9 s .i64 (j : Int) (by omega) (by omega)
              rw [HDOT.out] at hidx0
              go_wp2_with fail
              rename World => w0
              clear hidx0
              go_loopw [5] (fun v wr => wr = w0 ∧ ∃ q : Nat, v = .int .i64 q ∧ j + 1 ≤ q ∧ q ≤ k) (fun v _ => s.size - (intOf v).toNat)
              case atStart => exact ⟨rfl, j + 1, by go_num, by omega, by omega⟩
              case round =>
                obtain ⟨rfl, q, rfl, hq1, hq⟩ := hrel
                by_cases hltq : q < k
                · have hidx := index_bt (P := Tryd.prog) Tryd.underlying9 s .i64 (q : Int) (by omega) (by omega)
                  have hne := HFREE2.out q (by omega) hltq
                  obtain ⟨x, hx⟩ : ∃ x, x = bt s q := ⟨_, rfl⟩
                  rw [← hx] at hidx hne
                  have hxn : (x != 46) = true := by simpa using hne
                  clear hx
                  go_wp2_with fail
                  go_roundw
                  case rel => exact ⟨trivial, q + 1, by go_num, by omega, by omega⟩
                  case measure => simp [intOf]; omega
                · obtain rfl : q = k := by omega
                  have hidxq := index_bt (P := Tryd.prog) Tryd.underlying9 s .i64 (q : Int) (by omega) (by omega)
                  rw [HDOTQ.out] at hidxq
                  go_wp2_with fail
                  go_at_call 22
                  refine (HN.out _).mono ?_
                  rintro e w1 ⟨rfl, hb⟩
                  have hB := hB.trans (hb.mono hB.size)
                  have hp := hp.up hb
                  go_wp2_with ((with_reducible apply st_storeW (off := 0) (vs := passC ⟨#[]⟩ 0) (cs := passC ⟨#[]⟩ 0) (T := 35)); rfl; rfl; exact hp; exact passSize; (simp [passC]); exact passC_one _ _; intro w6 hd6 hw6; rw [laid_all _ _ (by rfl)] at hd6)
                  refine bodyPost_ret (ret_row_tmp rfl _ _ _ (passC ⟨#[]⟩ 0) 35 _ rfl hd6 Tryd.underlying35 rfl (by exact passSize)) rfl (⟨rfl, Wrote.below hB hw6 (Nat.le_refl _)⟩)
        · cases ok
          · have hc := HC.out
            rw [if_neg (by simp)] at hc
            rw [hc]
            clear hc
            clear hfree hdot
            go_enter Tryd.func21, Tryd.ntmps21
            go_wp2_with fail
            refine named_world ?_
            intro w0 hw0
            have hB : Below w.heap.size w w0 := by rw [hw0]; exact hB0
            have hp : Blk w0 w.heap.size (passC ⟨#[]⟩ 0) 35 := by rw [hw0]; exact hp0
            clear hw0 hB0 hp0
            go_loopw [4] (fun v wr => wr = w0 ∧ ∃ j : Nat, v = .int .i64 j ∧ j ≤ i) (fun v _ => s.size - (intOf v).toNat)
            case atStart => exact ⟨rfl, 0, rfl, by omega⟩
            case round =>
              obtain ⟨rfl, j, rfl, hj⟩ := hrel
              by_cases hlt : j < i
              · have hidx := index_bt (P := Tryd.prog) Tryd.underlying9 s .i64 (j : Int) (by omega) (by omega)
                have hne := HFREE.out j (by omega) hlt
                obtain ⟨x, hx⟩ : ∃ x, x = bt s j := ⟨_, rfl⟩
                rw [← hx] at hidx hne
                have hxn : (x != 46) = true := by simpa using hne
                clear hx
                go_wp2_with fail
                go_roundw
                case rel => exact ⟨trivial, j + 1, by go_num, by omega⟩
                case measure => simp [intOf]; omega
              · obtain rfl : j = i := by omega
                have hidx0 := index_bt (P := Tryd.prog) Tryd.underlying9 s .i64 (j : Int) (by omega) (by omega)
                rw [HDOT.out] at hidx0
                go_wp2_with fail
                rename World => w0
                clear hidx0
                go_loopw [5] (fun v wr => wr = w0 ∧ ∃ q : Nat, v = .int .i64 q ∧ j + 1 ≤ q ∧ q ≤ k) (fun v _ => s.size - (intOf v).toNat)
                case atStart => exact ⟨rfl, j + 1, by go_num, by omega, by omega⟩
                case round =>
                  obtain ⟨rfl, q, rfl, hq1, hq⟩ := hrel
                  by_cases hltq : q < k
                  · have hidx := index_bt (P := Tryd.prog) Tryd.underlying9 s .i64 (q : Int) (by omega) (by omega)
                    have hne := HFREE2.out q (by omega) hltq
                    obtain ⟨x, hx⟩ : ∃ x, x = bt s q := ⟨_, rfl⟩
                    rw [← hx] at hidx hne
                    have hxn : (x != 46) = true := by simpa using hne
                    clear hx
                    go_wp2_with fail
                    go_roundw
                    case rel => exact ⟨trivial, q + 1, by go_num, by omega, by omega⟩
                    case measure => simp [intOf]; omega
                  · obtain rfl : q = k := by omega
                    have hidxq := index_bt (P := Tryd.prog) Tryd.underlying9 s .i64 (q : Int) (by omega) (by omega)
                    rw [HDOTQ.out] at hidxq
                    go_wp2_with fail
                    go_at_call 22
                    refine (HN.out _).mono ?_
                    rintro e w1 ⟨rfl, hb⟩
                    have hB := hB.trans (hb.mono hB.size)
                    have hp := hp.up hb
                    go_wp2_with fail
                    go_at_call 32
                    refine (HRD.out _).mono ?_
                    rintro e w2 ⟨rfl, hb⟩
                    have hB := hB.trans (hb.mono hB.size)
                    have hp := hp.up hb
                    go_wp2_with fail
                    go_at_call 33
                    refine (HUN.out _).mono ?_
                    rintro e w3 ⟨v3, rfl, hb, ho3⟩
                    have hB := hB.trans (hb.mono hB.size)
                    have hp := hp.up hb
                    go_wp2_with ((with_reducible apply st_storeW (off := 0) (vs := passC ⟨#[]⟩ 0) (cs := passC ⟨#[]⟩ 0) (T := 35)); rfl; rfl; exact hp; exact passSize; (simp [passC]); exact passC_one _ _; intro w6 hd6 hw6; rw [laid_all _ _ (by rfl)] at hd6)
                    refine bodyPost_ret (ret_row_tmp rfl _ _ _ (passC ⟨#[]⟩ 0) 35 _ rfl hd6 Tryd.underlying35 rfl (by exact passSize)) rfl (⟨rfl, Wrote.below hB hw6 (Nat.le_refl _)⟩)
          · by_cases hmx : n ≤ 1099511627776
            · cases is
              · have hc := HC.out
                rw [if_neg (by simp)] at hc
                rw [hc]
                clear hc
                clear hfree hdot
                go_enter Tryd.func21, Tryd.ntmps21
                go_wp2_with fail
                refine named_world ?_
                intro w0 hw0
                have hB : Below w.heap.size w w0 := by rw [hw0]; exact hB0
                have hp : Blk w0 w.heap.size (passC ⟨#[]⟩ 0) 35 := by rw [hw0]; exact hp0
                clear hw0 hB0 hp0
                go_loopw [4] (fun v wr => wr = w0 ∧ ∃ j : Nat, v = .int .i64 j ∧ j ≤ i) (fun v _ => s.size - (intOf v).toNat)
                case atStart => exact ⟨rfl, 0, rfl, by omega⟩
                case round =>
                  obtain ⟨rfl, j, rfl, hj⟩ := hrel
                  by_cases hlt : j < i
                  · have hidx := index_bt (P := Tryd.prog) Tryd.underlying9 s .i64 (j : Int) (by omega) (by omega)
                    have hne := HFREE.out j (by omega) hlt
                    obtain ⟨x, hx⟩ : ∃ x, x = bt s j := ⟨_, rfl⟩
                    rw [← hx] at hidx hne
                    have hxn : (x != 46) = true := by simpa using hne
                    clear hx
                    go_wp2_with fail
                    go_roundw
                    case rel => exact ⟨trivial, j + 1, by go_num, by omega⟩
                    case measure => simp [intOf]; omega
                  · obtain rfl : j = i := by omega
                    have hidx0 := index_bt (P := Tryd.prog) Tryd.underlying9 s .i64 (j : Int) (by omega) (by omega)
                    rw [HDOT.out] at hidx0
                    go_wp2_with fail
                    rename World => w0
                    clear hidx0
                    go_loopw [5] (fun v wr => wr = w0 ∧ ∃ q : Nat, v = .int .i64 q ∧ j + 1 ≤ q ∧ q ≤ k) (fun v _ => s.size - (intOf v).toNat)
                    case atStart => exact ⟨rfl, j + 1, by go_num, by omega, by omega⟩
                    case round =>
                      obtain ⟨rfl, q, rfl, hq1, hq⟩ := hrel
                      by_cases hltq : q < k
                      · have hidx := index_bt (P := Tryd.prog) Tryd.underlying9 s .i64 (q : Int) (by omega) (by omega)
                        have hne := HFREE2.out q (by omega) hltq
                        obtain ⟨x, hx⟩ : ∃ x, x = bt s q := ⟨_, rfl⟩
                        rw [← hx] at hidx hne
                        have hxn : (x != 46) = true := by simpa using hne
                        clear hx
                        go_wp2_with fail
                        go_roundw
                        case rel => exact ⟨trivial, q + 1, by go_num, by omega, by omega⟩
                        case measure => simp [intOf]; omega
                      · obtain rfl : q = k := by omega
                        have hidxq := index_bt (P := Tryd.prog) Tryd.underlying9 s .i64 (q : Int) (by omega) (by omega)
                        rw [HDOTQ.out] at hidxq
                        go_wp2_with fail
                        go_at_call 22
                        refine (HN.out _).mono ?_
                        rintro e w1 ⟨rfl, hb⟩
                        have hB := hB.trans (hb.mono hB.size)
                        have hp := hp.up hb
                        go_wp2_with fail
                        go_at_call 32
                        refine (HRD.out _).mono ?_
                        rintro e w2 ⟨rfl, hb⟩
                        have hB := hB.trans (hb.mono hB.size)
                        have hp := hp.up hb
                        go_wp2_with fail
                        go_at_call 33
                        refine (HUN.out _).mono ?_
                        rintro e w3 ⟨v3, rfl, hb, ho3⟩
                        have hB := hB.trans (hb.mono hB.size)
                        have hp := hp.up hb
                        go_wp2_with ((with_reducible apply st_storeW (off := 0) (vs := passC ⟨#[]⟩ 0) (cs := passC ⟨#[]⟩ 0) (T := 35)); rfl; rfl; exact hp; exact passSize; (simp [passC]); exact passC_one _ _; intro w6 hd6 hw6; rw [laid_all _ _ (by rfl)] at hd6)
                        refine bodyPost_ret (ret_row_tmp rfl _ _ _ (passC ⟨#[]⟩ 0) 35 _ rfl hd6 Tryd.underlying35 rfl (by exact passSize)) rfl (⟨rfl, Wrote.below hB hw6 (Nat.le_refl _)⟩)
              · have hc := HC.out
                rw [if_pos ⟨rfl, h65, rfl, hmx, rfl⟩] at hc
                rw [hc]
                clear hc
                clear hfree hdot
                go_enter Tryd.func21, Tryd.ntmps21
                go_wp2_with fail
                refine named_world ?_
                intro w0 hw0
                have hB : Below w.heap.size w w0 := by rw [hw0]; exact hB0
                have hp : Blk w0 w.heap.size (passC ⟨#[]⟩ 0) 35 := by rw [hw0]; exact hp0
                clear hw0 hB0 hp0
                go_loopw [4] (fun v wr => wr = w0 ∧ ∃ j : Nat, v = .int .i64 j ∧ j ≤ i) (fun v _ => s.size - (intOf v).toNat)
                case atStart => exact ⟨rfl, 0, rfl, by omega⟩
                case round =>
                  obtain ⟨rfl, j, rfl, hj⟩ := hrel
                  by_cases hlt : j < i
                  · have hidx := index_bt (P := Tryd.prog) Tryd.underlying9 s .i64 (j : Int) (by omega) (by omega)
                    have hne := HFREE.out j (by omega) hlt
                    obtain ⟨x, hx⟩ : ∃ x, x = bt s j := ⟨_, rfl⟩
                    rw [← hx] at hidx hne
                    have hxn : (x != 46) = true := by simpa using hne
                    clear hx
                    go_wp2_with fail
                    go_roundw
                    case rel => exact ⟨trivial, j + 1, by go_num, by omega⟩
                    case measure => simp [intOf]; omega
                  · obtain rfl : j = i := by omega
                    have hidx0 := index_bt (P := Tryd.prog) Tryd.underlying9 s .i64 (j : Int) (by omega) (by omega)
                    rw [HDOT.out] at hidx0
                    go_wp2_with fail
                    rename World => w0
                    clear hidx0
                    go_loopw [5] (fun v wr => wr = w0 ∧ ∃ q : Nat, v = .int .i64 q ∧ j + 1 ≤ q ∧ q ≤ k) (fun v _ => s.size - (intOf v).toNat)
                    case atStart => exact ⟨rfl, j + 1, by go_num, by omega, by omega⟩
                    case round =>
                      obtain ⟨rfl, q, rfl, hq1, hq⟩ := hrel
                      by_cases hltq : q < k
                      · have hidx := index_bt (P := Tryd.prog) Tryd.underlying9 s .i64 (q : Int) (by omega) (by omega)
                        have hne := HFREE2.out q (by omega) hltq
                        obtain ⟨x, hx⟩ : ∃ x, x = bt s q := ⟨_, rfl⟩
                        rw [← hx] at hidx hne
                        have hxn : (x != 46) = true := by simpa using hne
                        clear hx
                        go_wp2_with fail
                        go_roundw
                        case rel => exact ⟨trivial, q + 1, by go_num, by omega, by omega⟩
                        case measure => simp [intOf]; omega
                      · obtain rfl : q = k := by omega
                        have hidxq := index_bt (P := Tryd.prog) Tryd.underlying9 s .i64 (q : Int) (by omega) (by omega)
                        rw [HDOTQ.out] at hidxq
                        go_wp2_with fail
                        go_at_call 22
                        refine (HN.out _).mono ?_
                        rintro e w1 ⟨rfl, hb⟩
                        have hB := hB.trans (hb.mono hB.size)
                        have hp := hp.up hb
                        go_wp2_with fail
                        go_at_call 32
                        refine (HRD.out _).mono ?_
                        rintro e w2 ⟨rfl, hb⟩
                        have hB := hB.trans (hb.mono hB.size)
                        have hp := hp.up hb
                        go_wp2_with fail
                        go_at_call 33
                        refine (HUN.out _).mono ?_
                        rintro e w3 ⟨v3, rfl, hb, ho3⟩
                        have hB := hB.trans (hb.mono hB.size)
                        have hp := hp.up hb
                        go_wp2_with ((with_reducible apply st_storeW (off := 0) (vs := passC (s.extract 0 j) n) (cs := passC ⟨#[]⟩ 0) (T := 35)); rfl; rfl; exact hp; exact passSize; (simp [passC]); exact passC_one _ _; intro w6 hd6 hw6; rw [laid_all _ _ (by rfl)] at hd6)
                        refine bodyPost_ret (ret_row_tmp rfl _ _ _ (passC (s.extract 0 j) n) 35 _ rfl hd6 Tryd.underlying35 rfl (by exact passSize)) rfl (⟨rfl, Wrote.below hB hw6 (Nat.le_refl _)⟩)
            · have hc := HC.out
              rw [if_neg (by simp; omega)] at hc
              rw [hc]
              clear hc
              clear hfree hdot
              go_enter Tryd.func21, Tryd.ntmps21
              go_wp2_with fail
              refine named_world ?_
              intro w0 hw0
              have hB : Below w.heap.size w w0 := by rw [hw0]; exact hB0
              have hp : Blk w0 w.heap.size (passC ⟨#[]⟩ 0) 35 := by rw [hw0]; exact hp0
              clear hw0 hB0 hp0
              go_loopw [4] (fun v wr => wr = w0 ∧ ∃ j : Nat, v = .int .i64 j ∧ j ≤ i) (fun v _ => s.size - (intOf v).toNat)
              case atStart => exact ⟨rfl, 0, rfl, by omega⟩
              case round =>
                obtain ⟨rfl, j, rfl, hj⟩ := hrel
                by_cases hlt : j < i
                · have hidx := index_bt (P := Tryd.prog) Tryd.underlying9 s .i64 (j : Int) (by omega) (by omega)
                  have hne := HFREE.out j (by omega) hlt
                  obtain ⟨x, hx⟩ : ∃ x, x = bt s j := ⟨_, rfl⟩
                  rw [← hx] at hidx hne
                  have hxn : (x != 46) = true := by simpa using hne
                  clear hx
                  go_wp2_with fail
                  go_roundw
                  case rel => exact ⟨trivial, j + 1, by go_num, by omega⟩
                  case measure => simp [intOf]; omega
                · obtain rfl : j = i := by omega
                  have hidx0 := index_bt (P := Tryd.prog) Tryd.underlying9 s .i64 (j : Int) (by omega) (by omega)
                  rw [HDOT.out] at hidx0
                  go_wp2_with fail
                  rename World => w0
                  clear hidx0
                  go_loopw [5] (fun v wr => wr = w0 ∧ ∃ q : Nat, v = .int .i64 q ∧ j + 1 ≤ q ∧ q ≤ k) (fun v _ => s.size - (intOf v).toNat)
                  case atStart => exact ⟨rfl, j + 1, by go_num, by omega, by omega⟩
                  case round =>
                    obtain ⟨rfl, q, rfl, hq1, hq⟩ := hrel
                    by_cases hltq : q < k
                    · have hidx := index_bt (P := Tryd.prog) Tryd.underlying9 s .i64 (q : Int) (by omega) (by omega)
                      have hne := HFREE2.out q (by omega) hltq
                      obtain ⟨x, hx⟩ : ∃ x, x = bt s q := ⟨_, rfl⟩
                      rw [← hx] at hidx hne
                      have hxn : (x != 46) = true := by simpa using hne
                      clear hx
                      go_wp2_with fail
                      go_roundw
                      case rel => exact ⟨trivial, q + 1, by go_num, by omega, by omega⟩
                      case measure => simp [intOf]; omega
                    · obtain rfl : q = k := by omega
                      have hidxq := index_bt (P := Tryd.prog) Tryd.underlying9 s .i64 (q : Int) (by omega) (by omega)
                      rw [HDOTQ.out] at hidxq
                      go_wp2_with fail
                      go_at_call 22
                      refine (HN.out _).mono ?_
                      rintro e w1 ⟨rfl, hb⟩
                      have hB := hB.trans (hb.mono hB.size)
                      have hp := hp.up hb
                      go_wp2_with fail
                      go_at_call 32
                      refine (HRD.out _).mono ?_
                      rintro e w2 ⟨rfl, hb⟩
                      have hB := hB.trans (hb.mono hB.size)
                      have hp := hp.up hb
                      go_wp2_with fail
                      go_at_call 33
                      refine (HUN.out _).mono ?_
                      rintro e w3 ⟨v3, rfl, hb, ho3⟩
                      have hB := hB.trans (hb.mono hB.size)
                      have hp := hp.up hb
                      go_wp2_with ((with_reducible apply st_storeW (off := 0) (vs := passC ⟨#[]⟩ 0) (cs := passC ⟨#[]⟩ 0) (T := 35)); rfl; rfl; exact hp; exact passSize; (simp [passC]); exact passC_one _ _; intro w6 hd6 hw6; rw [laid_all _ _ (by rfl)] at hd6)
                      refine bodyPost_ret (ret_row_tmp rfl _ _ _ (passC ⟨#[]⟩ 0) 35 _ rfl hd6 Tryd.underlying35 rfl (by exact passSize)) rfl (⟨rfl, Wrote.below hB hw6 (Nat.le_refl _)⟩)
      · have hc := HC.out
        rw [if_neg (by simp; omega)] at hc
        rw [hc]
        clear hc
        clear hfree hdot
        go_enter Tryd.func21, Tryd.ntmps21
        go_wp2_with fail
        refine named_world ?_
        intro w0 hw0
        have hB : Below w.heap.size w w0 := by rw [hw0]; exact hB0
        have hp : Blk w0 w.heap.size (passC ⟨#[]⟩ 0) 35 := by rw [hw0]; exact hp0
        clear hw0 hB0 hp0
        go_loopw [4] (fun v wr => wr = w0 ∧ ∃ j : Nat, v = .int .i64 j ∧ j ≤ i) (fun v _ => s.size - (intOf v).toNat)
        case atStart => exact ⟨rfl, 0, rfl, by omega⟩
        case round =>
          obtain ⟨rfl, j, rfl, hj⟩ := hrel
          by_cases hlt : j < i
          · have hidx := index_bt (P := Tryd.prog) Tryd.underlying9 s .i64 (j : Int) (by omega) (by omega)
            have hne := HFREE.out j (by omega) hlt
            obtain ⟨x, hx⟩ : ∃ x, x = bt s j := ⟨_, rfl⟩
            rw [← hx] at hidx hne
            have hxn : (x != 46) = true := by simpa using hne
            clear hx
            go_wp2_with fail
            go_roundw
            case rel => exact ⟨trivial, j + 1, by go_num, by omega⟩
            case measure => simp [intOf]; omega
          · obtain rfl : j = i := by omega
            have hidx0 := index_bt (P := Tryd.prog) Tryd.underlying9 s .i64 (j : Int) (by omega) (by omega)
            rw [HDOT.out] at hidx0
            go_wp2_with fail
            rename World => w0
            clear hidx0
            go_loopw [5] (fun v wr => wr = w0 ∧ ∃ q : Nat, v = .int .i64 q ∧ j + 1 ≤ q ∧ q ≤ k) (fun v _ => s.size - (intOf v).toNat)
            case atStart => exact ⟨rfl, j + 1, by go_num, by omega, by omega⟩
            case round =>
              obtain ⟨rfl, q, rfl, hq1, hq⟩ := hrel
              by_cases hltq : q < k
              · have hidx := index_bt (P := Tryd.prog) Tryd.underlying9 s .i64 (q : Int) (by omega) (by omega)
                have hne := HFREE2.out q (by omega) hltq
                obtain ⟨x, hx⟩ : ∃ x, x = bt s q := ⟨_, rfl⟩
                rw [← hx] at hidx hne
                have hxn : (x != 46) = true := by simpa using hne
                clear hx
                go_wp2_with fail
                go_roundw
                case rel => exact ⟨trivial, q + 1, by go_num, by omega, by omega⟩
                case measure => simp [intOf]; omega
              · obtain rfl : q = k := by omega
                have hidxq := index_bt (P := Tryd.prog) Tryd.underlying9 s .i64 (q : Int) (by omega) (by omega)
                rw [HDOTQ.out] at hidxq
                go_wp2_with ((with_reducible apply st_storeW (off := 0) (vs := passC ⟨#[]⟩ 0) (cs := passC ⟨#[]⟩ 0) (T := 35)); rfl; rfl; exact hp; exact passSize; (simp [passC]); exact passC_one _ _; intro w6 hd6 hw6; rw [laid_all _ _ (by rfl)] at hd6)
                refine bodyPost_ret (ret_row_tmp rfl _ _ _ (passC ⟨#[]⟩ 0) 35 _ rfl hd6 Tryd.underlying35 rfl (by exact passSize)) rfl (⟨rfl, Wrote.below hB hw6 (Nat.le_refl _)⟩)

end Go.Proofs.YtmfccnkjnkmgiaaDoor
