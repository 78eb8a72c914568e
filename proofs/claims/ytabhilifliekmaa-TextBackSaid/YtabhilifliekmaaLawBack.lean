/- That inquestlaw04.TextBack returns true. No condition. -/
import Derived.Test.YtabhilifliekmaaTRef
import Derived.Test.YtabhilifliekmaaPureTextBack
namespace Go.Proofs.Ytabhilifliekmaa
open Go.RowKit Go.Proofs.Ytabhilifliekmaa.PTextBack Go.Proofs.YtabhilifliekmaaW.PrintWords

theorem drawn_below {w w' : World} (h : Drawn0 w w') : Below w.heap.size w w' := by
  obtain ⟨n, rfl⟩ := h.out
  exact ⟨rfl, rfl, rfl, Nat.le_refl _, fun _ _ => rfl⟩
theorem Rd.take {w : World} {A : Option Addr} {cs : List Value} (h : Rd w A cs) (n : Nat) : Rd w A (cs.take n) := by
  rcases h with h | ⟨g, off, rfl, hc⟩
  · subst h; rw [List.take_nil]; exact Rd.nil _ _
  · refine .inr ⟨g, off, rfl, fun j v hv => hc j v ?_⟩
    rw [List.getElem?_take] at hv
    split at hv
    · exact hv
    · cases hv
theorem nums_take (k : IntKind) (xs : List Int) (n : Nat) : nums k (xs.take n) = (nums k xs).take n := by simp [nums, List.map_take]
theorem mem_take {l : List Int} (h : ∀ i, 0 ≤ ga l i ∧ ga l i < 256) (n : Nat) : ∀ x ∈ l.take n, 0 ≤ x ∧ x < 256 := by
  intro x hx
  obtain ⟨i, hi, rfl⟩ := List.mem_iff_getElem.1 (List.mem_of_mem_take hx)
  have := h i
  unfold ga at this
  rwa [List.getD_eq_getElem?_getD, List.getElem?_eq_getElem hi] at this
theorem str_eq (s : ByteArray) : (s.toList == s.toList) = true := by simp
theorem str_of_list {a b : ByteArray} (h : a.toList = b.toList) : a = b := by
  apply ByteArray.ext
  apply Array.ext'
  rwa [← ByteArray.toList_eq, ← ByteArray.toList_eq]

set_option maxHeartbeats 4000000 in
theorem lawback_any (w : World) (bs0 : List Int) (A : Option Addr) (c : Nat) (hr : Rd w A (nums .u8 bs0)) (hc : bs0.length ≤ c) (hA : A = none → c = 0) (hu : ∀ i, 0 ≤ ga bs0 i ∧ ga bs0 i < 256) (n : Int) (hn1 : -9223372036854775808 ≤ n) (hn2 : n ≤ 9223372036854775807) (s0 : ByteArray) :
    Calls Try.prog 9 #[.slice A bs0.length c, .int .i64 n, .string s0] w fun e w' => e = .returned (.bool true) ∧ Below w.heap.size w w' := by
  have hcut := refcut_any w A bs0.length c 300 hc
  obtain ⟨bs, hbs⟩ : ∃ bs, bs = bs0.take 300 := ⟨_, rfl⟩
  have hbl : bs.length ≤ 300 := by rw [hbs, List.length_take]; omega
  rw [show min bs0.length 300 = bs.length by rw [hbs, List.length_take]; omega] at hcut
  have hrb : Rd w A (nums .u8 bs) := by rw [hbs, nums_take]; exact hr.take _
  have hmem : ∀ x ∈ bs, 0 ≤ x ∧ x < 256 := by rw [hbs]; exact mem_take hu _
  have hub := ga_range hmem
  obtain ⟨s, hcs, hsl⟩ := Pure.cut_f s0
  have hcut2 := inquestref04_Cut.calls s0 300 s w hcs
  have hun1 := unhex_any (s := strOfNums (hexF bs)) (hl := by rw [strOfNums_size, hexF_len]; omega)
  rw [unhex_hex bs hmem] at hun1
  have hun := unhex_any (s := s) (hl := by omega)
  have hfit := unhexR_fits s
  have hback := hex_unhex s
  obtain ⟨⟨q, fine⟩, hrr⟩ : ∃ r, r = unhexR s := ⟨_, rfl⟩
  rw [← hrr] at hun hfit hback
  have hql : q.length ≤ 300 := by have := hfit.1; simp only at this; omega
  have hqu := ga_range hfit.2
  have hback : fine = true → strOfNums (hexF q) = s := fun h => by subst h; exact hback q rfl
  have hdec := text_Dec.calls 500 n _ (h := Pure.dec_f n hn1 hn2 500 (by omega))
  have hrd1 := fun w => text_ReadDec.calls 500 (strOfNums (Pure.decS n)) (if 0 ≤ n then n else 0) (decide (0 ≤ n)) w (by rw [Pure.readdec_dec n hn1 hn2]; split <;> simp_all)
  obtain ⟨⟨m, good⟩, hrd2, hgood⟩ := Pure.readdec_back s hsl
  have hrd2' := fun w => text_ReadDec.calls 500 s m good w hrd2
  have hdec2 : good = true → ∀ w, Calls Try.prog 13 #[.int .i64 m] w fun e w' => e = .returned (.string s) ∧ Below w.heap.size w w' := by
    intro hg w
    obtain ⟨g1, g2, g3⟩ := hgood hg
    have := text_Dec.calls 500 m _ w (h := Pure.dec_f m (by omega) g2 500 (by omega))
    rwa [str_of_list g3] at this
  have hm0 : good = true → 0 ≤ m := fun hg => (hgood hg).1
  have HLIVES := Lib.hid (inquestlaw04_lives.calls 60 true (h := Pure.lives_f 60 (Nat.le_refl _)))
  have HUN1 := Lib.hid hun1
  have HUN := Lib.hid hun
  have HCUT := Lib.hid hcut
  have HCUT2 := Lib.hid hcut2
  have HDEC := Lib.hid hdec
  have HRD1 := Lib.hid hrd1
  have HRD2 := Lib.hid hrd2'
  have HDEC2 := Lib.hid hdec2
  have HM0 := Lib.hid hm0
  have HBACK := Lib.hid hback
  have HR := Lib.hid hrb
  have HA := Lib.hid hA
  have HU := Lib.hid hub
  have HQU := Lib.hid hqu
  clear hcut hcut2 hrb hA hub hu hr hbs hc hcs hun hun1 hrr hmem hfit hqu hback hdec hrd1 hrd2 hgood hrd2' hdec2 hm0
  obtain ⟨nn, hnn⟩ : ∃ nn, nn = (if 0 ≤ n then n else 0) := ⟨_, rfl⟩
  rw [← hnn] at HRD1
  have hb1 : 0 ≤ n ∧ n = nn ∨ n < 0 ∧ 0 = nn := by rw [hnn]; split <;> omega
  clear hnn
  rcases hb1 with ⟨h0, rfl⟩ | ⟨h0, rfl⟩ <;> cases good <;> cases fine
  all_goals
    first | rw [decide_eq_true h0] at HRD1 | rw [decide_eq_false (by omega)] at HRD1
    try have hm0 := HM0.out (by trivial)
    first | (have hd0 : decide (0 ≤ n) = true := decide_eq_true h0) | (have hd0 : decide (0 ≤ n) = false := decide_eq_false (by omega))
    clear HM0
    go_enter Try.func9, Try.ntmps9
    go_wp2_with (first
      | (go_at_call 23; refine HCUT.out.mono ?_; rintro e w' ⟨rfl, rfl⟩)
      | (go_at_call 14; refine HCUT2.out.mono ?_; rintro e w1 ⟨rfl, hd1⟩; have hB1 := drawn_below hd1; clear hd1)
      | (go_at_call 27; ((with_reducible refine (hex_any w1 A c bs (HR.out.up hB1) (by omega) HU.out).mono ?_); rintro e w2 ⟨rfl, hb2⟩; have hB2 := hB1.trans (hb2.mono hB1.size)))
      | (go_at_call 25; ((with_reducible refine (HUN1.out w2).mono ?_); rintro e w3 ⟨v3, rfl, hb3, ho3⟩; obtain ⟨A3, c3, rfl, h3, hA3, hR3, hx3⟩ := ho3.from; have hB3 := hB2.trans (hb3.mono hB2.size)))
      | (go_at_call 29; refine (refsame_any w3 A3 A c3 c bs bs hR3 (HR.out.up hB3) (by omega)).mono ?_; rintro e w4 ⟨rfl, hb4⟩; have hB4 := hB3.trans (hb4.mono hB3.size))
      | (go_at_call 13; ((with_reducible refine (HDEC.out w4).mono ?_); rintro e w5 ⟨rfl, hb5⟩; have hB5 := hB4.trans (hb5.mono hB4.size)))
      | (go_at_call 16; ((with_reducible refine (HRD1.out w5).mono ?_); rintro e w6 ⟨rfl, hd6⟩; have hB6 := hB5.trans ((drawn_below hd6).mono hB5.size); clear hd6))
      | (go_at_call 25; ((with_reducible refine (HUN.out w6).mono ?_); rintro e w7 ⟨v7, rfl, hb7, ho7⟩; obtain ⟨A7, c7, rfl, h7, hA7, hR7, hx7⟩ := ho7.from; have hB7 := hB6.trans (hb7.mono hB6.size)))
      | (go_at_call 27; (refine (hex_any w7 A7 c7 q hR7 (by omega) HQU.out).mono ?_; rintro e w8 ⟨rfl, hb8⟩; rw [HBACK.out (by trivial)]; have hB8 := hB7.trans (hb8.mono hB7.size)))
      | (go_at_call 16; ((with_reducible refine (HRD2.out w8).mono ?_); rintro e w9 ⟨rfl, hd9⟩; have hB9 := hB8.trans ((drawn_below hd9).mono hB8.size); clear hd9))
      | (go_at_call 16; ((with_reducible refine (HRD2.out w7).mono ?_); rintro e w9 ⟨rfl, hd9⟩; have hB9 := hB7.trans ((drawn_below hd9).mono hB7.size); clear hd9))
      | (go_at_call 13; ((with_reducible refine (HDEC2.out (by trivial) w9).mono ?_); rintro e w10 ⟨rfl, hb10⟩; have hB10 := hB9.trans (hb10.mono hB9.size)))
      | (go_at_call 12; ((with_reducible refine (HLIVES.out w10).mono ?_); rintro e w11 ⟨rfl, hb11⟩; have hB11 := hB10.trans (hb11.mono hB10.size)))
      | (go_at_call 12; ((with_reducible refine (HLIVES.out w9).mono ?_); rintro e w11 ⟨rfl, hb11⟩; have hB11 := hB9.trans (hb11.mono hB9.size))))
    go_ret
    exact ⟨rfl, hB11⟩
end Go.Proofs.Ytabhilifliekmaa
