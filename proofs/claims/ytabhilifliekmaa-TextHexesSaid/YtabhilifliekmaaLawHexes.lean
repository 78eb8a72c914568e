/- That inquestlaw04.TextHexes returns true. No condition. -/
import Derived.Test.YtabhilifliekmaaTRef
import Derived.Test.YtabhilifliekmaaPureTextHexes
namespace Go.Proofs.Ytabhilifliekmaa
open Go.RowKit Go.Proofs.Ytabhilifliekmaa.PTextHexes Go.Proofs.YtabhilifliekmaaW.PrintWords

theorem drawn_below {w w' : World} (h : Drawn0 w w') : Below w.heap.size w w' := by
  obtain ⟨n, rfl⟩ := h.out
  exact ⟨rfl, rfl, rfl, Nat.le_refl _, fun _ _ => rfl⟩
theorem Rd.take {w : World} {A : Option Addr} {cs : List Value} (h : Rd w A cs) (n : Nat) : Rd w A (cs.take n) := by
  rcases h with h | ⟨g, off, rfl, hc⟩
  · subst h; rw [List.take_nil]; exact Rd.nil _ _
  · refine .inr ⟨g, off, rfl, fun j v hv => hc j v ?_⟩
    rw [List.getElem?_take] at hv
    split at hv
    · exact hv
    · cases hv
theorem nums_take (k : IntKind) (xs : List Int) (n : Nat) : nums k (xs.take n) = (nums k xs).take n := by simp [nums, List.map_take]
theorem range_take {l : List Int} (h : ∀ i, 0 ≤ ga l i ∧ ga l i < 256) (n : Nat) : ∀ i, 0 ≤ ga (l.take n) i ∧ ga (l.take n) i < 256 := by
  intro i
  by_cases hi : i < n
  · have : ga (l.take n) i = ga l i := by unfold ga; rw [List.getD_eq_getElem?_getD, List.getD_eq_getElem?_getD, List.getElem?_take_of_lt hi]
    rw [this]; exact h i
  · have : ga (l.take n) i = 0 := by unfold ga; rw [List.getD_eq_getElem?_getD, List.getElem?_eq_none (by simp; omega)]; rfl
    rw [this]; omega

set_option maxHeartbeats 4000000 in
theorem lawhexes_any (w : World) (bs0 : List Int) (A : Option Addr) (c : Nat) (hr : Rd w A (nums .u8 bs0)) (hc : bs0.length ≤ c) (hA : A = none → c = 0) (hu : ∀ i, 0 ≤ ga bs0 i ∧ ga bs0 i < 256) (s0 : ByteArray) :
    Calls Try.prog 8 #[.slice A bs0.length c, .string s0] w fun e w' => e = .returned (.bool true) ∧ Below w.heap.size w w' := by
  have hcut := refcut_any w A bs0.length c 300 hc
  obtain ⟨bs, hbs⟩ : ∃ bs, bs = bs0.take 300 := ⟨_, rfl⟩
  have hbl : bs.length ≤ 300 := by rw [hbs, List.length_take]; omega
  have hcl : bs.length ≤ c := by rw [hbs, List.length_take]; omega
  rw [show min bs0.length 300 = bs.length by rw [hbs, List.length_take]; omega] at hcut
  have hrb : Rd w A (nums .u8 bs) := by rw [hbs, nums_take]; exact hr.take _
  have hub : ∀ i, 0 ≤ ga bs i ∧ ga bs i < 256 := by rw [hbs]; exact range_take hu _
  obtain ⟨s, hcs, hsl⟩ := Pure.cut_f s0
  have hcut2 := inquestref04_Cut.calls s0 300 s w hcs
  obtain ⟨r, hrr⟩ : ∃ r, r = unhexR s := ⟨_, rfl⟩
  have hun := unhex_any (s := s) (hl := by omega)
  have hrun := refunhex_any (s := s) (hl := by omega)
  rw [← hrr] at hun hrun
  have HLIVES := Lib.hid (inquestlaw04_lives.calls 60 true (h := Pure.lives_f 60 (Nat.le_refl _)))
  have HUN := Lib.hid hun
  have HRUN := Lib.hid hrun
  have HCUT := Lib.hid hcut
  have HCUT2 := Lib.hid hcut2
  have HR := Lib.hid hrb
  have HA := Lib.hid hA
  have HU := Lib.hid hub
  have hrl : r.1.length ≤ 1000 := by have := (unhexR_fits s).1; rw [← hrr] at this; omega
  clear hcut hcut2 hrb hA hub hu hr hbs hc hcs hun hrun hrr
  go_enter Try.func8, Try.ntmps8
  go_wp2_with (first
    | (go_at_call 23; refine HCUT.out.mono ?_; rintro e w' ⟨rfl, rfl⟩)
    | (go_at_call 14; refine HCUT2.out.mono ?_; rintro e w1 ⟨rfl, hd1⟩; have hB1 := drawn_below hd1; clear hd1)
    | (go_at_call 24; refine (refcopy_any w1 A c bs HA.out (HR.out.up hB1) (by omega)).mono ?_; rintro e w2 ⟨v2, rfl, hb2, ho2⟩; obtain ⟨A2, c2, rfl, h2, hA2, hR2, hx2⟩ := ho2.from; have hB2 := hB1.trans (hb2.mono hB1.size))
    | (go_at_call 25; refine (HUN.out w2).mono ?_; rintro e w3 ⟨v3, rfl, hb3, ho3⟩; obtain ⟨A3, c3, rfl, h3, hA3, hR3, hx3⟩ := ho3.from; have hB3 := hB2.trans (hb3.mono hB2.size))
    | (go_at_call 26; refine (HRUN.out w3).mono ?_; rintro e w4 ⟨v4, rfl, hb4, ho4⟩; obtain ⟨A4, c4, rfl, h4, hA4, hR4, hx4⟩ := ho4.from; have hB4 := hB3.trans (hb4.mono hB3.size))
    | (go_at_call 27; refine (hex_any w4 A2 c2 bs ((hR2.up hb3).up hb4) (by omega) HU.out).mono ?_; rintro e w5 ⟨rfl, hb5⟩; have hB5 := hB4.trans (hb5.mono hB4.size))
    | (go_at_call 28; refine (refhex_any w5 A c bs (HR.out.up hB5) (by omega) HU.out).mono ?_; rintro e w6 ⟨rfl, hb6⟩; have hB6 := hB5.trans (hb6.mono hB5.size))
    | (go_at_call 29; (with_reducible refine (refsame_any w6 A2 A c2 c bs bs ((((hR2.up hb3).up hb4).up hb5).up hb6) (HR.out.up hB6) (by omega)).mono ?_); rintro e w7 ⟨rfl, hb7⟩; have hB7 := hB6.trans (hb7.mono hB6.size))
    | (go_at_call 29; (with_reducible refine (refsame_any w7 A3 A4 c3 c4 r.1 r.1 ((((hR3.up hb4).up hb5).up hb6).up hb7) (((hR4.up hb5).up hb6).up hb7) (by omega)).mono ?_); rintro e w8 ⟨rfl, hb8⟩; have hB8 := hB7.trans (hb8.mono hB7.size))
    | (go_at_call 12; refine (HLIVES.out w8).mono ?_; rintro e w9 ⟨rfl, hb9⟩))
  go_ret
  exact ⟨rfl, hB8.trans (hb9.mono hB8.size)⟩
end Go.Proofs.Ytabhilifliekmaa
