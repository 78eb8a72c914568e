/- What bytes.Equal answers. No condition. -/
import Derived.Test.YtiogopneklmodaaDoorGe
import Derived.Laws.BytesArg
namespace Go.Proofs.YtiogopneklmodaaDoor
open Go.RowKit

section
variable {P : Program}
theorem run_str {w : World} {A : Option Addr} {c : Nat} {xs : List Int} (h : Rd w A (nums .u8 xs)) {src dst e : TypeId} (hs : P.underlying src = some (.slice e)) (he : P.underlying e = some (.int .u8)) (hd : P.underlying dst = some .string) :
    (convert src dst (.slice A xs.length c)).run P w = .ok (.string (strOfNums xs)) w := by
  rcases h with h | ⟨g, off, rfl, hc⟩
  · have hx : xs = [] := List.eq_nil_of_length_eq_zero (by rw [← nums_length .u8 xs, h]; rfl)
    subst hx
    cases A with
    | none => exact run_convert_bytes_nil w src e hs he _ _ dst hd
    | some a =>
      have hl : (loadCells a 0).run P w = .ok (([] : List Int).map (Value.int .u8)).toArray w := run_loadCells_list (P := P) w a [] (fun j v hj => by simp at hj)
      show (convert src dst (.slice (some a) 0 c)).run P w = _
      rw [run_convert_bytes_string w src dst e _ 0 c hs he hd, run_bytesToString w _ 0 c [] hl]; rfl
  · exact run_convert_bytes_arg w src e hs he g off _ c xs rfl (fun i hi => by rw [hc i _ (nums_at _ _ _ hi)]) dst hd
end
theorem u8_of_inj (a b : Int) (ha : 0 ≤ a ∧ a < 256) (hb : 0 ≤ b ∧ b < 256) (h : UInt8.ofNat a.toNat = UInt8.ofNat b.toNat) : a = b := by
  have := congrArg UInt8.toNat h
  rw [UInt8.toNat_ofNat', UInt8.toNat_ofNat'] at this
  omega
theorem str_nums_inj : ∀ (xs ys : List Int), U8 xs → U8 ys → strOfNums xs = strOfNums ys → xs = ys := by
  intro xs ys hx hy h
  have h2 : xs.map (fun n => UInt8.ofNat n.toNat) = ys.map (fun n => UInt8.ofNat n.toNat) := by rw [← strOfNums_data, ← strOfNums_data, h]
  apply List.ext_getElem?
  intro i
  have h3 := congrArg (fun l => l[i]?) h2
  simp only [List.getElem?_map] at h3
  have g1 := hx i
  have g2 := hy i
  unfold ga at g1 g2
  rw [List.getD_eq_getElem?_getD] at g1 g2
  cases e1 : xs[i]? with
  | none => rw [e1] at h3; cases e2 : ys[i]? with
    | none => rfl
    | some b => rw [e2] at h3; cases h3
  | some a => cases e2 : ys[i]? with
    | none => rw [e1, e2] at h3; cases h3
    | some b =>
      rw [e1] at g1 h3; rw [e2] at g2 h3
      simp only [Option.map_some, Option.some.injEq, Option.getD_some] at h3 g1 g2
      rw [u8_of_inj a b g1 g2 h3]
set_option maxRecDepth 100000 in
set_option maxHeartbeats 1000000 in
theorem bytesEq_any (w : World) (A B : Option Addr) (c d : Nat) (xs ys : List Int) (h1 : Rd w A (nums .u8 xs)) (h2 : Rd w B (nums .u8 ys)) (u1 : U8 xs) (u2 : U8 ys) :
    Calls Tryd.prog 29 #[.slice A xs.length c, .slice B ys.length d] w fun e w' => e = .returned (.bool (decide (xs = ys))) ∧ w = w' := by
  have g1 := run_str (P := Tryd.prog) (c := c) h1 Tryd.underlying22 Tryd.underlying5 Tryd.underlying9
  have g2 := run_str (P := Tryd.prog) (c := d) h2 Tryd.underlying22 Tryd.underlying5 Tryd.underlying9
  have hd : ((strOfNums xs).toList == (strOfNums ys).toList) = decide (xs = ys) := by
    rw [Bool.eq_iff_iff, beq_iff_eq, decide_eq_true_eq]
    constructor
    · intro h
      apply str_nums_inj _ _ u1 u2
      rw [Go.ByteArray.toList_eq, Go.ByteArray.toList_eq] at h
      generalize strOfNums xs = s at h ⊢
      generalize strOfNums ys = t at h ⊢
      cases s; cases t; congr 1; exact Array.ext' h
    · rintro rfl; rfl
  obtain ⟨S, hS⟩ : ∃ S, S = strOfNums xs := ⟨_, rfl⟩
  obtain ⟨T, hT⟩ : ∃ T, T = strOfNums ys := ⟨_, rfl⟩
  obtain ⟨b, hb⟩ : ∃ b, b = decide (xs = ys) := ⟨_, rfl⟩
  rw [← hS] at g1 hd
  rw [← hT] at g2 hd
  rw [← hb] at hd ⊢
  clear hS hT hb h1 h2 u1 u2
  go_enter Tryd.func29, Tryd.ntmps29
  go_wp2
  go_ret
  exact ⟨rfl, rfl⟩

end Go.Proofs.YtiogopneklmodaaDoor
