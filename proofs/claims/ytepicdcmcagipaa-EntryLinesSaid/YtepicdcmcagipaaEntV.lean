/- The cells of an entry that is being filled; numbers appended to a row of the call's own. No condition. -/
import Derived.Test.YtepicdcmcagipaaEntN
import Derived.Test.YtepicdcmcagipaaGb
namespace Go.Proofs.Ytepicdcmcagipaa
open Go.RowKit

def entV (j t : Int) (h s : List Int) (k : Int) (v : Value) (r : Int) : List Value := .int .i64 j :: .int .i64 t :: (nums .u8 h ++ nums .u8 s ++ [.int .i64 k, v, .int .i64 r])
theorem entV_C (e : Ent) (A : Option Addr) (c : Nat) : entC e A c = entV e.job e.time e.h e.s e.kind (.slice A e.ord.length c) e.tries := rfl
def Z32 : List Int := List.replicate 32 0
theorem Z32_len : Z32.length = 32 := List.length_replicate
def entZ : List Value := entV 0 0 Z32 Z32 0 (.slice none 0 0) 0
theorem entV_len (j t : Int) (h s : List Int) (k : Int) (v : Value) (r : Int) (hh : h.length = 32) (hs : s.length = 32) : (entV j t h s k v r).length = 69 := by simp [entV, nums_length, hh, hs]
theorem entV_job (j j' t : Int) (h s : List Int) (k : Int) (v : Value) (r : Int) : (entV j t h s k v r).set 0 (.int .i64 j') = entV j' t h s k v r := rfl
theorem entV_time (j t t' : Int) (h s : List Int) (k : Int) (v : Value) (r : Int) : (entV j t h s k v r).set 1 (.int .i64 t') = entV j t' h s k v r := rfl
theorem entV_end (j t : Int) (h s : List Int) (k : Int) (v : Value) (r : Int) (hh : h.length = 32) (hs : s.length = 32) (i : Nat) (x : Value) : (entV j t h s k v r).set (66 + i) x = .int .i64 j :: .int .i64 t :: (nums .u8 h ++ nums .u8 s ++ [Value.int .i64 k, v, .int .i64 r].set i x) := by
  unfold entV
  rw [show 66 + i = (64 + i) + 1 + 1 by omega, List.set_cons_succ, List.set_cons_succ, List.set_append_right _ _ (by simp [nums_length, hh, hs])]
  congr 4
  simp [nums_length, hh, hs]
theorem entV_kind (j t : Int) (h s : List Int) (k k' : Int) (v : Value) (r : Int) (hh : h.length = 32) (hs : s.length = 32) : (entV j t h s k v r).set 66 (.int .i64 k') = entV j t h s k' v r := entV_end j t h s k v r hh hs 0 _
theorem entV_ord (j t : Int) (h s : List Int) (k : Int) (v v' : Value) (r : Int) (hh : h.length = 32) (hs : s.length = 32) : (entV j t h s k v r).set 67 v' = entV j t h s k v' r := entV_end j t h s k v r hh hs 1 _
theorem entV_tries (j t : Int) (h s : List Int) (k : Int) (v : Value) (r r' : Int) (hh : h.length = 32) (hs : s.length = 32) : (entV j t h s k v r).set 68 (.int .i64 r') = entV j t h s k v r' := entV_end j t h s k v r hh hs 2 _
theorem entV_h (j t : Int) (h h' s : List Int) (k : Int) (v : Value) (r : Int) (hh : h.length = 32) (hh' : h'.length = 32) : laid (entV j t h s k v r) 2 (nums .u8 h') = entV j t h' s k v r := by
  unfold laid entV
  rw [nums_length, hh']
  show _ :: _ :: (nums .u8 h ++ nums .u8 s ++ _).take 0 ++ nums .u8 h' ++ ((nums .u8 h ++ nums .u8 s) ++ _).drop 32 = _
  rw [List.take_zero, List.append_assoc (nums .u8 h), List.drop_left' (by rw [nums_length, hh])]
  simp
theorem entV_s (j t : Int) (h s s' : List Int) (k : Int) (v : Value) (r : Int) (hh : h.length = 32) (hs : s.length = 32) (hs' : s'.length = 32) : laid (entV j t h s k v r) 34 (nums .u8 s') = entV j t h s' k v r := by
  unfold laid entV
  rw [nums_length, hs']
  show _ :: _ :: (nums .u8 h ++ nums .u8 s ++ _).take 32 ++ nums .u8 s' ++ ((nums .u8 h ++ nums .u8 s) ++ _).drop 64 = _
  rw [List.append_assoc (nums .u8 h), List.take_left' (by rw [nums_length, hh]), ← List.append_assoc (nums .u8 h), List.drop_left' (by rw [List.length_append, nums_length, nums_length, hh, hs])]
  simp
theorem entV_at (j t : Int) (h s : List Int) (k : Int) (v : Value) (r : Int) (hh : h.length = 32) (hs : s.length = 32) (i : Nat) : (entV j t h s k v r)[66 + i]? = ([Value.int .i64 k, v, .int .i64 r] : List Value)[i]? := by
  unfold entV
  rw [show 66 + i = 64 + i + 1 + 1 by omega, List.getElem?_cons_succ, List.getElem?_cons_succ, List.getElem?_append_right (by simp [nums_length, hh, hs])]
  congr 1
  simp [nums_length, hh, hs]
theorem entV_one (j t : Int) (h s : List Int) (k : Int) (v : Value) (r : Int) (hv : v.oneCell' = true) : ∀ x ∈ entV j t h s k v r, x.oneCell' = true := by
  intro x hx
  simp only [entV, List.mem_cons, List.mem_append, List.not_mem_nil, or_false] at hx
  rcases hx with rfl | rfl | (hx | hx) | rfl | rfl | rfl
  · rfl
  · rfl
  · exact nums_one _ _ x hx
  · exact nums_one _ _ x hx
  · rfl
  · exact hv
  · rfl
theorem intInfo : (Try.prog.info? 3).map (fun i => (i.zero, i.size, i.bytes)) = some (some (.int .i64 0), 1, 8) := by kernel_rfl
/-- Whole numbers in memory of the call's own. -/
def GrowI (w : World) (l : List Int) (v : Value) (w' : World) : Prop := GrowC w 3 (nums .i64 l) v w'
theorem GrowI.nil (w : World) : GrowI w [] (.slice none 0 0) w := GrowC.nil _ _
theorem GrowI.up {w w' w'' : World} {l : List Int} {v : Value} (h : GrowI w l v w') (hb : Below w'.heap.size w' w'') : GrowI w l v w'' := GrowC.up h hb
theorem GrowI.alloc {w w' : World} {l : List Int} {v : Value} (h : GrowI w l v w') (o : Obj) : GrowI w l v (w'.alloc o) := GrowC.alloc h o
theorem GrowI.drew {w w' : World} {l : List Int} {v : Value} (h : GrowI w l v w') : GrowI w l v w'.drew := h.up (Below.refl _ _).drew
theorem GrowI.slot {w w' : World} {l : List Int} {v : Value} (h : GrowI w l v w') : ∃ A c, v = .slice A l.length c ∧ Nts w' A c l := by
  obtain ⟨A, c, h1, h2, h3, h4, _⟩ := OwnC.from h.2
  rw [nums_length] at h1 h2
  exact ⟨A, c, h1, h4, h2, h3⟩
theorem GrowI.one {w w' : World} {l : List Int} {v : Value} (h : GrowI w l v w') : v.oneCell' = true := by
  obtain ⟨A, c, h1, _⟩ := h.slot; rw [h1]; rfl
/-- append(x, n) of a whole number. -/
theorem st_growI {ops : Array Oper} {rest : List Oper} {a : Act} {w w0 : World} {Q : Exit → Act → World → Prop} {d' : Option Tmp} {tt : TypeId} {s x : Operand} {pos : String} {after : Array Edge} {v : Value} {g c : Nat} {l : List Int} {n : Int}
    (hs : a.eval s = v) (hx : a.eval x = .slice (some ⟨g, 0, none⟩) 1 c) (hg : GrowI w0 l v w) (hr : w.cell? ⟨g, 0, none⟩ = some (.int .i64 n)) (hl : l.length ≤ 1099511627775)
    (h : ∀ v' w', GrowI w0 (l ++ [n]) v' w' → wpList Try.prog ops Q rest (a.put d' v') w') :
    wpList Try.prog ops Q (⟨d', .call ⟨.builtin .append, #[s, x], #[24, 24]⟩, tt, pos, after, none⟩ :: rest) a w :=
  st_growC (xs := nums .i64 l) (ys := [.int .i64 n]) (e := 3) Try.underlying24 intInfo rfl (by decide) hs hx hg rfl
    (fun j u hu => by
      cases j with
      | zero =>
        have : (⟨g, 0, none⟩ : Addr).add 0 = ⟨g, 0, none⟩ := by simp [Addr.add]
        rw [this]; simp at hu; rw [hr, hu]
      | succ j => simp at hu)
    (fun u hu => by rw [List.mem_singleton.1 hu]; rfl) (by rw [nums_length]; omega)
    (fun v' w' hg' => h v' w' (by unfold GrowI; rw [show nums .i64 (l ++ [n]) = nums .i64 l ++ [.int .i64 n] by simp [nums]]; exact hg'))

end Go.Proofs.Ytepicdcmcagipaa
