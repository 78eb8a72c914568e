/- What token.read answers. No condition but a length up to 300. -/
import Derived.Test.YtmfccnkjnkmgiaaDoorTokP
namespace Go.Proofs.YtmfccnkjnkmgiaaDoor
open Go.RowKit Go.Proofs.YtmfccnkjnkmgiaaDoor.Pure

section
variable {P : Program}
theorem ret_row_tmp2 {fn : Func} {p u v : Tmp} {ty : TypeId} (hf : fn.results = #[.cell p ty, .tmp u, .tmp v]) (tmps : Array Value) (w : World) (g : Nat) (cs : List Value) (T : TypeId) (d : TypeDesc)
    (hp : tmps.getD p undef = .pointer (some ⟨g, 0, none⟩)) (hg : Blk w g cs T) (hu : P.underlying ty = some d) (hd : isRow d = true) (hi : (P.info? ty).map (·.size) = some cs.length) :
    (results fn tmps).run P w = .ok (.tuple #[.agg cs.toArray, tmps.getD u undef, tmps.getD v undef]) w := by
  have h1 := run_loadVar_row (P := P) w g T ty cs.toArray (0, 0) d hg hu (by cases d <;> simp_all [isRow]) (by simpa using hi)
  simp only [results, hf]
  have hp' : tmps[p]?.getD undef = .pointer (some ⟨g, 0, none⟩) := by simpa using hp
  simp [Result.andThen, hp', asAddr, h1]
end
/-- A pass. -/
def passC (s : ByteArray) (n : Int) : List Value := [.string s, .int .i64 n]
theorem passC_one (s : ByteArray) (n : Int) : ∀ u ∈ passC s n, u.oneCell' = true := by
  intro u hu; simp [passC] at hu; rcases hu with rfl | rfl <;> rfl
theorem passSize : (Tryd.prog.info? 35).map (·.size) = some 2 := by kernel_rfl
theorem Own.wrote {w w' : World} {base g : Nat} {v : Value} {bs : List Int} (h : Own w base v bs) (hw : Wrote w w' g) (hg : g < base) : Own w' base v bs := by
  obtain ⟨hl, h | ⟨k, cap, cur, hv, hk, hh, r⟩⟩ := h
  · exact ⟨hl, .inl h⟩
  · exact ⟨hl, .inr ⟨k, cap, cur, hv, hk, (hw.far k (by omega)).trans hh, r⟩⟩
def readR (s : ByteArray) : (ByteArray × Int) × List Int × Int := match readF s with
  | some (a, n, l) => ((a, n), l, 0)
  | none => ((⟨#[]⟩, 0), [], 4)
def GivesRd (r : (ByteArray × Int) × List Int × Int) (w : World) (e : Ending) (w' : World) : Prop :=
  ∃ v, e = .returned (.tuple #[.agg (passC r.1.1 r.1.2).toArray, v, .int .i64 r.2.2]) ∧ Below w.heap.size w w' ∧ Own w' w.heap.size v r.2.1
theorem fields_any (w : World) (s : ByteArray) (hs : s.size ≤ 300) :
    Calls Tryd.prog 39 #[.string s, .int .u8 46, .int .i64 3] w fun e w' => ∃ v, e = .returned (.tuple #[v, .bool (fieldsR s 46 3).2]) ∧ Below w.heap.size w w' ∧ OwnC w' w.heap.size 9 v ((fieldsR s 46 3).1.map Value.string) :=
  (PTokenOpens.text_Fields.calls 700 s 46 3 _ _ w (fields_f s hs 46 3 700 (by omega))).mono fun e w' ⟨v, h1, h2, h3⟩ => ⟨v, h1, h3, by
    have := Go.Proofs.YtmfccnkjnkmgiaaDoorW.PrintWords.Kd.own_of_R h2
    unfold OwnC
    rw [List.length_map]
    exact this⟩
theorem readdec_any (w : World) (s : ByteArray) (hs : s.size ≤ 300) : Calls Tryd.prog 40 #[.string s] w fun e w' => e = .returned (.tuple #[.int .i64 (rdR s).1, .bool (rdR s).2]) ∧ Below w.heap.size w w' :=
  (PTokenOpens.text_ReadDec.calls 500 s _ _ w (readdec_f s hs)).mono fun _ _ ⟨h1, h2⟩ => ⟨h1, drawn_below h2⟩
theorem name_any (w : World) (s : ByteArray) (hs : s.size ≤ 300) : Calls Tryd.prog 23 #[.string s] w fun e w' => e = .returned (.bool (nameB s)) ∧ Below w.heap.size w w' :=
  (PTokenOpens.text_Name.calls 400 s (nameB s) w (name_f s (by omega) 400 (by omega))).mono fun e w' ⟨h1, h2⟩ => ⟨h1, drawn_below h2⟩
theorem piece_size (s : ByteArray) (p : ByteArray) (h : p ∈ pieces s 46 s.size 0 0) : p.size ≤ s.size := by
  have h1 : strL p ∈ splitL (strL s) := by rw [← pieces_split]; exact List.mem_map_of_mem h
  have h2 : ∀ (l : List Int) (x : List Int), x ∈ splitL l → x.length ≤ l.length := by
    intro l
    induction l with
    | nil => intro x hx; simp [splitL] at hx; subst hx; exact Nat.le_refl _
    | cons y r ih =>
      intro x hx
      simp only [splitL] at hx
      split at hx
      · rcases List.mem_cons.1 hx with rfl | hx
        · simp
        · have := ih x hx; simp; omega
      · split at hx
        · rename_i e; obtain ⟨a, t, e2⟩ := splitL_cons r; rw [e2] at e; cases e
        · rename_i a t e
          rcases List.mem_cons.1 hx with rfl | hx
          · have := ih a (by rw [e]; simp); simp; omega
          · have := ih x (by rw [e]; simp [hx]); simp; omega
  have := h2 _ _ h1
  rwa [strL_len, strL_len] at this


set_option maxHeartbeats 4000000 in
theorem read_any (w : World) (s : ByteArray) (hs : s.size ≤ 300) : Calls Tryd.prog 27 #[.string s] w (GivesRd (readR s) w) := by
  have hf := fun w => fields_any w s hs
  have hps := piece_size s
  have hR : readR s = match readF s with
    | some (a, n, l) => ((a, n), l, 0)
    | none => ((⟨#[]⟩, 0), [], 4) := rfl
  unfold readF at hR
  unfold fieldsR at hf
  obtain ⟨L, hL⟩ : ∃ L, L = pieces s 46 s.size 0 0 := ⟨_, rfl⟩
  rw [← hL] at hf hR hps
  clear hL
  have hB0 : Below w.heap.size w (w.alloc (.cells (passC ⟨#[]⟩ 0).toArray 35)) := (Below.refl _ _).alloc (Nat.le_refl _) _
  have hp0 : Blk (w.alloc (.cells (passC ⟨#[]⟩ 0).toArray 35)) w.heap.size (passC ⟨#[]⟩ 0) 35 := Blk.new' _ _ _ _ _ rfl rfl
  by_cases h3 : L.length = 3
  · obtain ⟨a, b, c, rfl⟩ : ∃ a b c, L = [a, b, c] := by
      match L, h3 with
      | [a, b, c], _ => exact ⟨a, b, c, rfl⟩
    have ha := hps a (by simp)
    have hb := hps b (by simp)
    have hc := hps c (by simp)
    have hn := fun w => name_any w a (by omega)
    have hrd := fun w => readdec_any w b (by omega)
    have hun := fun w => unhex_any w c (by omega)
    simp only [List.length_cons, List.length_nil] at hf
    have HF : Hid (∀ w, Calls Tryd.prog 39 #[.string s, .int .u8 46, .int .i64 3] w fun e w' => ∃ v, e = .returned (.tuple #[v, .bool true]) ∧ Below w.heap.size w w' ∧ OwnC w' w.heap.size 9 v [.string a, .string b, .string c]) := hf
    obtain ⟨nb, hnb⟩ : ∃ nb, nb = nameB a := ⟨_, rfl⟩
    obtain ⟨⟨n, ok⟩, hrr⟩ : ∃ r, r = rdR b := ⟨_, rfl⟩
    obtain ⟨⟨l, is⟩, huu⟩ : ∃ r, r = unhexR c := ⟨_, rfl⟩
    simp only [← hnb, ← hrr, ← huu] at hR hn hrd hun
    have HN := Lib.hid hn
    have HRD := Lib.hid hrd
    have HUN := Lib.hid hun
    have HR := Lib.hid hR
    clear hf hps hR hn hrd hun hnb hrr huu h3
    cases nb
    · have hr := HR.out
      rw [if_neg (by simp)] at hr
      rw [hr]
      clear hr
      go_enter Tryd.func27, Tryd.ntmps27
      go_wp2_with fail
      go_at_call 39
      refine (HF.out _).mono ?_
      rintro e w1 ⟨v1, rfl, hb1, ho1⟩
      have hB := hB0.trans (hb1.mono hB0.size)
      have hp := hp0.up hb1
      clear hB0 hp0
      obtain ⟨A, cap, rfl, hcap, hnn, hrd1, hx1⟩ := ho1.from
      obtain ⟨g, off, rfl, hcells⟩ := hrd1.get (by simp)
      have c0 := hcells 0 _ rfl
      have c1 := hcells 1 _ rfl
      have c2 := hcells 2 _ rfl
      have hg : g < w1.heap.size := World.block_lt_of_cell? (h := c0)
      simp only [Nat.add_zero] at c0
      clear hcells hrd1 hx1 hnn ho1
      go_wp2_with fail
      go_at_call 23
      refine (HN.out _).mono ?_
      rintro e w2 ⟨rfl, hb⟩
      have hB := hB.trans (hb.mono hB.size)
      have hp := hp.up hb
      have c0 := (hb.cell (p := ⟨g, off, none⟩) hg).trans c0
      have c1 := (hb.cell (p := ⟨g, off + 1, none⟩) hg).trans c1
      have c2 := (hb.cell (p := ⟨g, off + 2, none⟩) hg).trans c2
      have hg := Nat.lt_of_lt_of_le hg hb.size
      go_wp2_with ((with_reducible apply st_storeW (off := 0) (vs := passC ⟨#[]⟩ 0) (cs := passC ⟨#[]⟩ 0) (T := 35)); rfl; rfl; exact hp; kernel_rfl; decide; exact passC_one _ _; intro w9 hd9 hw9; rw [laid_all _ _ (by rfl)] at hd9)
      refine bodyPost_ret (ret_row_tmp2 rfl _ _ _ (passC ⟨#[]⟩ 0) 35 _ rfl hd9 Tryd.underlying35 rfl (by kernel_rfl)) rfl ⟨_, rfl, Wrote.below hB hw9 (Nat.le_refl _), Own.nil _ _⟩
    · by_cases h64 : c.size = 64
      · cases ok
        · have hr := HR.out
          rw [if_neg (by simp)] at hr
          rw [hr]
          clear hr
          go_enter Tryd.func27, Tryd.ntmps27
          go_wp2_with fail
          go_at_call 39
          refine (HF.out _).mono ?_
          rintro e w1 ⟨v1, rfl, hb1, ho1⟩
          have hB := hB0.trans (hb1.mono hB0.size)
          have hp := hp0.up hb1
          clear hB0 hp0
          obtain ⟨A, cap, rfl, hcap, hnn, hrd1, hx1⟩ := ho1.from
          obtain ⟨g, off, rfl, hcells⟩ := hrd1.get (by simp)
          have c0 := hcells 0 _ rfl
          have c1 := hcells 1 _ rfl
          have c2 := hcells 2 _ rfl
          have hg : g < w1.heap.size := World.block_lt_of_cell? (h := c0)
          simp only [Nat.add_zero] at c0
          clear hcells hrd1 hx1 hnn ho1
          go_wp2_with fail
          go_at_call 23
          refine (HN.out _).mono ?_
          rintro e w2 ⟨rfl, hb⟩
          have hB := hB.trans (hb.mono hB.size)
          have hp := hp.up hb
          have c0 := (hb.cell (p := ⟨g, off, none⟩) hg).trans c0
          have c1 := (hb.cell (p := ⟨g, off + 1, none⟩) hg).trans c1
          have c2 := (hb.cell (p := ⟨g, off + 2, none⟩) hg).trans c2
          have hg := Nat.lt_of_lt_of_le hg hb.size
          go_wp2_with fail
          go_at_call 40
          refine (HRD.out _).mono ?_
          rintro e w3 ⟨rfl, hb⟩
          have hB := hB.trans (hb.mono hB.size)
          have hp := hp.up hb
          have c0 := (hb.cell (p := ⟨g, off, none⟩) hg).trans c0
          have c2 := (hb.cell (p := ⟨g, off + 2, none⟩) hg).trans c2
          have hg := Nat.lt_of_lt_of_le hg hb.size
          go_wp2_with fail
          go_at_call 41
          refine (HUN.out _).mono ?_
          rintro e w4 ⟨v4, rfl, hb, ho4⟩
          have hBn := hB.size
          have hpn := hp.lt
          have hB := hB.trans (hb.mono hB.size)
          have hp := hp.up hb
          have c0 := (hb.cell (p := ⟨g, off, none⟩) hg).trans c0
          go_wp2_with ((with_reducible apply st_storeW (off := 0) (vs := passC ⟨#[]⟩ 0) (cs := passC ⟨#[]⟩ 0) (T := 35)); rfl; rfl; exact hp; kernel_rfl; decide; exact passC_one _ _; intro w9 hd9 hw9; rw [laid_all _ _ (by rfl)] at hd9)
          refine bodyPost_ret (ret_row_tmp2 rfl _ _ _ (passC ⟨#[]⟩ 0) 35 _ rfl hd9 Tryd.underlying35 rfl (by kernel_rfl)) rfl ⟨_, rfl, Wrote.below hB hw9 (Nat.le_refl _), Own.nil _ _⟩
        · by_cases hmx : n ≤ 1099511627776
          · cases is
            · have hr := HR.out
              rw [if_neg (by simp)] at hr
              rw [hr]
              clear hr
              go_enter Tryd.func27, Tryd.ntmps27
              go_wp2_with fail
              go_at_call 39
              refine (HF.out _).mono ?_
              rintro e w1 ⟨v1, rfl, hb1, ho1⟩
              have hB := hB0.trans (hb1.mono hB0.size)
              have hp := hp0.up hb1
              clear hB0 hp0
              obtain ⟨A, cap, rfl, hcap, hnn, hrd1, hx1⟩ := ho1.from
              obtain ⟨g, off, rfl, hcells⟩ := hrd1.get (by simp)
              have c0 := hcells 0 _ rfl
              have c1 := hcells 1 _ rfl
              have c2 := hcells 2 _ rfl
              have hg : g < w1.heap.size := World.block_lt_of_cell? (h := c0)
              simp only [Nat.add_zero] at c0
              clear hcells hrd1 hx1 hnn ho1
              go_wp2_with fail
              go_at_call 23
              refine (HN.out _).mono ?_
              rintro e w2 ⟨rfl, hb⟩
              have hB := hB.trans (hb.mono hB.size)
              have hp := hp.up hb
              have c0 := (hb.cell (p := ⟨g, off, none⟩) hg).trans c0
              have c1 := (hb.cell (p := ⟨g, off + 1, none⟩) hg).trans c1
              have c2 := (hb.cell (p := ⟨g, off + 2, none⟩) hg).trans c2
              have hg := Nat.lt_of_lt_of_le hg hb.size
              go_wp2_with fail
              go_at_call 40
              refine (HRD.out _).mono ?_
              rintro e w3 ⟨rfl, hb⟩
              have hB := hB.trans (hb.mono hB.size)
              have hp := hp.up hb
              have c0 := (hb.cell (p := ⟨g, off, none⟩) hg).trans c0
              have c2 := (hb.cell (p := ⟨g, off + 2, none⟩) hg).trans c2
              have hg := Nat.lt_of_lt_of_le hg hb.size
              go_wp2_with fail
              go_at_call 41
              refine (HUN.out _).mono ?_
              rintro e w4 ⟨v4, rfl, hb, ho4⟩
              have hBn := hB.size
              have hpn := hp.lt
              have hB := hB.trans (hb.mono hB.size)
              have hp := hp.up hb
              have c0 := (hb.cell (p := ⟨g, off, none⟩) hg).trans c0
              go_wp2_with ((with_reducible apply st_storeW (off := 0) (vs := passC ⟨#[]⟩ 0) (cs := passC ⟨#[]⟩ 0) (T := 35)); rfl; rfl; exact hp; kernel_rfl; decide; exact passC_one _ _; intro w9 hd9 hw9; rw [laid_all _ _ (by rfl)] at hd9)
              refine bodyPost_ret (ret_row_tmp2 rfl _ _ _ (passC ⟨#[]⟩ 0) 35 _ rfl hd9 Tryd.underlying35 rfl (by kernel_rfl)) rfl ⟨_, rfl, Wrote.below hB hw9 (Nat.le_refl _), Own.nil _ _⟩
            · have hr := HR.out
              rw [if_pos ⟨rfl, h64, rfl, hmx, rfl⟩] at hr
              rw [hr]
              clear hr
              go_enter Tryd.func27, Tryd.ntmps27
              go_wp2_with fail
              go_at_call 39
              refine (HF.out _).mono ?_
              rintro e w1 ⟨v1, rfl, hb1, ho1⟩
              have hB := hB0.trans (hb1.mono hB0.size)
              have hp := hp0.up hb1
              clear hB0 hp0
              obtain ⟨A, cap, rfl, hcap, hnn, hrd1, hx1⟩ := ho1.from
              obtain ⟨g, off, rfl, hcells⟩ := hrd1.get (by simp)
              have c0 := hcells 0 _ rfl
              have c1 := hcells 1 _ rfl
              have c2 := hcells 2 _ rfl
              have hg : g < w1.heap.size := World.block_lt_of_cell? (h := c0)
              simp only [Nat.add_zero] at c0
              clear hcells hrd1 hx1 hnn ho1
              go_wp2_with fail
              go_at_call 23
              refine (HN.out _).mono ?_
              rintro e w2 ⟨rfl, hb⟩
              have hB := hB.trans (hb.mono hB.size)
              have hp := hp.up hb
              have c0 := (hb.cell (p := ⟨g, off, none⟩) hg).trans c0
              have c1 := (hb.cell (p := ⟨g, off + 1, none⟩) hg).trans c1
              have c2 := (hb.cell (p := ⟨g, off + 2, none⟩) hg).trans c2
              have hg := Nat.lt_of_lt_of_le hg hb.size
              go_wp2_with fail
              go_at_call 40
              refine (HRD.out _).mono ?_
              rintro e w3 ⟨rfl, hb⟩
              have hB := hB.trans (hb.mono hB.size)
              have hp := hp.up hb
              have c0 := (hb.cell (p := ⟨g, off, none⟩) hg).trans c0
              have c2 := (hb.cell (p := ⟨g, off + 2, none⟩) hg).trans c2
              have hg := Nat.lt_of_lt_of_le hg hb.size
              go_wp2_with fail
              go_at_call 41
              refine (HUN.out _).mono ?_
              rintro e w4 ⟨v4, rfl, hb, ho4⟩
              have hBn := hB.size
              have hpn := hp.lt
              have hB := hB.trans (hb.mono hB.size)
              have hp := hp.up hb
              have c0 := (hb.cell (p := ⟨g, off, none⟩) hg).trans c0
              go_wp2_with ((with_reducible apply st_storeW (off := 0) (vs := passC a n) (cs := passC ⟨#[]⟩ 0) (T := 35)); rfl; rfl; exact hp; exact passSize; (simp [passC]); exact passC_one _ _; intro w9 hd9 hw9; rw [laid_all _ _ (by rfl)] at hd9)
              refine bodyPost_ret (ret_row_tmp2 rfl _ _ _ (passC a n) 35 _ rfl hd9 Tryd.underlying35 rfl (by kernel_rfl)) rfl ⟨v4, rfl, Wrote.below hB hw9 (Nat.le_refl _), ((ho4.wrote hw9 hpn).mono hBn)⟩
          · skip
            have hr := HR.out
            rw [if_neg (by simp; omega)] at hr
            rw [hr]
            clear hr
            go_enter Tryd.func27, Tryd.ntmps27
            go_wp2_with fail
            go_at_call 39
            refine (HF.out _).mono ?_
            rintro e w1 ⟨v1, rfl, hb1, ho1⟩
            have hB := hB0.trans (hb1.mono hB0.size)
            have hp := hp0.up hb1
            clear hB0 hp0
            obtain ⟨A, cap, rfl, hcap, hnn, hrd1, hx1⟩ := ho1.from
            obtain ⟨g, off, rfl, hcells⟩ := hrd1.get (by simp)
            have c0 := hcells 0 _ rfl
            have c1 := hcells 1 _ rfl
            have c2 := hcells 2 _ rfl
            have hg : g < w1.heap.size := World.block_lt_of_cell? (h := c0)
            simp only [Nat.add_zero] at c0
            clear hcells hrd1 hx1 hnn ho1
            go_wp2_with fail
            go_at_call 23
            refine (HN.out _).mono ?_
            rintro e w2 ⟨rfl, hb⟩
            have hB := hB.trans (hb.mono hB.size)
            have hp := hp.up hb
            have c0 := (hb.cell (p := ⟨g, off, none⟩) hg).trans c0
            have c1 := (hb.cell (p := ⟨g, off + 1, none⟩) hg).trans c1
            have c2 := (hb.cell (p := ⟨g, off + 2, none⟩) hg).trans c2
            have hg := Nat.lt_of_lt_of_le hg hb.size
            go_wp2_with fail
            go_at_call 40
            refine (HRD.out _).mono ?_
            rintro e w3 ⟨rfl, hb⟩
            have hB := hB.trans (hb.mono hB.size)
            have hp := hp.up hb
            have c0 := (hb.cell (p := ⟨g, off, none⟩) hg).trans c0
            have c2 := (hb.cell (p := ⟨g, off + 2, none⟩) hg).trans c2
            have hg := Nat.lt_of_lt_of_le hg hb.size
            go_wp2_with fail
            go_at_call 41
            refine (HUN.out _).mono ?_
            rintro e w4 ⟨v4, rfl, hb, ho4⟩
            have hBn := hB.size
            have hpn := hp.lt
            have hB := hB.trans (hb.mono hB.size)
            have hp := hp.up hb
            have c0 := (hb.cell (p := ⟨g, off, none⟩) hg).trans c0
            go_wp2_with ((with_reducible apply st_storeW (off := 0) (vs := passC ⟨#[]⟩ 0) (cs := passC ⟨#[]⟩ 0) (T := 35)); rfl; rfl; exact hp; kernel_rfl; decide; exact passC_one _ _; intro w9 hd9 hw9; rw [laid_all _ _ (by rfl)] at hd9)
            refine bodyPost_ret (ret_row_tmp2 rfl _ _ _ (passC ⟨#[]⟩ 0) 35 _ rfl hd9 Tryd.underlying35 rfl (by kernel_rfl)) rfl ⟨_, rfl, Wrote.below hB hw9 (Nat.le_refl _), Own.nil _ _⟩
      · skip
        have hr := HR.out
        rw [if_neg (by simp; omega)] at hr
        rw [hr]
        clear hr
        go_enter Tryd.func27, Tryd.ntmps27
        go_wp2_with fail
        go_at_call 39
        refine (HF.out _).mono ?_
        rintro e w1 ⟨v1, rfl, hb1, ho1⟩
        have hB := hB0.trans (hb1.mono hB0.size)
        have hp := hp0.up hb1
        clear hB0 hp0
        obtain ⟨A, cap, rfl, hcap, hnn, hrd1, hx1⟩ := ho1.from
        obtain ⟨g, off, rfl, hcells⟩ := hrd1.get (by simp)
        have c0 := hcells 0 _ rfl
        have c1 := hcells 1 _ rfl
        have c2 := hcells 2 _ rfl
        have hg : g < w1.heap.size := World.block_lt_of_cell? (h := c0)
        simp only [Nat.add_zero] at c0
        clear hcells hrd1 hx1 hnn ho1
        go_wp2_with fail
        go_at_call 23
        refine (HN.out _).mono ?_
        rintro e w2 ⟨rfl, hb⟩
        have hB := hB.trans (hb.mono hB.size)
        have hp := hp.up hb
        have c0 := (hb.cell (p := ⟨g, off, none⟩) hg).trans c0
        have c1 := (hb.cell (p := ⟨g, off + 1, none⟩) hg).trans c1
        have c2 := (hb.cell (p := ⟨g, off + 2, none⟩) hg).trans c2
        have hg := Nat.lt_of_lt_of_le hg hb.size
        have h64' : ((c.size : Int) != 64) = true := by simp; omega
        go_wp2_with ((with_reducible apply st_storeW (off := 0) (vs := passC ⟨#[]⟩ 0) (cs := passC ⟨#[]⟩ 0) (T := 35)); rfl; rfl; exact hp; kernel_rfl; decide; exact passC_one _ _; intro w9 hd9 hw9; rw [laid_all _ _ (by rfl)] at hd9)
        refine bodyPost_ret (ret_row_tmp2 rfl _ _ _ (passC ⟨#[]⟩ 0) 35 _ rfl hd9 Tryd.underlying35 rfl (by kernel_rfl)) rfl ⟨_, rfl, Wrote.below hB hw9 (Nat.le_refl _), Own.nil _ _⟩
  · have hR2 : readR s = ((⟨#[]⟩, 0), [], 4) := by
      rw [hR]
      match L, h3 with
      | [], _ => rfl
      | [_], _ => rfl
      | [_, _], _ => rfl
      | [_, _, _], h => exact absurd rfl h
      | _ :: _ :: _ :: _ :: _, _ => rfl
    rw [hR2]
    clear hR hR2
    by_cases h4 : (L.length : Int) ≤ 3
    · rw [if_pos h4] at hf
      have HF := Lib.hid hf
      have h3' : ((L.length : Int) != 3) = true := by simp; omega
      clear hf hps
      go_enter Tryd.func27, Tryd.ntmps27
      go_wp2_with fail
      go_at_call 39
      refine (HF.out _).mono ?_
      rintro e w1 ⟨v1, rfl, hb1, ho1⟩
      have hB := hB0.trans (hb1.mono hB0.size)
      have hp := hp0.up hb1
      clear hB0 hp0
      obtain ⟨A, cap, rfl, hcap, hnn, hrd1, hx1⟩ := ho1.from
      rw [List.length_map]
      go_wp2_with ((with_reducible apply st_storeW (off := 0) (vs := passC ⟨#[]⟩ 0) (cs := passC ⟨#[]⟩ 0) (T := 35)); rfl; rfl; exact hp; kernel_rfl; decide; exact passC_one _ _; intro w9 hd9 hw9; rw [laid_all _ _ (by rfl)] at hd9)
      refine bodyPost_ret (ret_row_tmp2 rfl _ _ _ (passC ⟨#[]⟩ 0) 35 _ rfl hd9 Tryd.underlying35 rfl (by kernel_rfl)) rfl ⟨_, rfl, Wrote.below hB hw9 (Nat.le_refl _), Own.nil _ _⟩
    · rw [if_neg h4] at hf
      have HF := Lib.hid hf
      clear hf hps
      go_enter Tryd.func27, Tryd.ntmps27
      go_wp2_with fail
      go_at_call 39
      refine (HF.out _).mono ?_
      rintro e w1 ⟨v1, rfl, hb1, ho1⟩
      have hB := hB0.trans (hb1.mono hB0.size)
      have hp := hp0.up hb1
      clear hB0 hp0
      go_wp2_with ((with_reducible apply st_storeW (off := 0) (vs := passC ⟨#[]⟩ 0) (cs := passC ⟨#[]⟩ 0) (T := 35)); rfl; rfl; exact hp; kernel_rfl; decide; exact passC_one _ _; intro w9 hd9 hw9; rw [laid_all _ _ (by rfl)] at hd9)
      refine bodyPost_ret (ret_row_tmp2 rfl _ _ _ (passC ⟨#[]⟩ 0) 35 _ rfl hd9 Tryd.underlying35 rfl (by kernel_rfl)) rfl ⟨_, rfl, Wrote.below hB hw9 (Nat.le_refl _), Own.nil _ _⟩

end Go.Proofs.YtmfccnkjnkmgiaaDoor
