/- The walk of TokenJoins. No condition but that numbers lie in their ranges. -/
import Derived.Test.YthacnfoeaefeiaaTokAwake
set_option linter.unusedVariables false
set_option linter.unusedSimpArgs false
namespace Go.Proofs.Ythacnfoeaefeiaa
open Go Go.RowKit W
namespace Tk
theorem tcs_takeN (l : List Tok) : ∀ k, tcs (l.take k) = (tcs l).take (k * 3) := by
  induction l with
  | nil => intro k; simp [tcs]
  | cons t l ih =>
    intro k
    cases k with
    | zero => simp [tcs]
    | succ k =>
      rw [List.take_succ_cons, show t :: l.take k = [t] ++ l.take k from rfl, show t :: l = [t] ++ l from rfl, tcs_append, tcs_append, ih, tcs_one, Nat.succ_mul, Nat.add_comm, List.take_append, tc_len, List.take_of_length_le (l := tc t) (by rw [tc_len]; omega), show 3 + k * 3 - 3 = k * 3 by omega]
theorem tcs_dropN (l : List Tok) : ∀ k, tcs (l.drop k) = (tcs l).drop (k * 3) := by
  induction l with
  | nil => intro k; simp [tcs]
  | cons t l ih =>
    intro k
    cases k with
    | zero => simp [tcs]
    | succ k =>
      rw [List.drop_succ_cons, show t :: l = [t] ++ l from rfl, tcs_append, ih, tcs_one, Nat.succ_mul, Nat.add_comm, List.drop_append, tc_len, List.drop_eq_nil_of_le (show (tc t).length ≤ 3 + k * 3 by rw [tc_len]; omega), List.nil_append, show 3 + k * 3 - 3 = k * 3 by omega]
theorem TR.take {w : World} {B : Nat} {A : Option Addr} {l : List Tok} (h : TR w B A l) {k : Nat} (hk : k ≤ l.length) : TR w B A (l.take k) := by
  unfold TR
  rw [List.length_take_of_le hk, tcs_takeN]
  exact Reads.take h hk
theorem TR.drop {w : World} {B c : Nat} {A : Option Addr} {l : List Tok} (h : TR w B A l) {k : Nat} (hk : k ≤ l.length) (hc : l.length ≤ c) : TR w B (if c = k then A else A.map (·.add (k * 3))) (l.drop k) := by
  unfold TR
  rw [List.length_drop, tcs_dropN]
  exact Reads.cut h hk hc
theorem run_rows_hi {P : Program} (w : World) {T E : TypeId} {size : Nat} (hT : P.underlying T = some (.slice E)) (hi : (P.info? E).map (·.size) = some size) (A : Option Addr) (n c k : Nat) (hk : k ≤ n) (hc : n ≤ c) :
    (Instr.sliceAt T (.slice A n c) none (some (.int .i64 (k : Int))) none).run P w = .ok (.slice A k c) w := by
  obtain ⟨i, hi', rfl⟩ : ∃ i, P.info? E = some i ∧ i.size = size := by
    cases h : P.info? E with
    | none => simp [h] at hi
    | some i => exact ⟨i, rfl, by simpa [h] using hi⟩
  have h2 : (k : Int) ≤ (c : Int) := by omega
  have hk' : k ≤ c := by omega
  have e : A.map (·.add 0) = A := by cases A <;> simp [Addr.add]
  simp [Instr.sliceAt, Instr.slice, Instr.sliceBounds, Instr.sliceBound, run_underlying hT, sizeOf, typeInfo, hi', asIntOf, hk', hk, e]
theorem run_rows_lo {P : Program} (w : World) {T E : TypeId} {size : Nat} (hT : P.underlying T = some (.slice E)) (hi : (P.info? E).map (·.size) = some size) (A : Option Addr) (n c k : Nat) (hk : k ≤ n) :
    (Instr.sliceAt T (.slice A n c) (some (.int .i64 (k : Int))) none none).run P w = .ok (.slice (if c = k then A else A.map (·.add (k * size))) (n - k) (c - k)) w := by
  obtain ⟨i, hi', rfl⟩ : ∃ i, P.info? E = some i ∧ i.size = size := by
    cases h : P.info? E with
    | none => simp [h] at hi
    | some i => exact ⟨i, rfl, by simpa [h] using hi⟩
  have h2 : (k : Int) ≤ (n : Int) := by omega
  simp [Instr.sliceAt, Instr.slice, Instr.sliceBounds, Instr.sliceBound, run_underlying hT, sizeOf, typeInfo, hi', asIntOf, hk]
theorem fits_take {l : List Tok} (h : Fits l) (k : Nat) : Fits (l.take k) := ⟨by rw [List.length_take]; have := h.1; omega, fun t ht => h.2 t (List.mem_of_mem_take ht)⟩
theorem fits_drop {l : List Tok} (h : Fits l) (k : Nat) : Fits (l.drop k) := ⟨by rw [List.length_drop]; have := h.1; omega, fun t ht => h.2 t (List.mem_of_mem_drop ht)⟩
theorem join_len (l : List Tok) : (join l).length ≤ l.length := by have := fold_len l []; simpa [join] using this
theorem fits_join (l : List Tok) (h : l.length ≤ 1099511627776) : Fits (join l) := ⟨Nat.le_trans (join_len l) h, fun t ht => (right_fit (join_all l t ht)).1⟩
theorem fits_app {l m : List Tok} (h : Fits l) (h' : Fits m) (hs : l.length + m.length ≤ 1099511627776) : Fits (l ++ m) := ⟨by rw [List.length_append]; exact hs, fun t ht => by
  rcases List.mem_append.1 ht with h1 | h1
  · exact h.2 t h1
  · exact h'.2 t h1⟩
theorem join_out (A : Option Addr) (c : Nat) (l : List Tok) (w : World) (hl : TR w w.heap.size A l) (hf : Fits l) (hk40 : l.length ≤ 1000000) :
    Calls Try.prog 8 #[.slice A l.length c] w (OutT 39 w (join l)) :=
  (join_any A c l w hl hf hk40).mono fun e w' ⟨⟨A', c', hv, ho⟩, ⟨v, he⟩, hg⟩ => by
    subst he
    obtain rfl : v = .slice A' (join l).length c' := hv
    exact ⟨A', c', rfl, ho, hg⟩
theorem refJoin_out (A : Option Addr) (c : Nat) (l : List Tok) (w : World) (hl : TR w w.heap.size A l) (hf : Fits l) (hk40 : l.length ≤ 1000000) :
    Calls Try.prog 12 #[.slice A l.length c] w (OutT 37 w (join l)) :=
  (refJoin_any A c l w hl hf hk40).mono fun e w' ⟨⟨A', c', hv, ho⟩, ⟨v, he⟩, hg⟩ => by
    subst he
    obtain rfl : v = .slice A' (join l).length c' := hv
    exact ⟨A', c', rfl, ho, hg⟩
/-- The numbers and lengths lie in their ranges. -/
def Bnd (t : Tok) : Prop := -9223372036854775808 ≤ t.f ∧ t.f ≤ 9223372036854775807 ∧ -9223372036854775808 ≤ t.m ∧ t.m ≤ 9223372036854775807 ∧ t.d.length ≤ maxLen
theorem few_fits {l : List Tok} (h : fewB l = true) (hb : ∀ t ∈ l, Bnd t) : l.length ≤ 30 ∧ Fits l ∧ bytes l ≤ 6000 := by
  unfold fewB shortB at h
  rw [Bool.and_eq_true, decide_eq_true_eq, List.all_eq_true] at h
  obtain ⟨h1, h2⟩ := h
  have h2' : ∀ t ∈ l, t.d.length ≤ 200 := fun t ht => by simpa using h2 t ht
  refine ⟨h1, ⟨by omega, fun t ht => ?_⟩, ?_⟩
  · obtain ⟨b1, b2, b3, b4, _⟩ := hb t ht
    exact ⟨b1, b2, b3, b4, by have := h2' t ht; omega⟩
  · have : bytes l ≤ l.length * 200 := by
      clear h1 h2 hb
      induction l with
      | nil => simp [bytes]
      | cons t l ih =>
        have := ih (fun x hx => h2' x (by simp [hx]))
        have ht := h2' t (by simp)
        rw [show t :: l = [t] ++ l from rfl, bytes_append, bytes_one, List.length_append, List.length_singleton]
        split <;> omega
    omega
theorem same_self (J : List Tok) : decide (J = J) = true := by simp
theorem pick_k (n : Nat) (b : UInt8) : ∃ k, k ≤ n ∧ (0 < n → (n8 b).tmod ((n : Int) + 1) = (k : Int)) ∧ (n = 0 → k = 0) := by
  refine ⟨b.toNat % (n + 1), by have := Nat.mod_lt b.toNat (show 0 < n + 1 by omega); omega, fun _ => ?_, fun h => by subst h; exact Nat.mod_one _⟩
  show ((b.toNat : Nat) : Int).tmod ((n : Int) + 1) = _
  rw [Int.tmod_eq_emod_of_nonneg (by omega), Int.natCast_emod]
  rfl
set_option maxRecDepth 100000 in
set_option maxHeartbeats 8000000 in
theorem tokenJoins_walk (A : Option Addr) (c : Nat) (l : List Tok) (b : UInt8) (w : World) (hc : l.length ≤ c) (hm : c ≤ maxLen) (hr : TR w w.heap.size A l) (hx : ∀ t ∈ l, Bnd t) :
    Calls Try.prog 3 #[.slice A l.length c, .int .u8 (n8 b)] w (Ret (eqv (.bool true)) w) := by
  have hfe := Lib.hid (fun w (h : TR w w.heap.size A l) => few_any A c l w h (fun t ht => by have := (hx t ht).2.2.2.2; unfold maxLen at this; omega) (by unfold maxLen at hm; omega))
  have hr' := Lib.hid hr
  by_cases hq : fewB l = true
  · obtain ⟨h30, hF, hby⟩ := few_fits hq hx
    obtain ⟨k, hk, hkv, hkz⟩ := pick_k l.length b
    rw [hq] at hfe
    have hF' := Lib.hid hF
    have hx' := Lib.hid hx
    clear hx hr hm hF
    by_cases h0 : 0 < l.length
    
    · have h0' : (0 : Int) < (l.length : Int) := by omega
      have hkv' := hkv h0
      replace hby := Lib.hid hby
      clear hkv hkz
      go_enter Try.func3, Try.ntmps3
      go_wp2_with fail
      go_at_call 6
      refine (hfe.out _ hr'.out).mono ?_
      rintro e w1 ⟨rfl, g1⟩
      have r1 := Lib.hid ((hr'.out.below g1).more g1.size)
      replace g1 := Lib.hid g1
      clear hfe
      go_wp2_with fail
      go_at_call 9
      refine (to_any A c l _ r1.out (by omega)).mono ?_
      rintro e w2 ⟨A2, c2, rfl, o2, g2⟩
      have q2 := Lib.hid (OT.tr o2)
      have G2 := Lib.hid (Gr.trans g1.out g2)
      clear r1 g1 g2 o2
      go_wp2_with fail
      go_at_call 8
      refine (join_out A2 c2 l _ q2.out hF'.out (by omega)).mono ?_
      rintro e w3 ⟨A3, c3, rfl, o3, g3⟩
      have q3 := Lib.hid (OT.tr o3)
      have G3 := Lib.hid (Gr.trans G2.out g3)
      clear q2 G2 g3 o3
      go_wp2
      have hF := hF'.out
      have r3 := (hr'.out.below G3.out).more (Below.size G3.out)
      refine region_grow (by kernel_rfl) (by kernel_rfl) ?_
      refine GW.empty (T := 25) (E := 39) (size := 3) (base := w3.heap.size) (Nat.le_refl _) rfl trivial rfl (fun w => by kernel_rfl) ?_
      refine GW.mv rfl trivial (.inl rfl) (kn0 (t := 0) (c := .slice A l.length c) (by kernel_rfl) rfl) (eqv_lasts _) ?_
      refine GW.mv rfl trivial (.inl rfl) (kn0 (t := 6) (c := .int .i64 (k : Int)) (by kernel_rfl) rfl) (eqv_lasts _) ?_
      refine GW.p2 (.slice A (l.take k).length c) rfl trivial (kn (t := 25) (j := 1) (by kernel_rfl)) (kn (t := 26) (j := 2) (by kernel_rfl)) (fun ρ w' h1 h2 hg => by show ((Instr.sliceAt 22 (ρ (.tmp 25)) none (some (ρ (.tmp 26))) none >>= fun v => pure (Next.value v)) : Sem Next).run Try.prog w' = _; rw [h1, h2, Sem.run_bind, (run_rows_hi (P := Try.prog) w' Try.underlying22 (size := 3) (by kernel_rfl) A l.length c k hk hc)]; simp [hk]) ?_
      refine GW.call1 (isOR 39 3 w3.heap.size (l.take k).length (tcs (l.take k))) rfl trivial rfl Try.func9 (by kernel_rfl) (by kernel_rfl) (isOR_lasts _ _ _ _ _) (kn (t := 27) (j := 3) (by kernel_rfl)) (fun v w' hg hv => ?_) ?_
      · obtain rfl : v = _ := hv
        refine (to_any A c (l.take k) w' ((TR.below (TR.take r3 hk) hg).more hg.size) (by simp; omega)).mono ?_
        rintro e w5 ⟨A5, c5, rfl, o5, hg5⟩
        exact ⟨_, rfl, ⟨A5, c5, rfl, OR.base_le o5 hg.size⟩, hg5⟩
      refine GW.call1 (isOR 39 3 w3.heap.size (join (l.take k)).length (tcs (join (l.take k)))) rfl trivial rfl Try.func8 (by kernel_rfl) (by kernel_rfl) (isOR_lasts _ _ _ _ _) (kn (t := 28) (j := 4) (by kernel_rfl)) (fun v w' hg hv => ?_) ?_
      · obtain ⟨A4, c4, rfl, o4⟩ := hv
        refine (join_out A4 c4 (l.take k) w' o4.reads (fits_take hF k) (by simp; omega)).mono ?_
        rintro e w5 ⟨A5, c5, rfl, o5, hg5⟩
        exact ⟨_, rfl, ⟨A5, c5, rfl, OR.base_le o5 hg.size⟩, hg5⟩
      refine GW.appE rfl trivial rfl Try.underlying25 tokRow (kn (t := 24) (j := 0) (by kernel_rfl)) (kn (t := 29) (j := 5) (by kernel_rfl)) (tcs_one_cell _) (by have := join_len (l.take k); simp at this; unfold maxLen; omega) (by have := join_len (l.take k); simp at this; omega) (Nat.le_refl _) ?_
      refine GW.mv rfl trivial (.inl rfl) (kn0 (t := 0) (c := .slice A l.length c) (by kernel_rfl) rfl) (eqv_lasts _) ?_
      refine GW.mv rfl trivial (.inl rfl) (kn0 (t := 6) (c := .int .i64 (k : Int)) (by kernel_rfl) rfl) (eqv_lasts _) ?_
      refine GW.p2 (.slice (if c = k then A else A.map (·.add (k * 3))) (l.drop k).length (c - k)) rfl trivial (kn (t := 31) (j := 7) (by kernel_rfl)) (kn (t := 32) (j := 8) (by kernel_rfl)) (fun ρ w' h1 h2 hg => by show ((Instr.sliceAt 22 (ρ (.tmp 31)) (some (ρ (.tmp 32))) none none >>= fun v => pure (Next.value v)) : Sem Next).run Try.prog w' = _; rw [h1, h2, Sem.run_bind, (run_rows_lo (P := Try.prog) w' Try.underlying22 (size := 3) (by kernel_rfl) A l.length c k hk)]; simp) ?_
      refine GW.call1 (isOR 39 3 w3.heap.size (l.drop k).length (tcs (l.drop k))) rfl trivial rfl Try.func9 (by kernel_rfl) (by kernel_rfl) (isOR_lasts _ _ _ _ _) (kn (t := 33) (j := 9) (by kernel_rfl)) (fun v w' hg hv => ?_) ?_
      · obtain rfl : v = _ := hv
        refine (to_any (if c = k then A else A.map (·.add (k * 3))) (c - k) (l.drop k) w' ((TR.below (TR.drop r3 hk hc) hg).more hg.size) (by simp; omega)).mono ?_
        rintro e w5 ⟨A5, c5, rfl, o5, hg5⟩
        exact ⟨_, rfl, ⟨A5, c5, rfl, OR.base_le o5 hg.size⟩, hg5⟩
      refine GW.call1 (isOR 39 3 w3.heap.size (join (l.drop k)).length (tcs (join (l.drop k)))) rfl trivial rfl Try.func8 (by kernel_rfl) (by kernel_rfl) (isOR_lasts _ _ _ _ _) (kn (t := 34) (j := 10) (by kernel_rfl)) (fun v w' hg hv => ?_) ?_
      · obtain ⟨A4, c4, rfl, o4⟩ := hv
        refine (join_out A4 c4 (l.drop k) w' o4.reads (fits_drop hF k) (by simp; omega)).mono ?_
        rintro e w5 ⟨A5, c5, rfl, o5, hg5⟩
        exact ⟨_, rfl, ⟨A5, c5, rfl, OR.base_le o5 hg.size⟩, hg5⟩
      refine GW.tailT (m := 12) (by simp) (by kernel_rfl) (by kernel_rfl) (fun w' hg_ => ?_)
      intro v0 _ v1 _ v2 _ v3 _ v4 _ v5 _ v6 h6 v7 _ v8 _ v9 _ v10 _ v11 h11
      simp only [GFin, List.take_succ_cons, List.take_zero, List.drop_succ_cons, List.drop_zero, Act.put, List.setIfInBounds_toArray, List.set_cons_succ, List.set_cons_zero]
      obtain ⟨A6, c6, rfl, o6⟩ := h6
      obtain ⟨A7, c7, rfl, o7⟩ := h11
      have oL := Lib.hid o6
      have nL := Lib.hid (OR.reads o7)
      have l1 : (join (l.take k)).length ≤ 30 := Nat.le_trans (join_len _) (by simp; omega)
      have l2 : (join (l.drop k)).length ≤ 30 := Nat.le_trans (join_len _) (by simp; omega)
      have hsz := Below.size hg_
      have G3' := G3.out
      have s4 := Lib.hid hg_
      have hFJ := Lib.hid (fits_app (fits_join (l.take k) (by simp; omega)) (fits_join (l.drop k) (by simp; omega)) (by omega))
      have hpj := Lib.hid (show join (join (l.take k) ++ join (l.drop k)) = join l by rw [join_parts _ _ (by rw [List.take_append_drop]; have := hby.out; omega), List.take_append_drop])
      clear o6 o7 r3 hF hg_ G3
      generalize join (l.take k) = J1 at *
      generalize join (l.drop k) = J2 at *
      go_wp2_with (first
        | ((with_reducible refine wpList_isApp (.tmp 30) (.tmp 35) 25 rfl ?_); refine wpList_append_rowsN (v := .slice A6 J1.length c6) rfl (.tmp 30) (.tmp 35) 25 rfl Try.underlying25 tokRow rfl (by exact oL.out) w'.heap.size A7 J2.length c7 (tcs J2) rfl (by exact nL.out) (tcs_one_cell _) (by unfold maxLen; omega) (by omega) hsz (tcs (J1 ++ J2)) (tcs_append _ _) (J1 ++ J2).length (by simp) ?_; intro A9 c9 w9 o9 b9; have s9 := Lib.hid (show Gr w3 w9 from Below.trans s4.out b9); have q9 := Lib.hid (OT.tr (show OT 39 w9 w3.heap.size (.slice A9 (J1 ++ J2).length c9) (J1 ++ J2) from o9)); clear oL nL o9 b9 s4))
      go_at_call 8
      have con := join_out A9 c9 (J1 ++ J2) w9 q9.out hFJ.out (by simp; omega)
      rw [List.length_append] at con
      refine con.mono ?_
      clear con
      rintro e w10 ⟨A10, c10, rfl, o10, g10⟩
      rw [hpj.out] at o10 ⊢
      have q10 := Lib.hid (OT.tr o10)
      have s10 := Gr.trans s9.out g10
      have q3' := Lib.hid ((q3.out.below s10).more s10.size)
      have G10 := Lib.hid (Gr.trans (show Gr w w3 from G3') s10)
      have hlj : (join l).length ≤ 30 := Nat.le_trans (join_len l) h30
      have hFj := Lib.hid (fits_join l (by omega))
      have rl := Lib.hid ((hr'.out.below G10.out).more (Below.size G10.out))
      clear q9 s9 o10 g10 s10 hpj hFJ q3 G3' hsz l1 l2
      have hjj := Lib.hid (join_join l (by have := hby.out; omega))
      have hjb := Lib.hid (bytes_join l)
      obtain ⟨J, hJ⟩ : ∃ J, join l = J := ⟨_, rfl⟩
      rw [hJ] at hlj hFj hjj hjb q10 q3' ⊢
      replace hJ := Lib.hid hJ
      -- awake
      go_wp2_with fail
      go_at_call 7
      refine (awake_any _).mono ?_
      rintro e w11 ⟨rfl, g11⟩
      have G11 := Lib.hid (Gr.trans G10.out g11)
      have a11 := Lib.hid ((q3'.out.below g11).more g11.size)
      have p11 := Lib.hid ((q10.out.below g11).more g11.size)
      have l11 := Lib.hid ((rl.out.below g11).more g11.size)
      clear G10 g11 q3' q10 rl
      -- From
      go_wp2_with fail
      go_at_call 11
      refine (from_any A3 c3 J _ a11.out (by omega)).mono ?_
      rintro e w12 ⟨A12, c12, rfl, o12, g12⟩
      have G12 := Lib.hid (Gr.trans G11.out g12)
      have a12 := Lib.hid ((a11.out.below g12).more g12.size)
      have p12 := Lib.hid ((p11.out.below g12).more g12.size)
      have l12 := Lib.hid ((l11.out.below g12).more g12.size)
      have f12 := Lib.hid (OT.tr o12)
      clear G11 g12 a11 p11 l11 o12
      -- the document's Join
      go_wp2_with fail
      go_at_call 12
      refine (refJoin_out A c l _ l12.out hF'.out (by omega)).mono ?_
      rintro e w13 ⟨A13, c13, rfl, o13, g13⟩
      have G13 := Lib.hid (Gr.trans G12.out g13)
      have a13 := Lib.hid ((a12.out.below g13).more g13.size)
      have p13 := Lib.hid ((p12.out.below g13).more g13.size)
      have l13 := Lib.hid ((l12.out.below g13).more g13.size)
      have f13 := Lib.hid ((f12.out.below g13).more g13.size)
      have d13 := Lib.hid (OT.tr o13)
      clear G12 g13 a12 p12 l12 f12 o13
      rw [hJ.out] at d13 ⊢
      -- the same
      go_wp2_with fail
      go_at_call 10
      refine (refSame_any A12 c12 J A13 c13 J _ f13.out d13.out (by omega)).mono ?_
      rintro e w14 ⟨rfl, g14⟩
      rw [same_self]
      have G14 := Lib.hid (Gr.trans G13.out g14)
      have a14 := Lib.hid ((a13.out.below g14).more g14.size)
      have p14 := Lib.hid ((p13.out.below g14).more g14.size)
      have l14 := Lib.hid ((l13.out.below g14).more g14.size)
      clear G13 g14 a13 p13 l13 f13 d13
      -- joined once more
      go_wp2_with fail
      go_at_call 8
      refine (join_out A3 c3 J _ a14.out hFj.out (by omega)).mono ?_
      rintro e w15 ⟨A15, c15, rfl, o15, g15⟩
      rw [hjj.out] at o15 ⊢
      have G15 := Lib.hid (Gr.trans G14.out g15)
      have a15 := Lib.hid ((a14.out.below g15).more g15.size)
      have p15 := Lib.hid ((p14.out.below g15).more g15.size)
      have l15 := Lib.hid ((l14.out.below g15).more g15.size)
      have f15 := Lib.hid (OT.tr o15)
      clear G14 g15 a14 p14 l14 o15
      go_wp2_with fail
      go_at_call 13
      refine (same_any A15 c15 J A3 c3 J _ f15.out a15.out (by omega)).mono ?_
      rintro e w16 ⟨rfl, g16⟩
      rw [same_self]
      have G16 := Lib.hid (Gr.trans G15.out g16)
      have a16 := Lib.hid ((a15.out.below g16).more g16.size)
      have p16 := Lib.hid ((p15.out.below g16).more g16.size)
      have l16 := Lib.hid ((l15.out.below g16).more g16.size)
      clear G15 g16 a15 p15 l15 f15
      -- how many bytes
      go_wp2_with fail
      go_at_call 14
      refine (bytes_any A3 c3 J _ a16.out hFj.out (by omega)).mono ?_
      rintro e w17 ⟨rfl, g17⟩
      rw [hjb.out]
      have G17 := Lib.hid (Gr.trans G16.out g17)
      have a17 := Lib.hid ((a16.out.below g17).more g17.size)
      have p17 := Lib.hid ((p16.out.below g17).more g17.size)
      have l17 := Lib.hid ((l16.out.below g17).more g17.size)
      clear G16 g17 a16 p16 l16
      go_wp2_with fail
      go_at_call 15
      refine (refBytes_any A c l _ l17.out hF'.out (by omega)).mono ?_
      rintro e w18 ⟨rfl, g18⟩
      have G18 := Lib.hid (Gr.trans G17.out g18)
      have a18 := Lib.hid ((a17.out.below g18).more g18.size)
      have p18 := Lib.hid ((p17.out.below g18).more g18.size)
      clear G17 g18 a17 p17 l17
      go_wp2_with fail
      go_at_call 13
      refine (same_any A10 c10 J A3 c3 J _ p18.out a18.out (by omega)).mono ?_
      rintro e w19 ⟨rfl, g19⟩
      rw [same_self]
      have G19 := Lib.hid (Gr.trans G18.out g19)
      clear G18 g19 a18 p18
      go_wp2
      go_ret
      exact ⟨_, rfl, rfl, G19.out⟩
    
    · have h0' : ¬ (0 : Int) < (l.length : Int) := by omega
      have hk0 := hkz (by omega)
      replace hby := Lib.hid hby
      clear hkv hkz
      go_enter Try.func3, Try.ntmps3
      go_wp2_with fail
      go_at_call 6
      refine (hfe.out _ hr'.out).mono ?_
      rintro e w1 ⟨rfl, g1⟩
      have r1 := Lib.hid ((hr'.out.below g1).more g1.size)
      replace g1 := Lib.hid g1
      clear hfe
      go_wp2_with fail
      go_at_call 9
      refine (to_any A c l _ r1.out (by omega)).mono ?_
      rintro e w2 ⟨A2, c2, rfl, o2, g2⟩
      have q2 := Lib.hid (OT.tr o2)
      have G2 := Lib.hid (Gr.trans g1.out g2)
      clear r1 g1 g2 o2
      go_wp2_with fail
      go_at_call 8
      refine (join_out A2 c2 l _ q2.out hF'.out (by omega)).mono ?_
      rintro e w3 ⟨A3, c3, rfl, o3, g3⟩
      have q3 := Lib.hid (OT.tr o3)
      have G3 := Lib.hid (Gr.trans G2.out g3)
      clear q2 G2 g3 o3
      go_wp2
      have hF := hF'.out
      have r3 := (hr'.out.below G3.out).more (Below.size G3.out)
      refine region_grow (by kernel_rfl) (by kernel_rfl) ?_
      refine GW.empty (T := 25) (E := 39) (size := 3) (base := w3.heap.size) (Nat.le_refl _) rfl trivial rfl (fun w => by kernel_rfl) ?_
      refine GW.mv rfl trivial (.inl rfl) (kn0 (t := 0) (c := .slice A l.length c) (by kernel_rfl) rfl) (eqv_lasts _) ?_
      refine GW.mv rfl trivial (.inl rfl) (kn0 (t := 6) (c := .int .i64 (k : Int)) (by kernel_rfl) (by rw [hk0]; rfl)) (eqv_lasts _) ?_
      refine GW.p2 (.slice A (l.take k).length c) rfl trivial (kn (t := 25) (j := 1) (by kernel_rfl)) (kn (t := 26) (j := 2) (by kernel_rfl)) (fun ρ w' h1 h2 hg => by show ((Instr.sliceAt 22 (ρ (.tmp 25)) none (some (ρ (.tmp 26))) none >>= fun v => pure (Next.value v)) : Sem Next).run Try.prog w' = _; rw [h1, h2, Sem.run_bind, (run_rows_hi (P := Try.prog) w' Try.underlying22 (size := 3) (by kernel_rfl) A l.length c k hk hc)]; simp [hk]) ?_
      refine GW.call1 (isOR 39 3 w3.heap.size (l.take k).length (tcs (l.take k))) rfl trivial rfl Try.func9 (by kernel_rfl) (by kernel_rfl) (isOR_lasts _ _ _ _ _) (kn (t := 27) (j := 3) (by kernel_rfl)) (fun v w' hg hv => ?_) ?_
      · obtain rfl : v = _ := hv
        refine (to_any A c (l.take k) w' ((TR.below (TR.take r3 hk) hg).more hg.size) (by simp; omega)).mono ?_
        rintro e w5 ⟨A5, c5, rfl, o5, hg5⟩
        exact ⟨_, rfl, ⟨A5, c5, rfl, OR.base_le o5 hg.size⟩, hg5⟩
      refine GW.call1 (isOR 39 3 w3.heap.size (join (l.take k)).length (tcs (join (l.take k)))) rfl trivial rfl Try.func8 (by kernel_rfl) (by kernel_rfl) (isOR_lasts _ _ _ _ _) (kn (t := 28) (j := 4) (by kernel_rfl)) (fun v w' hg hv => ?_) ?_
      · obtain ⟨A4, c4, rfl, o4⟩ := hv
        refine (join_out A4 c4 (l.take k) w' o4.reads (fits_take hF k) (by simp; omega)).mono ?_
        rintro e w5 ⟨A5, c5, rfl, o5, hg5⟩
        exact ⟨_, rfl, ⟨A5, c5, rfl, OR.base_le o5 hg.size⟩, hg5⟩
      refine GW.appE rfl trivial rfl Try.underlying25 tokRow (kn (t := 24) (j := 0) (by kernel_rfl)) (kn (t := 29) (j := 5) (by kernel_rfl)) (tcs_one_cell _) (by have := join_len (l.take k); simp at this; unfold maxLen; omega) (by have := join_len (l.take k); simp at this; omega) (Nat.le_refl _) ?_
      refine GW.mv rfl trivial (.inl rfl) (kn0 (t := 0) (c := .slice A l.length c) (by kernel_rfl) rfl) (eqv_lasts _) ?_
      refine GW.mv rfl trivial (.inl rfl) (kn0 (t := 6) (c := .int .i64 (k : Int)) (by kernel_rfl) (by rw [hk0]; rfl)) (eqv_lasts _) ?_
      refine GW.p2 (.slice (if c = k then A else A.map (·.add (k * 3))) (l.drop k).length (c - k)) rfl trivial (kn (t := 31) (j := 7) (by kernel_rfl)) (kn (t := 32) (j := 8) (by kernel_rfl)) (fun ρ w' h1 h2 hg => by show ((Instr.sliceAt 22 (ρ (.tmp 31)) (some (ρ (.tmp 32))) none none >>= fun v => pure (Next.value v)) : Sem Next).run Try.prog w' = _; rw [h1, h2, Sem.run_bind, (run_rows_lo (P := Try.prog) w' Try.underlying22 (size := 3) (by kernel_rfl) A l.length c k hk)]; simp) ?_
      refine GW.call1 (isOR 39 3 w3.heap.size (l.drop k).length (tcs (l.drop k))) rfl trivial rfl Try.func9 (by kernel_rfl) (by kernel_rfl) (isOR_lasts _ _ _ _ _) (kn (t := 33) (j := 9) (by kernel_rfl)) (fun v w' hg hv => ?_) ?_
      · obtain rfl : v = _ := hv
        refine (to_any (if c = k then A else A.map (·.add (k * 3))) (c - k) (l.drop k) w' ((TR.below (TR.drop r3 hk hc) hg).more hg.size) (by simp; omega)).mono ?_
        rintro e w5 ⟨A5, c5, rfl, o5, hg5⟩
        exact ⟨_, rfl, ⟨A5, c5, rfl, OR.base_le o5 hg.size⟩, hg5⟩
      refine GW.call1 (isOR 39 3 w3.heap.size (join (l.drop k)).length (tcs (join (l.drop k)))) rfl trivial rfl Try.func8 (by kernel_rfl) (by kernel_rfl) (isOR_lasts _ _ _ _ _) (kn (t := 34) (j := 10) (by kernel_rfl)) (fun v w' hg hv => ?_) ?_
      · obtain ⟨A4, c4, rfl, o4⟩ := hv
        refine (join_out A4 c4 (l.drop k) w' o4.reads (fits_drop hF k) (by simp; omega)).mono ?_
        rintro e w5 ⟨A5, c5, rfl, o5, hg5⟩
        exact ⟨_, rfl, ⟨A5, c5, rfl, OR.base_le o5 hg.size⟩, hg5⟩
      refine GW.tailT (m := 12) (by simp) (by kernel_rfl) (by kernel_rfl) (fun w' hg_ => ?_)
      intro v0 _ v1 _ v2 _ v3 _ v4 _ v5 _ v6 h6 v7 _ v8 _ v9 _ v10 _ v11 h11
      simp only [GFin, List.take_succ_cons, List.take_zero, List.drop_succ_cons, List.drop_zero, Act.put, List.setIfInBounds_toArray, List.set_cons_succ, List.set_cons_zero]
      obtain ⟨A6, c6, rfl, o6⟩ := h6
      obtain ⟨A7, c7, rfl, o7⟩ := h11
      have oL := Lib.hid o6
      have nL := Lib.hid (OR.reads o7)
      have l1 : (join (l.take k)).length ≤ 30 := Nat.le_trans (join_len _) (by simp; omega)
      have l2 : (join (l.drop k)).length ≤ 30 := Nat.le_trans (join_len _) (by simp; omega)
      have hsz := Below.size hg_
      have G3' := G3.out
      have s4 := Lib.hid hg_
      have hFJ := Lib.hid (fits_app (fits_join (l.take k) (by simp; omega)) (fits_join (l.drop k) (by simp; omega)) (by omega))
      have hpj := Lib.hid (show join (join (l.take k) ++ join (l.drop k)) = join l by rw [join_parts _ _ (by rw [List.take_append_drop]; have := hby.out; omega), List.take_append_drop])
      clear o6 o7 r3 hF hg_ G3
      generalize join (l.take k) = J1 at *
      generalize join (l.drop k) = J2 at *
      go_wp2_with (first
        | ((with_reducible refine wpList_isApp (.tmp 30) (.tmp 35) 25 rfl ?_); refine wpList_append_rowsN (v := .slice A6 J1.length c6) rfl (.tmp 30) (.tmp 35) 25 rfl Try.underlying25 tokRow rfl (by exact oL.out) w'.heap.size A7 J2.length c7 (tcs J2) rfl (by exact nL.out) (tcs_one_cell _) (by unfold maxLen; omega) (by omega) hsz (tcs (J1 ++ J2)) (tcs_append _ _) (J1 ++ J2).length (by simp) ?_; intro A9 c9 w9 o9 b9; have s9 := Lib.hid (show Gr w3 w9 from Below.trans s4.out b9); have q9 := Lib.hid (OT.tr (show OT 39 w9 w3.heap.size (.slice A9 (J1 ++ J2).length c9) (J1 ++ J2) from o9)); clear oL nL o9 b9 s4))
      go_at_call 8
      have con := join_out A9 c9 (J1 ++ J2) w9 q9.out hFJ.out (by simp; omega)
      rw [List.length_append] at con
      refine con.mono ?_
      clear con
      rintro e w10 ⟨A10, c10, rfl, o10, g10⟩
      rw [hpj.out] at o10 ⊢
      have q10 := Lib.hid (OT.tr o10)
      have s10 := Gr.trans s9.out g10
      have q3' := Lib.hid ((q3.out.below s10).more s10.size)
      have G10 := Lib.hid (Gr.trans (show Gr w w3 from G3') s10)
      have hlj : (join l).length ≤ 30 := Nat.le_trans (join_len l) h30
      have hFj := Lib.hid (fits_join l (by omega))
      have rl := Lib.hid ((hr'.out.below G10.out).more (Below.size G10.out))
      clear q9 s9 o10 g10 s10 hpj hFJ q3 G3' hsz l1 l2
      have hjj := Lib.hid (join_join l (by have := hby.out; omega))
      have hjb := Lib.hid (bytes_join l)
      obtain ⟨J, hJ⟩ : ∃ J, join l = J := ⟨_, rfl⟩
      rw [hJ] at hlj hFj hjj hjb q10 q3' ⊢
      replace hJ := Lib.hid hJ
      -- awake
      go_wp2_with fail
      go_at_call 7
      refine (awake_any _).mono ?_
      rintro e w11 ⟨rfl, g11⟩
      have G11 := Lib.hid (Gr.trans G10.out g11)
      have a11 := Lib.hid ((q3'.out.below g11).more g11.size)
      have p11 := Lib.hid ((q10.out.below g11).more g11.size)
      have l11 := Lib.hid ((rl.out.below g11).more g11.size)
      clear G10 g11 q3' q10 rl
      -- From
      go_wp2_with fail
      go_at_call 11
      refine (from_any A3 c3 J _ a11.out (by omega)).mono ?_
      rintro e w12 ⟨A12, c12, rfl, o12, g12⟩
      have G12 := Lib.hid (Gr.trans G11.out g12)
      have a12 := Lib.hid ((a11.out.below g12).more g12.size)
      have p12 := Lib.hid ((p11.out.below g12).more g12.size)
      have l12 := Lib.hid ((l11.out.below g12).more g12.size)
      have f12 := Lib.hid (OT.tr o12)
      clear G11 g12 a11 p11 l11 o12
      -- the document's Join
      go_wp2_with fail
      go_at_call 12
      refine (refJoin_out A c l _ l12.out hF'.out (by omega)).mono ?_
      rintro e w13 ⟨A13, c13, rfl, o13, g13⟩
      have G13 := Lib.hid (Gr.trans G12.out g13)
      have a13 := Lib.hid ((a12.out.below g13).more g13.size)
      have p13 := Lib.hid ((p12.out.below g13).more g13.size)
      have l13 := Lib.hid ((l12.out.below g13).more g13.size)
      have f13 := Lib.hid ((f12.out.below g13).more g13.size)
      have d13 := Lib.hid (OT.tr o13)
      clear G12 g13 a12 p12 l12 f12 o13
      rw [hJ.out] at d13 ⊢
      -- the same
      go_wp2_with fail
      go_at_call 10
      refine (refSame_any A12 c12 J A13 c13 J _ f13.out d13.out (by omega)).mono ?_
      rintro e w14 ⟨rfl, g14⟩
      rw [same_self]
      have G14 := Lib.hid (Gr.trans G13.out g14)
      have a14 := Lib.hid ((a13.out.below g14).more g14.size)
      have p14 := Lib.hid ((p13.out.below g14).more g14.size)
      have l14 := Lib.hid ((l13.out.below g14).more g14.size)
      clear G13 g14 a13 p13 l13 f13 d13
      -- joined once more
      go_wp2_with fail
      go_at_call 8
      refine (join_out A3 c3 J _ a14.out hFj.out (by omega)).mono ?_
      rintro e w15 ⟨A15, c15, rfl, o15, g15⟩
      rw [hjj.out] at o15 ⊢
      have G15 := Lib.hid (Gr.trans G14.out g15)
      have a15 := Lib.hid ((a14.out.below g15).more g15.size)
      have p15 := Lib.hid ((p14.out.below g15).more g15.size)
      have l15 := Lib.hid ((l14.out.below g15).more g15.size)
      have f15 := Lib.hid (OT.tr o15)
      clear G14 g15 a14 p14 l14 o15
      go_wp2_with fail
      go_at_call 13
      refine (same_any A15 c15 J A3 c3 J _ f15.out a15.out (by omega)).mono ?_
      rintro e w16 ⟨rfl, g16⟩
      rw [same_self]
      have G16 := Lib.hid (Gr.trans G15.out g16)
      have a16 := Lib.hid ((a15.out.below g16).more g16.size)
      have p16 := Lib.hid ((p15.out.below g16).more g16.size)
      have l16 := Lib.hid ((l15.out.below g16).more g16.size)
      clear G15 g16 a15 p15 l15 f15
      -- how many bytes
      go_wp2_with fail
      go_at_call 14
      refine (bytes_any A3 c3 J _ a16.out hFj.out (by omega)).mono ?_
      rintro e w17 ⟨rfl, g17⟩
      rw [hjb.out]
      have G17 := Lib.hid (Gr.trans G16.out g17)
      have a17 := Lib.hid ((a16.out.below g17).more g17.size)
      have p17 := Lib.hid ((p16.out.below g17).more g17.size)
      have l17 := Lib.hid ((l16.out.below g17).more g17.size)
      clear G16 g17 a16 p16 l16
      go_wp2_with fail
      go_at_call 15
      refine (refBytes_any A c l _ l17.out hF'.out (by omega)).mono ?_
      rintro e w18 ⟨rfl, g18⟩
      have G18 := Lib.hid (Gr.trans G17.out g18)
      have a18 := Lib.hid ((a17.out.below g18).more g18.size)
      have p18 := Lib.hid ((p17.out.below g18).more g18.size)
      clear G17 g18 a17 p17 l17
      go_wp2_with fail
      go_at_call 13
      refine (same_any A10 c10 J A3 c3 J _ p18.out a18.out (by omega)).mono ?_
      rintro e w19 ⟨rfl, g19⟩
      rw [same_self]
      have G19 := Lib.hid (Gr.trans G18.out g19)
      clear G18 g19 a18 p18
      go_wp2
      go_ret
      exact ⟨_, rfl, rfl, G19.out⟩
    
  · have hq' : fewB l = false := by simpa using hq
    rw [hq'] at hfe
    clear hx hr hm hq
    go_enter Try.func3, Try.ntmps3
    go_wp2_with fail
    go_at_call 6
    refine (hfe.out _ hr'.out).mono ?_
    rintro e w1 ⟨rfl, g1⟩
    replace g1 := Lib.hid g1
    clear hfe
    go_wp2_with fail
    go_at_call 7
    refine (awake_any _).mono ?_
    rintro e w2 ⟨rfl, g2⟩
    have G := Lib.hid (Gr.trans g1.out g2)
    clear g1 g2
    go_wp2
    go_ret
    exact ⟨_, rfl, rfl, G.out⟩
end Tk
end Go.Proofs.Ythacnfoeaefeiaa
