/- The walk of VintReads: whatever the arguments, it returns true and writes nothing that was there. No condition. -/
import Derived.Test.YtblafmoidgmnfaaVintPuts
import Derived.Test.YtblafmoidgmnfaaVintRefE
import Derived.Deep.RegionWith
set_option linter.unusedVariables false
set_option linter.unusedSimpArgs false
namespace Go.Proofs.Ytblafmoidgmnfaa
open Go Go.RowKit W
namespace Vint
/-- Block b is the reference's reader. -/
def RefB (w : World) (b : Nat) (s : RS) : Prop := Blk w b 40 #[.string ⟨s.1.toArray⟩, .int .i64 (s.2 : Int)]
theorem ref_ne {w : World} {g b : Nat} {s t : RS} (h : Rdr w g s) (hb : RefB w b t) : b ≠ g := by
  rintro rfl
  obtain ⟨A, c, h1, _⟩ := h
  have := h1.symm.trans hb
  simp at this
/-- A store into the reference's reader leaves the reader as it was. -/
theorem ref_store {w : World} {g b : Nat} {s t : RS} (h : Rdr w g s) (hb : RefB w b t) (u0 u1 : Value) : Rdr ((w.setCell ⟨b, 0, none⟩ u0).setCell ⟨b, 1, none⟩ u1) g s := by
  have hne := ref_ne h hb
  obtain ⟨A, c, h1, h2, h3, h4⟩ := h
  refine ⟨A, c, (h1.far (p := ⟨b, 0, none⟩) (Ne.symm hne) u0).far (p := ⟨b, 1, none⟩) (Ne.symm hne) u1, ⟨h2.1, fun hn => ?_⟩, h3, h4⟩
  obtain ⟨ad, hA, hlt, hc⟩ := h2.2 hn
  have hd : ad.block ≠ b := by
    intro hd
    have h0 : (bvs s.1)[0]? = some (bv (s.1[0]'hn)) := by rw [bvs_get?, List.getElem?_eq_getElem hn]; rfl
    have hc0 := hc 0 _ h0
    rw [show ad.add 0 = ad from rfl] at hc0
    have hs := World.cell?_spot hc0
    obtain ⟨bl, off, sp⟩ := ad
    have hs' : sp = none := hs
    have hd' : bl = b := hd
    subst hs'
    subst hd'
    rw [Blk.cell hb off] at hc0
    match off, hc0 with
    | 0, h => simp [bv] at h
    | 1, h => simp [bv] at h
    | off + 2, h => simp at h
  refine ⟨ad, hA, hlt, fun j u hu => ?_⟩
  rw [World.cell?_setCell_other _ _ _ _ (fun e => hd (by have := congrArg Addr.block e; rw [block_of_add] at this; exact this.symm)), World.cell?_setCell_other _ _ _ _ (fun e => hd (by have := congrArg Addr.block e; rw [block_of_add] at this; exact this.symm))]
  exact hc j u hu
theorem ref_set {w : World} {b : Nat} {t : RS} (hb : RefB w b t) (s : RS) : RefB ((w.setCell ⟨b, 0, none⟩ (.string ⟨s.1.toArray⟩)).setCell ⟨b, 1, none⟩ (.int .i64 (s.2 : Int))) b s := (hb.pair _ _).2.2.2.2
/-- What holds between two reads. -/
structure Both (w wr : World) (g b : Nat) (s : RS) : Prop where
  rdr : Rdr wr g s
  ref : RefB wr b s
  below : Below w.heap.size w wr
  gs : w.heap.size ≤ g
  bs : w.heap.size ≤ b
  len : s.1.length ≤ 400
/-- Behind a reference's read: what the store of what it tells wants, and what holds behind that. -/
theorem ref_after {w wr w3 : World} {g b : Nat} {s : RS} (h : Both w wr g b s) (hg3 : Gr wr w3) (sn : RS) :
    (w3.frozen? ⟨b, 0, none⟩ = false ∧ w3.cell? ⟨b, 0, none⟩ = some (.string ⟨s.1.toArray⟩) ∧ (w3.setCell ⟨b, 0, none⟩ (.string ⟨sn.1.toArray⟩)).frozen? ⟨b, 1, none⟩ = false ∧
      (w3.setCell ⟨b, 0, none⟩ (.string ⟨sn.1.toArray⟩)).cell? ⟨b, 1, none⟩ = some (.int .i64 (s.2 : Int)) ∧ w3.cell? ⟨b, 1, none⟩ = some (.int .i64 (s.2 : Int)) ∧ w3.frozen? ⟨b, 1, none⟩ = false) ∧
    Below w.heap.size w w3 ∧ Below w.heap.size w ((w3.setCell ⟨b, 0, none⟩ (.string ⟨sn.1.toArray⟩)).setCell ⟨b, 1, none⟩ (.int .i64 (sn.2 : Int))) ∧ Rdr ((w3.setCell ⟨b, 0, none⟩ (.string ⟨sn.1.toArray⟩)).setCell ⟨b, 1, none⟩ (.int .i64 (sn.2 : Int))) g s ∧ RefB ((w3.setCell ⟨b, 0, none⟩ (.string ⟨sn.1.toArray⟩)).setCell ⟨b, 1, none⟩ (.int .i64 (sn.2 : Int))) b sn := by
  have hB3 : RefB w3 b s := Blk.below h.ref hg3 (Blk.lt h.ref)
  obtain ⟨f0, d0, f1, d1, hb4⟩ := Blk.pair hB3 (.string ⟨sn.1.toArray⟩) (.int .i64 (sn.2 : Int))
  have hw3 : Below w.heap.size w w3 := Below.trans h.below (Below.mono hg3 h.below.size)
  exact ⟨⟨f0, d0, f1, d1, Blk.cell hB3 1, Blk.frozen hB3 1⟩, hw3, Below.setCell (Below.setCell hw3 (p := ⟨b, 0, none⟩) h.bs _) (p := ⟨b, 1, none⟩) h.bs _, ref_store (h.rdr.gr hg3) hB3 _ _, hb4⟩
/-- A cell of an argument, at a later world. -/
theorem cell_later {w wr wx : World} {p : Addr} {v : Value} (h1 : Below w.heap.size w wr) (h2 : Below w.heap.size w wx) (hp : p.block < w.heap.size) (hc : wr.cell? p = some v) : wx.cell? p = some v :=
  (h2.cell hp).trans ((h1.cell hp).symm.trans hc)
theorem getText_len (s : RS) (most : Nat) : (getText s most).1.1.length ≤ s.1.length := by
  have h := get_len s most
  unfold getText
  split
  · split
    · simp
    · show ((get s most).1.1.drop (get s most).2).length ≤ _
      rw [List.length_drop]; omega
  · exact h
theorem getSum_len (s : RS) : (getSum s).1.1.length ≤ s.1.length := by
  unfold getSum
  split
  · split
    · simp
    · show (s.1.drop 16).length ≤ _
      rw [List.length_drop]; omega
  · exact Nat.le_refl _
def isRdr (n : Nat) (l : List UInt8) : Ass := fun v w => ∃ g, v = .pointer (some ⟨g, 0, none⟩) ∧ n ≤ g ∧ Rdr w g (l, 0)
theorem isRdr_lasts (n : Nat) (l : List UInt8) : Lasts (isRdr n l) := fun _ _ _ hg ⟨g, hv, hn, hr⟩ => ⟨g, hv, hn, hr.gr hg⟩
def isNew (n : Nat) : Ass := fun v w => ∃ b, v = .pointer (some ⟨b, 0, none⟩) ∧ n ≤ b ∧ RefB w b ([], 0)
theorem isNew_lasts (n : Nat) : Lasts (isNew n) := fun _ _ _ hg ⟨b, hv, hn, hr⟩ => ⟨b, hv, hn, hr.below hg (Blk.lt hr)⟩
set_option maxRecDepth 100000 in
set_option maxHeartbeats 8000000 in
theorem vintReads_walk (A1 : Option Addr) (c1 : Nat) (l1 : List UInt8) (A2 : Option Addr) (c2 : Nat) (ls : List ActT) (w : World)
    (hc1 : l1.length ≤ c1) (hm1 : c1 ≤ maxLen) (hr1 : RB w w.heap.size A1 l1) (hl : LA w w.heap.size A2 ls) (hkw : ∀ a ∈ ls, a.k ≤ 9223372036854775807) :
    Calls Try.prog 5 #[.slice A1 l1.length c1, .slice A2 ls.length c2] w (Ret (eqv (.bool true)) w) := by
  have hfw := Lib.hid (few_any A2 c2 ls w hl)
  have haw := Lib.hid (awake_any w)
  by_cases hf : few ls = true
  · by_cases h400 : 400 < l1.length
    · have h400i : (400 : Int) < (l1.length : Int) := by omega
      clear hm1 hr1 hl
      go_enter Try.func5, Try.ntmps5
      go_wp2_with fail
      refine hfw.out.mono ?_
      rintro e w1 ⟨rfl, rfl⟩
      clear hfw
      go_wp2_with fail
      refine haw.out.mono ?_
      rintro e w1 ⟨v, rfl, hv, hg⟩
      obtain rfl : v = .bool true := hv
      replace hg := Lib.hid hg
      clear haw
      go_wp2
      go_ret
      exact ⟨_, rfl, rfl, hg.out⟩
    · have h400i : ¬ (400 : Int) < (l1.length : Int) := by omega
      obtain ⟨hf40, hfs⟩ := few_true hf
      have hl' := Lib.hid hl
      have hr1' := Lib.hid hr1
      have hm1' := Lib.hid hm1
      have hfs' := Lib.hid hfs
      have hkw' := Lib.hid hkw
      clear hr1 hl hm1 hfs hkw haw
      go_enter Try.func5, Try.ntmps5
      go_wp2_with fail
      refine hfw.out.mono ?_
      rintro e w1 ⟨rfl, rfl⟩
      clear hfw
      rw [hf]
      have hf' := Lib.hid hf
      clear hf
      go_wp2
      have hr1 := hr1'.out
      have hm1 := hm1'.out
      refine region_grow (by kernel_rfl) (by kernel_rfl) ?_
      refine GW.mv rfl trivial (.inl rfl) (kn0' (t := 0) (c := .slice A1 l1.length c1) (by kernel_rfl) rfl (isB_lasts l1) (⟨A1, c1, rfl, hc1, hm1, hr1⟩)) (isB_lasts l1) ?_
      refine GW.call1 (isRdr w.heap.size l1) rfl trivial rfl Try.func11 (by kernel_rfl) (by kernel_rfl) (isRdr_lasts _ _) (kn (t := 22) (j := 0) (by kernel_rfl)) (fun v w' hg hv => ?_) ?_
      · obtain ⟨A, c, rfl, hc, hm, hr⟩ := hv
        refine (read_any A c l1 w' (by omega) hr).mono ?_
        rintro e w2 ⟨g, rfl, hgs, hR, hg2⟩
        exact ⟨_, rfl, ⟨g, rfl, Nat.le_trans hg.size hgs, hR⟩, hg2⟩
      refine GW.mv rfl trivial (.inl rfl) (kn0' (t := 0) (c := .slice A1 l1.length c1) (by kernel_rfl) rfl (isB_lasts l1) (⟨A1, c1, rfl, hc1, hm1, hr1⟩)) (isB_lasts l1) ?_
      refine GW.bs (l1) rfl trivial rfl Try.underlying22 byteType.1 Try.underlying9 (kn (t := 24) (j := 2) (by kernel_rfl)) ?_
      refine GW.p1 (rsV (l1, 0)) rfl trivial (kn (t := 25) (j := 3) (by kernel_rfl)) (fun ρ w' hρ hg => by simp [execOp, hρ, go_sem]) ?_
      refine GW.op (isNew w.heap.size) rfl (isNew_lasts _) trivial (fun a w' hg _ => .val (v := .pointer (some ⟨w'.heap.size, 0, none⟩)) (w' := w'.alloc (.cells #[.string ⟨#[]⟩, .int .i64 0] 40)) (by simp [execOp, go_sem]) ((Gr.refl w').alloc _) ⟨_, rfl, hg.size, Blk.new w' _ _⟩) ?_
      refine GW.mv rfl trivial (.inr rfl) (kn (t := 23) (j := 1) (by kernel_rfl)) (isRdr_lasts _ _) ?_
      refine GW.tail (m := 7) (by simp) (by kernel_rfl) (by kernel_rfl) (fun w' hg => ?_)
      intro v0 _ v1 _ v2 _ v3 _ v4 h4 v5 h5 v6 h6
      obtain rfl : v4 = (rsV (l1, 0)) := h4
      simp only [GFin, List.take_succ_cons, List.take_zero, List.drop_succ_cons, List.drop_zero, Act.put, List.setIfInBounds_toArray, List.set_cons_succ, List.set_cons_zero]
      obtain ⟨g, rfl, hgs, hR⟩ := h6
      obtain ⟨b, rfl, hbs, hB⟩ := h5
      obtain ⟨f0, d0, f1, d1, hb3⟩ := Blk.pair hB (.string ⟨l1.toArray⟩) (.int .i64 0)
      have d1' := Blk.cell hB 1
      have hbo : Hid (Both w ((w'.setCell ⟨b, 0, none⟩ (.string ⟨l1.toArray⟩)).setCell ⟨b, 1, none⟩ (.int .i64 0)) g b (l1, 0)) :=
        Lib.hid ⟨ref_store hR hB _ _, hb3, Below.setCell (Below.setCell hg (p := ⟨b, 0, none⟩) hbs _) (p := ⟨b, 1, none⟩) hbs _, hgs, hbs, by show l1.length ≤ 400; omega⟩
      clear hR hB hb3 hr1 hm1 hg hgs hbs
      go_wp2
      clear f0 d0 f1 d1 d1'
      generalize ((w'.setCell ⟨b, 0, none⟩ (.string ⟨l1.toArray⟩)).setCell ⟨b, 1, none⟩ (.int .i64 0)) = w2 at *
      go_loopw [7] (fun i wr => ∃ (k : Nat) (s : RS), k ≤ ls.length ∧ i = .int .i64 (k : Int) ∧ Both w wr g b s) (fun i _ => ls.length - (intOf i).toNat)
      case atStart => exact ⟨0, (l1, 0), by omega, rfl, hbo.out⟩
      case round =>
        obtain ⟨k, s, hk, rfl, hbo1⟩ := hrel
        clear hbo
        by_cases h : k < ls.length
        · obtain ⟨ad, hA, hlt, e0, e1, e2, e3, e4⟩ := (hl'.out.below hbo1.below).at_ h
          subst hA
          have hlt2 : (ad.add (k * 5)).block < wr.heap.size := by rw [block_of_add]; exact Nat.lt_of_lt_of_le hlt hbo1.below.size
          have hlt0 : (ad.add (k * 5)).block < w.heap.size := by rw [block_of_add]; exact hlt
          have hs := hfs'.out ls[k] (List.getElem_mem h)
          have hk63 := hkw'.out ls[k] (List.getElem_mem h)
          generalize ls[k] = a at *
          have hbo' := Lib.hid hbo1
          have b0 : wr.cell? ⟨b, 0, none⟩ = some (.string ⟨s.1.toArray⟩) := Blk.cell hbo1.ref 0
          have b1 : wr.cell? ⟨b, 1, none⟩ = some (.int .i64 (s.2 : Int)) := Blk.cell hbo1.ref 1
          have hbl : b < wr.heap.size := Blk.lt hbo1.ref
          clear hbo1
          by_cases h0 : a.kind = 0
          · have z0 : (a.kind == 0) = true := by simp [h0]
            clear h0
            have hsnl : Hid ((get s a.m.toNat).1.1.length ≤ 400) := Lib.hid (Nat.le_trans (get_len s a.m.toNat) hbo'.out.len)
            obtain ⟨⟨sn, v⟩, hgt⟩ : ∃ r, get s a.m.toNat = r := ⟨_, rfl⟩
            have hn := Lib.hid (by have h := refGet_any s a.m wr.drew (Nat.le_trans hbo'.out.len (by omega)); rw [hgt] at h; exact h : Calls Try.prog 15 #[.agg #[.string ⟨s.1.toArray⟩, .int .i64 (s.2 : Int)], .int .u64 (n64 a.m)] wr.drew fun e w' => e = .returned (.tuple #[.agg #[.string ⟨sn.1.toArray⟩, .int .i64 (sn.2 : Int)], .int .u64 (n64 (UInt64.ofNat v))]) ∧ Gr wr.drew w')
            rw [hgt] at hsnl
            replace hgt := Lib.hid hgt
            go_wp2
            go_region_with (go_at_call 15; refine hn.out.mono ?_; rintro e w3 ⟨rfl, hg3⟩; obtain ⟨⟨f0, d0, f1, d1, d2, f2⟩, hw3, hW, hRW, hBW⟩ := ref_after hbo'.out ((Gr.drew (Gr.refl wr)).trans hg3) sn; have eW3 := cell_later (p := ⟨(ad.add (k * 5)).block, (ad.add (k * 5)).off + 2, none⟩) hbo'.out.below hw3 (by exact hlt0) e2; have eW := cell_later (p := ⟨(ad.add (k * 5)).block, (ad.add (k * 5)).off + 2, none⟩) hbo'.out.below hW (by exact hlt0) e2; replace hW := Lib.hid hW; replace hRW := Lib.hid hRW; replace hBW := Lib.hid hBW; clear hw3 hg3)
            all_goals
              have hn2 := Lib.hid (by have h := rnum_any g s a.m ((w3.setCell ⟨b, 0, none⟩ (.string ⟨sn.1.toArray⟩)).setCell ⟨b, 1, none⟩ (.int .i64 (sn.2 : Int))) hRW.out; rw [hgt.out] at h; exact h : Calls Try.prog 12 #[.pointer (some ⟨g, 0, none⟩), .int .u64 (n64 a.m)] ((w3.setCell ⟨b, 0, none⟩ (.string ⟨sn.1.toArray⟩)).setCell ⟨b, 1, none⟩ (.int .i64 (sn.2 : Int))) fun e w' => e = .returned (.int .u64 (n64 (UInt64.ofNat v))) ∧ Rdr w' g sn ∧ Kb g ((w3.setCell ⟨b, 0, none⟩ (.string ⟨sn.1.toArray⟩)).setCell ⟨b, 1, none⟩ (.int .i64 (sn.2 : Int))) w')
              go_wp2_with fail
              refine hn2.out.mono ?_
              rintro e w5 ⟨rfl, hR5, hk5⟩
              have hR5' := Lib.hid hR5
              have hB5' : Hid (RefB w5 b sn) := Lib.hid (hk5.blk hBW.out (ref_ne hRW.out hBW.out))
              have hW5 : Hid (Below w.heap.size w w5) := Lib.hid (Below.trans hW.out (Below.mono (hk5.below (Nat.le_of_lt hRW.out.lt)) hbo'.out.gs))
              clear hn2 hR5 hk5 hRW hBW hW
              go_wp2
              have hR5 := hR5'.out
              have b50 : w5.cell? ⟨b, 0, none⟩ = some (.string ⟨sn.1.toArray⟩) := Blk.cell hB5'.out 0
              have b51 : w5.cell? ⟨b, 1, none⟩ = some (.int .i64 (sn.2 : Int)) := Blk.cell hB5'.out 1
              have hbl5 : b < w5.heap.size := Blk.lt hB5'.out
              refine region_grow (by kernel_rfl) (by kernel_rfl) ?_
              refine GW.mv rfl trivial (.inl rfl) (kn0 (t := 8) (c := .bool true) (by kernel_rfl) rfl) (eqv_lasts _) ?_
              refine GW.p1 (.bool false) rfl trivial (kn (t := 111) (j := 0) (by kernel_rfl)) (fun ρ w' hρ hg => by simp [execOp, hρ, go_sem]) ?_
              refine GW.mv rfl trivial (.inl rfl) (kn (t := 112) (j := 1) (by kernel_rfl)) (eqv_lasts _) ?_
              refine GW.mv rfl ⟨113, by kernel_rfl, by kernel_rfl, fun _ _ h => h⟩ (.inl rfl) (kn0 (t := 5) (c := .pointer (some ⟨g, 0, none⟩)) (by kernel_rfl) rfl) (eqv_lasts _) ?_
              refine GW.call1 (eqv (.int .i64 (sn.1.length : Int))) rfl ⟨113, by kernel_rfl, by kernel_rfl, fun _ _ h => h⟩ rfl Try.func22 (by kernel_rfl) (by kernel_rfl) (eqv_lasts _) (kn (t := 114) (j := 3) (by kernel_rfl)) (fun v w' hg hv => ?_) ?_
              · obtain rfl : v = _ := hv
                refine (left_any g sn w' (hR5.gr hg)).mono ?_
                rintro e w6 ⟨rfl, rfl⟩
                exact ⟨_, rfl, rfl, Gr.refl _⟩
              refine GW.p1 (.pointer (some ⟨b, 0, none⟩)) rfl ⟨113, by kernel_rfl, by kernel_rfl, fun _ _ h => h⟩ (kn0 (t := 6) (c := .pointer (some ⟨b, 0, none⟩)) (by kernel_rfl) rfl) (fun ρ w' hρ hg => by simp [execOp, hρ, go_sem]) ?_
              refine GW.p1 (str sn.1) rfl ⟨113, by kernel_rfl, by kernel_rfl, fun _ _ h => h⟩ (kn (t := 116) (j := 5) (by kernel_rfl)) (fun ρ w' hρ hg => by have h0 := (hg.cell (p := ⟨b, 0, none⟩) (by show b < _; exact hbl5)).trans b50; simp [execOp, hρ, go_sem, h0]) ?_
              refine GW.lenS sn.1 rfl ⟨113, by kernel_rfl, by kernel_rfl, fun _ _ h => h⟩ rfl Try.underlying9 (kn (t := 117) (j := 6) (by kernel_rfl)) ?_
              refine GW.bin (.bool false) rfl ⟨113, by kernel_rfl, by kernel_rfl, fun _ _ h => h⟩ rfl (kn (t := 115) (j := 4) (by kernel_rfl)) (kn (t := 118) (j := 7) (by kernel_rfl)) (fun w' => run_neq_int rfl _ _ _ w') ?_
              refine GW.pick (b := false) rfl trivial rfl (kn (t := 113) (j := 2) (by kernel_rfl)) (kn (t := 119) (j := 8) (by kernel_rfl)) (eqv_lasts _) ?_
              refine GW.mv rfl trivial (.inl rfl) (kn (t := 120) (j := 9) (by kernel_rfl)) (eqv_lasts _) ?_
              refine GW.mv rfl ⟨121, by kernel_rfl, by kernel_rfl, fun _ _ h => h⟩ (.inl rfl) (kn0 (t := 5) (c := .pointer (some ⟨g, 0, none⟩)) (by kernel_rfl) rfl) (eqv_lasts _) ?_
              refine GW.call1 (eqv (.int .i64 (ended sn : Int))) rfl ⟨121, by kernel_rfl, by kernel_rfl, fun _ _ h => h⟩ rfl Try.func13 (by kernel_rfl) (by kernel_rfl) (eqv_lasts _) (kn (t := 122) (j := 11) (by kernel_rfl)) (fun v w' hg hv => ?_) ?_
              · obtain rfl : v = _ := hv
                refine (end_any g sn w' (hR5.gr hg)).mono ?_
                rintro e w6 ⟨rfl, rfl⟩
                exact ⟨_, rfl, rfl, Gr.refl _⟩
              refine GW.p1 (rsV sn) rfl ⟨121, by kernel_rfl, by kernel_rfl, fun _ _ h => h⟩ (kn0 (t := 6) (c := .pointer (some ⟨b, 0, none⟩)) (by kernel_rfl) rfl) (fun ρ w' hρ hg => by have h0 := (hg.cell (p := ⟨b, 0, none⟩) (by show b < _; exact hbl5)).trans b50; have h1 := (hg.cell (p := ⟨b, 1, none⟩) (by show b < _; exact hbl5)).trans b51; simp [execOp, hρ, go_sem, h0, h1]) ?_
              refine GW.call1 (eqv (.int .i64 (ended sn : Int))) rfl ⟨121, by kernel_rfl, by kernel_rfl, fun _ _ h => h⟩ rfl Try.func23 (by kernel_rfl) (by kernel_rfl) (eqv_lasts _) (kn (t := 124) (j := 13) (by kernel_rfl)) (fun v w' hg hv => ?_) ?_
              · obtain rfl : v = _ := hv
                refine (refEnd_any sn w').mono ?_
                rintro e w6 ⟨rfl, hg6⟩
                exact ⟨_, rfl, rfl, hg6⟩
              refine GW.bin (.bool false) rfl ⟨121, by kernel_rfl, by kernel_rfl, fun _ _ h => h⟩ rfl (kn (t := 123) (j := 12) (by kernel_rfl)) (kn (t := 125) (j := 14) (by kernel_rfl)) (fun w' => run_neq_int rfl _ _ _ w') ?_
              refine GW.pick (b := false) rfl trivial rfl (kn (t := 121) (j := 10) (by kernel_rfl)) (kn (t := 126) (j := 15) (by kernel_rfl)) (eqv_lasts _) ?_
              refine GW.done (by simp) (by kernel_rfl) (fun w' hg => ?_)
              intro v0 _ v1 _ v2 _ v3 _ v4 _ v5 _ v6 _ v7 _ v8 _ v9 _ v10 _ v11 _ v12 _ v13 _ v14 _ v15 _ v16 h16
              obtain rfl : v16 = (.bool false) := h16
              simp only [GFin, Act.put, List.setIfInBounds_toArray, List.set_cons_succ, List.set_cons_zero]
              have hbo6 : Hid (Both w w' g b sn) := Lib.hid ⟨hR5.gr hg, Blk.below hB5'.out hg hbl5, Below.trans hW5.out (Below.mono hg hW5.out.size), hbo'.out.gs, hbo'.out.bs, hsnl.out⟩
              clear hR5 b50 b51 hbl5 hR5' hB5' hW5 hg
              go_wp2
              go_roundw
              case rel => exact ⟨k + 1, sn, by omega, by go_num, hbo6.out⟩
              case measure => simp [intOf]; omega

          · by_cases h1 : a.kind = 1
            · have z0 : (a.kind == 0) = false := by simp [h1]
              have z1 : (a.kind == 1) = true := by simp [h1]
              clear h0 h1
              have hsnl : Hid ((get s a.k.toNat).1.1.length ≤ 400) := Lib.hid (Nat.le_trans (get_len s a.k.toNat) hbo'.out.len)
              obtain ⟨⟨sn, v⟩, hgt⟩ : ∃ r, get s a.k.toNat = r := ⟨_, rfl⟩
              have hn := Lib.hid (by have h := refInt_any s a.k wr.drew hk63 (Nat.le_trans hbo'.out.len (by omega)); rw [hgt] at h; exact h : Calls Try.prog 16 #[.agg #[.string ⟨s.1.toArray⟩, .int .i64 (s.2 : Int)], .int .i64 a.k] wr.drew fun e w' => e = .returned (.tuple #[.agg #[.string ⟨sn.1.toArray⟩, .int .i64 (sn.2 : Int)], .int .i64 (v : Int)]) ∧ Gr wr.drew w')
              rw [hgt] at hsnl
              replace hgt := Lib.hid hgt
              go_wp2
              go_region_with (go_at_call 16; refine hn.out.mono ?_; rintro e w3 ⟨rfl, hg3⟩; obtain ⟨⟨f0, d0, f1, d1, d2, f2⟩, hw3, hW, hRW, hBW⟩ := ref_after hbo'.out ((Gr.drew (Gr.refl wr)).trans hg3) sn; have eW3 := cell_later (p := ⟨(ad.add (k * 5)).block, (ad.add (k * 5)).off + 3, none⟩) hbo'.out.below hw3 (by exact hlt0) e3; have eW := cell_later (p := ⟨(ad.add (k * 5)).block, (ad.add (k * 5)).off + 3, none⟩) hbo'.out.below hW (by exact hlt0) e3; replace hW := Lib.hid hW; replace hRW := Lib.hid hRW; replace hBW := Lib.hid hBW; clear hw3 hg3)
              all_goals
                have hn2 := Lib.hid (by have h := rint_any g s a.k ((w3.setCell ⟨b, 0, none⟩ (.string ⟨sn.1.toArray⟩)).setCell ⟨b, 1, none⟩ (.int .i64 (sn.2 : Int))) hk63 hRW.out; rw [hgt.out] at h; exact h : Calls Try.prog 17 #[.pointer (some ⟨g, 0, none⟩), .int .i64 a.k] ((w3.setCell ⟨b, 0, none⟩ (.string ⟨sn.1.toArray⟩)).setCell ⟨b, 1, none⟩ (.int .i64 (sn.2 : Int))) fun e w' => e = .returned (.int .i64 (v : Int)) ∧ Rdr w' g sn ∧ Kb g ((w3.setCell ⟨b, 0, none⟩ (.string ⟨sn.1.toArray⟩)).setCell ⟨b, 1, none⟩ (.int .i64 (sn.2 : Int))) w')
                go_wp2_with fail
                refine hn2.out.mono ?_
                rintro e w5 ⟨rfl, hR5, hk5⟩
                have hR5' := Lib.hid hR5
                have hB5' : Hid (RefB w5 b sn) := Lib.hid (hk5.blk hBW.out (ref_ne hRW.out hBW.out))
                have hW5 : Hid (Below w.heap.size w w5) := Lib.hid (Below.trans hW.out (Below.mono (hk5.below (Nat.le_of_lt hRW.out.lt)) hbo'.out.gs))
                clear hn2 hR5 hk5 hRW hBW hW
                go_wp2
                have hR5 := hR5'.out
                have b50 : w5.cell? ⟨b, 0, none⟩ = some (.string ⟨sn.1.toArray⟩) := Blk.cell hB5'.out 0
                have b51 : w5.cell? ⟨b, 1, none⟩ = some (.int .i64 (sn.2 : Int)) := Blk.cell hB5'.out 1
                have hbl5 : b < w5.heap.size := Blk.lt hB5'.out
                refine region_grow (by kernel_rfl) (by kernel_rfl) ?_
                refine GW.mv rfl trivial (.inl rfl) (kn0 (t := 8) (c := .bool true) (by kernel_rfl) rfl) (eqv_lasts _) ?_
                refine GW.p1 (.bool false) rfl trivial (kn (t := 111) (j := 0) (by kernel_rfl)) (fun ρ w' hρ hg => by simp [execOp, hρ, go_sem]) ?_
                refine GW.mv rfl trivial (.inl rfl) (kn (t := 112) (j := 1) (by kernel_rfl)) (eqv_lasts _) ?_
                refine GW.mv rfl ⟨113, by kernel_rfl, by kernel_rfl, fun _ _ h => h⟩ (.inl rfl) (kn0 (t := 5) (c := .pointer (some ⟨g, 0, none⟩)) (by kernel_rfl) rfl) (eqv_lasts _) ?_
                refine GW.call1 (eqv (.int .i64 (sn.1.length : Int))) rfl ⟨113, by kernel_rfl, by kernel_rfl, fun _ _ h => h⟩ rfl Try.func22 (by kernel_rfl) (by kernel_rfl) (eqv_lasts _) (kn (t := 114) (j := 3) (by kernel_rfl)) (fun v w' hg hv => ?_) ?_
                · obtain rfl : v = _ := hv
                  refine (left_any g sn w' (hR5.gr hg)).mono ?_
                  rintro e w6 ⟨rfl, rfl⟩
                  exact ⟨_, rfl, rfl, Gr.refl _⟩
                refine GW.p1 (.pointer (some ⟨b, 0, none⟩)) rfl ⟨113, by kernel_rfl, by kernel_rfl, fun _ _ h => h⟩ (kn0 (t := 6) (c := .pointer (some ⟨b, 0, none⟩)) (by kernel_rfl) rfl) (fun ρ w' hρ hg => by simp [execOp, hρ, go_sem]) ?_
                refine GW.p1 (str sn.1) rfl ⟨113, by kernel_rfl, by kernel_rfl, fun _ _ h => h⟩ (kn (t := 116) (j := 5) (by kernel_rfl)) (fun ρ w' hρ hg => by have h0 := (hg.cell (p := ⟨b, 0, none⟩) (by show b < _; exact hbl5)).trans b50; simp [execOp, hρ, go_sem, h0]) ?_
                refine GW.lenS sn.1 rfl ⟨113, by kernel_rfl, by kernel_rfl, fun _ _ h => h⟩ rfl Try.underlying9 (kn (t := 117) (j := 6) (by kernel_rfl)) ?_
                refine GW.bin (.bool false) rfl ⟨113, by kernel_rfl, by kernel_rfl, fun _ _ h => h⟩ rfl (kn (t := 115) (j := 4) (by kernel_rfl)) (kn (t := 118) (j := 7) (by kernel_rfl)) (fun w' => run_neq_int rfl _ _ _ w') ?_
                refine GW.pick (b := false) rfl trivial rfl (kn (t := 113) (j := 2) (by kernel_rfl)) (kn (t := 119) (j := 8) (by kernel_rfl)) (eqv_lasts _) ?_
                refine GW.mv rfl trivial (.inl rfl) (kn (t := 120) (j := 9) (by kernel_rfl)) (eqv_lasts _) ?_
                refine GW.mv rfl ⟨121, by kernel_rfl, by kernel_rfl, fun _ _ h => h⟩ (.inl rfl) (kn0 (t := 5) (c := .pointer (some ⟨g, 0, none⟩)) (by kernel_rfl) rfl) (eqv_lasts _) ?_
                refine GW.call1 (eqv (.int .i64 (ended sn : Int))) rfl ⟨121, by kernel_rfl, by kernel_rfl, fun _ _ h => h⟩ rfl Try.func13 (by kernel_rfl) (by kernel_rfl) (eqv_lasts _) (kn (t := 122) (j := 11) (by kernel_rfl)) (fun v w' hg hv => ?_) ?_
                · obtain rfl : v = _ := hv
                  refine (end_any g sn w' (hR5.gr hg)).mono ?_
                  rintro e w6 ⟨rfl, rfl⟩
                  exact ⟨_, rfl, rfl, Gr.refl _⟩
                refine GW.p1 (rsV sn) rfl ⟨121, by kernel_rfl, by kernel_rfl, fun _ _ h => h⟩ (kn0 (t := 6) (c := .pointer (some ⟨b, 0, none⟩)) (by kernel_rfl) rfl) (fun ρ w' hρ hg => by have h0 := (hg.cell (p := ⟨b, 0, none⟩) (by show b < _; exact hbl5)).trans b50; have h1 := (hg.cell (p := ⟨b, 1, none⟩) (by show b < _; exact hbl5)).trans b51; simp [execOp, hρ, go_sem, h0, h1]) ?_
                refine GW.call1 (eqv (.int .i64 (ended sn : Int))) rfl ⟨121, by kernel_rfl, by kernel_rfl, fun _ _ h => h⟩ rfl Try.func23 (by kernel_rfl) (by kernel_rfl) (eqv_lasts _) (kn (t := 124) (j := 13) (by kernel_rfl)) (fun v w' hg hv => ?_) ?_
                · obtain rfl : v = _ := hv
                  refine (refEnd_any sn w').mono ?_
                  rintro e w6 ⟨rfl, hg6⟩
                  exact ⟨_, rfl, rfl, hg6⟩
                refine GW.bin (.bool false) rfl ⟨121, by kernel_rfl, by kernel_rfl, fun _ _ h => h⟩ rfl (kn (t := 123) (j := 12) (by kernel_rfl)) (kn (t := 125) (j := 14) (by kernel_rfl)) (fun w' => run_neq_int rfl _ _ _ w') ?_
                refine GW.pick (b := false) rfl trivial rfl (kn (t := 121) (j := 10) (by kernel_rfl)) (kn (t := 126) (j := 15) (by kernel_rfl)) (eqv_lasts _) ?_
                refine GW.done (by simp) (by kernel_rfl) (fun w' hg => ?_)
                intro v0 _ v1 _ v2 _ v3 _ v4 _ v5 _ v6 _ v7 _ v8 _ v9 _ v10 _ v11 _ v12 _ v13 _ v14 _ v15 _ v16 h16
                obtain rfl : v16 = (.bool false) := h16
                simp only [GFin, Act.put, List.setIfInBounds_toArray, List.set_cons_succ, List.set_cons_zero]
                have hbo6 : Hid (Both w w' g b sn) := Lib.hid ⟨hR5.gr hg, Blk.below hB5'.out hg hbl5, Below.trans hW5.out (Below.mono hg hW5.out.size), hbo'.out.gs, hbo'.out.bs, hsnl.out⟩
                clear hR5 b50 b51 hbl5 hR5' hB5' hW5 hg
                go_wp2
                go_roundw
                case rel => exact ⟨k + 1, sn, by omega, by go_num, hbo6.out⟩
                case measure => simp [intOf]; omega

            · by_cases h2 : a.kind = 2
              · have z0 : (a.kind == 0) = false := by simp [h2]
                have z1 : (a.kind == 1) = false := by simp [h2]
                have z2 : (a.kind == 2) = true := by simp [h2]
                clear h0 h1 h2
                have hsnl : Hid ((getText s a.k.toNat).1.1.length ≤ 400) := Lib.hid (Nat.le_trans (getText_len s a.k.toNat) hbo'.out.len)
                obtain ⟨⟨sn, v⟩, hgt⟩ : ∃ r, getText s a.k.toNat = r := ⟨_, rfl⟩
                have hn := Lib.hid (by have h := refText2_any s a.k wr.drew hk63 (Nat.le_trans hbo'.out.len (by omega)); rw [hgt] at h; exact h : Calls Try.prog 18 #[.agg #[.string ⟨s.1.toArray⟩, .int .i64 (s.2 : Int)], .int .i64 a.k] wr.drew fun e w' => e = .returned (.tuple #[.agg #[.string ⟨sn.1.toArray⟩, .int .i64 (sn.2 : Int)], .string ⟨v.toArray⟩]) ∧ Gr wr.drew w')
                rw [hgt] at hsnl
                replace hgt := Lib.hid hgt
                go_wp2
                go_region_with (go_at_call 18; refine hn.out.mono ?_; rintro e w3 ⟨rfl, hg3⟩; obtain ⟨⟨f0, d0, f1, d1, d2, f2⟩, hw3, hW, hRW, hBW⟩ := ref_after hbo'.out ((Gr.drew (Gr.refl wr)).trans hg3) sn; have eW3 := cell_later (p := ⟨(ad.add (k * 5)).block, (ad.add (k * 5)).off + 3, none⟩) hbo'.out.below hw3 (by exact hlt0) e3; have eW := cell_later (p := ⟨(ad.add (k * 5)).block, (ad.add (k * 5)).off + 3, none⟩) hbo'.out.below hW (by exact hlt0) e3; replace hW := Lib.hid hW; replace hRW := Lib.hid hRW; replace hBW := Lib.hid hBW; clear hw3 hg3)
                all_goals
                  have hn2 := Lib.hid (by have h := rtext_any g s a.k ((w3.setCell ⟨b, 0, none⟩ (.string ⟨sn.1.toArray⟩)).setCell ⟨b, 1, none⟩ (.int .i64 (sn.2 : Int))) hk63 hRW.out; rw [hgt.out] at h; exact h : Calls Try.prog 19 #[.pointer (some ⟨g, 0, none⟩), .int .i64 a.k] ((w3.setCell ⟨b, 0, none⟩ (.string ⟨sn.1.toArray⟩)).setCell ⟨b, 1, none⟩ (.int .i64 (sn.2 : Int))) fun e w' => e = .returned (str v) ∧ Rdr w' g sn ∧ Kb g ((w3.setCell ⟨b, 0, none⟩ (.string ⟨sn.1.toArray⟩)).setCell ⟨b, 1, none⟩ (.int .i64 (sn.2 : Int))) w')
                  go_wp2_with fail
                  refine hn2.out.mono ?_
                  rintro e w5 ⟨rfl, hR5, hk5⟩
                  have hR5' := Lib.hid hR5
                  have hB5' : Hid (RefB w5 b sn) := Lib.hid (hk5.blk hBW.out (ref_ne hRW.out hBW.out))
                  have hW5 : Hid (Below w.heap.size w w5) := Lib.hid (Below.trans hW.out (Below.mono (hk5.below (Nat.le_of_lt hRW.out.lt)) hbo'.out.gs))
                  clear hn2 hR5 hk5 hRW hBW hW
                  go_wp2
                  have hR5 := hR5'.out
                  have b50 : w5.cell? ⟨b, 0, none⟩ = some (.string ⟨sn.1.toArray⟩) := Blk.cell hB5'.out 0
                  have b51 : w5.cell? ⟨b, 1, none⟩ = some (.int .i64 (sn.2 : Int)) := Blk.cell hB5'.out 1
                  have hbl5 : b < w5.heap.size := Blk.lt hB5'.out
                  refine region_grow (by kernel_rfl) (by kernel_rfl) ?_
                  refine GW.mv rfl trivial (.inl rfl) (kn0 (t := 8) (c := .bool true) (by kernel_rfl) rfl) (eqv_lasts _) ?_
                  refine GW.p1 (.bool false) rfl trivial (kn (t := 111) (j := 0) (by kernel_rfl)) (fun ρ w' hρ hg => by simp [execOp, hρ, go_sem]) ?_
                  refine GW.mv rfl trivial (.inl rfl) (kn (t := 112) (j := 1) (by kernel_rfl)) (eqv_lasts _) ?_
                  refine GW.mv rfl ⟨113, by kernel_rfl, by kernel_rfl, fun _ _ h => h⟩ (.inl rfl) (kn0 (t := 5) (c := .pointer (some ⟨g, 0, none⟩)) (by kernel_rfl) rfl) (eqv_lasts _) ?_
                  refine GW.call1 (eqv (.int .i64 (sn.1.length : Int))) rfl ⟨113, by kernel_rfl, by kernel_rfl, fun _ _ h => h⟩ rfl Try.func22 (by kernel_rfl) (by kernel_rfl) (eqv_lasts _) (kn (t := 114) (j := 3) (by kernel_rfl)) (fun v w' hg hv => ?_) ?_
                  · obtain rfl : v = _ := hv
                    refine (left_any g sn w' (hR5.gr hg)).mono ?_
                    rintro e w6 ⟨rfl, rfl⟩
                    exact ⟨_, rfl, rfl, Gr.refl _⟩
                  refine GW.p1 (.pointer (some ⟨b, 0, none⟩)) rfl ⟨113, by kernel_rfl, by kernel_rfl, fun _ _ h => h⟩ (kn0 (t := 6) (c := .pointer (some ⟨b, 0, none⟩)) (by kernel_rfl) rfl) (fun ρ w' hρ hg => by simp [execOp, hρ, go_sem]) ?_
                  refine GW.p1 (str sn.1) rfl ⟨113, by kernel_rfl, by kernel_rfl, fun _ _ h => h⟩ (kn (t := 116) (j := 5) (by kernel_rfl)) (fun ρ w' hρ hg => by have h0 := (hg.cell (p := ⟨b, 0, none⟩) (by show b < _; exact hbl5)).trans b50; simp [execOp, hρ, go_sem, h0]) ?_
                  refine GW.lenS sn.1 rfl ⟨113, by kernel_rfl, by kernel_rfl, fun _ _ h => h⟩ rfl Try.underlying9 (kn (t := 117) (j := 6) (by kernel_rfl)) ?_
                  refine GW.bin (.bool false) rfl ⟨113, by kernel_rfl, by kernel_rfl, fun _ _ h => h⟩ rfl (kn (t := 115) (j := 4) (by kernel_rfl)) (kn (t := 118) (j := 7) (by kernel_rfl)) (fun w' => run_neq_int rfl _ _ _ w') ?_
                  refine GW.pick (b := false) rfl trivial rfl (kn (t := 113) (j := 2) (by kernel_rfl)) (kn (t := 119) (j := 8) (by kernel_rfl)) (eqv_lasts _) ?_
                  refine GW.mv rfl trivial (.inl rfl) (kn (t := 120) (j := 9) (by kernel_rfl)) (eqv_lasts _) ?_
                  refine GW.mv rfl ⟨121, by kernel_rfl, by kernel_rfl, fun _ _ h => h⟩ (.inl rfl) (kn0 (t := 5) (c := .pointer (some ⟨g, 0, none⟩)) (by kernel_rfl) rfl) (eqv_lasts _) ?_
                  refine GW.call1 (eqv (.int .i64 (ended sn : Int))) rfl ⟨121, by kernel_rfl, by kernel_rfl, fun _ _ h => h⟩ rfl Try.func13 (by kernel_rfl) (by kernel_rfl) (eqv_lasts _) (kn (t := 122) (j := 11) (by kernel_rfl)) (fun v w' hg hv => ?_) ?_
                  · obtain rfl : v = _ := hv
                    refine (end_any g sn w' (hR5.gr hg)).mono ?_
                    rintro e w6 ⟨rfl, rfl⟩
                    exact ⟨_, rfl, rfl, Gr.refl _⟩
                  refine GW.p1 (rsV sn) rfl ⟨121, by kernel_rfl, by kernel_rfl, fun _ _ h => h⟩ (kn0 (t := 6) (c := .pointer (some ⟨b, 0, none⟩)) (by kernel_rfl) rfl) (fun ρ w' hρ hg => by have h0 := (hg.cell (p := ⟨b, 0, none⟩) (by show b < _; exact hbl5)).trans b50; have h1 := (hg.cell (p := ⟨b, 1, none⟩) (by show b < _; exact hbl5)).trans b51; simp [execOp, hρ, go_sem, h0, h1]) ?_
                  refine GW.call1 (eqv (.int .i64 (ended sn : Int))) rfl ⟨121, by kernel_rfl, by kernel_rfl, fun _ _ h => h⟩ rfl Try.func23 (by kernel_rfl) (by kernel_rfl) (eqv_lasts _) (kn (t := 124) (j := 13) (by kernel_rfl)) (fun v w' hg hv => ?_) ?_
                  · obtain rfl : v = _ := hv
                    refine (refEnd_any sn w').mono ?_
                    rintro e w6 ⟨rfl, hg6⟩
                    exact ⟨_, rfl, rfl, hg6⟩
                  refine GW.bin (.bool false) rfl ⟨121, by kernel_rfl, by kernel_rfl, fun _ _ h => h⟩ rfl (kn (t := 123) (j := 12) (by kernel_rfl)) (kn (t := 125) (j := 14) (by kernel_rfl)) (fun w' => run_neq_int rfl _ _ _ w') ?_
                  refine GW.pick (b := false) rfl trivial rfl (kn (t := 121) (j := 10) (by kernel_rfl)) (kn (t := 126) (j := 15) (by kernel_rfl)) (eqv_lasts _) ?_
                  refine GW.done (by simp) (by kernel_rfl) (fun w' hg => ?_)
                  intro v0 _ v1 _ v2 _ v3 _ v4 _ v5 _ v6 _ v7 _ v8 _ v9 _ v10 _ v11 _ v12 _ v13 _ v14 _ v15 _ v16 h16
                  obtain rfl : v16 = (.bool false) := h16
                  simp only [GFin, Act.put, List.setIfInBounds_toArray, List.set_cons_succ, List.set_cons_zero]
                  have hbo6 : Hid (Both w w' g b sn) := Lib.hid ⟨hR5.gr hg, Blk.below hB5'.out hg hbl5, Below.trans hW5.out (Below.mono hg hW5.out.size), hbo'.out.gs, hbo'.out.bs, hsnl.out⟩
                  clear hR5 b50 b51 hbl5 hR5' hB5' hW5 hg
                  go_wp2
                  go_roundw
                  case rel => exact ⟨k + 1, sn, by omega, by go_num, hbo6.out⟩
                  case measure => simp [intOf]; omega

              · have z0 : (a.kind == 0) = false := by simp [h0]
                have z1 : (a.kind == 1) = false := by simp [h1]
                have z2 : (a.kind == 2) = false := by simp [h2]
                clear h0 h1 h2
                have hsnl : Hid ((getSum s).1.1.length ≤ 400) := Lib.hid (Nat.le_trans (getSum_len s) hbo'.out.len)
                obtain ⟨⟨sn, v⟩, hgt⟩ : ∃ r, getSum s = r := ⟨_, rfl⟩
                have hga : Gr wr (wr.alloc (.cells #[.int .u64 0, .int .u64 0] 50)) := (Gr.refl wr).alloc _
                have hz := Blk.new wr 50 #[.int .u64 0, .int .u64 0]
                have hn := Lib.hid (by have h := refSum2_any s (wr.alloc (.cells #[.int .u64 0, .int .u64 0] 50)) (Nat.le_trans hbo'.out.len (by omega)); rw [hgt] at h; exact h : Calls Try.prog 20 #[.agg #[.string ⟨s.1.toArray⟩, .int .i64 (s.2 : Int)]] (wr.alloc (.cells #[.int .u64 0, .int .u64 0] 50)) fun e w' => e = .returned (.tuple #[.agg #[.string ⟨sn.1.toArray⟩, .int .i64 (sn.2 : Int)], .agg #[.int .u64 (n64 v.1), .int .u64 (n64 v.2)]]) ∧ Gr (wr.alloc (.cells #[.int .u64 0, .int .u64 0] 50)) w')
                rw [hgt] at hsnl
                replace hgt := Lib.hid hgt
                have b0z : (wr.alloc (.cells #[.int .u64 0, .int .u64 0] 50)).cell? ⟨b, 0, none⟩ = some (.string ⟨s.1.toArray⟩) := (Blk.alloc hbo'.out.ref _).cell 0
                have b1z : (wr.alloc (.cells #[.int .u64 0, .int .u64 0] 50)).cell? ⟨b, 1, none⟩ = some (.int .i64 (s.2 : Int)) := (Blk.alloc hbo'.out.ref _).cell 1
                replace hga := Lib.hid hga
                replace hz := Lib.hid hz
                go_wp2_with fail
                refine hn.out.mono ?_
                rintro e w3 ⟨rfl, hg3⟩
                have hg3' : Gr wr w3 := hga.out.trans hg3
                have hB3 : RefB w3 b s := Blk.below hbo'.out.ref hg3' hbl
                have hZ3 := hz.out.below hg3 hz.out.lt
                have hbz : b ≠ wr.heap.size := Nat.ne_of_lt hbl
                obtain ⟨⟨f0, d0, f1, d1⟩, ⟨f2, d2, f3, d3⟩, ⟨f4, d4, f5, d5, f6, d6⟩, hbB, hbZ⟩ := pair2 hB3 hZ3 hbz (.string ⟨sn.1.toArray⟩) (.int .i64 (sn.2 : Int)) (.int .u64 (n64 v.1)) (.int .u64 (n64 v.2))
                have hw3 : Below w.heap.size w w3 := Below.trans hbo'.out.below (Below.mono hg3' hbo'.out.below.size)
                have hW : Hid (Below w.heap.size w ((((w3.setCell ⟨b, 0, none⟩ (.string ⟨sn.1.toArray⟩)).setCell ⟨b, 1, none⟩ (.int .i64 (sn.2 : Int))).setCell ⟨wr.heap.size, 0, none⟩ (.int .u64 (n64 v.1))).setCell ⟨wr.heap.size, 1, none⟩ (.int .u64 (n64 v.2)))) := Lib.hid (below4 hw3 hbo'.out.bs hbo'.out.below.size _ _ _ _)
                have hRW : Hid (Rdr ((((w3.setCell ⟨b, 0, none⟩ (.string ⟨sn.1.toArray⟩)).setCell ⟨b, 1, none⟩ (.int .i64 (sn.2 : Int))).setCell ⟨wr.heap.size, 0, none⟩ (.int .u64 (n64 v.1))).setCell ⟨wr.heap.size, 1, none⟩ (.int .u64 (n64 v.2))) g s) := Lib.hid (((ref_store (hbo'.out.rdr.gr hg3') hB3 _ _).far hbo'.out.rdr.lt 0 _).far hbo'.out.rdr.lt 1 _)
                have hBW : Hid (RefB ((((w3.setCell ⟨b, 0, none⟩ (.string ⟨sn.1.toArray⟩)).setCell ⟨b, 1, none⟩ (.int .i64 (sn.2 : Int))).setCell ⟨wr.heap.size, 0, none⟩ (.int .u64 (n64 v.1))).setCell ⟨wr.heap.size, 1, none⟩ (.int .u64 (n64 v.2))) b sn) := Lib.hid hbB
                have hZW : Hid (Blk ((((w3.setCell ⟨b, 0, none⟩ (.string ⟨sn.1.toArray⟩)).setCell ⟨b, 1, none⟩ (.int .i64 (sn.2 : Int))).setCell ⟨wr.heap.size, 0, none⟩ (.int .u64 (n64 v.1))).setCell ⟨wr.heap.size, 1, none⟩ (.int .u64 (n64 v.2))) wr.heap.size 50 #[.int .u64 (n64 v.1), .int .u64 (n64 v.2)]) := Lib.hid hbZ
                have y0 := hbZ.cell 0
                have y1 := hbZ.cell 1
                have hzg : wr.heap.size ≠ g := (Nat.ne_of_gt hbo'.out.rdr.lt)
                clear hn hg3 hg3' hB3 hZ3 hbB hbZ hw3 b0z b1z hga hz
                go_wp2
                generalize ((((w3.setCell ⟨b, 0, none⟩ (.string ⟨sn.1.toArray⟩)).setCell ⟨b, 1, none⟩ (.int .i64 (sn.2 : Int))).setCell ⟨wr.heap.size, 0, none⟩ (.int .u64 (n64 v.1))).setCell ⟨wr.heap.size, 1, none⟩ (.int .u64 (n64 v.2))) = wW at *
                have hn2 := Lib.hid (by have h := rsum_any g s wW.drew hRW.out; rw [hgt.out] at h; exact h : Calls Try.prog 21 #[.pointer (some ⟨g, 0, none⟩)] wW.drew fun e w' => e = .returned (.agg #[.int .u64 (n64 v.1), .int .u64 (n64 v.2)]) ∧ Rdr w' g sn ∧ Kb g wW.drew w')
                go_region_with (go_at_call 21; refine hn2.out.mono ?_; rintro e w5 ⟨rfl, hR5, hk5⟩; have x0 := ((hk5.blk hZW.out hzg).cell 0); have x1 := ((hk5.blk hZW.out hzg).cell 1); have hR5' := Lib.hid hR5; have hk5' := Lib.hid hk5; clear hR5 hk5)
                all_goals
                  simp only [Act.put, List.getElem_toArray, List.getElem_cons_succ, List.getElem_cons_zero, List.setIfInBounds_toArray, List.set_cons_succ, List.set_cons_zero]
                  have hB5' : Hid (RefB w5 b sn) := Lib.hid (hk5'.out.blk hBW.out (ref_ne hRW.out hBW.out))
                  have hW5 : Hid (Below w.heap.size w w5) := Lib.hid (Below.trans (Below.drew hW.out) (Below.mono (hk5'.out.below (Nat.le_of_lt hRW.out.lt)) hbo'.out.gs))
                  clear hn2 hk5' hRW hBW hW hZW f0 d0 f1 d1 f2 d2 f3 d3 f4 d4 f5 d5 f6 d6 y0 y1 x0 x1
                  go_wp2
                  have hR5 := hR5'.out
                  have b50 : w5.cell? ⟨b, 0, none⟩ = some (.string ⟨sn.1.toArray⟩) := Blk.cell hB5'.out 0
                  have b51 : w5.cell? ⟨b, 1, none⟩ = some (.int .i64 (sn.2 : Int)) := Blk.cell hB5'.out 1
                  have hbl5 : b < w5.heap.size := Blk.lt hB5'.out
                  refine region_grow (by kernel_rfl) (by kernel_rfl) ?_
                  refine GW.mv rfl trivial (.inl rfl) (kn0 (t := 8) (c := .bool true) (by kernel_rfl) rfl) (eqv_lasts _) ?_
                  refine GW.p1 (.bool false) rfl trivial (kn (t := 111) (j := 0) (by kernel_rfl)) (fun ρ w' hρ hg => by simp [execOp, hρ, go_sem]) ?_
                  refine GW.mv rfl trivial (.inl rfl) (kn (t := 112) (j := 1) (by kernel_rfl)) (eqv_lasts _) ?_
                  refine GW.mv rfl ⟨113, by kernel_rfl, by kernel_rfl, fun _ _ h => h⟩ (.inl rfl) (kn0 (t := 5) (c := .pointer (some ⟨g, 0, none⟩)) (by kernel_rfl) rfl) (eqv_lasts _) ?_
                  refine GW.call1 (eqv (.int .i64 (sn.1.length : Int))) rfl ⟨113, by kernel_rfl, by kernel_rfl, fun _ _ h => h⟩ rfl Try.func22 (by kernel_rfl) (by kernel_rfl) (eqv_lasts _) (kn (t := 114) (j := 3) (by kernel_rfl)) (fun v w' hg hv => ?_) ?_
                  · obtain rfl : v = _ := hv
                    refine (left_any g sn w' (hR5.gr hg)).mono ?_
                    rintro e w6 ⟨rfl, rfl⟩
                    exact ⟨_, rfl, rfl, Gr.refl _⟩
                  refine GW.p1 (.pointer (some ⟨b, 0, none⟩)) rfl ⟨113, by kernel_rfl, by kernel_rfl, fun _ _ h => h⟩ (kn0 (t := 6) (c := .pointer (some ⟨b, 0, none⟩)) (by kernel_rfl) rfl) (fun ρ w' hρ hg => by simp [execOp, hρ, go_sem]) ?_
                  refine GW.p1 (str sn.1) rfl ⟨113, by kernel_rfl, by kernel_rfl, fun _ _ h => h⟩ (kn (t := 116) (j := 5) (by kernel_rfl)) (fun ρ w' hρ hg => by have h0 := (hg.cell (p := ⟨b, 0, none⟩) (by show b < _; exact hbl5)).trans b50; simp [execOp, hρ, go_sem, h0]) ?_
                  refine GW.lenS sn.1 rfl ⟨113, by kernel_rfl, by kernel_rfl, fun _ _ h => h⟩ rfl Try.underlying9 (kn (t := 117) (j := 6) (by kernel_rfl)) ?_
                  refine GW.bin (.bool false) rfl ⟨113, by kernel_rfl, by kernel_rfl, fun _ _ h => h⟩ rfl (kn (t := 115) (j := 4) (by kernel_rfl)) (kn (t := 118) (j := 7) (by kernel_rfl)) (fun w' => run_neq_int rfl _ _ _ w') ?_
                  refine GW.pick (b := false) rfl trivial rfl (kn (t := 113) (j := 2) (by kernel_rfl)) (kn (t := 119) (j := 8) (by kernel_rfl)) (eqv_lasts _) ?_
                  refine GW.mv rfl trivial (.inl rfl) (kn (t := 120) (j := 9) (by kernel_rfl)) (eqv_lasts _) ?_
                  refine GW.mv rfl ⟨121, by kernel_rfl, by kernel_rfl, fun _ _ h => h⟩ (.inl rfl) (kn0 (t := 5) (c := .pointer (some ⟨g, 0, none⟩)) (by kernel_rfl) rfl) (eqv_lasts _) ?_
                  refine GW.call1 (eqv (.int .i64 (ended sn : Int))) rfl ⟨121, by kernel_rfl, by kernel_rfl, fun _ _ h => h⟩ rfl Try.func13 (by kernel_rfl) (by kernel_rfl) (eqv_lasts _) (kn (t := 122) (j := 11) (by kernel_rfl)) (fun v w' hg hv => ?_) ?_
                  · obtain rfl : v = _ := hv
                    refine (end_any g sn w' (hR5.gr hg)).mono ?_
                    rintro e w6 ⟨rfl, rfl⟩
                    exact ⟨_, rfl, rfl, Gr.refl _⟩
                  refine GW.p1 (rsV sn) rfl ⟨121, by kernel_rfl, by kernel_rfl, fun _ _ h => h⟩ (kn0 (t := 6) (c := .pointer (some ⟨b, 0, none⟩)) (by kernel_rfl) rfl) (fun ρ w' hρ hg => by have h0 := (hg.cell (p := ⟨b, 0, none⟩) (by show b < _; exact hbl5)).trans b50; have h1 := (hg.cell (p := ⟨b, 1, none⟩) (by show b < _; exact hbl5)).trans b51; simp [execOp, hρ, go_sem, h0, h1]) ?_
                  refine GW.call1 (eqv (.int .i64 (ended sn : Int))) rfl ⟨121, by kernel_rfl, by kernel_rfl, fun _ _ h => h⟩ rfl Try.func23 (by kernel_rfl) (by kernel_rfl) (eqv_lasts _) (kn (t := 124) (j := 13) (by kernel_rfl)) (fun v w' hg hv => ?_) ?_
                  · obtain rfl : v = _ := hv
                    refine (refEnd_any sn w').mono ?_
                    rintro e w6 ⟨rfl, hg6⟩
                    exact ⟨_, rfl, rfl, hg6⟩
                  refine GW.bin (.bool false) rfl ⟨121, by kernel_rfl, by kernel_rfl, fun _ _ h => h⟩ rfl (kn (t := 123) (j := 12) (by kernel_rfl)) (kn (t := 125) (j := 14) (by kernel_rfl)) (fun w' => run_neq_int rfl _ _ _ w') ?_
                  refine GW.pick (b := false) rfl trivial rfl (kn (t := 121) (j := 10) (by kernel_rfl)) (kn (t := 126) (j := 15) (by kernel_rfl)) (eqv_lasts _) ?_
                  refine GW.done (by simp) (by kernel_rfl) (fun w' hg => ?_)
                  intro v0 _ v1 _ v2 _ v3 _ v4 _ v5 _ v6 _ v7 _ v8 _ v9 _ v10 _ v11 _ v12 _ v13 _ v14 _ v15 _ v16 h16
                  obtain rfl : v16 = (.bool false) := h16
                  simp only [GFin, Act.put, List.setIfInBounds_toArray, List.set_cons_succ, List.set_cons_zero]
                  have hbo6 : Hid (Both w w' g b sn) := Lib.hid ⟨hR5.gr hg, Blk.below hB5'.out hg hbl5, Below.trans hW5.out (Below.mono hg hW5.out.size), hbo'.out.gs, hbo'.out.bs, hsnl.out⟩
                  clear hR5 b50 b51 hbl5 hR5' hB5' hW5 hg
                  go_wp2
                  go_roundw
                  case rel => exact ⟨k + 1, sn, by omega, by go_num, hbo6.out⟩
                  case measure => simp [intOf]; omega

        · obtain rfl : k = ls.length := by omega
          have haw := Lib.hid (awake_any wr)
          have hbw := Lib.hid hbo1.below
          clear hbo1
          go_wp2_with fail
          refine haw.out.mono ?_
          rintro e w1 ⟨v, rfl, hv, hg⟩
          obtain rfl : v = .bool true := hv
          have hgf : Hid (Gr w w1) := Lib.hid (Below.trans hbw.out (Below.mono hg hbw.out.size))
          clear haw hg
          go_wp2
          go_ret
          exact ⟨_, rfl, rfl, hgf.out⟩
  · have hff : few ls = false := by simpa using hf
    clear hm1 hr1 hl hf
    go_enter Try.func5, Try.ntmps5
    go_wp2_with fail
    refine hfw.out.mono ?_
    rintro e w1 ⟨rfl, rfl⟩
    clear hfw
    rw [hff]
    clear hff
    go_wp2_with fail
    refine haw.out.mono ?_
    rintro e w1 ⟨v, rfl, hv, hg⟩
    obtain rfl : v = .bool true := hv
    replace hg := Lib.hid hg
    clear haw
    go_wp2
    go_ret
    exact ⟨_, rfl, rfl, hg.out⟩
end Vint
end Go.Proofs.Ytblafmoidgmnfaa
