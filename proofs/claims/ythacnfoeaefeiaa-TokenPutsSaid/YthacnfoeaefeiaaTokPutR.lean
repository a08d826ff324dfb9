/- The walk of the document's Put. No condition but sizes. -/
import Derived.Test.YthacnfoeaefeiaaTokPutB
set_option linter.unusedVariables false
set_option linter.unusedSimpArgs false
namespace Go.Proofs.Ythacnfoeaefeiaa
open Go Go.RowKit W Vint
namespace Tk
theorem refNum_nat (n : Nat) (h : n < 18446744073709551616) (w : World) : Calls Try.prog 32 #[.int .u64 (n64 (UInt64.ofNat n))] w fun e w' => e = .returned (str (num n)) ∧ Gr w w' := by
  have e : (UInt64.ofNat n).toNat = n := by rw [UInt64.toNat_ofNat']; exact Nat.mod_eq_of_lt h
  have := refNum_any (UInt64.ofNat n) w
  rwa [e] at this
set_option maxRecDepth 100000 in
set_option maxHeartbeats 4000000 in
theorem refPutw_any (A : Option Addr) (c : Nat) (l : List Tok) (w : World) (hl : TR w w.heap.size A l) (hf : Fits l) (hk40 : l.length ≤ 1000000) :
    Calls Try.prog 20 #[.slice A l.length c] w fun e w' => e = .returned (str (putB l)) ∧ Gr w w' := by
  have hl' := Lib.hid hl
  have hf' := Lib.hid hf.2
  clear hl hf
  go_enter Try.func20, Try.ntmps20
  go_wp2
  go_loopw [3, 4] (fun b i wr => ∃ k : Nat, k ≤ l.length ∧ i = .int .i64 (k : Int) ∧ b = str (pre l k) ∧ Hid (∀ t ∈ l.take k, right t = true) ∧ Gr w wr) (fun _ i _ => l.length - (intOf i).toNat)
  case atStart => exact ⟨0, by omega, rfl, rfl, Lib.hid (by simp), Gr.refl w⟩
  case round =>
    obtain ⟨k, hk, rfl, rfl, ha, hg⟩ := hrel
    by_cases h : k < l.length
    · obtain ⟨ad, hA, hlt, e0, e1, e2⟩ := (hl'.out.below hg).at_ h
      subst hA
      have hfk := hf'.out l[k] (List.getElem_mem h)
      have hpl : (pre l k).length ≤ 1000000 * 16404 := by
        have h1 := pre_le (l.take k) ha.out
        have h2 : (l.take k).length ≤ 1000000 := by rw [List.length_take]; omega
        unfold pre
        exact Nat.le_trans h1 (Nat.mul_le_mul_right _ h2)
      have hro := Lib.hid (fun w => refRight_any l[k] w hfk)
      have hd := hfk.2.2.2.2
      have hlt2 : (ad.add (k * 3)).block < wr.heap.size := by rw [block_of_add]; exact Nat.lt_of_lt_of_le hlt (Below.size hg)
      have i1 : (0 : Int) ≤ (k : Int) := by omega
      have i2 : (k : Int) < (l.length : Int) := by omega
      replace hg := Lib.hid hg
      clear hfk
      cases hr : right l[k]
      · rw [hr] at hro
        have hbad := Lib.hid (putB_bad h hr)
        clear hr
        generalize l[k] = t at *
        generalize pre l k = P at *
        go_wp2_with fail
        go_at_call 16
        refine (hro.out _).mono ?_
        rintro e w1 ⟨rfl, hg1⟩
        have g1 := Lib.hid (Gr.trans hg.out hg1)
        clear hro hg1 hg
        go_wp2
        go_ret
        rw [hbad.out]
        exact ⟨rfl, g1.out⟩
      · rw [hr] at hro
        have hsn := Lib.hid (pre_snoc l k h)
        have hall := Lib.hid (all_snoc h ha.out hr)
        have hrs := right_spec hr
        have hd16 := (right_fit hr).2
        clear hr ha
        generalize l[k] = t at *
        generalize hP : pre l k = P at *
        clear hP
        obtain ⟨p1, p2, p3, p4, _⟩ := hrs
        have hmN : t.m = (t.m.toNat : Int) := by omega
        have hfN : t.f = (t.f.toNat : Int) := by omega
        have hml := num_le t.m.toNat (by omega)
        by_cases hm : 0 < t.m
        · have htb := Lib.hid (tokB_copy hm)
          obtain ⟨f, m, d⟩ := t
          simp only at hmN hfN hml htb p1 p2 p3 p4 hm hd hd16 e0 e1 e2 hro
          generalize m.toNat = mn at *
          generalize f.toNat = fn at *
          subst hmN hfN
          have hfl := num_le fn (by omega)
          go_wp2_with fail
          go_at_call 16
          refine (hro.out _).mono ?_
          rintro e w1 ⟨rfl, hg1⟩
          have g1 := Lib.hid (Gr.trans hg.out hg1)
          have hlt3 := Nat.lt_of_lt_of_le hlt2 (Below.size hg1)
          replace e0 := (hg1.cell (p := ad.add (k * 3)) hlt2).trans e0
          replace e1 := (hg1.cell (p := ⟨(ad.add (k * 3)).block, (ad.add (k * 3)).off + 1, none⟩) hlt2).trans e1
          clear hro hg1 hg e2 hlt2
          have hc1 := Lib.hid (refNum_nat mn (by omega) w1)
          go_wp2_with fail
          refine hc1.out.mono ?_
          rintro e w2 ⟨rfl, g2⟩
          have G2 := Lib.hid (Gr.trans g1.out g2)
          replace e0 := (g2.cell (p := ad.add (k * 3)) hlt3).trans e0
          replace e1 := (g2.cell (p := ⟨(ad.add (k * 3)).block, (ad.add (k * 3)).off + 1, none⟩) hlt3).trans e1
          have has : Hid (P ++ tokB ⟨fn, mn, d⟩ = (P ++ num mn) ++ num fn) := Lib.hid (by rw [htb.out]; simp)
          rw [has.out] at hsn
          generalize num mn = N1 at *
          clear hc1 g1 g2 has htb hlt3
          have hc2 := Lib.hid (refNum_nat fn (by omega) w2)
          generalize num fn = N2 at *
          go_wp2_with fail
          refine hc2.out.mono ?_
          rintro e w3 ⟨rfl, g3⟩
          have G3 := Lib.hid (Gr.trans G2.out g3)
          clear hc2 G2 g3 e0 e1
          go_wp2
          go_roundw
          case rel => exact ⟨k + 1, by omega, by go_num, by rw [hsn.out, List.append_assoc], hall, G3.out⟩
          case measure => simp [intOf]; omega
        · have htb := Lib.hid (tokB_lit hm)
          clear hmN hfN
          obtain ⟨f, m, d⟩ := t
          simp only at hml htb p1 p2 p3 p4 hm hd hd16 e0 e1 e2 hro
          have hm0 : m = 0 := by omega
          subst hm0
          have hdl := num_le d.length (by omega)
          have htl : (text d).length ≤ 10 + 16384 := by unfold text; rw [List.length_append]; omega
          go_wp2_with fail
          go_at_call 16
          refine (hro.out _).mono ?_
          rintro e w1 ⟨rfl, hg1⟩
          have g1 := Lib.hid (Gr.trans hg.out hg1)
          have hlt3 := Nat.lt_of_lt_of_le hlt2 (Below.size hg1)
          replace e1 := (hg1.cell (p := ⟨(ad.add (k * 3)).block, (ad.add (k * 3)).off + 1, none⟩) hlt2).trans e1
          replace e2 := (hg1.cell (p := ⟨(ad.add (k * 3)).block, (ad.add (k * 3)).off + 2, none⟩) hlt2).trans e2
          clear hro hg1 hg e0 hlt2
          have hc1 := Lib.hid (show Calls Try.prog 32 #[.int .u64 0] w1 (fun e w' => e = .returned (str (num (0 : Int).toNat)) ∧ Gr w1 w') from refNum_any 0 w1)
          go_wp2_with fail
          refine hc1.out.mono ?_
          rintro e w2 ⟨rfl, g2⟩
          have G2 := Lib.hid (Gr.trans g1.out g2)
          replace e1 := (g2.cell (p := ⟨(ad.add (k * 3)).block, (ad.add (k * 3)).off + 1, none⟩) hlt3).trans e1
          replace e2 := (g2.cell (p := ⟨(ad.add (k * 3)).block, (ad.add (k * 3)).off + 2, none⟩) hlt3).trans e2
          have has : Hid (P ++ tokB ⟨f, 0, d⟩ = (P ++ num (0 : Int).toNat) ++ text d) := Lib.hid (by rw [htb.out]; simp)
          rw [has.out] at hsn
          generalize num (0 : Int).toNat = N1 at *
          clear hc1 g1 g2 has htb hlt3
          have hc2 := Lib.hid (refText_any d w2 (by omega))
          generalize text d = N2 at *
          go_wp2_with fail
          refine hc2.out.mono ?_
          rintro e w3 ⟨rfl, g3⟩
          have G3 := Lib.hid (Gr.trans G2.out g3)
          clear hc2 G2 g3 e1 e2
          go_wp2
          go_roundw
          case rel => exact ⟨k + 1, by omega, by go_num, by rw [hsn.out, List.append_assoc], hall, G3.out⟩
          case measure => simp [intOf]; omega
    · obtain rfl : k = l.length := by omega
      have hpb := Lib.hid (putB_all ha.out)
      generalize pre l l.length = P at *
      go_wp2
      go_ret
      rw [hpb.out]
      exact ⟨rfl, hg⟩
end Tk
end Go.Proofs.Ythacnfoeaefeiaa
