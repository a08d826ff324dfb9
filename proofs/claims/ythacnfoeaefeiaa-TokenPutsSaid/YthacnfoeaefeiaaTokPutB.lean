/- The walks of Put. No condition but sizes. -/
import Derived.Test.YthacnfoeaefeiaaTokPlain
import Derived.Test.YthacnfoeaefeiaaTokBytes
import Derived.Test.YthacnfoeaefeiaaVintRef
set_option linter.unusedVariables false
set_option linter.unusedSimpArgs false
namespace Go.Proofs.Ythacnfoeaefeiaa
open Go Go.RowKit W Vint
namespace Tk
def pre (l : List Tok) (k : Nat) : List UInt8 := (l.take k).flatMap tokB
theorem pre_snoc (l : List Tok) (k : Nat) (h : k < l.length) : pre l (k + 1) = pre l k ++ tokB l[k] := by
  unfold pre
  rw [List.take_succ_eq_append_getElem h, List.flatMap_append]
  simp
theorem num_le (n : Nat) (h : n < 18446744073709551616) : (num n).length ≤ 10 := num_length 9 n (Nat.lt_of_lt_of_le h (by decide))
theorem tokB_le {t : Tok} (h : right t = true) : (tokB t).length ≤ 16404 := by
  obtain ⟨h1, h2, h3, h4, h5⟩ := right_spec h
  have hd := (right_fit h).2
  unfold tokB
  rw [List.length_append]
  have a1 := num_le t.m.toNat (by omega)
  split
  · have a2 := num_le t.f.toNat (by omega)
    omega
  · unfold text
    rw [List.length_append]
    have a2 := num_le t.d.length (by omega)
    omega
theorem pre_le (l : List Tok) (h : ∀ t ∈ l, right t = true) : (l.flatMap tokB).length ≤ l.length * 16404 := by
  induction l with
  | nil => simp
  | cons t l ih =>
    rw [List.flatMap_cons, List.length_append, List.length_cons]
    have := tokB_le (h t (by simp))
    have := ih (fun x hx => h x (by simp [hx]))
    omega
theorem all_snoc {l : List Tok} {k : Nat} (h : k < l.length) (ha : ∀ t ∈ l.take k, right t = true) (hr : right l[k] = true) : ∀ t ∈ l.take (k + 1), right t = true := by
  rw [List.take_succ_eq_append_getElem h]
  intro t ht
  rcases List.mem_append.1 ht with h1 | h1
  · exact ha t h1
  · simp at h1; rw [h1]; exact hr
theorem putB_bad {l : List Tok} {k : Nat} (h : k < l.length) (hr : right l[k] = false) : putB l = [] := by
  unfold putB
  rw [if_neg]
  intro ha
  have := List.all_eq_true.1 ha _ (List.getElem_mem h)
  rw [hr] at this
  cases this
theorem putB_all {l : List Tok} (ha : ∀ t ∈ l.take l.length, right t = true) : putB l = pre l l.length := by
  unfold putB pre
  rw [List.take_length] at ha ⊢
  rw [if_pos (List.all_eq_true.2 ha)]
theorem tokB_copy {t : Tok} (h : 0 < t.m) : tokB t = num t.m.toNat ++ num t.f.toNat := by unfold tokB; rw [if_pos h]
theorem tokB_lit {t : Tok} (h : ¬ 0 < t.m) : tokB t = num t.m.toNat ++ text t.d := by unfold tokB; rw [if_neg h]
set_option maxRecDepth 100000 in
set_option maxHeartbeats 4000000 in
theorem putw_any (A : Option Addr) (c : Nat) (l : List Tok) (w : World) (hl : TR w w.heap.size A l) (hf : Fits l) (hk40 : l.length ≤ 1000000) :
    Calls Try.prog 18 #[.slice A l.length c] w (Out 5 w (putB l)) := by
  have hl' := Lib.hid hl
  have hf' := Lib.hid hf.2
  clear hl hf
  go_enter Try.func18, Try.ntmps18
  go_wp2
  go_loopw [3, 5, 8] (fun b _ i wr => ∃ k : Nat, k ≤ l.length ∧ i = .int .i64 (k : Int) ∧ (∃ A0 c0, b = .slice A0 (pre l k).length c0 ∧ OB 5 wr w.heap.size (.slice A0 (pre l k).length c0) (pre l k)) ∧ Hid (∀ t ∈ l.take k, right t = true) ∧ Gr w wr) (fun _ _ i _ => l.length - (intOf i).toNat)
  case atStart => exact ⟨0, by omega, rfl, ⟨none, 0, rfl, OB.nil_⟩, Lib.hid (by simp), Gr.refl w⟩
  case round =>
    obtain ⟨k, hk, rfl, ⟨A0, c0, rfl, ho⟩, ha, hg⟩ := hrel
    by_cases h : k < l.length
    · obtain ⟨ad, hA, hlt, e0, e1, e2⟩ := (hl'.out.below hg).at_ h
      subst hA
      have hfk := hf'.out l[k] (List.getElem_mem h)
      have hpl : (pre l k).length ≤ 1000000 * 16404 := by
        have h1 := pre_le (l.take k) ha.out
        have h2 : (l.take k).length ≤ 1000000 := by rw [List.length_take]; omega
        unfold pre
        exact Nat.le_trans h1 (Nat.mul_le_mul_right _ h2)
      have hro := Lib.hid (fun w => right_any l[k] w hfk)
      have hd := hfk.2.2.2.2
      have ga := Lib.hid (Gr.alloc hg (.cells #[.int .i64 (l[k]).f, .int .i64 (l[k]).m, .string ⟨(l[k]).d.toArray⟩] 39))
      have oa := Lib.hid (OB.alloc ho (.cells #[.int .i64 (l[k]).f, .int .i64 (l[k]).m, .string ⟨(l[k]).d.toArray⟩] 39))
      have bx := Lib.hid (Blk.new wr 39 #[.int .i64 (l[k]).f, .int .i64 (l[k]).m, .string ⟨(l[k]).d.toArray⟩])
      clear hg hfk ho
      cases hr : right l[k]
      · rw [hr] at hro
        have hbad := Lib.hid (putB_bad h hr)
        clear hr
        generalize l[k] = t at *
        go_wp2_with fail
        go_at_call 17
        refine (hro.out _).mono ?_
        rintro e w1 ⟨rfl, hg1⟩
        have g1 := Lib.hid (Gr.trans ga.out hg1)
        clear hro hg1 ga oa
        go_wp2
        go_ret
        rw [hbad.out]
        exact ⟨none, 0, rfl, OB.nil_, g1.out⟩
      · rw [hr] at hro
        have hsn := Lib.hid (pre_snoc l k h)
        have hall := Lib.hid (all_snoc h ha.out hr)
        have hrs := right_spec hr
        have hd16 := (right_fit hr).2
        clear hr ha
        generalize l[k] = t at *
        generalize hP : pre l k = P at *
        clear hP
        obtain ⟨p1, p2, p3, p4, _⟩ := hrs
        have hmN : t.m = (t.m.toNat : Int) := by omega
        have hfN : t.f = (t.f.toNat : Int) := by omega
        have hwm : (UInt64.ofNat t.m.toNat).toNat = t.m.toNat := by rw [UInt64.toNat_ofNat']; omega
        have hwf : (UInt64.ofNat t.f.toNat).toNat = t.f.toNat := by rw [UInt64.toNat_ofNat']; omega
        have hml := num_le t.m.toNat (by omega)
        by_cases hm : 0 < t.m
        · have htb := Lib.hid (tokB_copy hm)
          obtain ⟨f, m, d⟩ := t
          simp only at hmN hfN hwm hwf hml htb p1 p2 p3 p4 hm hd hd16 e0 e1 e2 ga oa bx hro
          generalize m.toNat = mn at *
          generalize f.toNat = fn at *
          subst hmN hfN
          go_wp2_with fail
          go_at_call 17
          refine (hro.out _).mono ?_
          rintro e w1 ⟨rfl, hg1⟩
          have g1 := Lib.hid (Gr.trans ga.out hg1)
          have o1 := OB.below oa.out hg1
          have b1 := blk_more bx.out hg1
          have x0 := b1.cell 0
          have x1 := b1.cell 1
          have r1 := Lib.hid (OB.rb o1)
          replace b1 := Lib.hid b1
          clear hro hg1 ga oa bx o1
          have hc1 := Lib.hid (vnum_any A0 c0 P (UInt64.ofNat mn) w1 (by omega) r1.out)
          rw [hwm] at hc1
          go_wp2_with fail
          refine hc1.out.mono ?_
          rintro e w2 ⟨A2, c2, rfl, o2, g2⟩
          have G2 := Lib.hid (Gr.trans g1.out g2)
          have b2 := blk_more b1.out g2
          have z0 := b2.cell 0
          have z1 := b2.cell 1
          have r2 := Lib.hid (OB.rb o2)
          have hl2 : (P ++ num mn).length ≤ P.length + 10 := by rw [List.length_append]; omega
          have has : Hid (P ++ tokB ⟨fn, mn, d⟩ = (P ++ num mn) ++ num fn) := Lib.hid (by rw [htb.out]; simp)
          rw [has.out] at hsn
          generalize P ++ num mn = P2 at *
          clear hc1 r1 g1 g2 b1 x0 x1 o2 has htb b2
          have hc2 := Lib.hid (vnum_any A2 c2 P2 (UInt64.ofNat fn) w2 (by omega) r2.out)
          rw [hwf] at hc2
          go_wp2_with fail
          refine hc2.out.mono ?_
          rintro e w3 ⟨A3, c3, rfl, o3, g3⟩
          have G3 := Lib.hid (Gr.trans G2.out g3)
          have o3' := Lib.hid (OB.base_le o3 (Below.size G2.out))
          rw [← hsn.out] at o3' ⊢
          clear hc2 r2 G2 g3 z0 z1 o3
          go_wp2
          go_roundw
          case rel => exact ⟨k + 1, by omega, by go_num, ⟨A3, c3, rfl, o3'.out⟩, hall, G3.out⟩
          case measure => simp [intOf]; omega
        · have htb := Lib.hid (tokB_lit hm)
          clear hmN hfN hwm hwf
          obtain ⟨f, m, d⟩ := t
          simp only at hml htb p1 p2 p3 p4 hm hd hd16 e0 e1 e2 ga oa bx hro
          have hm0 : m = 0 := by omega
          subst hm0
          have hdl := num_le d.length (by omega)
          go_wp2_with fail
          go_at_call 17
          refine (hro.out _).mono ?_
          rintro e w1 ⟨rfl, hg1⟩
          have g1 := Lib.hid (Gr.trans ga.out hg1)
          have o1 := OB.below oa.out hg1
          have b1 := blk_more bx.out hg1
          have x1 := b1.cell 1
          have x2 := b1.cell 2
          have r1 := Lib.hid (OB.rb o1)
          replace b1 := Lib.hid b1
          clear hro hg1 ga oa bx o1
          have hc1 := Lib.hid (show Calls Try.prog 26 #[.slice A0 P.length c0, .int .u64 0] w1 (Out 5 w1 (P ++ num (0 : Int).toNat)) from vnum_any A0 c0 P 0 w1 (by omega) r1.out)
          go_wp2_with fail
          refine hc1.out.mono ?_
          rintro e w2 ⟨A2, c2, rfl, o2, g2⟩
          have G2 := Lib.hid (Gr.trans g1.out g2)
          have b2 := blk_more b1.out g2
          have z1 := b2.cell 1
          have z2 := b2.cell 2
          have r2 := Lib.hid (OB.rb o2)
          have hl2 : (P ++ num (0 : Int).toNat).length ≤ P.length + 10 := by rw [List.length_append]; omega
          have has : Hid (P ++ tokB ⟨f, 0, d⟩ = (P ++ num (0 : Int).toNat) ++ text d) := Lib.hid (by rw [htb.out]; simp)
          rw [has.out] at hsn
          generalize P ++ num (0 : Int).toNat = P2 at *
          clear hc1 r1 g1 g2 b1 x1 x2 o2 has htb b2
          have hc2 := Lib.hid (vtext_any A2 c2 P2 d w2 (by omega) (by omega) r2.out)
          go_wp2_with fail
          refine hc2.out.mono ?_
          rintro e w3 ⟨A3, c3, rfl, o3, g3⟩
          have G3 := Lib.hid (Gr.trans G2.out g3)
          have o3' := Lib.hid (OB.base_le o3 (Below.size G2.out))
          rw [← hsn.out] at o3' ⊢
          clear hc2 r2 G2 g3 z1 z2 o3
          go_wp2
          go_roundw
          case rel => exact ⟨k + 1, by omega, by go_num, ⟨A3, c3, rfl, o3'.out⟩, hall, G3.out⟩
          case measure => simp [intOf]; omega
    · obtain rfl : k = l.length := by omega
      have hpb := Lib.hid (putB_all ha.out)
      replace ho := Lib.hid ho
      generalize pre l l.length = P at *
      go_wp2
      go_ret
      rw [hpb.out]
      exact ⟨A0, c0, rfl, ho.out, hg⟩
end Tk
end Go.Proofs.Ythacnfoeaefeiaa
