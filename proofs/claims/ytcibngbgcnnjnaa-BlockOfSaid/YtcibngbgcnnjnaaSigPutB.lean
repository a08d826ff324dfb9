/- The walk of block.Put. No condition but sizes. -/
import Derived.Test.YtcibngbgcnnjnaaSigPut
set_option linter.unusedVariables false
set_option linter.unusedSimpArgs false
namespace Go.Proofs.Ytcibngbgcnnjnaa
open Go Go.RowKit W Bl Vint
namespace Sg
/-- What is put so far. -/
def putN (s : Sig) (k : Nat) : List UInt8 := (num s.size.toNat ++ num s.bs.length) ++ (s.bs.take k).flatMap signB
theorem putN_zero (s : Sig) : putN s 0 = num s.size.toNat ++ num s.bs.length := by simp [putN]
theorem putN_succ (s : Sig) (k : Nat) (h : k < s.bs.length) : putN s k ++ signB s.bs[k] = putN s (k + 1) := by
  unfold putN
  rw [List.take_succ_eq_append_getElem h, List.flatMap_append, List.append_assoc]
  simp
theorem flat_le (l : List Sign) : (l.flatMap signB).length ≤ 26 * l.length := by
  induction l with
  | nil => simp
  | cons x l ih =>
    rw [List.flatMap_cons, List.length_append, List.length_cons]
    have := signB_le x
    omega
theorem putN_le (s : Sig) (k : Nat) (h : right s = true) : (putN s k).length ≤ 200000 := by
  obtain ⟨h1, h2, h3, h4, h5, _⟩ := right_spec h
  have a1 := num_length 9 s.size.toNat (by omega)
  have a2 := num_length 9 s.bs.length (by omega)
  have a3 := flat_le (s.bs.take k)
  simp only [putN, List.length_append]
  rw [List.length_take] at a3
  omega
theorem putB_right {s : Sig} (h : right s = true) : putB s = (putN s s.bs.length ++ num s.tail.toNat) ++ if 0 < s.tail then signB s.last else [] := by
  unfold putB putN
  rw [if_pos h, List.take_length]
  simp only [List.append_assoc]
theorem isB_nil (w : World) : isB [] (.slice none 0 0) w := ⟨none, 0, rfl, by simp, by unfold maxLen; omega, RB.nil_⟩
theorem ofInt_toNat {z : Int} (h : 0 ≤ z) (h2 : z < 18446744073709551616) : (UInt64.ofInt z).toNat = z.toNat := by
  rw [UInt64.ofInt, UInt64.toNat_ofNat']
  omega
theorem isB_gr {l : List UInt8} {v : Value} {w w' : World} (h : isB l v w) (g : Gr w w') : isB l v w' := isB_lasts l v w w' g h
theorem vnum_is (A : Option Addr) (c : Nat) (l : List UInt8) (z : Int) (w : World) (hs : l.length ≤ 100000000000000) (hz : 0 ≤ z) (hz2 : z < 18446744073709551616) (hr : RB w w.heap.size A l) :
    Calls Try.prog 43 #[.slice A l.length c, .int .u64 (n64 (UInt64.ofInt z))] w (Out 5 w (l ++ num z.toNat)) := by
  have := vnum_any A c l (UInt64.ofInt z) w hs hr
  rwa [ofInt_toNat hz hz2] at this
theorem vnum_nat (A : Option Addr) (c : Nat) (l : List UInt8) (n : Nat) (w : World) (hs : l.length ≤ 100000000000000) (hz2 : n < 18446744073709551616) (hr : RB w w.heap.size A l) :
    Calls Try.prog 43 #[.slice A l.length c, .int .u64 (n64 (UInt64.ofNat n))] w (Out 5 w (l ++ num n)) := by
  have := vnum_any A c l (UInt64.ofNat n) w hs hr
  rwa [UInt64.toNat_ofNat', Nat.mod_eq_of_lt hz2] at this
set_option maxRecDepth 100000 in
set_option maxHeartbeats 8000000 in
theorem put_any (s : Sig) (A : Option Addr) (c : Nat) (w : World) (hr : SR w w.heap.size A s.bs) :
    Calls Try.prog 22 #[sigV s A c] w fun e w' => ∃ v, e = .returned v ∧ isB (putB s) v w' ∧ Gr w w' := by
  have hro := Lib.hid (fun w => right_any s A c w)
  have g0 := Lib.hid ((Gr.refl w).alloc (.cells (sigC s.size (.slice A s.bs.length c) s.tail s.last) 35))
  have bx := Lib.hid (Blk.new w 35 (sigC s.size (.slice A s.bs.length c) s.tail s.last))
  have hr' := Lib.hid hr
  clear hr
  cases hq : right s
  · rw [hq] at hro
    have hp : putB s = [] := by unfold putB; rw [hq]; rfl
    rw [hp]
    go_enter Try.func22, Try.ntmps22
    go_wp2_with fail
    go_at_call 19
    refine (hro.out _).mono ?_
    rintro e w1 ⟨rfl, g1⟩
    have G1 := Lib.hid (Gr.trans g0.out g1)
    clear g1 g0 hro bx
    go_wp2
    go_ret
    exact ⟨_, rfl, isB_nil _, G1.out⟩
  · rw [hq] at hro
    obtain ⟨h1, h2, h3, h4, h5, _⟩ := right_spec hq
    obtain ⟨pb, hpb⟩ : ∃ pb, putB s = pb := ⟨_, rfl⟩
    rw [hpb]
    have hp := Lib.hid (hpb.symm.trans (putB_right hq))
    clear hpb
    have hpl := Lib.hid (fun k => putN_le s k hq)
    have hps := Lib.hid (putN_succ s)
    have hp0 := Lib.hid (putN_zero s)
    have a1 := num_length 9 s.size.toNat (by omega)
    clear hq
    go_enter Try.func22, Try.ntmps22
    go_wp2_with fail
    go_at_call 19
    refine (hro.out _).mono ?_
    rintro e w1 ⟨rfl, g1⟩
    have b1 := blk_more bx.out g1
    have x0 := b1.cell 0
    have G1 := Lib.hid (Gr.trans g0.out g1)
    replace b1 := Lib.hid b1
    clear g1 g0 hro bx
    go_wp2_with fail
    go_at_call 43
    refine (vnum_is none 0 [] s.size _ (by simp) (by omega) (by omega) RB.nil_).mono ?_
    rintro e w2 ⟨A2, c2, rfl, o2, g2⟩
    rw [List.nil_append] at o2 ⊢
    have b2 := blk_more b1.out g2
    have y1 := b2.cell 1
    have G2 := Lib.hid (Gr.trans G1.out g2)
    replace b2 := Lib.hid b2
    replace o2 := Lib.hid o2
    clear g2 G1 x0 b1
    go_wp2_with fail
    go_at_call 43
    refine (vnum_nat A2 c2 (num s.size.toNat) s.bs.length _ (by omega) (by omega) o2.out.rb).mono ?_
    rintro e w3 ⟨A3, c3, rfl, o3, g3⟩
    rw [← hp0.out] at o3 ⊢
    have b3 := blk_more b2.out g3
    have z1 := b3.cell 1
    have G3 := Lib.hid (Gr.trans G2.out g3)
    replace b3 := Lib.hid b3
    replace o3 := Lib.hid (isB_of_own o3)
    clear g3 G2 y1 b2 o2 a1 hp0
    go_wp2
    go_loopw [3, 22] (fun out i wr => ∃ k : Nat, k ≤ s.bs.length ∧ i = .int .i64 (k : Int) ∧ isB (putN s k) out wr ∧ Gr w3 wr) (fun _ i _ => s.bs.length - (intOf i).toNat)
    case atStart => exact ⟨0, by omega, rfl, o3.out, Gr.refl w3⟩
    case round =>
      obtain ⟨k, hk, rfl, ⟨A5, c5, rfl, hc5, hm5, r5⟩, hg⟩ := hrel
      by_cases h : k < s.bs.length
      · obtain ⟨ad, hA, hlt, e0, e1, e2⟩ := ((hr'.out.below (Gr.trans G3.out hg)).more (Below.size (Gr.trans G3.out hg))).at_ h
        have hsu := Lib.hid (hps.out k h)
        have hl5 := hpl.out k
        subst hA
        generalize s.bs[k] = x at *
        have r5' := Lib.hid r5
        have hg' := Lib.hid hg
        generalize putN s k = P at *
        clear hpl hps r5 hg z1
        go_wp2_with fail
        go_at_call 44
        refine (sput_any A5 c5 P x _ (by omega) hc5 hm5 ((r5'.out.alloc (Nat.le_refl _) _).more (by rw [World.size_alloc]; omega))).mono ?_
        rintro e w6 ⟨A6, c6, rfl, o6, g6⟩
        rw [hsu.out] at o6 ⊢
        have G6 := Lib.hid (Gr.trans (hg'.out.alloc _) g6)
        replace o6 := Lib.hid (isB_of_own o6)
        clear g6
        go_wp2
        go_roundw
        case rel => exact ⟨k + 1, by omega, by go_num, o6.out, G6.out⟩
        case measure => simp [intOf]; omega
      · obtain rfl : k = s.bs.length := by omega
        have hl5 := hpl.out s.bs.length
        have b5 := blk_more b3.out hg
        have x2 := b5.cell 2
        have G5 := Lib.hid (Gr.trans G3.out hg)
        have r5' := Lib.hid r5
        replace b5 := Lib.hid b5
        generalize putN s s.bs.length = P at *
        clear hpl hps r5 hg z1
        go_wp2_with fail
        go_at_call 43
        refine (vnum_is A5 c5 P s.tail _ (by omega) (by omega) (by omega) r5'.out).mono ?_
        rintro e w6 ⟨A6, c6, rfl, o6, g6⟩
        have b6 := blk_more b5.out g6
        have y2 := b6.cell 2
        have y3 := b6.cell 3
        have y4 := b6.cell 4
        have y5 := b6.cell 5
        have G6 := Lib.hid (Gr.trans G5.out g6)
        have hc6 := OB.cap o6
        have a6 := num_length 9 s.tail.toNat (by omega)
        have hq6 : (P ++ num s.tail.toNat).length ≤ 1000000 := by rw [List.length_append]; omega
        generalize P ++ num s.tail.toNat = Q at *
        have r6 := Lib.hid o6.rb
        replace o6 := Lib.hid (isB_of_own o6)
        clear g6 x2 G5 b5
        by_cases ht : 0 < s.tail
        · rw [if_pos ht] at hp
          go_wp2_with fail
          go_at_call 44
          refine (sput_any A6 c6 Q s.last _ (by omega) hc6.1 hc6.2 r6.out).mono ?_
          rintro e w7 ⟨A7, c7, rfl, o7, g7⟩
          rw [← hp.out] at o7 ⊢
          have G7 := Lib.hid (Gr.trans G6.out g7)
          replace o7 := Lib.hid (isB_of_own o7)
          clear g7 y2 y3 y4 y5
          go_wp2
          go_ret
          exact ⟨_, rfl, o7.out, G7.out⟩
        · rw [if_neg ht, List.append_nil] at hp
          obtain rfl := hp.out
          clear hp
          clear y3 y4 y5
          go_wp2
          go_ret
          exact ⟨_, rfl, o6.out, G6.out⟩
end Sg
end Go.Proofs.Ytcibngbgcnnjnaa

