/- The walk of VintBack: whatever the arguments, it returns true and writes nothing that was there. No condition. -/
import Derived.Test.YtblafmoidgmnfaaVintBackL
import Derived.Deep.RegionWith
set_option linter.unusedVariables false
set_option linter.unusedSimpArgs false
namespace Go.Proofs.Ytblafmoidgmnfaa
open Go Go.RowKit W
namespace Vint
/-- What is left of the things' bytes, and what stands behind. -/
def backS (ls : List ActT) (l : List UInt8) (k : Nat) : RS := (allB (ls.drop k) ++ l, 0)
theorem backS_step {ls : List ActT} {l : List UInt8} {k : Nat} (h : k < ls.length) : backS ls l k = (bytesOf ls[k] ++ (backS ls l (k + 1)).1, 0) := by
  unfold backS allB
  rw [List.drop_eq_getElem_cons h, List.flatMap_cons, List.append_assoc]
theorem allB_length {ls : List ActT} (h : ∀ a ∈ ls, a.s.length ≤ 200) : (allB ls).length ≤ 210 * ls.length := by
  induction ls with
  | nil => simp [allB]
  | cons a ls ih =>
    have h1 := bytesOf_length (h a (by simp))
    have h2 := ih (fun x hx => h x (by simp [hx]))
    unfold allB at *
    rw [List.flatMap_cons, List.length_append, List.length_cons]
    omega
/-- Cells of a row, behind a write to block g. -/
theorem kb_cell {g : Nat} {w w' : World} (h : Kb g w w') {p : Addr} (hp : p.block < g) (hg : g ≤ w.heap.size) {v : Value} (hc : w.cell? p = some v) : w'.cell? p = some v :=
  ((h.below hg).cell hp).trans hc
set_option maxRecDepth 100000 in
set_option maxHeartbeats 8000000 in
theorem vintBack_walk (A1 : Option Addr) (c1 : Nat) (ls : List ActT) (A2 : Option Addr) (c2 : Nat) (l2 : List UInt8) (w : World)
    (hl : LA w w.heap.size A1 ls) (hc2 : l2.length ≤ c2) (hm2 : c2 ≤ maxLen) (hr2 : RB w w.heap.size A2 l2) :
    Calls Try.prog 6 #[.slice A1 ls.length c1, .slice A2 l2.length c2] w (Ret (eqv (.bool true)) w) := by
  have hfw := Lib.hid (few_any A1 c1 ls w hl)
  have haw := Lib.hid (awake_any w)
  by_cases hf : few ls = true
  · by_cases h200 : 200 < l2.length
    · have h200i : (200 : Int) < (l2.length : Int) := by omega
      clear hm2 hr2 hl
      go_enter Try.func6, Try.ntmps6
      go_wp2_with fail
      refine hfw.out.mono ?_
      rintro e w1 ⟨rfl, rfl⟩
      clear hfw
      go_wp2_with fail
      refine haw.out.mono ?_
      rintro e w1 ⟨v, rfl, hv, hg⟩
      obtain rfl : v = .bool true := hv
      replace hg := Lib.hid hg
      clear haw
      go_wp2
      go_ret
      exact ⟨_, rfl, rfl, hg.out⟩
    · have h200i : ¬ (200 : Int) < (l2.length : Int) := by omega
      obtain ⟨hf40, hfs⟩ := few_true hf
      have hl' := Lib.hid hl
      have hr2' := Lib.hid hr2
      have hfs' := Lib.hid hfs
      clear hr2 hl hm2 hfs haw
      go_enter Try.func6, Try.ntmps6
      go_wp2_with fail
      refine hfw.out.mono ?_
      rintro e w1 ⟨rfl, rfl⟩
      clear hfw
      rw [hf]
      have hf' := Lib.hid hf
      clear hf
      go_wp2
      go_loopw [5, 6] (fun b i wr => ∃ (k : Nat) (o : List UInt8), k ≤ ls.length ∧ i = .int .i64 (k : Int) ∧ OB 5 wr w.heap.size b o ∧ Gr w wr ∧ o.length ≤ 210 * k ∧ Hid (o = allB (ls.take k))) (fun _ i _ => ls.length - (intOf i).toNat)
      case atStart => exact ⟨0, [], by omega, rfl, OB.nil_, Gr.refl w, by simp, Lib.hid rfl⟩
      case round =>
        obtain ⟨k, o, hk, rfl, hown, hg, hol, ho⟩ := hrel
        by_cases h : k < ls.length
        · obtain ⟨ad, hA, hlt, e0, e1, e2, e3, e4⟩ := (hl'.out.below hg).at_ h
          subst hA
          have hs := hfs'.out ls[k] (List.getElem_mem h)
          have hsn := Lib.hid (allB_succ h)
          generalize ls[k] = a at *
          have hbl := bytesOf_length hs
          obtain ⟨A0, c0, rfl, hcl, hcm⟩ := hown.shape
          have hpu := Lib.hid (put_any A0 c0 o a wr (by omega) (by omega) hown.rb)
          have hg' := Lib.hid hg
          clear hown hg
          go_wp2_with fail
          refine hpu.out.mono ?_
          rintro e w4 ⟨A4, c4, rfl, hown4, hg4⟩
          have hown4' := Lib.hid (hown4.base_le hg'.out.size)
          have hg5 := Lib.hid (hg'.out.trans hg4)
          clear hpu hown4 hg4 e0 e1 e2 e3 e4
          go_wp2
          go_roundw
          case rel =>
            have h4 := hown4'.out
            rw [List.length_append] at h4
            exact ⟨k + 1, _, by omega, by go_num, h4, hg5.out, by rw [List.length_append]; omega, by rw [hsn.out, ← ho.out]; exact Lib.hid rfl⟩
          case measure => simp [intOf]; omega
        · obtain rfl : k = ls.length := by omega
          obtain ⟨A0, c0, rfl, hcl, hcm⟩ := hown.shape
          have hoa : Hid (o = allB ls) := by have := ho.out; rw [List.take_length] at this; exact Lib.hid this
          have hown' := Lib.hid hown
          have hrb2 := Lib.hid ((hr2'.out.below hg))
          have hg' := Lib.hid hg
          have hgs := hg.size
          clear hown hg ho
          go_wp2_with (first
            | (refine wpList_append_bytes _ rfl (.tmp 32) (.tmp 33) 22 rfl w.heap.size 5 Try.underlying22 byteType _ o rfl (by exact hown'.out) w.heap.size _ _ _ l2 rfl rfl (by exact hrb2.out) (by omega) (by omega) (o ++ l2) rfl (o ++ l2).length rfl ?_; intro A3 c3 w3 hown1 hbel1)
            | (refine step_append_bytes _ rfl (.tmp 32) (.tmp 33) 22 rfl w.heap.size 5 Try.underlying22 byteType _ o rfl (by exact hown'.out) w.heap.size _ _ _ l2 rfl rfl (by exact hrb2.out) (by omega) (by omega) (o ++ l2) rfl (o ++ l2).length rfl ?_; intro A3 c3 w3 hown1 hbel1))
          have hgA : Gr w w3 := Below.trans hg'.out hbel1
          have hrd := Lib.hid (by have h := read_any A3 c3 (o ++ l2) w3 (by rw [List.length_append]; omega) hown1.rb; rw [List.length_append] at h; exact h : Calls Try.prog 11 #[.slice A3 (o.length + l2.length) c3] w3 fun e w' => ∃ g, e = .returned (.pointer (some ⟨g, 0, none⟩)) ∧ w3.heap.size ≤ g ∧ Rdr w' g (o ++ l2, 0) ∧ Gr w3 w')
          replace hgA := Lib.hid hgA
          clear hown1 hbel1 hown' hrb2 hg'
          go_wp2_with fail
          refine hrd.out.mono ?_
          rintro e w5 ⟨g, rfl, hgs5, hR5, hg5⟩
          have hgw : w.heap.size ≤ g := Nat.le_trans hgA.out.size hgs5
          have hgB := Lib.hid (hgA.out.trans hg5)
          have hR0 : Hid (Rdr w5 g (backS ls l2 0)) := by
            have e : backS ls l2 0 = (o ++ l2, 0) := by unfold backS; rw [List.drop_zero, hoa.out]
            rw [e]
            exact Lib.hid hR5
          have hg5s := hR5.lt
          clear hrd hR5 hg5 hgA hoa
          go_wp2
          go_loopw [8] (fun i wr => ∃ k : Nat, k ≤ ls.length ∧ i = .int .i64 (k : Int) ∧ Rdr wr g (backS ls l2 k) ∧ Kb g w5 wr) (fun i _ => ls.length - (intOf i).toNat)
          case atStart => exact ⟨0, by omega, rfl, hR0.out, Kb.refl _ _⟩
          case round =>
            obtain ⟨k, hk, rfl, hR, hkb⟩ := hrel
            clear hR0
            by_cases h : k < ls.length
            · have hbw : Below w.heap.size w wr := Below.trans hgB.out (Below.mono (hkb.below (Nat.le_of_lt hg5s)) hgw)
              have hgr : g ≤ wr.heap.size := Nat.le_of_lt hR.lt
              obtain ⟨ad, hA, hlt, e0, e1, e2, e3, e4⟩ := (hl'.out.below hbw).at_ h
              subst hA
              have hlt2 : (ad.add (k * 5)).block < g := by rw [block_of_add]; omega
              have hs := hfs'.out ls[k] (List.getElem_mem h)
              have hst := backS_step (l := l2) h
              generalize ls[k] = a at *
              rw [hst] at hR
              have hkb' := Lib.hid hkb
              obtain ⟨R1, hR1⟩ : ∃ R1, R1 = (backS ls l2 (k + 1)).1 := ⟨_, rfl⟩
              rw [← hR1] at hR
              replace hR1 := Lib.hid hR1
              clear hbw hst hkb
              rcases kind_ways a with ⟨h0, hb⟩ | ⟨h1, hb⟩ | ⟨h2, hb⟩ | ⟨h0, h1, h2, hb⟩
              · have z0 : (a.kind == 0) = true := by simp [h0]
                rw [hb] at hR
                have hn := Lib.hid (by have h := rnum_any g (num a.n.toNat ++ R1, 0) a.n wr.drew hR; rw [get_num a.n R1 a.n.toNat (Nat.le_refl _), UInt64.ofNat_toNat] at h; exact h : Calls Try.prog 12 #[.pointer (some ⟨g, 0, none⟩), .int .u64 (n64 a.n)] wr.drew fun e w' => e = .returned (.int .u64 (n64 a.n)) ∧ Rdr w' g (R1, 0) ∧ Kb g wr.drew w')
                clear h0 hb hR
                go_wp2
                go_region_with (go_at_call 12; refine hn.out.mono ?_; rintro e w2 ⟨rfl, hR2, hk2⟩; have e1' := kb_cell hk2 (by exact hlt2) (by exact hgr) e1; replace hR2 := Lib.hid hR2; replace hk2 := Lib.hid hk2)
                all_goals
                  go_wp2
                  go_roundw
                  case rel => exact ⟨k + 1, by omega, by go_num, by rw [hR1.out] at hR2; exact hR2.out, (hkb'.out.trans (Kb.of_gr (Gr.drew (Gr.refl wr)))).trans hk2.out⟩
                  case measure => simp [intOf]; omega
              · have z0 : (a.kind == 0) = false := by simp [h1]
                have z1 : (a.kind == 1) = true := by simp [h1]
                rw [hb] at hR
                have hn := Lib.hid (by have h := rnum_any g (num a.n.toNat ++ R1, 0) a.n wr.drew hR; rw [get_num a.n R1 a.n.toNat (Nat.le_refl _), UInt64.ofNat_toNat] at h; exact h : Calls Try.prog 12 #[.pointer (some ⟨g, 0, none⟩), .int .u64 (n64 a.n)] wr.drew fun e w' => e = .returned (.int .u64 (n64 a.n)) ∧ Rdr w' g (R1, 0) ∧ Kb g wr.drew w')
                clear h1 hb hR
                go_wp2
                go_region_with (go_at_call 12; refine hn.out.mono ?_; rintro e w2 ⟨rfl, hR2, hk2⟩; have e1' := kb_cell hk2 (by exact hlt2) (by exact hgr) e1; replace hR2 := Lib.hid hR2; replace hk2 := Lib.hid hk2)
                all_goals
                  go_wp2
                  go_roundw
                  case rel => exact ⟨k + 1, by omega, by go_num, by rw [hR1.out] at hR2; exact hR2.out, (hkb'.out.trans (Kb.of_gr (Gr.drew (Gr.refl wr)))).trans hk2.out⟩
                  case measure => simp [intOf]; omega
              · have z0 : (a.kind == 0) = false := by simp [h2]
                have z1 : (a.kind == 1) = false := by simp [h2]
                have z2 : (a.kind == 2) = true := by simp [h2]
                rw [hb] at hR
                have hn := Lib.hid (by have h := rtext_any g (text a.s ++ R1, 0) (a.s.length : Int) wr.drew (by omega) hR; rw [Int.toNat_natCast, getText_text a.s R1 (by omega)] at h; exact h : Calls Try.prog 19 #[.pointer (some ⟨g, 0, none⟩), .int .i64 (a.s.length : Int)] wr.drew fun e w' => e = .returned (str a.s) ∧ Rdr w' g (R1, 0) ∧ Kb g wr.drew w')
                clear h2 hb hR
                go_wp2
                go_region_with (go_at_call 19; refine hn.out.mono ?_; rintro e w2 ⟨rfl, hR2, hk2⟩; have e4' := kb_cell hk2 (by exact hlt2) (by exact hgr) e4; replace hR2 := Lib.hid hR2; replace hk2 := Lib.hid hk2)
                all_goals
                  go_wp2
                  go_roundw
                  case rel => exact ⟨k + 1, by omega, by go_num, by rw [hR1.out] at hR2; exact hR2.out, (hkb'.out.trans (Kb.of_gr (Gr.drew (Gr.refl wr)))).trans hk2.out⟩
                  case measure => simp [intOf]; omega
              · have z0 : (a.kind == 0) = false := by simp [h0]
                have z1 : (a.kind == 1) = false := by simp [h1]
                have z2 : (a.kind == 2) = false := by simp [h2]
                rw [hb] at hR
                have hn := Lib.hid (by have h := rsum_any g (sum a.n a.m ++ R1, 0) wr.drew hR; rw [getSum_sum a.n a.m R1] at h; exact h : Calls Try.prog 21 #[.pointer (some ⟨g, 0, none⟩)] wr.drew fun e w' => e = .returned (.agg #[.int .u64 (n64 a.n), .int .u64 (n64 a.m)]) ∧ Rdr w' g (R1, 0) ∧ Kb g wr.drew w')
                clear h0 h1 h2 hb hR
                go_wp2
                go_region_with (go_at_call 21; refine hn.out.mono ?_; rintro e w2 ⟨rfl, hR2, hk2⟩; have e1' := kb_cell hk2 (by exact hlt2) (by exact hgr) e1; have e2' := kb_cell hk2 (by exact hlt2) (by exact hgr) e2; replace hR2 := Lib.hid hR2; replace hk2 := Lib.hid hk2)
                all_goals
                  go_wp2
                  go_roundw
                  case rel => exact ⟨k + 1, by omega, by go_num, by rw [hR1.out] at hR2; exact hR2.out, (hkb'.out.trans (Kb.of_gr (Gr.drew (Gr.refl wr)))).trans hk2.out⟩
                  case measure => simp [intOf]; omega
            · obtain rfl : k = ls.length := by omega
              have hRe : Hid (Rdr wr g (l2, 0)) := by
                have e : backS ls l2 ls.length = (l2, 0) := by unfold backS; rw [List.drop_length]; rfl
                rw [e] at hR
                exact Lib.hid hR
              have hkb' := Lib.hid hkb
              have hwr : Hid (Gr wr wr) := Lib.hid (Gr.refl wr)
              clear hR hkb
              have hn := Lib.hid (nnum_any 9 wr)
              go_wp2_with fail
              refine hn.out.mono ?_
              rintro e v1 ⟨rfl, hgr⟩
              have hwr := Lib.hid (hwr.out.trans hgr)
              clear hn hgr
              have hn := Lib.hid (ntext_any 9 v1 (by omega))
              go_wp2_with fail
              refine hn.out.mono ?_
              rintro e v2 ⟨rfl, hgr⟩
              have hwr := Lib.hid (hwr.out.trans hgr)
              clear hn hgr
              have hn := Lib.hid (nint_any 9 v2 (by omega))
              go_wp2_with fail
              refine hn.out.mono ?_
              rintro e v3 ⟨rfl, hgr⟩
              have hwr := Lib.hid (hwr.out.trans hgr)
              clear hn hgr
              have hn := Lib.hid (nsum_any v3)
              go_wp2_with fail
              refine hn.out.mono ?_
              rintro e v4 ⟨rfl, hgr⟩
              have hwr := Lib.hid (hwr.out.trans hgr)
              clear hn hgr
              have hn := Lib.hid (left_nil v4)
              go_wp2_with fail
              refine hn.out.mono ?_
              rintro e v5 ⟨rfl, rfl⟩
              clear hn
              have hn := Lib.hid (end_nil v4)
              go_wp2_with fail
              refine hn.out.mono ?_
              rintro e v6 ⟨rfl, rfl⟩
              clear hn
              have haw := Lib.hid (awake_any v4)
              go_wp2_with fail
              refine haw.out.mono ?_
              rintro e v7 ⟨v, rfl, hv, hgr⟩
              obtain rfl : v = .bool true := hv
              have hwr := Lib.hid (hwr.out.trans hgr)
              clear haw hgr
              have hR7 := Lib.hid (hRe.out.gr hwr.out)
              have hn := Lib.hid (left_any g (l2, 0) v7 hR7.out)
              go_wp2_with fail
              refine hn.out.mono ?_
              rintro e v8 ⟨rfl, rfl⟩
              clear hn
              have hfin : Hid (Gr w v7) := Lib.hid (Below.trans hgB.out (Below.mono ((hkb'.out.gr hwr.out).below (Nat.le_of_lt hg5s)) hgw))
              by_cases hl0 : l2.length = 0
              · have hn := Lib.hid (by have h := end_any g (l2, 0) v7 hR7.out; rw [show ended (l2, 0) = 0 by unfold ended; rw [if_neg (by show ¬ ((0 : Nat) = 0 ∧ 0 < l2.length); omega)]] at h; exact h : Calls Try.prog 13 #[.pointer (some ⟨g, 0, none⟩)] v7 fun e w' => e = .returned (.int .i64 0) ∧ v7 = w')
                have hli : ((l2.length : Int) == 0) = true := by simp; exact List.eq_nil_of_length_eq_zero hl0
                clear hl0
                go_wp2_with fail
                refine hn.out.mono ?_
                rintro e v8 ⟨rfl, rfl⟩
                clear hn
                go_wp2
                go_ret
                exact ⟨_, rfl, rfl, hfin.out⟩
              · have hn := Lib.hid (by have h := end_any g (l2, 0) v7 hR7.out; rw [show ended (l2, 0) = 5 by unfold ended; rw [if_pos (by show (0 : Nat) = 0 ∧ 0 < l2.length; omega)]] at h; exact h : Calls Try.prog 13 #[.pointer (some ⟨g, 0, none⟩)] v7 fun e w' => e = .returned (.int .i64 5) ∧ v7 = w')
                have hli : ((l2.length : Int) == 0) = false := by simp; intro h; rw [h] at hl0; exact hl0 rfl
                clear hl0
                go_wp2_with fail
                refine hn.out.mono ?_
                rintro e v8 ⟨rfl, rfl⟩
                clear hn
                go_wp2
                go_ret
                exact ⟨_, rfl, rfl, hfin.out⟩
  · have hff : few ls = false := by simpa using hf
    clear hm2 hr2 hl hf
    go_enter Try.func6, Try.ntmps6
    go_wp2_with fail
    refine hfw.out.mono ?_
    rintro e w1 ⟨rfl, rfl⟩
    clear hfw
    rw [hff]
    clear hff
    go_wp2_with fail
    refine haw.out.mono ?_
    rintro e w1 ⟨v, rfl, hv, hg⟩
    obtain rfl : v = .bool true := hv
    replace hg := Lib.hid hg
    clear haw
    go_wp2
    go_ret
    exact ⟨_, rfl, rfl, hg.out⟩
end Vint
end Go.Proofs.Ytblafmoidgmnfaa
