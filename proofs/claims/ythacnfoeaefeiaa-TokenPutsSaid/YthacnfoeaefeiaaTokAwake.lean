/- The walks of few and awake. No condition. -/
import Derived.Test.YthacnfoeaefeiaaTokRef
set_option linter.unusedVariables false
set_option linter.unusedSimpArgs false
namespace Go.Proofs.Ythacnfoeaefeiaa
open Go Go.RowKit W
namespace Tk
def shortB (l : List Tok) : Bool := l.all fun t => decide (t.d.length ≤ 200)
def fewB (l : List Tok) : Bool := decide (l.length ≤ 30) && shortB l
theorem short_snoc (l : List Tok) (k : Nat) (h : k < l.length) (h1 : shortB (l.take k) = true) (h2 : (l[k]).d.length ≤ 200) : shortB (l.take (k + 1)) = true := by
  unfold shortB at *
  rw [List.take_succ_eq_append_getElem h, List.all_append, h1]
  simp [h2]
theorem short_bad (l : List Tok) (k : Nat) (h : k < l.length) (h2 : ¬ (l[k]).d.length ≤ 200) : shortB l = false := by
  unfold shortB
  rw [List.all_eq_false]
  exact ⟨l[k], List.getElem_mem h, by simpa using h2⟩
set_option maxHeartbeats 2000000 in
theorem few_any (A : Option Addr) (c : Nat) (l : List Tok) (w : World) (hl : TR w w.heap.size A l) (hd : ∀ t ∈ l, t.d.length ≤ 9223372036854775807) (hk : l.length ≤ 9223372036854775807) :
    Calls Try.prog 6 #[.slice A l.length c] w fun e w' => e = .returned (.bool (fewB l)) ∧ Gr w w' := by
  have hl' := Lib.hid hl
  have hd' := Lib.hid hd
  clear hl hd
  by_cases h30 : l.length ≤ 30
  · have h30' : ¬ (30 : Int) < (l.length : Int) := by omega
    have hfe : Hid (fewB l = shortB l) := Lib.hid (by unfold fewB; rw [decide_eq_true h30]; rfl)
    go_enter Try.func6, Try.ntmps6
    go_wp2
    go_loopw [3] (fun i wr => ∃ k : Nat, k ≤ l.length ∧ i = .int .i64 (k : Int) ∧ Hid (shortB (l.take k) = true) ∧ Gr w wr) (fun i _ => l.length - (intOf i).toNat)
    case atStart => exact ⟨0, by omega, rfl, Lib.hid rfl, Gr.refl w⟩
    case round =>
      obtain ⟨k, hk, rfl, hs, hg⟩ := hrel
      by_cases h : k < l.length
      · obtain ⟨ad, hA, hlt, e0, e1, e2⟩ := (hl'.out.below hg).at_ h
        subst hA
        have hdk := hd'.out l[k] (List.getElem_mem h)
        have i1 : (0 : Int) ≤ (k : Int) := by omega
        have i2 : (k : Int) < (l.length : Int) := by omega
        clear e0 e1
        by_cases hq : (l[k]).d.length ≤ 200
        · have hs' := Lib.hid (short_snoc l k h hs.out hq)
          have hq' : ¬ (200 : Int) < ((l[k]).d.length : Int) := by omega
          generalize l[k] = t at *
          go_wp2
          go_roundw
          case rel => exact ⟨k + 1, by omega, by go_num, hs', hg⟩
          case measure => simp [intOf]; omega
        · have hs' := Lib.hid (short_bad l k h hq)
          have hq' : (200 : Int) < ((l[k]).d.length : Int) := by omega
          generalize l[k] = t at *
          go_wp2
          go_ret
          exact ⟨ret_bool (by rw [hfe.out, hs'.out]), hg⟩
      · obtain rfl : k = l.length := by omega
        rw [List.take_length] at hs
        go_wp2
        go_ret
        exact ⟨ret_bool (by rw [hfe.out, hs.out]), hg⟩
  · have h30' : (30 : Int) < (l.length : Int) := by omega
    have hfe : Hid (fewB l = false) := Lib.hid (by unfold fewB; rw [decide_eq_false h30]; rfl)
    go_enter Try.func6, Try.ntmps6
    go_wp2
    go_ret
    exact ⟨ret_bool hfe.out.symm, Gr.refl w⟩
theorem TR.newN (w : World) (t : TypeId) (l : List Tok) (cs : Array Value) (h : cs.toList = tcs l) : TR (w.alloc (.cells cs t)) (w.heap.size + 1) (some ⟨w.heap.size, 0, none⟩) l := by
  refine ⟨tcs_len l, fun _ => ⟨_, rfl, Nat.lt_succ_self _, fun j u hu => ?_⟩⟩
  have ha : (⟨w.heap.size, 0, none⟩ : Addr).add j = ⟨w.heap.size, j, none⟩ := by unfold Addr.add; split <;> simp_all
  rw [ha, (Blk.new w t _).cell]
  rw [← h] at hu
  simpa using hu
def ex5 : List Tok := [⟨0, 1, []⟩, ⟨1, 1, []⟩, ⟨0, 0, [97]⟩, ⟨0, 0, [98]⟩, ⟨5, 1, []⟩]
def ex3 : List Tok := [⟨0, 2, []⟩, ⟨0, 0, [97, 98]⟩, ⟨5, 1, []⟩]
theorem ex_join : join ex5 = ex3 := by decide +kernel
theorem ex_fits : Fits ex5 := ⟨by decide, by unfold ex5 Fit; simp⟩
theorem ex3_fits : Fits ex3 := ⟨by decide, by unfold ex3 Fit; simp⟩
theorem ex_bytes : bytes ex3 = 2 := by decide +kernel
set_option maxHeartbeats 4000000 in
theorem awake_any (w : World) : Calls Try.prog 7 #[] w fun e w' => e = .returned (.bool true) ∧ Gr w w' := by
  go_enter Try.func7, Try.ntmps7
  go_wp2_with fail
  go_at_call 22
  refine (copy_any 0 1 _).mono ?_
  rintro e w1 ⟨rfl, g1⟩
  go_wp2_with fail
  go_at_call 22
  refine (copy_any 1 1 _).mono ?_
  rintro e w2 ⟨rfl, g2⟩
  go_wp2_with fail
  go_at_call 23
  refine (literal_any [97] _).mono ?_
  rintro e w3 ⟨rfl, g3⟩
  go_wp2_with fail
  go_at_call 23
  refine (literal_any [98] _).mono ?_
  rintro e w4 ⟨rfl, g4⟩
  go_wp2_with fail
  go_at_call 22
  refine (copy_any 5 1 _).mono ?_
  rintro e w5 ⟨rfl, g5⟩
  have G5 := Lib.hid (Gr.trans (Gr.trans (Gr.trans (Gr.trans g1 g2) g3) g4) g5)
  clear g1 g2 g3 g4 g5
  have T5 := Lib.hid (TR.newN w5 39 ex5 #[.int .i64 0, .int .i64 1, .string ⟨#[]⟩, .int .i64 1, .int .i64 1, .string ⟨#[]⟩, .int .i64 0, .int .i64 0, .string ⟨#[97]⟩, .int .i64 0, .int .i64 0, .string ⟨#[98]⟩, .int .i64 5, .int .i64 1, .string ⟨#[]⟩] rfl)
  go_wp2_with fail
  go_at_call 8
  refine (join_any _ 5 ex5 _ (by rw [World.size_alloc]; exact T5.out) ex_fits (by decide)).mono ?_
  rintro e w6 ⟨⟨A6, c6, hv, o6⟩, ⟨v, rfl⟩, g6⟩
  rw [ex_join] at hv o6
  obtain rfl : v = .slice A6 3 c6 := hv
  have r6 := Lib.hid (show TR w6 w6.heap.size A6 ex3 from OT.tr o6)
  have G6 := Lib.hid (Gr.trans (Gr.alloc G5.out _) g6)
  clear o6 g6 T5 G5
  have T6 := Lib.hid (TR.newN w6 39 ex3 #[.int .i64 0, .int .i64 2, .string ⟨#[]⟩, .int .i64 0, .int .i64 0, .string ⟨#[97, 98]⟩, .int .i64 5, .int .i64 1, .string ⟨#[]⟩] rfl)
  go_wp2_with fail
  go_at_call 13
  refine (same_any A6 c6 ex3 _ 3 ex3 _ ((r6.out.below ((Gr.refl w6).alloc _)).more (by rw [World.size_alloc]; omega)) (by rw [World.size_alloc]; exact T6.out) (by decide)).mono ?_
  rintro e w7 ⟨rfl, g7⟩
  have g7' := Gr.trans ((Gr.refl w6).alloc _) g7
  have G7 := Lib.hid (Gr.trans G6.out g7')
  have r7 := Lib.hid ((r6.out.below g7').more g7'.size)
  clear T6 r6 g7 g7' G6
  have hd : Hid (decide (ex3 = ex3) = true) := Lib.hid (by simp)
  rw [hd.out]
  go_wp2_with fail
  go_at_call 14
  refine (bytes_any A6 c6 ex3 _ r7.out ex3_fits (by decide)).mono ?_
  rintro e w8 ⟨rfl, g8⟩
  rw [ex_bytes]
  have G8 := Lib.hid (Gr.trans G7.out g8)
  clear G7 g8 r7 hd
  go_wp2
  go_ret
  exact ⟨rfl, G8.out⟩
end Tk
end Go.Proofs.Ythacnfoeaefeiaa
