/- The walks of the document's Apply, of few and awake. No condition but sizes. -/
import Derived.Test.YtgnogoghfendpaaPatAll
set_option linter.unusedVariables false
set_option linter.unusedSimpArgs false
namespace Go.Proofs.Ytgnogoghfendpaa
open Go Go.RowKit W Bl Tk
namespace Pt
def shortB (l : List Tok) : Bool := l.all fun t => decide (t.d.length ≤ 200)
def fewB (l : List Tok) : Bool := decide (l.length ≤ 20) && shortB l
theorem short_snoc (l : List Tok) (k : Nat) (h : k < l.length) (h1 : shortB (l.take k) = true) (h2 : (l[k]).d.length ≤ 200) : shortB (l.take (k + 1)) = true := by
  unfold shortB at *
  rw [List.take_succ_eq_append_getElem h, List.all_append, h1]
  simp [h2]
theorem short_bad (l : List Tok) (k : Nat) (h : k < l.length) (h2 : ¬ (l[k]).d.length ≤ 200) : shortB l = false := by
  unfold shortB
  rw [List.all_eq_false]
  exact ⟨l[k], List.getElem_mem h, by simpa using h2⟩
set_option maxHeartbeats 2000000 in
theorem few_any (A : Option Addr) (c : Nat) (l : List Tok) (w : World) (hl : TR w w.heap.size A l) (hd : ∀ t ∈ l, t.d.length ≤ 9223372036854775807) (hk : l.length ≤ 9223372036854775807) :
    Calls Try.prog 6 #[.slice A l.length c] w fun e w' => e = .returned (.bool (fewB l)) ∧ Gr w w' := by
  have hl' := Lib.hid hl
  have hd' := Lib.hid hd
  clear hl hd
  by_cases h30 : l.length ≤ 20
  · have h30' : ¬ (20 : Int) < (l.length : Int) := by omega
    have hfe : Hid (fewB l = shortB l) := Lib.hid (by unfold fewB; rw [decide_eq_true h30]; rfl)
    go_enter Try.func6, Try.ntmps6
    go_wp2
    go_loopw [3] (fun i wr => ∃ k : Nat, k ≤ l.length ∧ i = .int .i64 (k : Int) ∧ Hid (shortB (l.take k) = true) ∧ Gr w wr) (fun i _ => l.length - (intOf i).toNat)
    case atStart => exact ⟨0, by omega, rfl, Lib.hid rfl, Gr.refl w⟩
    case round =>
      obtain ⟨k, hk, rfl, hs, hg⟩ := hrel
      by_cases h : k < l.length
      · obtain ⟨ad, hA, hlt, e0, e1, e2⟩ := (hl'.out.below hg).at_ h
        subst hA
        have hdk := hd'.out l[k] (List.getElem_mem h)
        have i1 : (0 : Int) ≤ (k : Int) := by omega
        have i2 : (k : Int) < (l.length : Int) := by omega
        clear e0 e1
        by_cases hq : (l[k]).d.length ≤ 200
        · have hs' := Lib.hid (short_snoc l k h hs.out hq)
          have hq' : ¬ (200 : Int) < ((l[k]).d.length : Int) := by omega
          generalize l[k] = t at *
          go_wp2
          go_roundw
          case rel => exact ⟨k + 1, by omega, by go_num, hs', hg⟩
          case measure => simp [intOf]; omega
        · have hs' := Lib.hid (short_bad l k h hq)
          have hq' : (200 : Int) < ((l[k]).d.length : Int) := by omega
          generalize l[k] = t at *
          go_wp2
          go_ret
          exact ⟨ret_bool (by rw [hfe.out, hs'.out]), hg⟩
      · obtain rfl : k = l.length := by omega
        rw [List.take_length] at hs
        go_wp2
        go_ret
        exact ⟨ret_bool (by rw [hfe.out, hs.out]), hg⟩
  · have h30' : (20 : Int) < (l.length : Int) := by omega
    have hfe : Hid (fewB l = false) := Lib.hid (by unfold fewB; rw [decide_eq_false h30]; rfl)
    go_enter Try.func6, Try.ntmps6
    go_wp2
    go_ret
    exact ⟨ret_bool hfe.out.symm, Gr.refl w⟩
theorem TR.newN (w : World) (t : TypeId) (l : List Tok) (cs : Array Value) (h : cs.toList = tcs l) : TR (w.alloc (.cells cs t)) (w.heap.size + 1) (some ⟨w.heap.size, 0, none⟩) l := by
  refine ⟨tcs_len l, fun _ => ⟨_, rfl, Nat.lt_succ_self _, fun j u hu => ?_⟩⟩
  have ha : (⟨w.heap.size, 0, none⟩ : Addr).add j = ⟨w.heap.size, j, none⟩ := by unfold Addr.add; split <;> simp_all
  rw [ha, (Blk.new w t _).cell]
  rw [← h] at hu
  simpa using hu

theorem code1_any {o b : List UInt8} {c : Nat} (hc : c = 0) (ho : o.length + b.length ≤ 16384) : code1 o b c = 0 := code1_ok hc (by omega)
theorem papp_nil (old : List UInt8) (size : Int) (l : List Tok) (o : List UInt8) (k : Nat) (h : k = l.length) : papp old size (l.drop k) o = (o, 0) := by
  subst h
  rw [List.drop_length, papp]
set_option maxRecDepth 100000 in
set_option maxHeartbeats 4000000 in
theorem refApply_any (B : Option Addr) (cB : Nat) (old : List UInt8) (size : Int) (l : List Tok) (w : World) (hs : old.length ≤ 1000000) (hT : TR w w.heap.size B l) (hf : Fits l) (hk40 : l.length ≤ 1000000) :
    Calls Try.prog 10 #[str old, .int .i64 size, .slice B l.length cB] w (OutR w (papp old size l [])) := by
  have hst := Lib.hid (fun i (h : i < l.length) w => refStep_any old size l[i] w hs (hf.2 _ (List.getElem_mem h)))
  have hpl := Lib.hid (fun t => pstep_len old size t)
  have hT' := Lib.hid hT
  obtain ⟨r, hr0⟩ : ∃ r, papp old size l [] = r := ⟨_, rfl⟩
  rw [hr0]
  have hr1 : papp old size (l.drop 0) [] = r := hr0
  replace hr1 := Lib.hid hr1
  clear hr0 hT hf
  go_enter Try.func10, Try.ntmps10
  go_wp2
  go_loopw [8, 9] (fun out i wr => ∃ k : Nat, k ≤ l.length ∧ i = .int .i64 (k : Int) ∧ (∃ o, out = str o ∧ o.length ≤ 16384 ∧ Hid (papp old size (l.drop k) o = r)) ∧ Gr w wr) (fun _ i _ => l.length - (intOf i).toNat)
  case atStart => exact ⟨0, by omega, rfl, ⟨[], rfl, by simp, hr1⟩, Gr.refl w⟩
  case round =>
    obtain ⟨k, hk, rfl, ⟨o, rfl, hol, hpo⟩, hg⟩ := hrel
    by_cases h : k < l.length
    · obtain ⟨ad, hA, hlt, c0, c1, c2⟩ := (hT'.out.below hg).at_ h
      subst hA
      have hca := Lib.hid (hst.out k h wr)
      have hb := hpl.out l[k]
      have hok := Lib.hid (fun hc => papp_ok (old := old) (size := size) (o := o) h hc)
      have hbad := Lib.hid (fun hc => papp_bad (old := old) (size := size) (o := o) h hc)
      have i1 : (0 : Int) ≤ (k : Int) := by omega
      have i2 : (k : Int) < (l.length : Int) := by omega
      have hg' := Lib.hid hg
      clear hst hpl hr1 hg
      generalize l[k] = t at *
      obtain ⟨⟨b, cc⟩, hp⟩ : ∃ p, pstep old size t = p := ⟨_, rfl⟩
      rw [hp] at hca hb hok hbad
      simp only at hb hok hbad
      obtain ⟨f, m, d⟩ := t
      simp only at c0 c1 c2
      clear hp
      go_wp2_with fail
      go_at_call 12
      refine (hca.out).mono ?_
      rintro e w1 ⟨rfl, hg1⟩
      have G1 := Lib.hid (Gr.trans hg'.out hg1)
      clear hca hg' hg1 c0 c1 c2
      by_cases hc : cc = 0
      · have hci : ((cc : Int) == 0) = true := by simp [hc]
        by_cases hl : 16384 < o.length + b.length
        · have hli : 16384 < (o.length : Int) + (b.length : Int) := by omega
          have hl5 := code1_long hc hl
          have hre : Hid (r = ([], 5)) := Lib.hid (by rw [← hpo.out, hbad.out (by rw [hl5]; decide), hl5])
          clear hok hbad hc hl5 hpo
          go_wp2
          go_ret2
          exact ⟨by rw [hre.out]; rfl, G1.out⟩
        · have hli : ¬ 16384 < (o.length : Int) + (b.length : Int) := by omega
          have hre := Lib.hid ((hok.out (code1_any hc (by omega))).symm.trans hpo.out)
          have hl2 : (o ++ b).length ≤ 16384 := by rw [List.length_append]; omega
          clear hok hbad hc hpo
          go_wp2
          go_roundw
          case rel => exact ⟨k + 1, by omega, by go_num, ⟨o ++ b, by simp, hl2, hre⟩, G1.out⟩
          case measure => simp [intOf]; omega
      · have hci : ((cc : Int) == 0) = false := by rw [beq_eq_false_iff_ne]; omega
        have he := code1_err (o := o) (b := b) hc
        have hre : Hid (r = ([], cc)) := Lib.hid (by rw [← hpo.out, hbad.out (by rw [he]; exact hc), he])
        clear hok hbad hc he hpo
        go_wp2
        go_ret2
        exact ⟨by rw [hre.out]; rfl, G1.out⟩
    · obtain rfl : k = l.length := by omega
      have hre : Hid (r = (o, 0)) := Lib.hid (by rw [← hpo.out, papp_nil _ _ _ _ _ rfl])
      clear hpo hr1 hst hpl
      go_wp2
      go_ret2
      exact ⟨by rw [hre.out]; rfl, hg⟩
def exO : List UInt8 := [97, 98, 99, 100, 101, 102, 103, 104]
def exT : List Tok := [⟨1, 1, []⟩, ⟨0, 0, [120]⟩]
theorem ex_app : papp exO 4 exT [] = ([101, 102, 103, 104, 120], 0) := by decide +kernel
theorem ex_fit : Fits exT := ⟨by decide, by unfold exT Fit; simp⟩
set_option maxHeartbeats 4000000 in
set_option maxRecDepth 100000 in
theorem awake_any (w : World) : Calls Try.prog 7 #[] w fun e w' => e = .returned (.bool true) ∧ Gr w w' := by
  have r0 := Lib.hid (RB.of_new w 5 exO (8, 9))
  have G0 := Lib.hid ((Gr.refl w).alloc (.cells (bvs exO).toArray 5 (8, 9)))
  have T1 := Lib.hid (TR.newN (w.alloc (.cells (bvs exO).toArray 5 (8, 9))) 35 exT #[.int .i64 1, .int .i64 1, .string ⟨#[]⟩, .int .i64 0, .int .i64 0, .string ⟨#[120]⟩] rfl)
  have hap := Lib.hid (fun A2 (h2 : A2 = some ⟨w.heap.size + 1, 0, none⟩) w2 (h : w2 = ((w.alloc (.cells (bvs exO).toArray 5 (8, 9))).alloc (.cells #[.int .i64 1, .int .i64 1, .string ⟨#[]⟩, .int .i64 0, .int .i64 0, .string ⟨#[120]⟩] 35))) =>
    apply_any (some ⟨w.heap.size, 0, none⟩) A2 8 2 exO 4 exT w2 (by decide) (by decide) (by subst h; exact (r0.out.alloc (by rw [World.size_alloc]; omega) _).more (by rw [World.size_alloc, World.size_alloc]; omega)) (by subst h; subst h2; have := T1.out; rw [World.size_alloc] at this; exact this.more (by rw [World.size_alloc, World.size_alloc]; omega)) ex_fit (by decide))
  have kc := fun (w : World) (C : Array Value) (n c : Nat) => Lib.run_convert_bytes_const (P := Try.prog) w 22 5 C n c Try.underlying22 Bl.byteType.1
  go_enter Try.func7, Try.ntmps7
  go_wp2_with fail
  go_at_call 9
  refine (hap.out _ rfl _ rfl).mono ?_
  rintro e w1 ⟨v, rfl, hv, g1⟩
  rw [ex_app] at hv ⊢
  obtain ⟨A1, c1, rfl, hc1, hm1, r1⟩ := hv
  have r1' := Lib.hid r1
  have G1 := Lib.hid (Gr.trans (G0.out.alloc _) g1)
  clear r0 G0 T1 hap r1 g1
  have hcv := run_bytes_string (P := Try.prog) w1 22 9 5 Try.underlying22 Bl.byteType.1 Try.underlying9 w1.heap.size A1 c1 5 [101, 102, 103, 104, 120] rfl r1'.out
  go_wp2
  go_ret
  exact ⟨rfl, G1.out⟩
end Pt
end Go.Proofs.Ytgnogoghfendpaa

