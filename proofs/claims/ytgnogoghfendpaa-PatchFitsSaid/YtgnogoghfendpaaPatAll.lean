/- The walks of patch.Apply and patch.Needs. No condition but sizes. -/
import Derived.Test.YtgnogoghfendpaaPatNeeds
set_option linter.unusedVariables false
set_option linter.unusedSimpArgs false
namespace Go.Proofs.Ytgnogoghfendpaa
open Go Go.RowKit W Bl Tk
namespace Pt
/-- The bytes that tokens stand for, behind the bytes o, or what is wrong first. -/
def papp (old : List UInt8) (size : Int) : List Tok → List UInt8 → List UInt8 × Nat
  | [], o => (o, 0)
  | t :: l, o => if code1 o (pstep old size t).1 (pstep old size t).2 = 0 then papp old size l (o ++ (pstep old size t).1) else ([], code1 o (pstep old size t).1 (pstep old size t).2)
theorem papp_ok {old : List UInt8} {size : Int} {l : List Tok} {o : List UInt8} {i : Nat} (h : i < l.length) (hc : code1 o (pstep old size l[i]).1 (pstep old size l[i]).2 = 0) :
    papp old size (l.drop i) o = papp old size (l.drop (i + 1)) (o ++ (pstep old size l[i]).1) := by
  rw [List.drop_eq_getElem_cons h, papp, if_pos hc]
theorem papp_bad {old : List UInt8} {size : Int} {l : List Tok} {o : List UInt8} {i : Nat} (h : i < l.length) (hc : ¬ code1 o (pstep old size l[i]).1 (pstep old size l[i]).2 = 0) :
    papp old size (l.drop i) o = ([], code1 o (pstep old size l[i]).1 (pstep old size l[i]).2) := by
  rw [List.drop_eq_getElem_cons h, papp, if_neg hc]
theorem code1_zero {o b : List UInt8} {c : Nat} (h : code1 o b c = 0) : o.length + b.length ≤ 16384 ∧ c = 0 := by
  unfold code1 at h
  split at h
  · cases h
  · omega
/-- As it is between two deeds. -/
def ARel (n : Nat) (A : Option Addr) (c : Nat) (old : List UInt8) (size : Int) (l : List Tok) (w : World) (i : Nat) (w' : World) : Prop :=
  ∃ (o : List UInt8) (A0 : Option Addr) (c0 : Nat), o.length ≤ 16384 ∧ papp old size (l.drop i) o = papp old size l [] ∧ Blk w' n 22 #[.slice A old.length c] ∧ Blk w' (n + 1) 3 #[.int .i64 size] ∧
    Blk w' (n + 1 + 1) 22 #[.slice A0 o.length c0] ∧ OB 5 w' (n + 1 + 1 + 1) (.slice A0 o.length c0) o ∧ Below n w w'
def AStop (n : Nat) (old : List UInt8) (size : Int) (l : List Tok) (w : World) (code : Nat) (w' : World) : Prop := papp old size l [] = ([], code) ∧ Below n w w'
theorem enters_apply1 (v : Value) (caps : Array Value) (w : World) : (callFunc 21 (#[v] ++ caps)).run Try.prog w = .ok (.enter 21 (#[v] ++ caps)) w :=
  Go.Proofs.enters_of Try.func21 (by kernel_rfl) rfl _ w
theorem enters_needs1 (v : Value) (caps : Array Value) (w : World) : (callFunc 26 (#[v] ++ caps)).run Try.prog w = .ok (.enter 26 (#[v] ++ caps)) w :=
  Go.Proofs.enters_of Try.func26 (by kernel_rfl) rfl _ w
theorem applyEach_any (A B : Option Addr) (c cB : Nat) (old : List UInt8) (size : Int) (l : List Tok) (w w3 : World) (hs : old.length ≤ 1000000) (hc : old.length ≤ c) (hr : RB w w.heap.size A old) (hT : TR w w.heap.size B l) (hf : Fits l) (hk40 : l.length ≤ 1000000)
    (h0 : ARel w.heap.size A c old size l w 0 w3) :
    Calls Try.prog 20 #[.slice B l.length cB, .func (.func 21) #[] #[.pointer (some ⟨w.heap.size, 0, none⟩), .pointer (some ⟨w.heap.size + 1, 0, none⟩), .pointer (some ⟨w.heap.size + 1 + 1, 0, none⟩)]] w3
      (Each (ARel w.heap.size A c old size l w) (AStop w.heap.size old size l w) l.length) := by
  refine each_any B cB l w3 _ _ _ _ hk40 (fun v w => enters_apply1 v _ w) h0 ?_ ?_ ?_
  · rintro i w' ⟨o, A0, c0, h1, h2, b0, b1, b2, ho, hb⟩
    exact (hT.below hb).more (by have := b0.lt; omega)
  · rintro i w' w'' ⟨o, A0, c0, h1, h2, b0, b1, b2, ho, hb⟩ hg
    exact ⟨o, A0, c0, h1, h2, blk_more b0 hg, blk_more b1 hg, blk_more b2 hg, ho.below hg, hb.trans (hg.mono (by have := b0.lt; omega))⟩
  · rintro i h w' ⟨o, A0, c0, h1, h2, b0, b1, b2, ho, hb⟩
    refine (apply1_any w.heap.size A c old size l[i] o A0 c0 w' hs hc (hr.below hb) (hf.2 _ (List.getElem_mem h)) h1 b0 b1 b2 ho).mono ?_
    rintro e w'' ⟨rfl, A1, c1, d2, do_, db⟩
    refine ⟨_, rfl, ?_⟩
    by_cases hz : code1 o (pstep old size l[i]).1 (pstep old size l[i]).2 = 0
    · refine .inl ⟨hz, _, A1, c1, ?_, ?_, b0.below db (by omega), b1.below db (by omega), d2, do_, hb.trans (db.mono (by omega))⟩
      · rw [List.length_append]; exact (code1_zero hz).1
      · rw [← papp_ok h hz, h2]
    · refine .inr ⟨hz, ?_, hb.trans (db.mono (by omega))⟩
      rw [← h2, papp_bad h hz]
set_option maxRecDepth 100000 in
set_option maxHeartbeats 4000000 in
theorem apply_any (A B : Option Addr) (c cB : Nat) (old : List UInt8) (size : Int) (l : List Tok) (w : World) (hs : old.length ≤ 1000000) (hc : old.length ≤ c) (hr : RB w w.heap.size A old) (hT : TR w w.heap.size B l) (hf : Fits l) (hk40 : l.length ≤ 1000000) :
    Calls Try.prog 9 #[.slice A old.length c, .int .i64 size, .slice B l.length cB] w (OutP w (papp old size l [])) := by
  have e3 := fun w3 h0 => applyEach_any A B c cB old size l w w3 hs hc hr hT hf hk40 h0
  have z0 := ((Blk.new w 22 #[.slice A old.length c]).alloc (.cells #[.int .i64 size] 3)).alloc (.cells #[.slice none 0 0] 22)
  have z1 := (Blk.new (w.alloc (.cells #[.slice A old.length c] 22)) 3 #[.int .i64 size]).alloc (.cells #[.slice none 0 0] 22)
  have z2 := Blk.new ((w.alloc (.cells #[.slice A old.length c] 22)).alloc (.cells #[.int .i64 size] 3)) 22 #[.slice none 0 0]
  have zb := ((Gr.refl w).alloc (.cells #[.slice A old.length c] 22)).alloc (.cells #[.int .i64 size] 3) |>.alloc (.cells #[.slice none 0 0] 22)
  simp only [World.size_alloc] at z1 z2
  have hE := Lib.hid (e3 _ ⟨[], none, 0, by simp, by simp, z0, z1, z2, OB.nil_, zb⟩)
  clear e3 z0 z1 z2 zb hr hT
  obtain ⟨r, hr0⟩ : ∃ r, papp old size l [] = r := ⟨_, rfl⟩
  rw [hr0]
  replace hr0 := Lib.hid hr0
  go_enter Try.func9, Try.ntmps9
  go_wp2_with fail
  go_at_call 20
  refine (hE.out).mono ?_
  rintro e w1 ⟨code, rfl, hc1⟩
  rcases hc1 with ⟨rfl, o, A0, c0, h1, h2, b0, b1, b2, ho, hb⟩ | ⟨hne, hst, hb⟩
  · have y0 := b2.cell 0
    rw [List.drop_length, papp] at h2
    obtain rfl : r = (o, 0) := hr0.out.symm.trans h2.symm
    have ho' := Lib.hid ho
    have hb' := Lib.hid hb
    clear b0 b1 b2 ho hb h2 hE
    go_wp2
    go_ret2
    exact ⟨_, rfl, isB_of_own ho'.out, hb'.out⟩
  · have hci : ((code : Int) == 0) = false := by rw [beq_eq_false_iff_ne]; omega
    obtain rfl : r = ([], code) := hr0.out.symm.trans hst
    have hb' := Lib.hid hb
    clear hb hst hne hE
    go_wp2
    go_ret2
    exact ⟨_, rfl, isB_nil _, hb'.out⟩
def NRel (n k : Nat) (size : Int) (l : List Tok) (w : World) (i : Nat) (w' : World) : Prop := (∀ j (h : j < l.length), j < i → short k size l[j] = false) ∧ Blk w' n 3 #[.int .i64 k] ∧ Blk w' (n + 1) 3 #[.int .i64 size] ∧ Below n w w'
def NStop (n k : Nat) (size : Int) (l : List Tok) (w : World) (code : Nat) (w' : World) : Prop := l.any (short k size) = true ∧ Below n w w'
theorem needsEach_any (B : Option Addr) (k cB : Nat) (size : Int) (l : List Tok) (w w3 : World) (hs : k ≤ 1000000) (hT : TR w w.heap.size B l) (hf : Fits l) (hk40 : l.length ≤ 1000000) (h0 : NRel w.heap.size k size l w 0 w3) :
    Calls Try.prog 20 #[.slice B l.length cB, .func (.func 26) #[] #[.pointer (some ⟨w.heap.size, 0, none⟩), .pointer (some ⟨w.heap.size + 1, 0, none⟩)]] w3
      (Each (NRel w.heap.size k size l w) (NStop w.heap.size k size l w) l.length) := by
  refine each_any B cB l w3 _ _ _ _ hk40 (fun v w => enters_needs1 v _ w) h0 ?_ ?_ ?_
  · rintro i w' ⟨h1, b0, b1, hb⟩
    exact (hT.below hb).more (by have := b0.lt; omega)
  · rintro i w' w'' ⟨h1, b0, b1, hb⟩ hg
    exact ⟨h1, blk_more b0 hg, blk_more b1 hg, hb.trans (hg.mono (by have := b0.lt; omega))⟩
  · rintro i h w' ⟨h1, b0, b1, hb⟩
    refine (needs1_any w.heap.size k size l[i] w' hs (hf.2 _ (List.getElem_mem h)) b0 b1).mono ?_
    rintro e w'' ⟨rfl, hg⟩
    refine ⟨_, rfl, ?_⟩
    have hb2 := hb.trans (hg.mono (by have := b0.lt; omega))
    cases hz : short k size l[i]
    · refine .inl ⟨by simp, ?_, blk_more b0 hg, blk_more b1 hg, hb2⟩
      intro j hj hji
      rcases Nat.lt_or_ge j i with h2 | h2
      · exact h1 j hj h2
      · obtain rfl : j = i := by omega
        exact hz
    · exact .inr ⟨by simp, List.any_eq_true.2 ⟨_, List.getElem_mem h, hz⟩, hb2⟩
set_option maxRecDepth 100000 in
set_option maxHeartbeats 4000000 in
theorem needs_any (B : Option Addr) (k cB : Nat) (size : Int) (l : List Tok) (w : World) (hs : k ≤ 1000000) (hT : TR w w.heap.size B l) (hf : Fits l) (hk40 : l.length ≤ 1000000) :
    Calls Try.prog 13 #[.int .i64 k, .int .i64 size, .slice B l.length cB] w fun e w' => e = .returned (.bool (!l.any (short k size))) ∧ Gr w w' := by
  have e3 := fun w3 h0 => needsEach_any B k cB size l w w3 hs hT hf hk40 h0
  have z0 := (Blk.new w 3 #[.int .i64 k]).alloc (.cells #[.int .i64 size] 3)
  have z1 := (Blk.new (w.alloc (.cells #[.int .i64 k] 3)) 3 #[.int .i64 size])
  have zb := ((Gr.refl w).alloc (.cells #[.int .i64 k] 3)).alloc (.cells #[.int .i64 size] 3)
  simp only [World.size_alloc] at z1
  have hE := Lib.hid (e3 _ ⟨by intro j hj h; omega, z0, z1, zb⟩)
  clear e3 z0 z1 zb hT
  obtain ⟨q, hq⟩ : ∃ q, (!l.any (short k size)) = q := ⟨_, rfl⟩
  rw [hq]
  go_enter Try.func13, Try.ntmps13
  go_wp2_with fail
  go_at_call 20
  refine (hE.out).mono ?_
  rintro e w1 ⟨code, rfl, hc1⟩
  rcases hc1 with ⟨rfl, h1, b0, b1, hb⟩ | ⟨hne, hst, hb⟩
  · obtain rfl : true = q := by
      rw [← hq]
      have : l.any (short k size) = false := by
        rw [List.any_eq_false]
        intro t ht
        obtain ⟨j, hj, rfl⟩ := List.getElem_of_mem ht
        rw [h1 j hj hj]
        simp
      rw [this]
      rfl
    have hb' := Lib.hid hb
    clear b0 b1 hb h1 hE hq
    go_wp2
    go_ret
    exact ⟨rfl, hb'.out⟩
  · obtain rfl : false = q := by
      rw [← hq, hst]
      rfl
    have hci : ((code : Int) == 0) = false := by rw [beq_eq_false_iff_ne]; omega
    have hb' := Lib.hid hb
    clear hb hst hne hE hq
    go_wp2
    go_ret
    exact ⟨by simp [hci], hb'.out⟩
end Pt
end Go.Proofs.Ytgnogoghfendpaa

