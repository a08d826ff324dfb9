/- The walks of tokens: two that become one. No condition but sizes. -/
import Derived.Test.YtgnogoghfendpaaTokRight
set_option linter.unusedVariables false
set_option linter.unusedSimpArgs false
namespace Go.Proofs.Ytgnogoghfendpaa
open Go Go.RowKit W
namespace Tk
def told (o : Option Tok) : Value := match o with
  | some c => .tuple #[tokV c, .bool true]
  | none => .tuple #[tokV ⟨0, 0, []⟩, .bool false]
theorem right_fit {t : Tok} (h : right t = true) : Fit t ∧ t.d.length ≤ 16384 := by
  obtain ⟨h1, h2, h3, h4, h5⟩ := right_spec h
  have hl : t.d.length ≤ 16384 := by
    rcases h5 with ⟨_, h⟩ | ⟨_, _, _, h⟩
    · rw [h]; simp
    · exact h
  exact ⟨⟨by omega, by omega, by omega, by omega, by omega⟩, hl⟩
set_option maxHeartbeats 4000000 in
theorem put_any (a b : Tok) (w : World) (ha : right a = true) (hb : right b = true) : Calls Try.prog 58 #[tokV a, tokV b] w fun e w' => e = .returned (told (two a b)) ∧ Gr w w' := by
  have sa := right_spec ha
  have sb := right_spec hb
  have la := (right_fit ha).2
  have lb := (right_fit hb).2
  clear ha hb
  obtain ⟨f, m, d⟩ := a
  obtain ⟨f', m', d'⟩ := b
  simp only at sa sb la lb
  obtain ⟨a1, a2, a3, a4, _⟩ := sa
  obtain ⟨b1, b2, b3, b4, _⟩ := sb
  obtain ⟨r, hr⟩ : ∃ r, r = two ⟨f, m, d⟩ ⟨f', m', d'⟩ := ⟨_, rfl⟩
  rw [← hr]
  unfold two at hr
  simp only [] at hr
  have k2 := (Blk.new ((w.alloc (.cells #[.int .i64 f, .int .i64 m, .string ⟨d.toArray⟩] 35)).alloc (.cells #[.int .i64 f', .int .i64 m', .string ⟨d'.toArray⟩] 35)) 35 #[.int .i64 0, .int .i64 0, .string ⟨#[]⟩])
  rw [World.size_alloc, World.size_alloc] at k2
  have g0 := Lib.hid ((((Gr.refl w).alloc (.cells #[.int .i64 f, .int .i64 m, .string ⟨d.toArray⟩] 35)).alloc (.cells #[.int .i64 f', .int .i64 m', .string ⟨d'.toArray⟩] 35)).alloc (.cells #[.int .i64 0, .int .i64 0, .string ⟨#[]⟩] 35))
  replace k2 := Lib.hid k2
  by_cases c1 : m = 0 ∧ m' = 0 ∧ d.length + d'.length ≤ 16384
  · rw [if_pos c1] at hr
    obtain ⟨rfl, rfl, c1⟩ := c1
    subst hr
    have t1 : (d.length : Int) ≤ 16384 - (d'.length : Int) := by omega
    go_enter Try.func58, Try.ntmps58
    go_wp2_with fail
    go_at_call 57
    refine (literal_any (d ++ d') _).mono ?_
    rintro e w1 ⟨rfl, hg1⟩
    have n2 := Lib.hid (blk_more k2.out hg1)
    have G1 := Lib.hid (Gr.trans g0.out hg1)
    clear k2 g0 hg1
    go_wp2_with (first
      | (refine wpList_store_blk rfl 35 _ _ rfl (w.heap.size + 1 + 1) #[.int .i64 0, .int .i64 0, .string ⟨(d ++ d').toArray⟩] rfl rfl 35 #[.int .i64 0, .int .i64 0, .string ⟨#[]⟩] n2.out (tokInfo _ _ _) rfl (by simp [Value.oneCell']) ?_; intro w2 n3 kn hs; have G2 := Lib.hid (Below.trans G1.out (Below.mono (Kb.below kn (Nat.le_of_lt n2.out.lt)) (by omega))); have x0 := n3.cell 0; have x1 := n3.cell 1; have x2 := n3.cell 2; clear hs kn n2 n3 G1))
    exact bodyPost_ret (v := .tuple #[tokV ⟨0, 0, d ++ d'⟩, .bool true]) (by simp [results, Try.results58, go_sem, x0, x1, x2]) rfl ⟨rfl, G2.out⟩
  · rw [if_neg c1] at hr
    have t1 : m = 0 → m' = 0 → ¬ (d.length : Int) ≤ 16384 - (d'.length : Int) := by omega
    clear c1
    by_cases c2 : 0 < m ∧ 0 < m' ∧ f + m = f'
    · rw [if_pos c2] at hr
      obtain ⟨q1, q2, q3⟩ := c2
      subst hr
      have q4 : (m == 0) = false := by simp; omega
      have q5 : (f + m == f') = true := by simpa using q3
      clear t1 q3
      go_enter Try.func58, Try.ntmps58
      go_wp2_with fail
      go_at_call 17
      refine (copy_any f (m + m') _).mono ?_
      rintro e w1 ⟨rfl, hg1⟩
      have n2 := Lib.hid (blk_more k2.out hg1)
      have G1 := Lib.hid (Gr.trans g0.out hg1)
      clear k2 g0 hg1
      go_wp2_with (first
        | (refine wpList_store_blk rfl 35 _ _ rfl (w.heap.size + 1 + 1) #[.int .i64 f, .int .i64 (m + m'), .string ⟨#[]⟩] rfl rfl 35 #[.int .i64 0, .int .i64 0, .string ⟨#[]⟩] n2.out (tokInfo _ _ _) rfl (by simp [Value.oneCell']) ?_; intro w2 n3 kn hs; have G2 := Lib.hid (Below.trans G1.out (Below.mono (Kb.below kn (Nat.le_of_lt n2.out.lt)) (by omega))); have x0 := n3.cell 0; have x1 := n3.cell 1; have x2 := n3.cell 2; clear hs kn n2 n3 G1))
      exact bodyPost_ret (v := .tuple #[tokV ⟨f, m + m', []⟩, .bool true]) (by simp [results, Try.results58, go_sem, x0, x1, x2]) rfl ⟨rfl, G2.out⟩
    · rw [if_neg c2] at hr
      subst hr
      have hh : (m = 0 ∧ m' = 0 ∧ ¬ (d.length : Int) ≤ 16384 - (d'.length : Int)) ∨ (m = 0 ∧ ¬ m' = 0) ∨ (0 < m ∧ m' = 0) ∨ (0 < m ∧ 0 < m' ∧ ¬ f + m = f') := by omega
      clear t1 c2
      have go : Calls Try.prog 58 #[tokV ⟨f, m, d⟩, tokV ⟨f', m', d'⟩] w fun e w' => e = .returned (told none) ∧ Gr w w' := by
        have e2 : Blk (((w.alloc (.cells #[.int .i64 f, .int .i64 m, .string ⟨d.toArray⟩] 35)).alloc (.cells #[.int .i64 f', .int .i64 m', .string ⟨d'.toArray⟩] 35)).alloc (.cells #[.int .i64 0, .int .i64 0, .string ⟨#[]⟩] 35)) (w.heap.size + 1 + 1) 35 #[.int .i64 0, .int .i64 0, .string ⟨#[]⟩] := k2.out
        have x0 := e2.cell 0
        have x1 := e2.cell 1
        have x2 := e2.cell 2
        clear e2
        rcases hh with ⟨rfl, rfl, h⟩ | ⟨rfl, h⟩ | ⟨h, rfl⟩ | ⟨h, h', h''⟩
        · go_enter Try.func58, Try.ntmps58
          go_wp2
          exact bodyPost_ret (v := told none) (by simp [results, Try.results58, go_sem, told, x0, x1, x2]) rfl ⟨rfl, g0.out⟩
        · have h1 : (m' == 0) = false := by simpa using h
          clear h
          go_enter Try.func58, Try.ntmps58
          go_wp2
          exact bodyPost_ret (v := told none) (by simp [results, Try.results58, go_sem, told, x0, x1, x2]) rfl ⟨rfl, g0.out⟩
        · have h1 : (m == 0) = false := by simp; omega
          go_enter Try.func58, Try.ntmps58
          go_wp2
          exact bodyPost_ret (v := told none) (by simp [results, Try.results58, go_sem, told, x0, x1, x2]) rfl ⟨rfl, g0.out⟩
        · have h1 : (m == 0) = false := by simp; omega
          have h2 : (f + m == f') = false := by simpa using h''
          clear h''
          go_enter Try.func58, Try.ntmps58
          go_wp2
          exact bodyPost_ret (v := told none) (by simp [results, Try.results58, go_sem, told, x0, x1, x2]) rfl ⟨rfl, g0.out⟩
      exact go
end Tk
end Go.Proofs.Ytgnogoghfendpaa

